/- matrix.Mul. -/
import Derived.Test.YtgdcmebhopjfaaaTrM14
import Derived.Test.YtgdcmebhopjfaaaTrM28
import Derived.Deep.RegionLaw
namespace Go.Proofs.Ytgdcmebhopjfaaa
open Go.RowKit

theorem clip_rows (ao : Option Addr) (n cap : Nat) (w : World) (h63 : cap ≤ 9223372036854775807) (hc : n ≤ cap) :
    Calls Try.prog 104 #[.slice ao n cap] w fun e w' => e = .returned (.slice ao n n) ∧ w' = w := by
  go_enter Try.func104, Try.ntmps104
  go_wp2_with fail
  go_ret
  exact ⟨rfl, rfl⟩
/-- What stands in a row of the product when k columns are done, and of the next one j places. -/
def mulF (A B : Mt) (i k j : Nat) (c : Nat) : GF := sumG (fun t => A i t * B t c) k + if c < j then A i k * B k c else 0
theorem mulF_zero (A B : Mt) (i k c : Nat) : mulF A B i k 0 c = sumG (fun t => A i t * B t c) k := by unfold mulF; rw [if_neg (by omega), g_add_zero]
theorem mulF_full (A B : Mt) (i k n c : Nat) (h : c < n) : mulF A B i k n c = mulF A B i (k + 1) 0 c := by rw [mulF_zero]; unfold mulF; rw [if_pos h]; rfl
theorem mulF_step (A B : Mt) (i k j c : Nat) : mulF A B i k (j + 1) c = if c = j then mulF A B i k j j + A i k * B k j else mulF A B i k j c := by
  unfold mulF
  by_cases h : c = j
  · subst h
    rw [if_pos rfl, if_pos (by omega), if_neg (by omega), g_add_zero]
  · rw [if_neg h]
    by_cases h2 : c < j
    · rw [if_pos h2, if_pos (by omega)]
    · rw [if_neg h2, if_neg (by omega)]
set_option maxRecDepth 100000 in
set_option maxHeartbeats 8000000 in
theorem matrix_Mul (S T : List Hd) (n m c : Nat) (ao bo : Option Addr) (ca cb : Nat) (w : World) (hS : TabIn w ao n S) (hT : TabIn w bo m T) (eS : tabE (zof S) = 0) (eT : tabE (zof T) = 0) (oS : TabOk (zof S) n m) (oT : TabOk (zof T) m c) :
    Calls Try.prog 34 #[.slice ao n ca, .slice bo m cb] w (TabPost n (ofM n c (mulG (matM (zof S)) (matM (zof T)) m)) w) := by
  have CS := Lib.hid (fun X (hX : Below w.heap.size w X) => matrix_Check S n ao ca X (hS.below hX))
  have CT := Lib.hid (fun X (hX : Below w.heap.size w X) => matrix_Check T m bo cb X (hT.below hX))
  rw [eS] at CS
  rw [eT] at CT
  obtain ⟨A, hA⟩ : ∃ A, matM (zof S) = A := ⟨_, rfl⟩
  obtain ⟨B, hB⟩ : ∃ B, matM (zof T) = B := ⟨_, rfl⟩
  have FS := hS.fix oS
  have FT := hT.fix oT
  rw [hA] at FS
  rw [hB] at FT
  have r1 := oS.r1
  have r2 := oS.r12
  have r3 := oT.r1
  have r4 := oT.r12
  have r5 := oT.c1
  have r6 := oT.c24
  rw [hA, hB]
  obtain ⟨b0, o0, rfl, FS⟩ := FS
  obtain ⟨b2, o2, rfl, FT⟩ := FT
  have HS := Lib.hid FS
  have HT := Lib.hid FT
  obtain ⟨b1, o1, c1, k0, k1, FX⟩ := FS 0 (by omega)
  obtain ⟨b3, o3, c3, k2, k3, FY⟩ := FT 0 (by omega)
  have HX0 : Hid (∀ X, Below w.heap.size w X → X.cell? ⟨b0, o0, none⟩ = some (.slice (some ⟨b1, o1, none⟩) m c1)) := fun X hX => (FX X hX).1
  have HY0 : Hid (∀ X, Below w.heap.size w X → X.cell? ⟨b2, o2, none⟩ = some (.slice (some ⟨b3, o3, none⟩) c c3)) := fun X hX => (FY X hX).1
  have z1 : (0 : Int) < (n : Int) := by omega
  have z2 : (0 : Int) < (m : Int) := by omega
  clear hS hT eS eT oS oT hA hB FS FT FX FY
  go_enter Try.func34, Try.ntmps34
  go_wp2_with (first
    | (go_at_call 38; (with_reducible refine (CS.out _ (Below.refl _ _)).mono ?_); rintro e w1 ⟨rfl, q1⟩)
    | (go_at_call 38; (with_reducible refine (CT.out _ q1).mono ?_); rintro e w2 ⟨rfl, q2⟩; have q12 := q1.trans (q2.mono q1.size); have x1 := HX0.out w2 q12)
    | fail)
  have HQ : Hid (Below w.heap.size w w2) := q12
  clear q1 q2 q12 x1 CS CT
  go_loopw [8, 35] (fun vo vi wr => ∃ (i : Nat) (T : List Hd), vi = .int .i64 i ∧ i ≤ n ∧ Hid (TabB wr w2.heap.size 59 vo i T) ∧ Hid (zof T = ofM i c (mulG A B m)) ∧ Hid (Below w2.heap.size w2 wr)) (fun _ vi _ => n - (intOf vi).toNat)
  case atStart => exact ⟨0, [], rfl, by omega, tabB_nil _ _ _, rfl, Below.refl _ _⟩
  case round =>
    obtain ⟨i, T, rfl, hi, hT, hZ, hb⟩ := hrel
    obtain ⟨wo, rfl⟩ : ∃ wo, wo = wr := ⟨_, rfl⟩
    have HBO : Hid (Below w.heap.size w wo) := HQ.out.trans (hb.out.mono HQ.out.size)
    by_cases hin : i < n
    · obtain ⟨b', o', c', hc2, hc3, hF⟩ := HS.out i hin
      have hc1 := (hF wo HBO.out).1
      have x1 := HY0.out wo HBO.out
      have HRD := Lib.hid hF
      have i0 : (0 : Int) ≤ (i : Int) := by omega
      have i1 : (i : Int) < (n : Int) := by omega
      clear hF
      go_wp2_with (first
        | (at_make; refine make_own rfl _ _ 59 rfl wo.heap.size 5 _ 1 Try.underlying59 u8Info rfl _ _ _ _ c (by rfl) (by rfl) rfl rfl (by omega) (by unfold maxLen; omega) (Nat.le_refl _) ?_; intro w3 hown hg3)
        | fail)
      have HO3 : Hid (Own w3 wo.heap.size 5 wo.heap.size c c (fun j => gv (mulF A B i 0 0 j))) := Lib.hid (hown.congr fun j _ => by rw [mulF_zero]; rfl)
      have HB3 : Hid (Below wo.heap.size wo w3) := below_of_grown hg3 (Nat.le_refl _) (by intro k hk; cases hk)
      clear hown hg3 x1 hc1
      go_wp2_with fail
      go_loopw [46] (fun vk wr => ∃ (k : Nat), vk = .int .i64 k ∧ k ≤ m ∧ Hid (Own wr wo.heap.size 5 wo.heap.size c c (fun j => gv (mulF A B i k 0 j))) ∧ Hid (Below wo.heap.size wo wr)) (fun vk _ => m - (intOf vk).toNat)
      case atStart => exact ⟨0, rfl, by omega, HO3, HB3⟩
      case round =>
        clear HO3 HB3
        obtain ⟨k, rfl, hk, hO, hb3⟩ := hrel
        by_cases hkm : k < m
        · have HBk : Hid (Below w.heap.size w wr) := HBO.out.trans (hb3.out.mono HBO.out.size)
          obtain ⟨f1, f2, f3, hd2, hd3, hG⟩ := HT.out k hkm
          have HRD2 := Lib.hid hG
          have hd1 := (hG wr HBk.out).1
          have hx := (HRD.out wr HBk.out).2 k hkm
          have k1' : (k : Int) < (m : Int) := by omega
          have k0' : (0 : Int) ≤ (k : Int) := by omega
          obtain ⟨x, hxv⟩ : ∃ x, (A i k).val = x := ⟨_, rfl⟩
          have hx256 : x < 256 := by rw [← hxv]; exact GF.lt _
          rw [hxv] at hx
          have HXV := Lib.hid hxv
          obtain ⟨wk, rfl⟩ : ∃ wk, wk = wr := ⟨_, rfl⟩
          clear hG hxv
          go_wp2_with fail
          go_loopw [56] (fun vj wr => ∃ (j : Nat), vj = .int .i64 j ∧ j ≤ c ∧ Hid (Own wr wo.heap.size 5 wo.heap.size c c (fun t => gv (mulF A B i k j t))) ∧ Hid (Below wo.heap.size wo wr)) (fun vj _ => c - (intOf vj).toNat)
          case atStart => exact ⟨0, rfl, by omega, hO, hb3⟩
          case round =>
            clear hd1 hx
            obtain ⟨j, rfl, hj, hOj, hbj⟩ := hrel
            by_cases hjc : j < c
            · have HBj : Hid (Below w.heap.size w wr) := HBO.out.trans (hbj.out.mono HBO.out.size)
              have hy := (HRD2.out wr HBj.out).2 j hjc
              have h0 := hOj.out.cell hjc
              have f0 := hOj.out.frozen j
              unfold gv at h0
              obtain ⟨p, hp⟩ : ∃ p, (mulF A B i k j j).val = p := ⟨_, rfl⟩
              obtain ⟨q, hq⟩ : ∃ q, (B k j).val = q := ⟨_, rfl⟩
              have p1 : p < 256 := by rw [← hp]; exact GF.lt _
              have q1 : q < 256 := by rw [← hq]; exact GF.lt _
              obtain ⟨r, hr⟩ : ∃ r, gmul x q = r := ⟨_, rfl⟩
              have r1' : r < 256 := by rw [← hr]; exact gmul_lt hx256
              obtain ⟨s, hs⟩ : ∃ s : Nat, p ^^^ r = s := ⟨_, rfl⟩
              have e1 : bits .xor .u8 (p : Int) (r : Int) = (s : Int) := by rw [u8_xor_nat p r p1 r1', hs]
              have CM := Lib.hid (fun W => field_Mul x q W hx256 q1)
              rw [hr] at CM
              rw [hp] at h0
              rw [hq] at hy
              have hval : Hid ((mulF A B i k j j + A i k * B k j).val = s) := Lib.hid (by rw [GF.add_val, GF.mul_val, hp, HXV.out, hq, hr, hs])
              have st := hOj.out.store j (.int .u8 (s : Int))
              have hO4 : Hid (Own (wr.setCell ⟨wo.heap.size, j, none⟩ (.int .u8 (s : Int))) wo.heap.size 5 wo.heap.size c c (fun t => gv (mulF A B i k (j + 1) t))) := Lib.hid (st.1.congr fun t _ => by
                rw [mulF_step]
                by_cases h : t = j
                · rw [if_pos h, if_pos h]; unfold gv; rw [hval.out]
                · rw [if_neg h, if_neg h])
              have hb4 := Lib.hid (hOj.out.belowStore hbj.out (Nat.le_refl _) j (.int .u8 (s : Int)))
              have j0 : (0 : Int) ≤ (j : Int) := by omega
              have j1 : (j : Int) < (c : Int) := by omega
              clear st hp hq hr hs
              go_wp2_with fail
              go_region_law (first | (go_simp; go_at_call 99; refine (CM.out _).mono ?_; rintro e w' ⟨rfl, rfl⟩))
              all_goals
                go_wp2_with fail
                go_roundw
                case rel => exact ⟨j + 1, by go_num, by omega, by exact hO4.out, ⟨hb4.out.os, hb4.out.tape, hb4.out.output, hb4.out.size, hb4.out.block⟩⟩
                case measure => simp [intOf]; omega
            · obtain rfl : c = j := by omega
              have hO5 : Hid (Own wr wo.heap.size 5 wo.heap.size c c (fun t => gv (mulF A B i (k + 1) 0 t))) := Lib.hid (hOj.out.congr fun t ht => by rw [mulF_full _ _ _ _ _ _ ht])
              go_wp2_with fail
              go_roundw
              case rel => exact ⟨k + 1, by go_num, by omega, hO5, hbj⟩
              case measure => simp [intOf]; omega
        · obtain rfl : m = k := by omega
          have hrow : wr.ownsRow wo.heap.size 5 1 (.slice (some ⟨wo.heap.size, 0, none⟩) c c) c (u8s ((List.range c).map fun j => (mulG A B m i j).val)) := by
            rw [u8s_gv]
            exact hO.out.congr fun t _ => by rw [mulF_zero]; rfl
          obtain ⟨g7, c7, hv7, hr7, hl7, hg7, _⟩ := row_made hrow (fun z hz => by obtain ⟨y, _, rfl⟩ := List.mem_map.1 hz; exact GF.lt _) (by omega)
          cases hv7
          have hT7 := Lib.hid (hT.out.below hb3.out)
          have hB7 := Lib.hid (hb.out.trans (hb3.out.mono hb.out.size))
          have hap := hT.out.apart hg7 (cap := c) (Z := (List.range c).map fun j => (mulG A B m i j).val)
          go_wp2_with (first
            | (at_builtin; go_must (refine app_one2 rfl (.tmp 72) (.tmp 74) 51 rfl w2.heap.size 59 _ 1 24 Try.underlying51 rowsInfo _ i (T.map Hd.v) (by rfl) hT7.out.top [.slice (some ⟨wo.heap.size, 0, none⟩) c c] (by rfl) rfl (by intro u hu; simp at hu; subst hu; rfl) (by unfold maxLen; omega) (by omega) hB7.out.size ?_); intro v8 w8 hown8 hgr8 hb8 hvb8; have X := TabB.push (x := ⟨some ⟨wo.heap.size, 0, none⟩, c, (List.range c).map fun j => (mulG A B m i j).val⟩) hT7.out hr7 (by simp only; omega) hap hgr8 (by unfold Hd.v at hown8 ⊢; simp only; rw [hl7]; exact hown8) hvb8; have hT8 := Lib.hid X; have hB8 := Lib.hid (hB7.out.trans hb8); clear X)
            | fail)
          have hZ8 : Hid (zof (T ++ [(⟨some ⟨wo.heap.size, 0, none⟩, c, (List.range c).map fun j => (mulG A B m i j).val⟩ : Hd)]) = ofM (i + 1) c (mulG A B m)) := Lib.hid (by
            rw [show zof (T ++ [(⟨some ⟨wo.heap.size, 0, none⟩, c, (List.range c).map fun j => (mulG A B m i j).val⟩ : Hd)]) = zof T ++ [(List.range c).map fun j => (mulG A B m i j).val] by simp [zof], hZ.out]
            unfold ofM
            rw [List.range_succ, List.map_append]
            rfl)
          clear hown8 hgr8 hb8 hvb8 hr7 hl7 hap hrow
          go_roundw
          case rel => exact ⟨i + 1, _, by go_num, by omega, hT8, hZ8, hB8⟩
          case measure => simp [intOf]; omega
    · obtain rfl : n = i := by omega
      obtain ⟨aT, cT, rfl, tT, _, t1, t2⟩ := hT.out.tab
      have CC := Lib.hid (fun W => clip_rows aT n cT W t2 t1)
      go_wp2_with (first | (go_at_call 104; refine (CC.out _).mono ?_; rintro e w9 ⟨rfl, rfl⟩) | fail)
      go_ret2
      exact ⟨_, _, _, rfl, tT, hZ.out, HQ.out.trans (hb.out.mono HQ.out.size)⟩
end Go.Proofs.Ytgdcmebhopjfaaa
