/- matrix.Solve. -/
import Derived.Test.YtgdcmebhopjfaaaMatrix6
namespace Go.Proofs.Ytgdcmebhopjfaaa
open Go.RowKit

set_option maxRecDepth 20000 in
theorem matrix_Solve_bad (T : List Hd) (b : Hd) (n : Nat) (E : Int) (ao : Option Addr) (ca : Nat) (w : World) (hT : TabIn w ao n T) (hb : RowOk w b) (hE : (tabE (zof T) = E ∧ E ≠ 0) ∨ (tabE (zof T) = 0 ∧ b.Z.length ≠ n ∧ E = 3)) :
    Calls Try.prog 44 #[.slice ao n ca, b.v] w (TabBad E w) := by
  have CK := Lib.hid (matrix_Check T n ao ca w hT)
  obtain ⟨l, hl⟩ : ∃ l, b.Z.length = l := ⟨_, rfl⟩
  unfold Hd.v
  rw [hl] at hE ⊢
  rcases hE with ⟨h1, h2⟩ | ⟨h1, h2, rfl⟩
  · have hne : (E != 0) = true := bne_iff_ne.2 h2
    rw [h1] at CK
    clear h1 h2 hT hb hl
    go_enter Try.func44, Try.ntmps44
    go_wp2_with (first | (go_at_call 38; (with_reducible refine CK.out.mono ?_); rintro e w1 ⟨rfl, b1⟩) | fail)
    go_ret2
    exact ⟨rfl, b1⟩
  · rw [h1] at CK
    have z1 : ((l : Int) != (n : Int)) = true := by simp; omega
    clear h1 h2 hT hb hl
    go_enter Try.func44, Try.ntmps44
    go_wp2_with (first | (go_at_call 38; (with_reducible refine CK.out.mono ?_); rintro e w1 ⟨rfl, b1⟩) | fail)
    go_ret2
    exact ⟨rfl, b1⟩
/-- A table with one column more. -/
def wideG (A : Mt) (b : Nat → GF) (C : Nat) : Mt := besG A (fun i _ => b i) C
/-- The answer when i rows were looked at. -/
def ansP (M : Mt) (r : Nat) (p : Nat → Nat) (C i : Nat) : Nat → GF := fun j => sumG (fun t => if p t = j then M t C else 0) (min i r)
theorem ansP_ge (M : Mt) (r : Nat) (p : Nat → Nat) (C : Nat) {i : Nat} (h : r ≤ i) : ansP M r p C i = ansG M r p C := by
  funext j
  unfold ansP ansG
  rw [Nat.min_eq_right h]
theorem ansP_step {M : Mt} {r : Nat} {p : Nat → Nat} {C i : Nat} (hi : i < r) (hp : ∀ s t, s < t → t < r → p s < p t) (j : Nat) : ansP M r p C (i + 1) j = if j = p i then M i C else ansP M r p C i j := by
  unfold ansP
  rw [Nat.min_eq_left (show i + 1 ≤ r from hi), Nat.min_eq_left (Nat.le_of_lt hi)]
  show sumG _ i + (if p i = j then M i C else 0) = _
  by_cases h : j = p i
  · rw [if_pos h, if_pos h.symm, sumG_zero fun t ht => by rw [if_neg]; have := hp t i ht hi; omega]
    exact g_zero_add _
  · rw [if_neg h, if_neg fun e => h e.symm, g_add_zero]
def SolvePost (A : Mt) (b : Nat → GF) (n C : Nat) (w : World) (e : Ending) (w' : World) : Prop :=
  (Dep n (wideG A b C) C → ∃ (g cp : Nat) (x : Nat → GF), e = .returned (.tuple #[.slice (some ⟨g, 0, none⟩) C cp, .int .i64 0]) ∧ RowOk w' ⟨some ⟨g, 0, none⟩, cp, (List.range C).map fun j => (x j).val⟩ ∧ ∀ i, i < n → sumG (fun j => A i j * x j) C = b i) ∧
  (¬ Dep n (wideG A b C) C → e = .returned (.tuple #[.slice none 0 0, .int .i64 4])) ∧ Below w.heap.size w w'
set_option maxRecDepth 100000 in
set_option maxHeartbeats 16000000 in
theorem matrix_Solve (T : List Hd) (b : Hd) (bb : Nat → GF) (n C : Nat) (ao : Option Addr) (ca : Nat) (w : World) (hT : TabIn w ao n T) (hE : tabE (zof T) = 0) (oT : TabOk (zof T) n C) (hC : C ≤ 12) (hb : RowOk w b) (hbZ : b.Z = (List.range n).map fun i => (bb i).val) :
    Calls Try.prog 44 #[.slice ao n ca, b.v] w (SolvePost (matM (zof T)) bb n C w) := by
  have CK := Lib.hid (matrix_Check T n ao ca w hT)
  rw [hE] at CK
  obtain ⟨A, hA⟩ : ∃ A, matM (zof T) = A := ⟨_, rfl⟩
  have FT := hT.fix oT
  rw [hA] at FT ⊢
  have r1 := oT.r1
  have r2 := oT.r12
  have r3 := oT.c1
  obtain ⟨b0, o0, rfl, FT⟩ := FT
  have HT := Lib.hid FT
  obtain ⟨b1, o1, c1, k1, k2, hF⟩ := FT 0 r1
  have HF0 := Lib.hid (fun X hX => (hF X hX).1)
  simp only [Nat.add_zero] at HF0
  obtain ⟨Ab, cb, Z⟩ := b
  simp only at hbZ
  subst hbZ
  have hl : ((List.range n).map fun i => (bb i).val).length = n := by simp
  have m1 := hb.cap
  have m2 := hb.max
  have m3 := hb.reads
  simp only at m1 m2 m3
  rw [hl] at m1
  rw [u8s_gv] at m3
  obtain ⟨p1, p2, hAb, _⟩ := m3 0 _ (rowF_get _ r1)
  subst hAb
  have HBR : Hid (∀ X, Below w.heap.size w X → Reads X (some ⟨p1, p2, none⟩) (rowF n fun i => gv (bb i))) := fun X hX => m3.below hX
  unfold Hd.v
  simp only
  rw [hl]
  have z1 : (0 : Int) < (n : Int) := by omega
  have z2 : ((n : Int) != (n : Int)) = false := by simp
  clear hT oT hA FT hE hF hb hl m3
  go_enter Try.func44, Try.ntmps44
  go_wp2_with (first | (go_at_call 38; (with_reducible refine CK.out.mono ?_); rintro e w1 ⟨rfl, b1⟩; have x1 := HF0.out w1 b1) | fail)
  have HB1 := Lib.hid b1
  clear b1 CK x1
  go_loopw [8, 33] (fun vo vi wr => ∃ (i : Nat) (gs cs : Nat → Nat), vi = .int .i64 i ∧ i ≤ n ∧ Hid (MatB wr w1.heap.size 59 5 vo i (C + 1) gs cs (wideG A bb C)) ∧ Hid (Below w1.heap.size w1 wr)) (fun _ vi _ => n - (intOf vi).toNat)
  case atStart => exact ⟨0, fun _ => 0, fun _ => 0, rfl, by omega, matB_nil _ _ _ _ _ _ _ _, Below.refl _ _⟩
  case round =>
    obtain ⟨i, gs, cs, rfl, hi, hM, hb⟩ := hrel
    obtain ⟨wo, rfl⟩ : ∃ wo, wo = wr := ⟨_, rfl⟩
    have HBO : Hid (Below w.heap.size w wo) := HB1.out.trans (hb.out.mono HB1.out.size)
    by_cases hin : i < n
    · obtain ⟨b', o', c', hc2, hc3, hF⟩ := HT.out i hin
      have hc1 := (hF wo HBO.out).1
      have HF := Lib.hid hF
      have i0 : (0 : Int) ≤ (i : Int) := by omega
      have i1 : (i : Int) < (n : Int) := by omega
      have i2 : (i : Int) + 1 ≤ (cb : Int) := by omega
      have i3 : i + 1 ≤ cb := by omega
      have i4 : i ≤ cb := by omega
      have i5 : ¬ cb = i := by omega
      have i6 : (i : Int) ≤ (i : Int) + 1 := by omega
      have wi : IntKind.i64.wrap ((i : Int) + 1) = (i : Int) + 1 := IntWalk.i64_in _ (by omega)
      have n5 : i + 1 - i = 1 := by omega
      have n6 : i ≤ i + 1 := by omega
      clear hF
      obtain ⟨Z, hZ⟩ : ∃ Z, wo.alloc (.cells #[.slice (some ⟨b', o', none⟩) C c', .slice (some ⟨p1, p2 + i, none⟩) 1 (cb - i)] 59) = Z := ⟨_, rfl⟩
      have hBZ : Below wo.heap.size wo Z := by rw [← hZ]; exact (Below.refl _ wo).alloc (Nat.le_refl _) _
      have hR := reads_new wo #[Value.slice (some ⟨b', o', none⟩) C c', .slice (some ⟨p1, p2 + i, none⟩) 1 (cb - i)] 59
      rw [hZ] at hR
      have k0 : Z.cell? ⟨wo.heap.size, 0, none⟩ = some (.slice (some ⟨b', o', none⟩) C c') := reads_cell0 hR (i := 0) rfl
      have k1' : Z.cell? ⟨wo.heap.size, 1, none⟩ = some (.slice (some ⟨p1, p2 + i, none⟩) 1 (cb - i)) := reads_cell0 hR (i := 1) rfl
      have hBZ0 : Below w.heap.size w Z := HBO.out.trans (hBZ.mono HBO.out.size)
      have hra : Reads Z (some ⟨b', o', none⟩) (rowF C fun j => gv (A i j)) := fun j u hu => by
        have hj : j < C := by have := (List.getElem?_eq_some_iff.1 hu).1; rw [rowF_length] at this; exact this
        rw [rowF_get _ hj] at hu
        cases hu
        exact ⟨b', o', rfl, (HF.out Z hBZ0).2 j hj⟩
      have hrb : Reads Z (some ⟨p1, p2 + i, none⟩) (rowF 1 fun j => gv ((fun i _ => bb i : Mt) i j)) := fun j u hu => by
        have hj : j < 1 := by have := (List.getElem?_eq_some_iff.1 hu).1; rw [rowF_length] at this; exact this
        obtain rfl : j = 0 := by omega
        rw [rowF_get _ hj] at hu
        cases hu
        obtain ⟨q1, q2, e1, e2⟩ := HBR.out Z hBZ0 i _ (rowF_get (fun i => gv (bb i)) hin)
        cases e1
        exact ⟨p1, p2 + i, rfl, by rw [Nat.add_zero]; exact e2⟩
      have CC := Lib.hid (concat_rows A (fun i _ => bb i) i C 1 ⟨b', o', none⟩ ⟨p1, p2 + i, none⟩ c' (cb - i) wo.heap.size Z r3 (by omega) k0 k1' hra hrb)
      have hM4 := hM.out.below hBZ
      have hb4 := hb.out.trans (hBZ.mono hb.out.size)
      clear hR k0 k1' hra hrb
      go_wp2_with fail
      clear hZ
      go_at_call 113
      refine CC.out.mono ?_
      rintro e w5 ⟨g, cp, rfl, hown5, hb5⟩
      have hM5 := Lib.hid (hM4.below hb5)
      have hb6 := Lib.hid (hb4.trans (hb5.mono hb4.size))
      have hgn : ∀ j, j < i → gs j ≠ g := (fun j hj e => by have := (hM4.row j hj).lt.2; have := hown5.lt.1; omega)
      have hgv := hown5.lt.1
      have hown6 := own_mono hown5 hb4.size
      go_wp2_with (first
        | (at_builtin; go_must (refine app_one2 rfl (.tmp 38) (.tmp 47) 51 rfl w1.heap.size 59 _ 1 24 Try.underlying51 rowsInfo _ i (rowF i (hdv (C + 1) gs cs)) (by rfl) hM5.out.top [.slice (some ⟨g, 0, none⟩) (C + 1) cp] (by rfl) rfl (by intro u hu; simp at hu; subst hu; rfl) (by unfold maxLen; omega) (by omega) hb6.out.size ?_); intro v8 w8 hown8 hgr8 hb8 hvb8; have X := MatB.push (f := wideG A bb C i) hM5.out hown6 (fun e => by have := (World.ownsRow.lt hM4.top g e).2; omega) hgn hgr8 hown8 hvb8; have hM8 := Lib.hid X; have hB8 := Lib.hid (hb6.out.trans hb8); clear X)
        | fail)
      have hM9 := Lib.hid (hM8.out.congr (M' := wideG A bb C) (fun _ _ => rfl) (fun _ _ => rfl) (fun a ha j hj => by by_cases h : a = i; (rw [if_pos h, h]); (rw [if_neg h])))
      clear hown8 hgr8 hb8 hvb8 hown5 hown6 hgn hgv hM4 hb4 hb5 hBZ hBZ0
      go_roundw
      case rel => exact ⟨i + 1, _, _, by go_num, by omega, hM9, hB8⟩
      case measure => simp [intOf]; omega
    · obtain rfl : n = i := by omega
      obtain ⟨G, K, rfl, hMat⟩ := hM.out.mat r1
      have hBES := ofM_ok (R := n) (C := C + 1) (wideG A bb C) r1 r2 (by omega) (by omega)
      have hzof : zof (hds n (C + 1) gs cs (wideG A bb C)) = ofM n (C + 1) (wideG A bb C) := by unfold zof hds ofM; rw [List.map_map]; rfl
      have CR := Lib.hid (matrix_reduced (hds n (C + 1) gs cs (wideG A bb C)) n (C + 1) C (some ⟨G, 0, none⟩) K wo hMat.tab (by rw [hzof]; exact hBES) (by omega))
      rw [hzof] at CR
      clear hM hMat hBES hzof
      go_wp2_with (first
        | (go_at_call 105; (with_reducible refine CR.out.mono ?_); rintro e w2 ⟨G2, K2, g2, c2, M, vp, r, p, det, rfl, hW, hR, hS, hK, hD, b2⟩; have hW2 := Lib.hid hW; have hR2 := Lib.hid hR; have hS2 := Lib.hid hS; have hb2 := Lib.hid b2; clear hW hR hS hK hD b2)
        | (at_make; refine make_own rfl _ _ 59 rfl w2.heap.size 5 _ 1 Try.underlying59 u8Info rfl _ _ _ _ C (by rfl) (by rfl) rfl rfl (by omega) (by unfold maxLen; omega) (Nat.le_refl _) ?_; intro w3 hown hg3; have hB3 := Lib.hid (below_of_grown hg3 (Nat.le_refl w2.heap.size) (by intro k hk; cases hk)); have hO3 : Hid (Own w3 w2.heap.size 5 w2.heap.size C C (fun j => gv (ansP M r p C 0 j))) := Lib.hid (hown.congr (fun j _ => by unfold ansP; rw [Nat.zero_min]; rfl)); clear hown hg3)
        | fail)
      have hS3 : Hid (SN n (C + 1) (wideG A bb C) M) := Lib.hid ((SN.of_eq fun i hi j hj => by rw [matM_ofM _ hi hj]).trans hS2.out)
      have hrn := hR2.out.rR
      have hp := hR2.out
      obtain ⟨ap, cp, rfl, hRp, hnp, hp1, hp2⟩ := own_dataK hW2.out.piv
      have HRP := Lib.hid hRp
      clear hp hRp hS2
      go_loopw [61] (fun vi wr => ∃ (i : Nat), vi = .int .i64 i ∧ i ≤ n ∧ Hid (Own wr w2.heap.size 5 w2.heap.size C C (fun j => gv (ansP M r p C i j))) ∧ Hid (∀ j, r ≤ j → j < i → M j C = 0) ∧ Hid (Below w2.heap.size w2 wr)) (fun vi _ => n - (intOf vi).toNat)
      case atStart => exact ⟨0, rfl, by omega, hO3, Lib.hid (fun j h1 h2 => by omega), hB3⟩
      case round =>
        clear hO3 hB3
        obtain ⟨i, rfl, hi, hO, hZ, hb3⟩ := hrel
        have hBfin : Hid (Below w.heap.size w wr) := HBO.out.trans ((hb2.out.trans (hb3.out.mono hb2.out.size)).mono HBO.out.size)
        by_cases hin : i < n
        · have hM3 := hW2.out.mat.below hb3.out
          have h1 := hM3.hdr hin
          have h2 := hM3.cell hin (show C < C + 1 by omega)
          unfold gv at h2
          obtain ⟨v, hv⟩ : ∃ v, (M i C).val = v := ⟨_, rfl⟩
          rw [hv] at h2
          have hcap := (hM3.row i hin).caps
          have hcap1 := hcap.1
          have hcap2 := hcap.2
          have i0 : (0 : Int) ≤ (i : Int) := by omega
          have i1 : (i : Int) < (n : Int) := by omega
          have C0 : (0 : Int) ≤ (C : Int) := by omega
          have C1 : (C : Int) < ((C + 1 : Nat) : Int) := by omega
          have HV := Lib.hid hv
          clear hcap hM3 hv
          by_cases hir : i < r
          · have hpi := hR2.out.lt i hir
            obtain ⟨q1, q2, e1, e2⟩ := (HRP.out.below hb3.out) i _ (rowF_get _ hir)
            cases e1
            obtain ⟨P, hP⟩ : ∃ P, p i = P := ⟨_, rfl⟩
            rw [hP] at e2 hpi
            have e3 := hO.out.cell hpi
            have e4 := hO.out.frozen P
            have st := hO.out.store P (.int .u8 (v : Int))
            have hO4 : Hid (Own (wr.setCell ⟨w2.heap.size, P, none⟩ (.int .u8 (v : Int))) w2.heap.size 5 w2.heap.size C C (fun j => gv (ansP M r p C (i + 1) j))) := Lib.hid (st.1.congr (fun j _ => by
              rw [ansP_step hir hR2.out.inc, hP]
              by_cases h : j = P
              · rw [if_pos h, if_pos h]; unfold gv; rw [HV.out]
              · rw [if_neg h, if_neg h]))
            have hb4 := Lib.hid (hO.out.belowStore hb3.out (Nat.le_refl _) P (.int .u8 (v : Int)))
            have hZ2 : Hid (∀ j, r ≤ j → j < i + 1 → M j C = 0) := Lib.hid (fun j h1 h2 => by omega)
            have p0 : (0 : Int) ≤ (P : Int) := by omega
            have p1' : (P : Int) < (C : Int) := by omega
            have i7 : (i : Int) < (r : Int) := by omega
            unfold gv at e3
            clear st hP
            go_wp2_with fail
            go_region
            all_goals
              go_wp2_with fail
              go_roundw
              case rel => exact ⟨i + 1, by go_num, by omega, by exact hO4.out, hZ2, ⟨hb4.out.os, hb4.out.tape, hb4.out.output, hb4.out.size, hb4.out.block⟩⟩
              case measure => simp [intOf]; omega
          · have i7 : ¬ (i : Int) < (r : Int) := by omega
            by_cases hv0 : v = 0
            · subst hv0
              have hZ2 : Hid (∀ j, r ≤ j → j < i + 1 → M j C = 0) := Lib.hid (fun j h1 h2 => by
                by_cases he : j = i
                · rw [he]; exact GF.ext HV.out
                · exact hZ.out j h1 (by omega))
              have hO4 : Hid (Own wr w2.heap.size 5 w2.heap.size C C (fun j => gv (ansP M r p C (i + 1) j))) := Lib.hid (hO.out.congr (fun j _ => by rw [ansP_ge M r p C (by omega), ansP_ge M r p C (by omega)]))
              go_wp2_with fail
              go_roundw
              case rel => exact ⟨i + 1, by go_num, by omega, hO4, hZ2, hb3⟩
              case measure => simp [intOf]; omega
            · have hb0 : ((v : Int) != 0) = true := by simp; omega
              have hnd : Hid (¬ Dep n (wideG A bb C) C) := fun h => hR2.out.not_dep (show r ≤ i by omega) hin (fun e => hv0 (by rw [← HV.out, e]; rfl)) ((hS3.out.dep (show C < C + 1 by omega)).1 h)
              go_wp2_with fail
              go_ret2
              exact ⟨fun h => absurd h hnd.out, fun _ => rfl, hBfin.out⟩
        · obtain rfl : n = i := by omega
          have h0 : ∀ j, r ≤ j → j < n → M j C = 0 := hZ.out
          have hdep : Dep n (wideG A bb C) C := (hS3.out.dep (show C < C + 1 by omega)).2 (hR2.out.dep h0).1
          have hans := Lib.hid (fun i hi => ans_ok hR2.out hS3.out h0 (i := i) hi)
          have HDEP := Lib.hid hdep
          clear hdep h0
          go_wp2_with fail
          go_ret2
          refine ⟨fun _ => ⟨_, _, ansG M r p C, rfl, ?_, fun i hi => ?_⟩, fun h => absurd HDEP.out h, hBfin.out⟩
          · have hrow : wr.ownsRow w2.heap.size 5 1 (.slice (some ⟨w2.heap.size, 0, none⟩) C C) C (u8s ((List.range C).map fun j => (ansG M r p C j).val)) := by
              rw [u8s_gv]
              exact hO.out.congr fun j _ => by rw [ansP_ge M r p C hrn]
            obtain ⟨g7, c7, hv7, hr7, _⟩ := row_made hrow (fun z hz => by obtain ⟨y, _, rfl⟩ := List.mem_map.1 hz; exact GF.lt _) r3
            cases hv7
            exact hr7
          · have h1 := hans.out i hi
            have h2 : wideG A bb C i C = bb i := by unfold wideG besG; rw [if_neg (by omega)]
            rw [h2] at h1
            rw [← h1]
            exact sumG_congr fun j hj => by unfold wideG besG; rw [if_pos hj]
end Go.Proofs.Ytgdcmebhopjfaaa
