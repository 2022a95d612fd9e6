/- linear.base: the reduced basis. -/
import Derived.Test.YtmeffbooabionaaLinN
import Derived.Test.YtmeffbooabionaaLinA
import Derived.Test.YtmeffbooabionaaRevU
set_option linter.unusedVariables false
set_option linter.unusedSimpArgs false
namespace Go.Proofs.Ytmeffbooabionaa
open Go.RowKit

theorem bitU (a K : Nat) (ha : a < 65536) : bits .and .u16 ((a : Int) / 2 ^ K) 1 = if a.testBit K then 1 else 0 := by
  have hle : a / 2 ^ K ≤ a := Nat.div_le_self _ _
  have h := u16_and_nat (a / 2 ^ K) 1 (by omega) (by omega)
  rw [Nat.and_one_is_mod] at h
  have e : ((a / 2 ^ K : Nat) : Int) = (a : Int) / 2 ^ K := by push_cast; rfl
  have e1 : ((1 : Nat) : Int) = 1 := rfl
  rw [e, e1] at h
  rw [h, Nat.testBit_eq_decide_div_mod_eq]
  by_cases hm : a / 2 ^ K % 2 = 1
  · rw [hm]; simp
  · have : a / 2 ^ K % 2 = 0 := by omega
    rw [this]; simp
theorem takeB_snoc (out : List Nat) (g b : Nat) : takeB (out ++ [b]) g = if (takeB out g).testBit (hiN b) then takeB out g ^^^ b else takeB out g := by unfold takeB; rw [List.foldl_append]; rfl
set_option maxRecDepth 100000 in
set_option maxHeartbeats 8000000 in
theorem lin_base (m : Nat) (l : List Nat) (ao : Option Addr) (ca : Nat) (w : World) (hl : l.length = m) (hm : m ≤ 5000) (hlt : ∀ x ∈ l, x < 65536) (hR : Hid (Reads w ao (cellsU l))) :
    Calls Try.prog 33 #[.slice ao m ca] w (WordPost (baseL l) w) := by
  have HL := Lib.hid hl
  have HLT : Hid (∀ x ∈ l, x < 65536) := hlt
  clear hl hlt
  go_enter Try.func33, Try.ntmps33
  go_wp2_with fail
  go_loopw [3, 12] (fun vo vk wr => ∃ (k : Nat), vk = .int .i64 k ∧ k ≤ m ∧ Hid (wr.ownsRow w.heap.size 29 1 vo (baseR (l.take k)).length (cellsU (baseR (l.take k)))) ∧ Hid (Below w.heap.size w wr) ∧ Hid ((baseR (l.take k)).length = 0 → vo = .slice none 0 0)) (fun _ vk _ => m - (intOf vk).toNat)
  case atStart => exact ⟨0, rfl, Nat.zero_le _, World.ownsRow_nil _ _ _ _, Below.refl _ _, fun _ => rfl⟩
  case round =>
    obtain ⟨k, rfl, hk, hO, hB, hNil⟩ := hrel
    obtain ⟨wo, rfl⟩ : ∃ wo, wo = wr := ⟨_, rfl⟩
    by_cases hkn : k < m
    · obtain ⟨gx, hgx⟩ : ∃ x, l[k]? = some x := ⟨l[k]'(by rw [HL.out]; exact hkn), List.getElem?_eq_getElem _⟩
      have hgl : gx < 65536 := HLT.out gx (List.mem_of_getElem? hgx)
      have hR2 := hR.out.below hB.out
      obtain ⟨b, o, hao, hc⟩ := hR2 k (.int .u16 (gx : Int)) (cellsU_get hgx)
      subst hao
      obtain ⟨X, hX⟩ : ∃ X, baseR (l.take k) = X := ⟨_, rfl⟩
      have hRed : Red X := by rw [← hX]; exact baseR_red (fun g hg => HLT.out g (List.mem_of_mem_take hg))
      have hX2 : Hid (baseR (l.take (k + 1)) = stepB X gx) := by rw [app_take hgx, baseR_snoc, hX]; trivial
      have hXn : X.length ≤ k := by rw [← hX]; refine Nat.le_trans (baseR_len _) ?_; rw [List.length_take]; omega
      rw [hX] at hO hNil
      obtain ⟨D, hD⟩ : ∃ D, X.length = D := ⟨_, rfl⟩
      rw [hD] at hO hXn
      have HM := Lib.hid hD
      have HRED := Lib.hid hRed
      obtain ⟨oa, c0, rfl, hRX, hno, _, _⟩ := own_dataK hO.out
      have HRX : Hid (Reads wo oa (cellsU X)) := hRX
      have HR2 : Hid (Reads w (some ⟨b, o, none⟩) (cellsU l)) := hR
      clear hgx hX hD hR2 hRX hno hRed
      go_wp2_with fail
      go_loopw [5, 18] (fun vg vj wr => ∃ (j gj : Nat), vg = .int .u16 gj ∧ vj = .int .i64 j ∧ j ≤ D ∧ gj < 65536 ∧ Hid (takeB (X.take j) gx = gj) ∧ wo = wr) (fun _ vj _ => D - (intOf vj).toNat)
      case atStart => exact ⟨0, gx, rfl, rfl, Nat.zero_le _, hgl, rfl, rfl⟩
      case round =>
        obtain ⟨j, gj, rfl, rfl, hj, hgj, hG, rfl⟩ := hrel
        by_cases hjD : j < D
        · obtain ⟨x, hx⟩ : ∃ x, X[j]? = some x := ⟨X[j]'(by rw [HM.out]; exact hjD), List.getElem?_eq_getElem _⟩
          obtain ⟨hx0, hxl⟩ := HRED.out.pos x (List.mem_of_getElem? hx)
          obtain ⟨b2, o2, hca, hc2⟩ := HRX.out j (.int .u16 (x : Int)) (cellsU_get hx)
          subst hca
          have hT := Lib.hid ((congrArg (fun z => takeB z gx) (app_take hx)).trans (takeB_snoc (X.take j) gx x))
          rw [hG.out] at hT
          have CL := Lib.hid (fun W => bits_Len16 (x : Int) W (by omega) (by omega))
          rw [Int.toNat_natCast] at CL
          obtain ⟨hL1, hL2⟩ := hi_eq hx0 hxl
          have hL3 : Lib.bitLen x = hiN x + 1 := by omega
          obtain ⟨K, hK⟩ : ∃ K, hiN x = K := ⟨_, rfl⟩
          have hK16 : K < 16 := by rw [← hK]; exact hi_lt hx0 hxl
          rw [hK] at hT hL3
          obtain ⟨L, hL⟩ : ∃ L, Lib.bitLen x = L := ⟨_, rfl⟩
          rw [hL] at CL hL3
          have eK : (L : Int) - 1 = (K : Int) := by omega
          have hbit := bitU gj K hgj
          have hjz : (j : Int) < (D : Int) := by omega
          clear hx hL1 hL2 hL3 hK hL
          cases ht : gj.testBit K with
          | true =>
            rw [ht, if_pos rfl] at hbit hT
            obtain ⟨y, hy⟩ : ∃ y, gj ^^^ x = y := ⟨_, rfl⟩
            have exy : bits .xor .u16 (gj : Int) (x : Int) = (y : Int) := by rw [u16_xor_nat gj x hgj hxl, hy]
            have hyl : y < 65536 := by rw [← hy]; exact xor_lt16 hgj hxl
            rw [hy] at hT
            clear hy ht
            go_wp2_with (first | (go_at_call 62; (refine (CL.out _).mono ?_); rintro e w' ⟨rfl, rfl⟩) | fail)
            go_roundw
            case rel => exact ⟨j + 1, y, rfl, by go_num, by omega, hyl, hT, by first | rfl | trivial⟩
            case measure => simp [intOf]; omega
          | false =>
            rw [ht, if_neg (by simp)] at hbit hT
            clear ht
            go_wp2_with (first | (go_at_call 62; (refine (CL.out _).mono ?_); rintro e w' ⟨rfl, rfl⟩) | fail)
            go_roundw
            case rel => exact ⟨j + 1, gj, rfl, by go_num, by omega, hgj, hT, by first | rfl | trivial⟩
            case measure => simp [intOf]; omega
        · obtain rfl : D = j := by omega
          have hT : X.take D = X := List.take_of_length_le (by rw [HM.out]; exact Nat.le_refl _)
          rw [hT] at hG
          clear hT
          by_cases hg0 : gj = 0
          · subst hg0
            have hS : Hid (baseR (l.take (k + 1)) = X) := by rw [hX2.out]; unfold stepB; rw [if_pos hG.out]; trivial
            go_wp2_with fail
            go_roundw
            case rel =>
              refine ⟨k + 1, by go_num, by omega, ?_, hB, by rw [hS.out]; exact hNil⟩
              show World.ownsRow _ _ _ _ _ _ _
              rw [hS.out, HM.out]
              exact hO.out
            case measure => simp [intOf]; omega
          · have hg0z : ¬ ((gj : Int) = 0) := by omega
            have hg0y : ((gj : Int) == 0) = false := by simp; omega
            have hg0x : (gj == 0) = false := by simp; omega
            have hS : Hid (baseR (l.take (k + 1)) = X.map (mapB gj) ++ [gj]) := by rw [hX2.out]; unfold stepB; rw [if_neg (by rw [hG.out]; exact hg0), hG.out]; trivial
            have CL := Lib.hid (fun W => bits_Len16 (gj : Int) W (by omega) (by omega))
            rw [Int.toNat_natCast] at CL
            obtain ⟨hL1, hL2⟩ := hi_eq (by omega) hgj
            have hL3 : Lib.bitLen gj = hiN gj + 1 := by omega
            obtain ⟨K, hK⟩ : ∃ K, hiN gj = K := ⟨_, rfl⟩
            have HK := Lib.hid hK
            have hK16 : K < 16 := by rw [← hK]; exact hi_lt (by omega) hgj
            rw [hK] at hL3
            obtain ⟨L, hL⟩ : ∃ L, Lib.bitLen gj = L := ⟨_, rfl⟩
            rw [hL] at CL hL3
            have eK : (L : Int) - 1 = (K : Int) := by omega
            have HSZ : Hid (w.heap.size ≤ wo.heap.size) := hB.out.size
            clear hL1 hL2 hL3 hK hL hX2 hg0 HRX
            go_wp2_with fail
            go_loopw [37] (fun vj wr => ∃ (j : Nat), vj = .int .i64 j ∧ j ≤ D ∧ Hid (wr.ownsRow w.heap.size 29 1 (.slice oa D c0) D (cellsU ((X.take j).map (mapB gj) ++ X.drop j))) ∧ Hid (Below w.heap.size w wr)) (fun vj _ => D - (intOf vj).toNat)
            case atStart => exact ⟨0, rfl, Nat.zero_le _, by simpa using hO, hB⟩
            case round =>
              clear hO hB
              obtain ⟨j, rfl, hj, hO, hB⟩ := hrel
              by_cases hjD : j < D
              · obtain ⟨x, hx⟩ : ∃ x, X[j]? = some x := ⟨X[j]'(by rw [HM.out]; exact hjD), List.getElem?_eq_getElem _⟩
                obtain ⟨hx0, hxl⟩ := HRED.out.pos x (List.mem_of_getElem? hx)
                have hlen : ((X.take j).map (mapB gj)).length = j := by rw [List.length_map, List.length_take, HM.out]; omega
                have hdr : X.drop j = x :: X.drop (j + 1) := by
                  obtain ⟨h1, h2⟩ := List.getElem?_eq_some_iff.1 hx
                  rw [List.drop_eq_getElem_cons h1, h2]
                have hget : ((X.take j).map (mapB gj) ++ X.drop j)[j]? = some x := by rw [List.getElem?_append_right (by omega), hlen, Nat.sub_self, hdr]; rfl
                have hne : cellsU ((X.take j).map (mapB gj) ++ X.drop j) ≠ [] := by
                  intro h
                  have := cellsU_get hget
                  rw [h] at this
                  simp at this
                obtain ⟨g0, cap0, hv, hO1⟩ := own_formK hO.out hne rfl
                cases hv
                have hO1' := Lib.hid hO1
                obtain ⟨_, _, hv, hRC, _⟩ := own_dataK hO1
                cases hv
                have hc2 := reads_cell0 hRC (cellsU_get hget)
                have hf2 := World.ownsRow.frozenAt hO1 j
                have hjz : (j : Int) < (D : Int) := by omega
                have hjz0 : (0 : Int) ≤ (j : Int) := by omega
                have hbit := bitU x K hxl
                have hT : (X.take (j + 1)).map (mapB gj) ++ X.drop (j + 1) = ((X.take j).map (mapB gj) ++ X.drop j).set j (mapB gj x) := by
                  rw [app_take hx, List.map_append, hdr, List.set_append_right _ _ (by omega), hlen, Nat.sub_self]
                  simp
                have hmb : mapB gj x = if x.testBit K then x ^^^ gj else x := by unfold mapB; rw [HK.out]
                clear hO1 hRC hne
                cases ht : x.testBit K with
                | true =>
                  rw [ht, if_pos rfl] at hbit hmb
                  obtain ⟨y, hy⟩ : ∃ y, x ^^^ gj = y := ⟨_, rfl⟩
                  have exy : bits .xor .u16 (x : Int) (gj : Int) = (y : Int) := by rw [u16_xor_nat x gj hxl hgj, hy]
                  rw [hmb, hy] at hT
                  have hst := World.ownsRow.stored hO1'.out j (.int .u16 (y : Int))
                  have hO3 : Hid ((wr.setCell ⟨g0, j, none⟩ (.int .u16 (y : Int))).ownsRow w.heap.size 29 1 (.slice (some ⟨g0, 0, none⟩) D c0) D (cellsU ((X.take (j + 1)).map (mapB gj) ++ X.drop (j + 1)))) := by
                    have h1 := hst.1
                    rw [hT]
                    unfold cellsU at h1 ⊢
                    rw [List.map_set]
                    exact h1
                  have hB3 : Hid (Below w.heap.size w (wr.setCell ⟨g0, j, none⟩ (.int .u16 (y : Int)))) := hB.out.grown hst.2 hB.out.size (fun q hq => by cases hq; exact (hO1'.out.lt g0 rfl).1)
                  clear hy ht hst hT hmb hx hget hdr hlen
                  go_wp2_with (first | (go_at_call 62; (refine (CL.out _).mono ?_); rintro e w' ⟨rfl, rfl⟩) | fail)
                  go_roundw
                  case rel => exact ⟨j + 1, by go_num, by omega, hO3, hB3⟩
                  case measure => simp [intOf]; omega
                | false =>
                  rw [ht, if_neg (by simp)] at hbit hmb
                  have hO3 : Hid (wr.ownsRow w.heap.size 29 1 (.slice (some ⟨g0, 0, none⟩) D c0) D (cellsU ((X.take (j + 1)).map (mapB gj) ++ X.drop (j + 1)))) := by
                    have h1 := hO1'.out
                    rw [hT, hmb]
                    obtain ⟨h2, h3⟩ := List.getElem?_eq_some_iff.1 hget
                    rw [← h3, List.set_getElem_self h2]
                    exact h1
                  clear ht hT hmb hx hget hdr hlen
                  go_wp2_with (first | (go_at_call 62; (refine (CL.out _).mono ?_); rintro e w' ⟨rfl, rfl⟩) | fail)
                  go_roundw
                  case rel => exact ⟨j + 1, by go_num, by omega, hO3, hB⟩
                  case measure => simp [intOf]; omega
              · obtain rfl : D = j := by omega
                have hT : (X.take D).map (mapB gj) ++ X.drop D = X.map (mapB gj) := by rw [List.take_of_length_le (by rw [HM.out]; exact Nat.le_refl _), List.drop_eq_nil_of_le (by rw [HM.out]; exact Nat.le_refl _), List.append_nil]
                rw [hT] at hO
                have hSZ2 : Hid (w.heap.size ≤ wr.heap.size) := hB.out.size
                clear hT
                go_wp2_with (at_builtin; go_must (refine app_one2 rfl (.tmp 56) (.tmp 58) 22 rfl w.heap.size 29 _ 1 2 Try.underlying22 u16Info (.slice oa D c0) D (cellsU (X.map (mapB gj))) (by rfl) hO.out [.int .u16 (gj : Int)] (by rfl) rfl (by intro u hu; simp at hu; subst hu; rfl) (by unfold maxLen; omega) (by omega) hSZ2.out ?_); intro v1 w1 hl1 hg1 hb1 hk1)
                go_roundw
                case rel =>
                  refine ⟨k + 1, by go_num, by omega, ?_, hB.out.trans hb1, fun h => by rw [hS.out, List.length_append, List.length_singleton] at h; omega⟩
                  show World.ownsRow _ _ _ _ _ _ _
                  rw [hS.out, List.length_append, List.length_map, HM.out, cellsU_app]
                  exact hl1
                case measure => simp [intOf]; omega
    · obtain rfl : m = k := by omega
      have e1 : l.take m = l := List.take_of_length_le (by rw [HL.out]; exact Nat.le_refl _)
      rw [e1] at hO
      obtain ⟨D, hD⟩ : ∃ D, (baseR l).length = D := ⟨_, rfl⟩
      have hDm : D ≤ 5000 := by rw [← hD]; have := baseR_len l; rw [HL.out] at this; omega
      rw [hD] at hO
      have hbl : (baseL l).length = D := by unfold baseL; rw [List.length_reverse, srtU_len]; exact hD
      have HBL := Lib.hid hbl
      by_cases hD0 : D = 0
      · subst hD0
        have hnil : baseR l = [] := List.eq_nil_of_length_eq_zero hD
        have hbn : Hid (baseL l = []) := List.eq_nil_of_length_eq_zero hbl
        rw [e1] at hNil
        obtain rfl : u3 = .slice none 0 0 := hNil.out hD
        have CS := Lib.hid (fun W => sort_nil16 W)
        have CR := Lib.hid (fun W => reverse_nil16 W)
        have CC := Lib.hid (fun W => clip_u16 none 0 0 W (by omega) (by omega))
        clear hO hD e1 hbl hnil hNil
        go_wp2_with (first
          | (go_at_call 38; (refine (CS.out _).mono ?_); rintro e w5 ⟨rfl, rfl⟩)
          | (go_at_call 63; (refine (CR.out _).mono ?_); rintro e w6 ⟨rfl, rfl⟩)
          | (go_at_call 64; (refine (CC.out _).mono ?_); rintro e w7 ⟨rfl, rfl⟩)
          | fail)
        go_ret
        rw [hbn.out]
        exact ⟨none, rfl, (fun _ => rfl), (fun a h => by cases h), Reads.nil _ _, hB.out⟩
      · have hne : cellsU (baseR l) ≠ [] := by
          intro h
          have := congrArg List.length h
          rw [cellsU_len, hD] at this
          simp at this
          omega
        obtain ⟨g, cg, rfl, hO1⟩ := own_formK hO.out hne rfl
        have CS := Lib.hid (sort_u16 (baseR l) D w.heap.size g cg wo (by omega) hD hO1 hB.out.size)
        obtain ⟨_, _, hv, _, _, k1, k2⟩ := own_dataK hO1
        cases hv
        have hsl : ((srtU (baseR l)).map fun x : Nat => (x : Int)).length = D := by rw [List.length_map, srtU_len]; exact hD
        have CR := Lib.hid (fun W h => reverse_u16 w.heap.size 29 g cg ((srtU (baseR l)).map fun x : Nat => (x : Int)) W (by rw [hsl]; omega) h)
        rw [hsl, ← List.map_reverse, ← cellsU_cast, ← cellsU_cast] at CR
        have hgb := Lib.hid (hO1.lt g rfl)
        clear hO hO1 hne hD e1 hsl hbl
        go_wp2_with (first
          | (go_at_call 38; (refine CS.out.mono ?_); rintro e w5 ⟨rfl, hown5, hb5⟩)
          | (go_at_call 63; (refine (CR.out w5 hown5).mono ?_); rintro e w6 ⟨rfl, hown6, hg6⟩)
          | (go_at_call 64; (refine (clip_u16 (some ⟨g, 0, none⟩) D cg _ k2 (by omega)).mono ?_); rintro e w7 ⟨rfl, rfl⟩)
          | fail)
        go_ret
        obtain ⟨ao2, c2, hv, hR5, _⟩ := own_reads hown6
        cases hv
        refine ⟨some ⟨g, 0, none⟩, by rw [HBL.out]; rfl, (fun h => by cases h), (fun a h => by cases h; exact hgb.out.1), hR5, ?_⟩
        have hb6 : Below w.heap.size w w5 := hB.out.trans hb5
        exact hb6.grown hg6 hb6.size (fun q hq => by cases hq; exact hgb.out.1)
end Go.Proofs.Ytmeffbooabionaa
