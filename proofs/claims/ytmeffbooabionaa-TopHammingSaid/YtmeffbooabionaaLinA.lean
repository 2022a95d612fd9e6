/- linear.words: all sums of words, sorted, each once. -/
import Derived.Test.YtmeffbooabionaaHmM34
import Derived.Test.YtmeffbooabionaaQuorumB
set_option linter.unusedVariables false
set_option linter.unusedSimpArgs false
namespace Go.Proofs.Ytmeffbooabionaa
open Go.RowKit

theorem u16_xor_nat (a b : Nat) (ha : a < 65536) (hb : b < 65536) : bits .xor .u16 (a : Int) (b : Int) = ((a ^^^ b : Nat) : Int) := by
  have hx : a ^^^ b < 2 ^ 16 := Nat.xor_lt_two_pow (by omega) (by omega)
  show IntKind.u16.wrap ((BitVec.ofInt 16 (a : Int) ^^^ BitVec.ofInt 16 (b : Int)).toNat : Int) = _
  rw [BitVec.toNat_xor, ofInt_u16 a ha, ofInt_u16 b hb]
  exact wrap_u16 _ (by omega)
theorem cellsU_app (l m : List Nat) : cellsU (l ++ m) = cellsU l ++ cellsU m := by simp [cellsU]
theorem cellsU_one (l : List Nat) : ∀ u ∈ cellsU l, u.oneCell' = true := by
  intro u hu
  obtain ⟨_, _, rfl⟩ := List.mem_map.1 hu
  rfl
theorem cellsU_cast (l : List Nat) : cellsU l = (l.map fun x : Nat => (x : Int)).map (Value.int .u16) := by simp [cellsU, List.map_map, Function.comp_def]
theorem cellsU_get {l : List Nat} {j x : Nat} (h : l[j]? = some x) : (cellsU l)[j]? = some (.int .u16 (x : Int)) := by unfold cellsU; rw [List.getElem?_map, h]; rfl
def WordPost (xs : List Nat) (w : World) (e : Ending) (w' : World) : Prop :=
  ∃ ao, e = .returned (.slice ao xs.length xs.length) ∧ (ao = none → xs.length = 0) ∧ (∀ a, ao = some a → w.heap.size ≤ a.block) ∧ Reads w' ao (cellsU xs) ∧ Below w.heap.size w w'
theorem app_take {l : List Nat} {k x : Nat} (h : l[k]? = some x) : l.take (k + 1) = l.take k ++ [x] := by
  obtain ⟨hq, he⟩ := List.getElem?_eq_some_iff.1 h
  rw [List.take_succ_eq_append_getElem hq, he]
theorem litU (w : World) (base x : Nat) (hb : base ≤ w.heap.size) : (w.alloc (.cells #[.int .u16 (x : Int)] 29)).ownsRow base 29 1 (.slice (some ⟨w.heap.size, 0, none⟩) 1 1) 1 (cellsU [x]) := own_lit w base 29 (cellsU [x]) hb (by unfold maxLen; simp [cellsU])
set_option maxRecDepth 100000 in
set_option maxHeartbeats 8000000 in
theorem lin_words (n : Nat) (l : List Nat) (ao : Option Addr) (ca : Nat) (w : World) (hl : l.length = n) (hn : n ≤ 6) (hlt : ∀ x ∈ l, x < 65536) (hR : Hid (Reads w ao (cellsU l))) :
    Calls Try.prog 42 #[.slice ao n ca] w (WordPost (wordsL l) w) := by
  have HL := Lib.hid hl
  have HLT : Hid (∀ x ∈ l, x < 65536) := hlt
  have h1 := Lib.hid (litU w w.heap.size 0 (Nat.le_refl _))
  have hb1 : Hid (Below w.heap.size w (w.alloc (.cells #[.int .u16 0] 29))) := Below.alloc (Below.refl _ _) (Nat.le_refl _) _
  clear hl hlt
  go_enter Try.func42, Try.ntmps42
  go_wp2_with fail
  go_loopw [3, 11] (fun vo vk wr => ∃ (k : Nat), vk = .int .i64 k ∧ k ≤ n ∧ Hid (wr.ownsRow w.heap.size 29 1 vo (allX (l.take k)).length (cellsU (allX (l.take k)))) ∧ Hid (Below w.heap.size w wr)) (fun _ vk _ => n - (intOf vk).toNat)
  case atStart => exact ⟨0, rfl, Nat.zero_le _, h1.out, hb1⟩
  case round =>
    clear h1 hb1
    obtain ⟨k, rfl, hk, hO, hB⟩ := hrel
    by_cases hkn : k < n
    · obtain ⟨gx, hgx⟩ : ∃ x, l[k]? = some x := ⟨l[k]'(by rw [HL.out]; exact hkn), List.getElem?_eq_getElem _⟩
      have hgl : gx < 65536 := HLT.out gx (List.mem_of_getElem? hgx)
      have hR2 := hR.out.below hB.out
      obtain ⟨b, o, hao, hc⟩ := hR2 k (.int .u16 (gx : Int)) (cellsU_get hgx)
      subst hao
      have HG := Lib.hid hgx
      obtain ⟨X, hX⟩ : ∃ X, allX (l.take k) = X := ⟨_, rfl⟩
      have hXl : ∀ x ∈ X, x < 65536 := by rw [← hX]; exact allX_lt (n := 16) (fun g hg => HLT.out g (List.mem_of_mem_take hg))
      have hX2 : Hid (allX (l.take (k + 1)) = X ++ X.map (· ^^^ gx)) := by rw [app_take hgx, allX_append, hX]; trivial
      have hXn : X.length ≤ 64 := by
        rw [← hX, allX_len]
        have : (l.take k).length ≤ 6 := by rw [List.length_take]; omega
        exact Nat.le_trans (Nat.pow_le_pow_right (by omega) this) (by decide)
      rw [hX] at hO
      obtain ⟨m, hm⟩ : ∃ m, X.length = m := ⟨_, rfl⟩
      rw [hm] at hO hXn
      have HM := Lib.hid hm
      have HXl := Lib.hid hXl
      obtain ⟨oa, c0, rfl, hRX, hno, _, _⟩ := own_dataK hO.out
      have HSZ : Hid (w.heap.size ≤ wr.heap.size) := hB.out.size
      have CC := Lib.hid (clone_u16 m (cellsU X) oa c0 wr.heap.size wr (by omega) (by rw [cellsU_len]; exact hm) hno hRX (cellsU_one X) (Nat.le_refl _))
      obtain ⟨B, hBw⟩ : ∃ B, wr.heap.size = B := ⟨_, rfl⟩
      rw [hBw] at CC HSZ
      have HBW := Lib.hid hBw
      have hOB := Lib.hid (hO.out.lt)
      have HR2 : Hid (Reads w (some ⟨b, o, none⟩) (cellsU l)) := hR
      clear hgx hX hXl hm hR2 hRX hno hBw
      go_wp2_with (first | (go_at_call 68; (refine CC.out.mono ?_); rintro e w2 ⟨cv, rfl, hC2, hB2⟩; obtain ⟨ca2, cc, rfl, hRC, hcn, _, _⟩ := own_dataK hC2) | fail)
      have hO2 := Lib.hid (own_below hO.out (show Below wr.heap.size wr w2 by rw [HBW.out]; exact hB2))
      have hC2' := Lib.hid hC2
      have hBo : Hid (Below w.heap.size w w2) := hB.out.trans (hB2.mono HSZ.out)
      have hAp : Hid (Apart (.slice oa m c0) (.slice ca2 m cc)) := by
        intro g h1 h2
        have l1 := hOB.out g h1
        have l2 := hC2'.out.lt g h2
        rw [HBW.out] at l1
        omega
      clear hRC hC2 hcn hO hB
      go_loopw [3, 18] (fun vo vj wr2 => ∃ (j : Nat), vj = .int .i64 j ∧ j ≤ m ∧ Hid (wr2.ownsRow w.heap.size 29 1 vo (m + j) (cellsU (X ++ (X.take j).map (· ^^^ gx)))) ∧ Hid (wr2.ownsRow B 29 1 (.slice ca2 m cc) m (cellsU X)) ∧ Hid (Apart vo (.slice ca2 m cc)) ∧ Hid (Below w.heap.size w wr2)) (fun _ vj _ => m - (intOf vj).toNat)
      case atStart => exact ⟨0, rfl, Nat.zero_le _, by simpa using hO2, hC2', hAp, hBo⟩
      case round =>
        clear hO2 hC2' hAp hBo
        obtain ⟨j, rfl, hj, hO, hC, hA, hB⟩ := hrel
        by_cases hjm : j < m
        · obtain ⟨x, hx⟩ : ∃ x, X[j]? = some x := ⟨X[j]'(by rw [HM.out]; exact hjm), List.getElem?_eq_getElem _⟩
          have hxl : x < 65536 := HXl.out x (List.mem_of_getElem? hx)
          obtain ⟨y, hy⟩ : ∃ y, x ^^^ gx = y := ⟨_, rfl⟩
          have exy : bits .xor .u16 (x : Int) (gx : Int) = (y : Int) := by rw [u16_xor_nat x gx hxl hgl, hy]
          obtain ⟨_, _, hv, hRC, _⟩ := own_dataK hC.out
          cases hv
          obtain ⟨b2, o2, hca, hc2⟩ := hRC j (.int .u16 (x : Int)) (cellsU_get hx)
          subst hca
          have hT : Hid ((X.take (j + 1)).map (· ^^^ gx) = (X.take j).map (· ^^^ gx) ++ [y]) := by rw [app_take hx, List.map_append, ← hy]; trivial
          have hjz : (j : Int) < (m : Int) := by omega
          have hSZ2 : Hid (w.heap.size ≤ wr.heap.size) := hB.out.size
          clear hx hy hRC
          go_wp2_with (at_builtin; go_must (refine app_one2 rfl (.tmp 22) (.tmp 26) 22 rfl w.heap.size 29 _ 1 2 Try.underlying22 u16Info u3 (m + j) (cellsU (X ++ (X.take j).map (· ^^^ gx))) (by rfl) hO.out [.int .u16 (y : Int)] (by rfl) rfl (by intro u hu; simp at hu; subst hu; rfl) (by unfold maxLen; omega) (by omega) hSZ2.out ?_); intro v1 w1 hl1 hg1 hb1 hk1)
          have hC1 := kept_apart hC.out hg1 hA.out
          have hA1 : Apart v1 (.slice (some ⟨b2, o2, none⟩) m cc) := hA.out.grow hk1 (fun g hg => by have := (hC.out.lt g hg).2; omega)
          go_roundw
          case rel =>
            refine ⟨j + 1, by go_num, by omega, ?_, hC1, hA1, hB.out.trans hb1⟩
            show World.ownsRow _ _ _ _ _ _ _
            rw [hT.out, ← List.append_assoc, cellsU_app]
            exact hl1
          case measure => simp [intOf]; omega
        · obtain rfl : m = j := by omega
          have hfin : Hid (X ++ (X.take m).map (· ^^^ gx) = allX (l.take (k + 1)) ∧ m + m = (allX (l.take (k + 1))).length) := by
            have e1 : X.take m = X := List.take_of_length_le (by rw [HM.out]; exact Nat.le_refl _)
            refine ⟨by rw [e1, hX2.out], by rw [hX2.out, List.length_append, List.length_map, HM.out]⟩
          clear hC hA
          go_wp2_with fail
          go_roundw
          case rel =>
            refine ⟨k + 1, by go_num, by omega, ?_, hB⟩
            show World.ownsRow _ _ _ _ _ _ _
            rw [← hfin.out.2, ← hfin.out.1]
            exact hO.out
          case measure => simp [intOf]; omega
    · obtain rfl : n = k := by omega
      have e1 : l.take n = l := List.take_of_length_le (by rw [HL.out]; exact Nat.le_refl _)
      rw [e1] at hO
      obtain ⟨M, hM⟩ : ∃ M, (allX l).length = M := ⟨_, rfl⟩
      have hM2 := allX_len l
      rw [HL.out] at hM2
      have hMn : M ≤ 64 := by
        rw [← hM, hM2]
        exact Nat.le_trans (Nat.pow_le_pow_right (by omega) hn) (by decide)
      have hM0 : 0 < M := by rw [← hM, hM2]; exact Nat.two_pow_pos _
      rw [hM] at hO
      have hne : cellsU (allX l) ≠ [] := by
        intro h
        have := congrArg List.length h
        rw [cellsU_len, hM] at this
        simp at this
        omega
      obtain ⟨g, cg, rfl, hO1⟩ := own_formK hO.out hne rfl
      have CS := Lib.hid (sort_u16 (allX l) M w.heap.size g cg wr (by omega) hM hO1 hB.out.size)
      obtain ⟨_, _, hv, _, _, k1, k2⟩ := own_dataK hO1
      cases hv
      obtain ⟨D, hD⟩ : ∃ D, (wordsL l).length = D := ⟨_, rfl⟩
      have hDM : D ≤ M := by rw [← hD, ← hM]; unfold wordsL; refine Nat.le_trans (cmpN_len _) ?_; rw [srtU_len]; exact Nat.le_refl _
      have HD := Lib.hid hD
      have CP := Lib.hid (fun W h => compact_u16 ((srtU (allX l)).map fun x : Nat => (x : Int)) M w.heap.size g cg W h)
      rw [cmpL_cast, List.length_map, ← cellsU_cast, ← cellsU_cast, show (cmpN (srtU (allX l))).length = D from hD] at CP
      have hgb := Lib.hid (hO1.lt g rfl)
      clear hO hO1 hne hM hM2 e1 hD
      go_wp2_with (first
        | (go_at_call 38; (refine CS.out.mono ?_); rintro e w5 ⟨rfl, hown5, hb5⟩)
        | (go_at_call 39; (refine (CP.out w5 hown5).mono ?_); rintro e w6 ⟨rfl, hown6, hg6⟩)
        | (go_at_call 64; (refine (clip_u16 (some ⟨g, 0, none⟩) D cg _ k2 (by omega)).mono ?_); rintro e w7 ⟨rfl, rfl⟩)
        | fail)
      go_ret
      obtain ⟨ao2, c2, hv, hR5, _⟩ := own_reads hown6
      cases hv
      refine ⟨some ⟨g, 0, none⟩, by rw [HD.out]; rfl, (fun h => by cases h), (fun a h => by cases h; exact hgb.out.1), hR5, ?_⟩
      have hb6 : Below w.heap.size w w5 := hB.out.trans hb5
      exact hb6.grown hg6 hb6.size (fun q hq => by cases hq; exact hgb.out.1)
end Go.Proofs.Ytmeffbooabionaa
