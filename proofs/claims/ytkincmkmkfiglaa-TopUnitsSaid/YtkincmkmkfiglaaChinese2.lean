/- Contracts of chinese.Check and chinese.Parts. -/
import Derived.Test.YtkincmkmkfiglaaRows
import Derived.Test.YtkincmkmkfiglaaChinese1
namespace Go.Proofs.Ytkincmkmkfiglaa
open Go.RowKit

set_option maxRecDepth 20000 in
set_option maxHeartbeats 1000000 in
theorem chinese_Check (zs : List (Int × Int)) (ao : Option Addr) (cap : Nat) (w : World) (hl : zs.length ≤ 9223372036854775807) (hR : Hid (Reads w ao (pairR zs))) :
    Calls Try.prog 31 #[.slice ao zs.length cap] w fun e w' => e = .returned (.int .i64 (chinE zs)) ∧ Below w.heap.size w w' := by
  obtain ⟨E, hE⟩ : ∃ E, chinE zs = E := ⟨_, rfl⟩
  have HE : Hid (E = if 6 < zs.length then 2 else if zs.any rBad then 1 else 0) := by rw [← hE]; rfl
  rw [hE]
  clear hE
  obtain ⟨len, hlen⟩ : ∃ n, zs.length = n := ⟨_, rfl⟩
  rw [hlen] at hl HE ⊢
  have HL := Lib.hid hlen
  clear hlen
  by_cases h6 : 6 < len
  · have d0 : decide ((6 : Int) < len) = true := by simp; omega
    have hfin : Hid (E = 2) := by show _ = _; rw [HE.out, if_pos h6]
    go_enter Try.func31, Try.ntmps31
    go_wp2_with fail
    go_ret
    exact ⟨by rw [hfin.out]; rfl, Below.refl _ _⟩
  · have d0 : decide ((6 : Int) < len) = false := by simp; omega
    have HE2 : Hid (E = if zs.any rBad then 1 else 0) := by show _ = _; rw [HE.out, if_neg h6]
    go_enter Try.func31, Try.ntmps31
    go_wp2_with fail
    go_loopw [10] (fun vi wr => ∃ k : Nat, vi = .int .i64 k ∧ k ≤ len ∧ Hid (∀ j y, j < k → zs[j]? = some y → rBad y = false) ∧ Hid (Below w.heap.size w wr)) (fun vi _ => len - (intOf vi).toNat)
    case atStart => exact ⟨0, rfl, by omega, Lib.hid (by intro j y hj; omega), Below.refl _ _⟩
    case round =>
      obtain ⟨k, rfl, hk, hno, hb⟩ := hrel
      by_cases hkl : k < len
      · obtain ⟨z, hz⟩ : ∃ z, zs[k]? = some z := ⟨zs[k]'(by rw [HL.out]; exact hkl), List.getElem?_eq_getElem _⟩
        obtain ⟨b, o, rfl, c1, c2⟩ := pair_cell (hR.out.below hb.out) hz
        have HZ := Lib.hid hz
        have HB := Lib.hid (hb.out.alloc hb.out.size (.cells #[.int .i64 z.1, .int .i64 z.2] 53))
        have bad : rBad z = true → Hid (E = 1) := fun h => by
          show _ = _
          rw [HE2.out, if_pos (List.any_eq_true.2 ⟨z, List.mem_of_getElem? HZ.out, h⟩)]
        obtain ⟨R, M⟩ := z
        dsimp only at c1 c2
        have HM := Lib.hid (fun W => chinese_modulus M W)
        clear hz
        by_cases h1 : mBad M = true
        · have hfin := bad (by unfold mBad at h1; simp only [decide_eq_true_eq] at h1; unfold rBad; simp only [decide_eq_true_eq]; omega)
          rw [h1] at HM
          clear bad h1
          go_wp2_with (go_at_call 94; refine (HM.out _).mono ?_; rintro e1 w' ⟨rfl, rfl⟩)
          go_ret
          exact ⟨by rw [hfin.out]; rfl, HB.out⟩
        · have h1' : mBad M = false := by simpa using h1
          have hM1 : 1 ≤ M ∧ M ≤ 1000 := by unfold mBad at h1'; simp only [decide_eq_false_iff_not] at h1'; omega
          rw [h1'] at HM
          clear h1 h1'
          by_cases h3 : R < 0
          · have d3 : decide (R < 0) = true := decide_eq_true h3
            have hfin := bad (by unfold rBad; simp only [decide_eq_true_eq]; omega)
            clear bad
            go_wp2_with (go_at_call 94; refine (HM.out _).mono ?_; rintro e1 w' ⟨rfl, rfl⟩)
            go_ret
            exact ⟨by rw [hfin.out]; rfl, HB.out⟩
          · have d3 : decide (R < 0) = false := decide_eq_false h3
            by_cases h4 : M ≤ R
            · have d4 : decide (M ≤ R) = true := decide_eq_true h4
              have hfin := bad (by unfold rBad; simp only [decide_eq_true_eq]; omega)
              clear bad
              go_wp2_with (go_at_call 94; refine (HM.out _).mono ?_; rintro e1 w' ⟨rfl, rfl⟩)
              go_ret
              exact ⟨by rw [hfin.out]; rfl, HB.out⟩
            · have d4 : decide (M ≤ R) = false := decide_eq_false h4
              have hno2 : Hid (∀ j y, j < k + 1 → zs[j]? = some y → rBad y = false) := by
                intro j y hj hy
                rcases Nat.lt_or_ge j k with h | h
                · exact hno.out j y h hy
                · obtain rfl : j = k := by omega
                  rw [HZ.out] at hy; cases hy
                  unfold rBad; simp only [decide_eq_false_iff_not]; omega
              clear bad
              go_wp2_with (go_at_call 94; refine (HM.out _).mono ?_; rintro e1 w' ⟨rfl, rfl⟩)
              go_roundw
              case rel => exact ⟨k + 1, by go_num, by omega, hno2, HB⟩
              case measure => simp [intOf]; omega
      · have hfin : Hid (E = 0) := by
          have hany : zs.any rBad = false := by
            rw [List.any_eq_false]
            intro z hz
            obtain ⟨j, hj, he⟩ := List.mem_iff_getElem.1 hz
            have := hno.out j z (by rw [HL.out] at hj; omega) (by rw [List.getElem?_eq_getElem hj, he])
            rw [this]; decide
          show _ = _
          rw [HE2.out, if_neg (by rw [hany]; decide)]
        go_wp2_with fail
        go_ret
        exact ⟨by rw [hfin.out]; rfl, hb.out⟩
def partsE (n : Int) (ms : List Int) : Int := if n < 0 then 1 else if 6 < ms.length then 2 else if ms.any mBad then 1 else 0
def PartsP (E : Int) (n : Int) (ms : List Int) (w : World) (e : Ending) (w' : World) : Prop :=
  ∃ pa pl pc, e = .returned (.tuple #[.slice pa pl pc, .int .i64 E]) ∧ Below w.heap.size w w' ∧ ((E ≠ 0 ∧ pl = 0) ∨ (E = 0 ∧ pl = ms.length ∧ Reads w' pa (pairR (ms.map fun m => (n % m, m)))))
def PartsPost (n : Int) (ms : List Int) (w : World) : Ending → World → Prop := PartsP (partsE n ms) n ms w
theorem restInfo : ElemRow Try.prog 53 (.agg #[.int .i64 0, .int .i64 0]) 2 16 := elemRow_of (by kernel_rfl) rfl (by omega)
theorem pairR_snoc (zs : List (Int × Int)) (z : Int × Int) : pairR (zs ++ [z]) = pairR zs ++ [.int .i64 z.1, .int .i64 z.2] := by simp [pairR, cells2]
set_option maxRecDepth 20000 in
set_option maxHeartbeats 1000000 in
theorem chinese_Parts (n : Int) (ms : List Int) (ao : Option Addr) (cap : Nat) (w : World) (hn' : n ≤ 9223372036854775807) (hl : ms.length ≤ 9223372036854775807) (hR : Hid (Reads w ao (ms.map (Value.int .i64)))) :
    Calls Try.prog 26 #[.int .i64 n, .slice ao ms.length cap] w (PartsPost n ms w) := by
  show Calls _ _ _ _ (PartsP (partsE n ms) n ms w)
  obtain ⟨E, hE⟩ : ∃ E, partsE n ms = E := ⟨_, rfl⟩
  have HE : Hid (E = if n < 0 then 1 else if 6 < ms.length then 2 else if ms.any mBad then 1 else 0) := by rw [← hE]; rfl
  rw [hE]
  clear hE
  obtain ⟨len, hlen⟩ : ∃ n, ms.length = n := ⟨_, rfl⟩
  rw [hlen] at hl HE ⊢
  have HL := Lib.hid hlen
  clear hlen
  by_cases h0 : n < 0
  · have d : decide (n < 0) = true := decide_eq_true h0
    have hfin : Hid (E = 1) := by show _ = _; rw [HE.out, if_pos h0]
    go_enter Try.func26, Try.ntmps26
    go_wp2_with fail
    go_ret2
    exact ⟨none, 0, 0, by rw [hfin.out]; rfl, Below.refl _ _, .inl ⟨by rw [hfin.out]; decide, rfl⟩⟩
  · have d : decide (n < 0) = false := decide_eq_false h0
    by_cases h6 : 6 < len
    · have d0 : decide ((6 : Int) < len) = true := by simp; omega
      have hfin : Hid (E = 2) := by show _ = _; rw [HE.out, if_neg h0, if_pos h6]
      go_enter Try.func26, Try.ntmps26
      go_wp2_with fail
      go_ret2
      exact ⟨none, 0, 0, by rw [hfin.out]; rfl, Below.refl _ _, .inl ⟨by rw [hfin.out]; decide, rfl⟩⟩
    · have d0 : decide ((6 : Int) < len) = false := by simp; omega
      have HE2 : Hid (E = if ms.any mBad then 1 else 0) := by show _ = _; rw [HE.out, if_neg h0, if_neg h6]
      go_enter Try.func26, Try.ntmps26
      go_wp2_with (first | (at_make; refine make_cap rfl _ _ 45 rfl w.heap.size 53 _ 2 16 Try.underlying45 restInfo _ _ _ len rfl rfl rfl ?m1 ?m2 ?m3 ?_))
      case m1 => omega
      case m2 => unfold maxLen; omega
      intro w1 hown1 hg1
      have hb1 : Hid (Below w.heap.size w w1) := below_of_grown hg1 (Nat.le_refl _) (by intro k hk; cases hk)
      have HO1 := Lib.hid hown1
      obtain ⟨v1, hv1⟩ : ∃ v, Value.slice (some ⟨w.heap.size, 0, none⟩) 0 len = v := ⟨_, rfl⟩
      rw [hv1] at HO1 ⊢
      clear hown1 hg1 hv1
      go_wp2_with fail
      go_loopw [6, 23] (fun vo vi wr => ∃ k : Nat, vi = .int .i64 k ∧ k ≤ len ∧ Hid (∀ j y, j < k → ms[j]? = some y → mBad y = false) ∧ Hid (wr.ownsRow w.heap.size 53 2 vo k (pairR ((ms.take k).map fun m => (n % m, m)))) ∧ Hid (Below w.heap.size w wr)) (fun _ vi _ => len - (intOf vi).toNat)
      case atStart => exact ⟨0, rfl, by omega, Lib.hid (by intro j y hj; omega), HO1, hb1⟩
      case round =>
        obtain ⟨k, rfl, hk, hno, hown, hb⟩ := hrel
        by_cases hkl : k < len
        · obtain ⟨m, hm⟩ : ∃ m, ms[k]? = some m := ⟨ms[k]'(by rw [HL.out]; exact hkl), List.getElem?_eq_getElem _⟩
          obtain ⟨b, o, rfl, c1⟩ := (hR.out.below hb.out) k (.int .i64 m) (by rw [List.getElem?_map, hm]; rfl)
          have HMM := Lib.hid hm
          have HM := Lib.hid (fun W => chinese_modulus m W)
          obtain ⟨t, ht⟩ : ∃ t, mBad m = t := ⟨_, rfl⟩
          rw [ht] at HM
          have HT := Lib.hid ht
          clear hm
          cases t
          · have hm1 : 1 ≤ m ∧ m ≤ 1000 := by unfold mBad at ht; simp only [decide_eq_false_iff_not] at ht; omega
            have HRO := Lib.hid (fun W => rest_Of n m W (by omega) hn' hm1.1 (by omega))
            have hno2 : Hid (∀ j y, j < k + 1 → ms[j]? = some y → mBad y = false) := by
              intro j y hj hy
              rcases Nat.lt_or_ge j k with h | h
              · exact hno.out j y h hy
              · obtain rfl : j = k := by omega
                rw [HMM.out] at hy; cases hy; exact HT.out
            have hv : Hid (pairR ((ms.take (k + 1)).map fun m => (n % m, m)) = pairR ((ms.take k).map fun m => (n % m, m)) ++ [.int .i64 (n % m), .int .i64 m]) := by
              show _ = _
              rw [List.take_add_one, HMM.out]
              simp only [Option.toList_some, List.map_append, List.map_cons, List.map_nil]
              rw [pairR_snoc]
            obtain ⟨r, hr⟩ : ∃ r, n % m = r := ⟨_, rfl⟩
            rw [hr] at HRO hv
            clear ht hr
            go_wp2_with fail
            refine (HM.out _).mono ?_
            rintro e1 w' ⟨rfl, rfl⟩
            go_wp2_with fail
            refine (HRO.out _).mono ?_
            rintro e1 w' ⟨rfl, q, rfl⟩
            have hown2 := Lib.hid (own_below hown.out (below_dr wr.heap.size wr q))
            have hb2 := Lib.hid (below_drewN hb.out q)
            obtain ⟨wq, hwq⟩ : ∃ wq, wr.drewN q = wq := ⟨_, rfl⟩
            rw [hwq] at hown2 hb2 ⊢
            clear hwq
            go_wp2_with (at_builtin; go_must (refine app_one rfl (.tmp 36) (.tmp 40) 45 rfl w.heap.size 53 _ 2 16 Try.underlying45 restInfo u6 k (pairR ((ms.take k).map fun m => (n % m, m))) (by rfl) hown2.out [.int .i64 r, .int .i64 m] (by rfl) rfl (by intro u hu; simp at hu; rcases hu with rfl | rfl <;> rfl) (by unfold maxLen; omega) (by omega) hb2.out.size ?_); intro v2 w2 hown3 hgr3 hb3)
            have hrow3 : Hid (w2.ownsRow w.heap.size 53 2 v2 (k + 1) (pairR ((ms.take (k + 1)).map fun m => (n % m, m)))) := by
              show World.ownsRow _ _ _ _ _ _ _
              rw [hv.out]; exact hown3
            have hb4 := Lib.hid (hb2.out.trans hb3)
            clear hown3 hgr3 hb3
            go_roundw
            case rel => exact ⟨k + 1, by go_num, by omega, hno2, hrow3, hb4⟩
            case measure => simp [intOf]; omega
          · have hfin : Hid (E = 1) := by
              show _ = _
              rw [HE2.out, if_pos (List.any_eq_true.2 ⟨m, List.mem_of_getElem? HMM.out, HT.out⟩)]
            clear ht
            go_wp2_with fail
            refine (HM.out _).mono ?_
            rintro e1 w' ⟨rfl, rfl⟩
            go_wp2_with fail
            go_ret2
            exact ⟨none, 0, 0, by rw [hfin.out]; rfl, hb.out, .inl ⟨by rw [hfin.out]; decide, rfl⟩⟩
        · have hk2 : k = ms.length := by rw [HL.out]; omega
          have hfin : Hid (E = 0) := by
            have hany : ms.any mBad = false := by
              rw [List.any_eq_false]
              intro z hz
              obtain ⟨j, hj, he⟩ := List.mem_iff_getElem.1 hz
              have := hno.out j z (by omega) (by rw [List.getElem?_eq_getElem hj, he])
              rw [this]; decide
            show _ = _
            rw [HE2.out, if_neg (by rw [hany]; decide)]
          obtain ⟨pa, pc, rfl, hRR, _, _⟩ := own_reads hown.out
          have hRR2 : Hid (Reads wr pa (pairR (ms.map fun m => (n % m, m)))) := by
            show Reads _ _ _
            rw [hk2, List.take_length] at hRR; exact hRR
          have hkl2 : k = len := by omega
          clear hRR hk2
          go_wp2_with fail
          go_ret2
          exact ⟨pa, k, pc, by rw [hfin.out]; rfl, hb.out, .inr ⟨hfin.out, by rw [HL.out]; exact hkl2, hRR2.out⟩⟩
end Go.Proofs.Ytkincmkmkfiglaa
