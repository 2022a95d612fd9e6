/- PointsErr of the reference: a map counts the places. -/
import Derived.Test.YtiljppeamdoocaaPoints1
namespace Go.Proofs.Ytiljppeamdoocaa
open Go.RowKit Go.Maps

theorem intKeyed : Keyed Try.prog 3 := int_keyed Try.underlying3
theorem zeroInt (w : World) : (zeroValue 3).run Try.prog w = .ok (.int .i64 0) w := by kernel_rfl
abbrev D0 := DataW Unit
abbrev li (a : Int) : D0 := .lit (.int .i64 a)
theorem li_inj {a b : Int} (h : li a = li b) : a = b := by injection h with h; injection h
/-- What the map reads as when the first i points are taken in: each place once. -/
def SeenD (l : Pts) (i : Nat) (D : D0) : Prop := (∀ (j : Nat) (y : Int × Int), j < i → l[j]? = some y → D.atKey (.int .i64 y.1) (li 0) = li 1) ∧ (∀ v : Int, (∀ (j : Nat) (y : Int × Int), j < i → l[j]? = some y → y.1 ≠ v) → D.atKey (.int .i64 v) (li 0) = li 0)
theorem SeenD.start (l : Pts) : SeenD l 0 (.map []) := ⟨fun j y hj => by omega, fun v _ => rfl⟩
theorem SeenD.old {l : Pts} {i : Nat} {D : D0} (h : SeenD l i D) {x : Int} (hd : dupP l i x = true) : D.atKey (.int .i64 x) (li 0) = li 1 := by
  obtain ⟨j, y, hj, hy, rfl⟩ := dupP_iff.1 hd
  exact h.1 j y hj hy
theorem SeenD.fresh {l : Pts} {i : Nat} {D : D0} (h : SeenD l i D) {x : Int} (hd : dupP l i x = false) : D.atKey (.int .i64 x) (li 0) = li 0 :=
  h.2 x fun j y hj hy he => by
    rw [dupP_iff.2 ⟨j, y, hj, hy, he⟩] at hd
    cases hd
theorem SeenD.put {l : Pts} {i : Nat} {D : D0} (h : SeenD l i D) (hm : IsMap D) {z : Int × Int} (hz : l[i]? = some z) (hd : dupP l i z.1 = false) : SeenD l (i + 1) (D.put (.int .i64 z.1) (li 1)) := by
  have hne : ∀ (j : Nat) (y : Int × Int), j < i → l[j]? = some y → y.1 ≠ z.1 := fun j y hj hy he => by
    rw [dupP_iff.2 ⟨j, y, hj, hy, he⟩] at hd
    cases hd
  refine ⟨fun j y hj hy => ?_, fun v hv => ?_⟩
  · by_cases he : j = i
    · subst he
      rw [hz] at hy
      cases hy
      exact atKey_put_same (k := .int .i64 z.1) hm trivial _ _
    · rw [atKey_put_other (fun e => hne j y (by omega) hy (by injection e))]
      exact h.1 j y (by omega) hy
  · rw [atKey_put_other (fun e => hv i z (by omega) hz (by injection e with _ e; exact e.symm))]
    exact h.2 v fun j y hj hy => hv j y (by omega) hy
theorem wf_small {p : Int} (hp : p ≤ 997) {a : Int} (h0 : 0 ≤ a) (h1 : a < p) : (Lit.int .i64 a).wf = true := by
  simp [Lit.wf, IntKind.min, IntKind.max, IntKind.signed, IntKind.bits]
  omega
set_option maxRecDepth 100000 in
set_option maxHeartbeats 2000000 in
theorem ref_PointsErr (p : Int) (l : Pts) (n : Nat) (ao : Option Addr) (cap : Nat) (w : World) (hp : (Lit.int .i64 p).wf = true) (hl : l.length = n) (h63 : n ≤ 9223372036854775807) (hR : Hid (Reads w ao (cells2 (l.map pV)))) :
    Calls Try.prog 48 #[.int .i64 p, .slice ao n cap] w fun e w' => e = .returned (.int .i64 (ptsE p l)) ∧ Below w.heap.size w w' := by
  have HL := Lib.hid hl
  have HP := Lib.hid hp
  have hmm := @run_makeMap Try.prog
  clear hl hp
  rcases fldE_cases p with ⟨hf, p1, p2, p3⟩ | hf
  · have HF := Lib.hid hf
    clear p3
    by_cases h12 : 12 < n
    · have hE : Hid (ptsE p l = 2) := by show _ = _; unfold ptsE; rw [HF.out, if_neg (by omega), if_pos (by rw [HL.out]; exact h12)]
      have d1 : decide ((12 : Int) < n) = true := by simp; omega
      clear hf h12
      go_enter Try.func48, Try.ntmps48
      go_wp2_with (go_at_call 38; refine (ref_FieldErr p _ HP.out).mono ?_; rw [HF.out]; rintro e w' ⟨rfl, rfl⟩)
      go_ret
      exact ⟨by rw [hE.out]; rfl, Below.refl _ _⟩
    · have d1 : decide ((12 : Int) < n) = false := by simp; omega
      have hE : Hid (ptsE p l = ptsI p l (l.length - 0) 0) := by show _ = _; unfold ptsE; rw [HF.out, if_neg (by omega), if_neg (by rw [HL.out]; exact h12)]; rfl
      have hn12 : n ≤ 12 := by omega
      clear hf
      go_enter Try.func48, Try.ntmps48
      go_wp2_with (go_at_call 38; refine (ref_FieldErr p _ HP.out).mono ?_; rw [HF.out]; rintro e w' ⟨rfl, rfl⟩)
      go_loopw [20] (fun vi wr => ∃ (i : Nat) (D : D0), vi = .int .i64 i ∧ i ≤ n ∧ Hid (ptsE p l = ptsI p l (l.length - i) i) ∧ Hid (wr.ownsMap Try.prog 3 (plainElem Try.prog 3) w'.heap.size i D) ∧ Hid (SeenD l i D) ∧ Hid (Below w'.heap.size w' wr)) (fun vi _ => n - (intOf vi).toNat)
      case atStart => exact ⟨0, .map [], rfl, by omega, hE, World.ownsMap_made _ _ _ _, SeenD.start l, (Below.refl _ _).alloc (Nat.le_refl _) _⟩
      case round =>
        obtain ⟨i, D, rfl, hin, he, hown, hseen, hb⟩ := hrel
        by_cases hi : i < n
        · obtain ⟨⟨x, y⟩, hz⟩ : ∃ z, l[i]? = some z := ⟨l[i]'(by rw [HL.out]; exact hi), List.getElem?_eq_getElem _⟩
          obtain ⟨b, o, rfl, c1, c2⟩ := pair_cells (hR.out.below hb.out) hz
          dsimp only at c1 c2
          have hst := ptsI_step (p := p) hz
          have HZ := Lib.hid hz
          have hb2 : Below w'.heap.size w' (wr.alloc (.cells #[.int .i64 x, .int .i64 y] 71)) := hb.out.trans ((Below.refl _ wr).alloc hb.out.size _)
          have HB2 := Lib.hid hb2
          have hown2 := Lib.hid (hown.out.alloc (.cells #[.int .i64 x, .int .i64 y] 71))
          cases hbd : badP p (x, y) with
          | true =>
            have hE1 : Hid (ptsE p l = 1) := by show _ = _; rw [he.out, hst, if_pos hbd]
            have hbd2 : x < 0 ∨ p ≤ x ∨ y < 0 ∨ p ≤ y := by
              unfold badP at hbd
              simpa using hbd
            clear hst hbd hz hb2 hown
            rcases Int.lt_trichotomy x y with o1 | o1 | o1
            · have o2 : ¬ y < x := by omega
              have hs : decide (x < 0) = true ∨ (decide (x < 0) = false ∧ decide (p ≤ y) = true) := by
                simp only [decide_eq_true_eq, decide_eq_false_iff_not]
                omega
              clear hbd2
              rcases hs with e1 | ⟨e1, e2⟩
              all_goals
                go_wp2_with fail
                go_ret
                exact ⟨by rw [hE1.out]; rfl, HB2.out⟩
            · obtain rfl := o1
              have o2 : ¬ x < x := by omega
              have hs : decide (x < 0) = true ∨ (decide (x < 0) = false ∧ decide (p ≤ x) = true) := by
                simp only [decide_eq_true_eq, decide_eq_false_iff_not]
                omega
              clear hbd2
              rcases hs with e1 | ⟨e1, e2⟩
              all_goals
                go_wp2_with fail
                go_ret
                exact ⟨by rw [hE1.out]; rfl, HB2.out⟩
            · have o2 : ¬ x < y := by omega
              have hs : decide (y < 0) = true ∨ (decide (y < 0) = false ∧ decide (p ≤ x) = true) := by
                simp only [decide_eq_true_eq, decide_eq_false_iff_not]
                omega
              clear hbd2
              rcases hs with e1 | ⟨e1, e2⟩
              all_goals
                go_wp2_with fail
                go_ret
                exact ⟨by rw [hE1.out]; rfl, HB2.out⟩
          | false =>
            obtain ⟨x0, x1, y0, y1⟩ := badP_false hbd
            dsimp only at x0 x1 y0 y1
            have hkey : keyOf Try.prog 3 (.int .i64 x) = some (.int .i64 x) := keyOf_int_mk Try.underlying3 (wf_small p2 x0 x1)
            have hm := hown.out.isMap
            have hBlt := hown.out.lt
            have hw1 : (Lit.int .i64 1).wf = true := by decide
            have hw2 : (Lit.int .i64 2).wf = true := by decide
            cases hd : dupP l i x with
            | true =>
              have hE1 : Hid (ptsE p l = 6) := by show _ = _; rw [he.out, hst, if_neg (by rw [hbd]; simp), if_pos hd]
              have hold := Lib.hid (hseen.out.old hd)
              have hp2 := Lib.hid (atKey_put_same (D := D) (k := .int .i64 x) hm trivial (li 2) (li 0))
              clear hst hbd hz hb2 hd hm hown
              rcases Int.lt_trichotomy x y with o1 | o1 | o1
              · have o2 : ¬ y < x := by omega
                have e1 : decide (x < 0) = false := by simp; omega
                have e2 : decide (p ≤ y) = false := by simp; omega
                go_wp2_with (first | (at_lookup; refine wpList_lookup_own_int _ rfl _ _ 117 rfl 3 3 .i64 intKeyed Try.underlying117 Try.underlying3 (zeroInt _) w'.heap.size _ _ rfl hown3.out _ _ rfl hkey ?_; intro c hat hwc; obtain rfl : c = 2 := li_inj (hat.symm.trans hp2.out); clear hat hwc) | (at_lookup; refine wpList_lookup_own_int _ rfl _ _ 117 rfl 3 3 .i64 intKeyed Try.underlying117 Try.underlying3 (zeroInt _) w'.heap.size i _ rfl hown2.out _ _ rfl hkey ?_; intro c hat hwc; obtain rfl : c = 1 := li_inj (hat.symm.trans hold.out); clear hat hwc) | (at_mapUpdate; refine wpList_mapUpdate_own _ rfl _ _ _ 117 rfl 3 3 intKeyed Try.underlying117 _ w'.heap.size i _ rfl hown2.out (by unfold maxLen; omega) _ _ _ rfl rfl hkey (li 2) [] (plainElem_int Try.underlying3 hw2) ?_; intro w3 hown3' hgrow; have hown3 := Lib.hid hown3'; have HB3 := Lib.hid (HB2.out.grown hgrow HB2.out.size (fun j hj => by cases hj; exact Nat.le_refl _)); have cb1 := heap_cell (heap_grown_old hgrow (heap_alloc_new wr (.cells #[.int .i64 x, .int .i64 y] 71)) (fun e => by injection e with e; omega)) 0; clear hown3' hgrow))
                go_ret
                exact ⟨by rw [hE1.out]; rfl, HB3.out⟩
              · obtain rfl := o1
                have o2 : ¬ x < x := by omega
                have e1 : decide (x < 0) = false := by simp; omega
                have e2 : decide (p ≤ x) = false := by simp; omega
                go_wp2_with (first | (at_lookup; refine wpList_lookup_own_int _ rfl _ _ 117 rfl 3 3 .i64 intKeyed Try.underlying117 Try.underlying3 (zeroInt _) w'.heap.size _ _ rfl hown3.out _ _ rfl hkey ?_; intro c hat hwc; obtain rfl : c = 2 := li_inj (hat.symm.trans hp2.out); clear hat hwc) | (at_lookup; refine wpList_lookup_own_int _ rfl _ _ 117 rfl 3 3 .i64 intKeyed Try.underlying117 Try.underlying3 (zeroInt _) w'.heap.size i _ rfl hown2.out _ _ rfl hkey ?_; intro c hat hwc; obtain rfl : c = 1 := li_inj (hat.symm.trans hold.out); clear hat hwc) | (at_mapUpdate; refine wpList_mapUpdate_own _ rfl _ _ _ 117 rfl 3 3 intKeyed Try.underlying117 _ w'.heap.size i _ rfl hown2.out (by unfold maxLen; omega) _ _ _ rfl rfl hkey (li 2) [] (plainElem_int Try.underlying3 hw2) ?_; intro w3 hown3' hgrow; have hown3 := Lib.hid hown3'; have HB3 := Lib.hid (HB2.out.grown hgrow HB2.out.size (fun j hj => by cases hj; exact Nat.le_refl _)); have cb1 := heap_cell (heap_grown_old hgrow (heap_alloc_new wr (.cells #[.int .i64 x, .int .i64 x] 71)) (fun e => by injection e with e; omega)) 0; clear hown3' hgrow))
                go_ret
                exact ⟨by rw [hE1.out]; rfl, HB3.out⟩
              · have o2 : ¬ x < y := by omega
                have e1 : decide (y < 0) = false := by simp; omega
                have e2 : decide (p ≤ x) = false := by simp; omega
                go_wp2_with (first | (at_lookup; refine wpList_lookup_own_int _ rfl _ _ 117 rfl 3 3 .i64 intKeyed Try.underlying117 Try.underlying3 (zeroInt _) w'.heap.size _ _ rfl hown3.out _ _ rfl hkey ?_; intro c hat hwc; obtain rfl : c = 2 := li_inj (hat.symm.trans hp2.out); clear hat hwc) | (at_lookup; refine wpList_lookup_own_int _ rfl _ _ 117 rfl 3 3 .i64 intKeyed Try.underlying117 Try.underlying3 (zeroInt _) w'.heap.size i _ rfl hown2.out _ _ rfl hkey ?_; intro c hat hwc; obtain rfl : c = 1 := li_inj (hat.symm.trans hold.out); clear hat hwc) | (at_mapUpdate; refine wpList_mapUpdate_own _ rfl _ _ _ 117 rfl 3 3 intKeyed Try.underlying117 _ w'.heap.size i _ rfl hown2.out (by unfold maxLen; omega) _ _ _ rfl rfl hkey (li 2) [] (plainElem_int Try.underlying3 hw2) ?_; intro w3 hown3' hgrow; have hown3 := Lib.hid hown3'; have HB3 := Lib.hid (HB2.out.grown hgrow HB2.out.size (fun j hj => by cases hj; exact Nat.le_refl _)); have cb1 := heap_cell (heap_grown_old hgrow (heap_alloc_new wr (.cells #[.int .i64 x, .int .i64 y] 71)) (fun e => by injection e with e; omega)) 0; clear hown3' hgrow))
                go_ret
                exact ⟨by rw [hE1.out]; rfl, HB3.out⟩
            | false =>
              have hE1 : Hid (ptsE p l = ptsI p l (l.length - (i + 1)) (i + 1)) := by show _ = _; rw [he.out, hst, if_neg (by rw [hbd]; simp), if_neg (by rw [hd]; simp)]
              have hold := Lib.hid (hseen.out.fresh hd)
              have hnew := Lib.hid (hseen.out.put hm hz hd)
              have hp2 := Lib.hid (atKey_put_same (D := D) (k := .int .i64 x) hm trivial (li 1) (li 0))
              clear hst hbd hz hb2 hd hm hown
              rcases Int.lt_trichotomy x y with o1 | o1 | o1
              · have o2 : ¬ y < x := by omega
                have e1 : decide (x < 0) = false := by simp; omega
                have e2 : decide (p ≤ y) = false := by simp; omega
                go_wp2_with (first | (at_lookup; refine wpList_lookup_own_int _ rfl _ _ 117 rfl 3 3 .i64 intKeyed Try.underlying117 Try.underlying3 (zeroInt _) w'.heap.size _ _ rfl hown3.out _ _ rfl hkey ?_; intro c hat hwc; obtain rfl : c = 1 := li_inj (hat.symm.trans hp2.out); clear hat hwc) | (at_lookup; refine wpList_lookup_own_int _ rfl _ _ 117 rfl 3 3 .i64 intKeyed Try.underlying117 Try.underlying3 (zeroInt _) w'.heap.size i _ rfl hown2.out _ _ rfl hkey ?_; intro c hat hwc; obtain rfl : c = 0 := li_inj (hat.symm.trans hold.out); clear hat hwc) | (at_mapUpdate; refine wpList_mapUpdate_own _ rfl _ _ _ 117 rfl 3 3 intKeyed Try.underlying117 _ w'.heap.size i _ rfl hown2.out (by unfold maxLen; omega) _ _ _ rfl rfl hkey (li 1) [] (plainElem_int Try.underlying3 hw1) ?_; intro w3 hown3' hgrow; have hown3 := Lib.hid hown3'; have HB3 := Lib.hid (HB2.out.grown hgrow HB2.out.size (fun j hj => by cases hj; exact Nat.le_refl _)); have cb1 := heap_cell (heap_grown_old hgrow (heap_alloc_new wr (.cells #[.int .i64 x, .int .i64 y] 71)) (fun e => by injection e with e; omega)) 0; clear hown3' hgrow))
                go_roundw
                case rel => exact ⟨i + 1, _, by go_num, by omega, hE1, hown3, hnew, HB3⟩
                case measure => simp [intOf]; omega
              · obtain rfl := o1
                have o2 : ¬ x < x := by omega
                have e1 : decide (x < 0) = false := by simp; omega
                have e2 : decide (p ≤ x) = false := by simp; omega
                go_wp2_with (first | (at_lookup; refine wpList_lookup_own_int _ rfl _ _ 117 rfl 3 3 .i64 intKeyed Try.underlying117 Try.underlying3 (zeroInt _) w'.heap.size _ _ rfl hown3.out _ _ rfl hkey ?_; intro c hat hwc; obtain rfl : c = 1 := li_inj (hat.symm.trans hp2.out); clear hat hwc) | (at_lookup; refine wpList_lookup_own_int _ rfl _ _ 117 rfl 3 3 .i64 intKeyed Try.underlying117 Try.underlying3 (zeroInt _) w'.heap.size i _ rfl hown2.out _ _ rfl hkey ?_; intro c hat hwc; obtain rfl : c = 0 := li_inj (hat.symm.trans hold.out); clear hat hwc) | (at_mapUpdate; refine wpList_mapUpdate_own _ rfl _ _ _ 117 rfl 3 3 intKeyed Try.underlying117 _ w'.heap.size i _ rfl hown2.out (by unfold maxLen; omega) _ _ _ rfl rfl hkey (li 1) [] (plainElem_int Try.underlying3 hw1) ?_; intro w3 hown3' hgrow; have hown3 := Lib.hid hown3'; have HB3 := Lib.hid (HB2.out.grown hgrow HB2.out.size (fun j hj => by cases hj; exact Nat.le_refl _)); have cb1 := heap_cell (heap_grown_old hgrow (heap_alloc_new wr (.cells #[.int .i64 x, .int .i64 x] 71)) (fun e => by injection e with e; omega)) 0; clear hown3' hgrow))
                go_roundw
                case rel => exact ⟨i + 1, _, by go_num, by omega, hE1, hown3, hnew, HB3⟩
                case measure => simp [intOf]; omega
              · have o2 : ¬ x < y := by omega
                have e1 : decide (y < 0) = false := by simp; omega
                have e2 : decide (p ≤ x) = false := by simp; omega
                go_wp2_with (first | (at_lookup; refine wpList_lookup_own_int _ rfl _ _ 117 rfl 3 3 .i64 intKeyed Try.underlying117 Try.underlying3 (zeroInt _) w'.heap.size _ _ rfl hown3.out _ _ rfl hkey ?_; intro c hat hwc; obtain rfl : c = 1 := li_inj (hat.symm.trans hp2.out); clear hat hwc) | (at_lookup; refine wpList_lookup_own_int _ rfl _ _ 117 rfl 3 3 .i64 intKeyed Try.underlying117 Try.underlying3 (zeroInt _) w'.heap.size i _ rfl hown2.out _ _ rfl hkey ?_; intro c hat hwc; obtain rfl : c = 0 := li_inj (hat.symm.trans hold.out); clear hat hwc) | (at_mapUpdate; refine wpList_mapUpdate_own _ rfl _ _ _ 117 rfl 3 3 intKeyed Try.underlying117 _ w'.heap.size i _ rfl hown2.out (by unfold maxLen; omega) _ _ _ rfl rfl hkey (li 1) [] (plainElem_int Try.underlying3 hw1) ?_; intro w3 hown3' hgrow; have hown3 := Lib.hid hown3'; have HB3 := Lib.hid (HB2.out.grown hgrow HB2.out.size (fun j hj => by cases hj; exact Nat.le_refl _)); have cb1 := heap_cell (heap_grown_old hgrow (heap_alloc_new wr (.cells #[.int .i64 x, .int .i64 y] 71)) (fun e => by injection e with e; omega)) 0; clear hown3' hgrow))
                go_roundw
                case rel => exact ⟨i + 1, _, by go_num, by omega, hE1, hown3, hnew, HB3⟩
                case measure => simp [intOf]; omega
        · have hE1 : Hid (ptsE p l = 0) := by
            show _ = _
            rw [he.out, show i = l.length by rw [HL.out]; omega]; exact ptsI_end p l
          go_wp2_with fail
          go_ret
          exact ⟨by rw [hE1.out]; rfl, hb.out⟩
  · have HF := Lib.hid hf
    have hE : Hid (ptsE p l = 1) := by show _ = _; unfold ptsE; rw [HF.out, if_pos rfl]
    clear hf
    go_enter Try.func48, Try.ntmps48
    go_wp2_with (go_at_call 38; refine (ref_FieldErr p _ HP.out).mono ?_; rw [HF.out]; rintro e w' ⟨rfl, rfl⟩)
    go_ret
    exact ⟨by rw [hE.out]; rfl, Below.refl _ _⟩
end Go.Proofs.Ytiljppeamdoocaa
