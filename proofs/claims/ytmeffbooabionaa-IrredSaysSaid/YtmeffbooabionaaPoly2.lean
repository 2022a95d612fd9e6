/- slices.Clone at ints, poly.checks, poly.Trim, poly.Product. -/
import Derived.Test.YtmeffbooabionaaPoly1
import Derived.Test.YtmeffbooabionaaRow2
import Derived.Test.YtmeffbooabionaaClipI
set_option linter.unusedVariables false
set_option linter.unusedSimpArgs false
namespace Go.Proofs.Ytmeffbooabionaa
open Go.RowKit

theorem intRow : ElemRow Try.prog 3 (.int .i64 0) 1 8 := elemRow_of (by kernel_rfl) rfl (by omega)
def iV (s : Nat → Int) (j : Nat) : Value := .int .i64 (s j)
theorem map_iV (f : List Int) : f.map (Value.int .i64) = rowF f.length (iV (co f)) := by
  apply List.ext_getElem?
  intro j
  by_cases h : j < f.length
  · rw [rowF_get _ h, List.getElem?_map, co_some h]; rfl
  · rw [List.getElem?_eq_none (by simp; omega), List.getElem?_eq_none (by rw [rowF_length]; omega)]
def mkL (n : Nat) (s : Nat → Int) : List Int := (List.range n).map s
theorem mkL_length (n : Nat) (s : Nat → Int) : (mkL n s).length = n := by simp [mkL]
theorem co_mkL (n : Nat) (s : Nat → Int) (k : Nat) : co (mkL n s) k = if k < n then s k else 0 := by
  unfold co mkL
  by_cases h : k < n
  · rw [if_pos h]; simp [h]
  · rw [if_neg h, List.getElem?_eq_none (by simp; omega)]; rfl
theorem map_mkL (n : Nat) (s : Nat → Int) : (mkL n s).map (Value.int .i64) = rowF n (iV s) := by
  unfold mkL rowF
  rw [List.map_map]; rfl
/-- What is handed back where a list is. -/
def ListPost (base : Nat) (zs : List Int) (w : World) (e : Ending) (w' : World) : Prop :=
  ∃ v, e = .returned v ∧ w'.ownsRow base 3 1 v zs.length (zs.map (Value.int .i64)) ∧ Below base w w'
set_option maxHeartbeats 1000000 in
set_option maxRecDepth 20000 in
theorem clone_int (zs : List Int) (n : Nat) (ao : Option Addr) (cap base : Nat) (w : World) (hn : n ≤ 1000000000) (hl : zs.length = n) (hnone : ao = none → n = 0 ∧ cap = 0) (hR : Hid (Reads w ao (zs.map (Value.int .i64)))) (hb : base ≤ w.heap.size) :
    Calls Try.prog 73 #[.slice ao n cap] w (ListPost base zs w) := by
  have HLn := Lib.hid hl
  have HL : Hid ((zs.map (Value.int .i64)).length = n * 1) := by show _ = _; rw [List.length_map]; omega
  have h1 : Hid (∀ u ∈ zs.map (Value.int .i64), u.oneCell' = true) := ints_one .i64 zs
  have HN := Lib.hid hnone
  cases ao with
  | none =>
    obtain ⟨rfl, rfl⟩ := hnone rfl
    have hx : Hid (zs = []) := List.eq_nil_of_length_eq_zero hl
    have heq := Lib.run_eql_slice_nil (P := Try.prog) w 32 3 none 0 0 0 0 Try.underlying32
    clear hl hnone
    go_enter Try.func73, Try.ntmps73
    go_wp2_with fail
    go_ret
    refine ⟨_, rfl, ?_, Below.refl _ _⟩
    rw [hx.out]; exact World.ownsRow_nil _ _ _ _
  | some a =>
    have heq := Lib.run_eql_slice_nil (P := Try.prog) w 32 3 (some a) n cap 0 0 Try.underlying32
    clear hl hnone
    have hown : Hid ((w.alloc (.cells #[] 3)).ownsRow base 3 1 (.slice (some ⟨w.heap.size, 0, none⟩) 0 0) 0 []) := own_lit w base 3 [] hb (by unfold maxLen; simp)
    have hR2 : Hid (Reads (w.alloc (.cells #[] 3)) (some a) (zs.map (Value.int .i64))) := hR.out.alloc _
    have hbel : Hid (Below base w (w.alloc (.cells #[] 3))) := (Below.refl _ _).alloc hb _
    go_enter Try.func73, Try.ntmps73
    go_wp2_with (at_builtin; go_must (refine app_all rfl (.tmp 5) (.tmp 6) _ rfl base 3 _ 1 8 Try.underlying32 intRow _ 0 [] (by rfl) hown.out (some a) n cap (zs.map (Value.int .i64)) (by rfl) (fun h => by cases h) HL.out hR2.out h1.out (by unfold maxLen; omega) (by omega) (Nat.le_trans hb hbel.out.size) ?_); intro v2 w2 hown2 hgr2 hb2)
    go_ret
    refine ⟨v2, rfl, ?_, hbel.out.trans hb2⟩
    rw [HLn.out]
    simpa using hown2
theorem reads_take {w : World} {ao : Option Addr} {zs : List Int} (h : Reads w ao (zs.map (Value.int .i64))) (m : Nat) : Reads w ao ((zs.take m).map (Value.int .i64)) := by
  intro j u hu
  rw [List.getElem?_map, List.getElem?_take] at hu
  split at hu
  · exact h j u (by rw [List.getElem?_map]; exact hu)
  · simp at hu
set_option maxRecDepth 20000 in
set_option maxHeartbeats 1000000 in
theorem poly_Trim (zs : List Int) (n : Nat) (ao : Option Addr) (cap base : Nat) (w : World) (hn : n ≤ 1000000000) (hl : zs.length = n) (hc : n ≤ cap) (hc2 : cap ≤ 9223372036854775807) (hnone : ao = none → n = 0 ∧ cap = 0) (hR : Hid (Reads w ao (zs.map (Value.int .i64)))) (hb : base ≤ w.heap.size) :
    Calls Try.prog 97 #[.slice ao n cap] w (ListPost base (trim zs) w) := by
  have HL := Lib.hid hl
  have HN := Lib.hid hnone
  have HB := Lib.hid hb
  clear hl hnone hb
  go_enter Try.func97, Try.ntmps97
  go_wp2_with fail
  go_loop [0] (fun v => ∃ m : Nat, v = .slice ao m cap ∧ m ≤ n ∧ Hid (tlen zs ≤ m)) (fun v => match v with | .slice _ m _ => m | _ => 0)
  case atStart => exact ⟨n, rfl, Nat.le_refl _, by show _ ≤ _; rw [← HL.out]; exact tlen_le zs⟩
  case round =>
    obtain ⟨m, rfl, hm, ht⟩ := hrel
    have hfinal : (m = 0 ∨ co zs (m - 1) ≠ 0) → Hid (m = tlen zs) := by
      intro h
      show _ = _
      have := ht.out
      rcases h with h | h
      · omega
      · have := tlen_gt_of h; omega
    by_cases h0 : 0 < m
    · have d1 : decide ((0 : Int) < m) = true := by simp; omega
      obtain ⟨j, hj⟩ : ∃ j, m - 1 = j := ⟨_, rfl⟩
      obtain ⟨x, hx⟩ : ∃ x, co zs j = x := ⟨_, rfl⟩
      obtain ⟨b, o, rfl, hcx⟩ := hR.out j (.int .i64 x) (by rw [List.getElem?_map, co_some (by rw [HL.out]; omega), hx]; rfl)
      have hw1 : IntKind.i64.wrap ((m : Int) - 1) = j := by rw [show (m : Int) - 1 = j by omega]; exact IntWalk.i64_in _ (by omega)
      have j0 : (0 : Int) ≤ j := by omega
      have j1 : (j : Int) < m := by omega
      have j2 : (j : Int) ≤ cap := by omega
      cases hz : (x == 0) with
      | true =>
        have ht2 : Hid (tlen zs ≤ j) := by
          refine tlen_le_of fun k hk => ?_
          by_cases he : k = j
          · subst he; rw [hx]; simpa using hz
          · exact co_ge zs k (by have := ht.out; omega)
        have hjm : Hid (j < m) := by show _ < _; omega
        clear hfinal hx
        go_wp2_with fail
        go_round
        case rel => exact ⟨j, by simp, by omega, ht2⟩
        case measure => have := hjm.out; simpa using this
      | false =>
        have hfin := hfinal (.inr (by rw [hj, hx]; simpa using hz))
        have hR2 : Hid (Reads w (some ⟨b, o, none⟩) ((trim zs).map (Value.int .i64))) := reads_take hR.out _
        have hl2 : (trim zs).length = m := by rw [length_trim, hfin.out]
        clear hfinal hx hj
        go_wp2_with (go_at_call 73; refine (clone_int (trim zs) m (some ⟨b, o, none⟩) cap base _ (by omega) hl2 (fun h => by cases h) hR2 HB.out).mono ?_; rintro e w' ⟨v, rfl, hv⟩)
        go_ret
        exact ⟨v, rfl, hv⟩
    · have d1 : decide ((0 : Int) < m) = false := by simp; omega
      have hfin := hfinal (.inl (by omega))
      have hR2 : Hid (Reads w ao ((trim zs).map (Value.int .i64))) := reads_take hR.out _
      have hl2 : (trim zs).length = m := by rw [length_trim, hfin.out]
      have HN2 : ao = none → m = 0 ∧ cap = 0 := fun h => ⟨by omega, (HN.out h).2⟩
      clear hfinal
      go_wp2_with (go_at_call 73; refine (clone_int (trim zs) m ao cap base _ (by omega) hl2 HN2 hR2 HB.out).mono ?_; rintro e w' ⟨v, rfl, hv⟩)
      go_ret
      exact ⟨v, rfl, hv⟩
end Go.Proofs.Ytmeffbooabionaa
