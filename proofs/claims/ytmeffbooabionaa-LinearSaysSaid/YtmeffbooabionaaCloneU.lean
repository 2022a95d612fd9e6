/- slices.Clone at uint16. -/
import Derived.Test.YtmeffbooabionaaRows
import Derived.Test.YtmeffbooabionaaRow
namespace Go.Proofs.Ytmeffbooabionaa
open Go.RowKit

theorem u16Info : ElemRow Try.prog 29 (.int .u16 0) 1 2 := elemRow_of (by kernel_rfl) rfl (by omega)
def ClonePostU (base : Nat) (xs : List Value) (n : Nat) (w : World) (e : Ending) (w' : World) : Prop :=
  ∃ v, e = .returned v ∧ w'.ownsRow base 29 1 v n xs ∧ Below base w w'
set_option maxHeartbeats 1000000 in
set_option maxRecDepth 20000 in
theorem clone_u16 (n : Nat) (xs : List Value) (ao : Option Addr) (cap base : Nat) (w : World) (hn : n ≤ 1000000000) (hl : xs.length = n) (hnone : ao = none → n = 0 ∧ cap = 0) (hR : Hid (Reads w ao xs)) (h1 : Hid (∀ u ∈ xs, u.oneCell' = true)) (hb : base ≤ w.heap.size) :
    Calls Try.prog 68 #[.slice ao n cap] w (ClonePostU base xs n w) := by
  have HL : Hid (xs.length = n * 1) := by show _ = _; omega
  have HN := Lib.hid hnone
  cases ao with
  | none =>
    obtain ⟨rfl, rfl⟩ := hnone rfl
    have hx : Hid (xs = []) := List.eq_nil_of_length_eq_zero hl
    have heq := Lib.run_eql_slice_nil (P := Try.prog) w 22 29 none 0 0 0 0 Try.underlying22
    clear hl hnone
    go_enter Try.func68, Try.ntmps68
    go_wp2_with fail
    go_ret
    refine ⟨_, rfl, ?_, Below.refl _ _⟩
    rw [hx.out]; exact World.ownsRow_nil _ _ _ _
  | some a =>
    have heq := Lib.run_eql_slice_nil (P := Try.prog) w 22 29 (some a) n cap 0 0 Try.underlying22
    clear hl hnone
    have hown : Hid ((w.alloc (.cells #[] 29)).ownsRow base 29 1 (.slice (some ⟨w.heap.size, 0, none⟩) 0 0) 0 []) := own_lit w base 29 [] hb (by unfold maxLen; simp)
    have hR2 : Hid (Reads (w.alloc (.cells #[] 29)) (some a) xs) := hR.out.alloc _
    have hbel : Hid (Below base w (w.alloc (.cells #[] 29))) := (Below.refl _ _).alloc hb _
    go_enter Try.func68, Try.ntmps68
    go_wp2_with (at_builtin; go_must (refine app_all rfl (.tmp 5) (.tmp 6) _ rfl base 29 _ 1 2 Try.underlying22 u16Info _ 0 [] (by rfl) hown.out (some a) n cap xs (by rfl) (fun h => by cases h) HL.out hR2.out h1.out (by unfold maxLen; omega) (by omega) (Nat.le_trans hb hbel.out.size) ?_); intro v2 w2 hown2 hgr2 hb2)
    go_ret
    refine ⟨v2, rfl, ?_, hbel.out.trans hb2⟩
    simpa using hown2
end Go.Proofs.Ytmeffbooabionaa
