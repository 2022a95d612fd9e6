/- slices.Clone at ints, poly.checks, poly.Trim, poly.Product. -/
import Derived.Test.YtmgpohomgblkkaaDoorPoly1
import Derived.Test.YtmgpohomgblkkaaDoorRow2
import Derived.Test.YtmgpohomgblkkaaDoorClipI
namespace Go.Proofs.YtmgpohomgblkkaaDoor
open Go.RowKit

theorem intRow : ElemRow Tryd.prog 3 (.int .i64 0) 1 8 := elemRow_of (by kernel_rfl) rfl (by omega)
def iV (s : Nat → Int) (j : Nat) : Value := .int .i64 (s j)
theorem map_iV (f : List Int) : f.map (Value.int .i64) = rowF f.length (iV (co f)) := by
  apply List.ext_getElem?
  intro j
  by_cases h : j < f.length
  · rw [rowF_get _ h, List.getElem?_map, co_some h]; rfl
  · rw [List.getElem?_eq_none (by simp; omega), List.getElem?_eq_none (by rw [rowF_length]; omega)]
def mkL (n : Nat) (s : Nat → Int) : List Int := (List.range n).map s
theorem mkL_length (n : Nat) (s : Nat → Int) : (mkL n s).length = n := by simp [mkL]
theorem co_mkL (n : Nat) (s : Nat → Int) (k : Nat) : co (mkL n s) k = if k < n then s k else 0 := by
  unfold co mkL
  by_cases h : k < n
  · rw [if_pos h]; simp [h]
  · rw [if_neg h, List.getElem?_eq_none (by simp; omega)]; rfl
theorem map_mkL (n : Nat) (s : Nat → Int) : (mkL n s).map (Value.int .i64) = rowF n (iV s) := by
  unfold mkL rowF
  rw [List.map_map]; rfl
/-- What is handed back where a list is. -/
def ListPost (base : Nat) (zs : List Int) (w : World) (e : Ending) (w' : World) : Prop :=
  ∃ v, e = .returned v ∧ w'.ownsRow base 3 1 v zs.length (zs.map (Value.int .i64)) ∧ Below base w w'
set_option maxHeartbeats 1000000 in
set_option maxRecDepth 20000 in
theorem clone_int (zs : List Int) (n : Nat) (ao : Option Addr) (cap base : Nat) (w : World) (hn : n ≤ 1000000000) (hl : zs.length = n) (hnone : ao = none → n = 0 ∧ cap = 0) (hR : Hid (Reads w ao (zs.map (Value.int .i64)))) (hb : base ≤ w.heap.size) :
    Calls Tryd.prog 31 #[.slice ao n cap] w (ListPost base zs w) := by
  have HLn := Lib.hid hl
  have HL : Hid ((zs.map (Value.int .i64)).length = n * 1) := by show _ = _; rw [List.length_map]; omega
  have h1 : Hid (∀ u ∈ zs.map (Value.int .i64), u.oneCell' = true) := ints_one .i64 zs
  have HN := Lib.hid hnone
  cases ao with
  | none =>
    obtain ⟨rfl, rfl⟩ := hnone rfl
    have hx : Hid (zs = []) := List.eq_nil_of_length_eq_zero hl
    have heq := Lib.run_eql_slice_nil (P := Tryd.prog) w 36 3 none 0 0 0 0 Tryd.underlying36
    clear hl hnone
    go_enter Tryd.func31, Tryd.ntmps31
    go_wp2_with fail
    go_ret
    refine ⟨_, rfl, ?_, Below.refl _ _⟩
    rw [hx.out]; exact World.ownsRow_nil _ _ _ _
  | some a =>
    have heq := Lib.run_eql_slice_nil (P := Tryd.prog) w 36 3 (some a) n cap 0 0 Tryd.underlying36
    clear hl hnone
    have hown : Hid ((w.alloc (.cells #[] 3)).ownsRow base 3 1 (.slice (some ⟨w.heap.size, 0, none⟩) 0 0) 0 []) := own_lit w base 3 [] hb (by unfold maxLen; simp)
    have hR2 : Hid (Reads (w.alloc (.cells #[] 3)) (some a) (zs.map (Value.int .i64))) := hR.out.alloc _
    have hbel : Hid (Below base w (w.alloc (.cells #[] 3))) := (Below.refl _ _).alloc hb _
    go_enter Tryd.func31, Tryd.ntmps31
    go_wp2_with (at_builtin; go_must (refine app_all rfl (.tmp 5) (.tmp 6) _ rfl base 3 _ 1 8 Tryd.underlying36 intRow _ 0 [] (by rfl) hown.out (some a) n cap (zs.map (Value.int .i64)) (by rfl) (fun h => by cases h) HL.out hR2.out h1.out (by unfold maxLen; omega) (by omega) (Nat.le_trans hb hbel.out.size) ?_); intro v2 w2 hown2 hgr2 hb2)
    go_ret
    refine ⟨v2, rfl, ?_, hbel.out.trans hb2⟩
    rw [HLn.out]
    simpa using hown2
theorem reads_take {w : World} {ao : Option Addr} {zs : List Int} (h : Reads w ao (zs.map (Value.int .i64))) (m : Nat) : Reads w ao ((zs.take m).map (Value.int .i64)) := by
  intro j u hu
  rw [List.getElem?_map, List.getElem?_take] at hu
  split at hu
  · exact h j u (by rw [List.getElem?_map]; exact hu)
  · simp at hu
end Go.Proofs.YtmgpohomgblkkaaDoor
