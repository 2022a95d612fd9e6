/- frac.Value where the list is right: the range over slices.Backward, walked inside the wide fence. -/
import Derived.RangeFuncNested
import Derived.RangeFuncBound
import Derived.RangeFuncCalls
import Derived.Shelf.RegionOpen
import Derived.Test.YthnbhhfbmkklmaaBack
import Derived.Test.YthnbhhfbmkklmaaFracV
import Derived.Test.YthnbhhfbmkklmaaHeapM
namespace Go.Proofs.Ythnbhhfbmkklmaa
open Go.RowKit Go.Shelf
attribute [local go_sem] Oper.semAt_some

def fStep (s : Int × Int) (n : Int) : Int × Int := (n * s.1 + s.2, s.1)
/-- The value of the last k elements. -/
def fVal (zs : List Int) : Nat → Int × Int
  | 0 => (1, 0)
  | k + 1 => fStep (fVal zs k) (zs[zs.length - 1 - k]?.getD 0)
def fBig (s : Int × Int) : Prop := 1000000 < s.1 ∨ 1000000 < s.2
def fSm (s : Int × Int) : Prop := 0 ≤ s.1 ∧ s.1 ≤ 1000000 ∧ 0 ≤ s.2 ∧ s.2 ≤ 1000000
abbrev Idx := { x : Int × Int // 0 ≤ x.2 ∧ x.2 ≤ 1000000 }
def encB (x : Idx) : Array Value := #[.int .i64 x.1.1, .int .i64 x.1.2]
def foldB (pre : List Idx) : Int × Int := pre.foldl (fun s x => fStep s x.1.2) (1, 0)
theorem foldB_snoc (pre : List Idx) (x : Idx) : foldB (pre ++ [x]) = fStep (foldB pre) x.1.2 := by unfold foldB; rw [List.foldl_append]; rfl
theorem ok_bd {zs : List Int} (h : ¬ fBad zs) (i : Nat) : 0 ≤ zs[i]?.getD 0 ∧ zs[i]?.getD 0 ≤ 1000000 := by
  cases hx : zs[i]? with
  | none => simp
  | some x =>
    have hb : ¬ fBadAt x i := fun hb => h ⟨i, x, hx, hb⟩
    unfold fBadAt at hb
    rw [Option.getD_some]; omega
def atB (zs : List Int) (h : ¬ fBad zs) (k : Nat) : Idx := ⟨(((zs.length - 1 - k : Nat) : Int), zs[zs.length - 1 - k]?.getD 0), ok_bd h _⟩
theorem foldB_dnto (zs : List Int) (h : ¬ fBad zs) (k : Nat) : foldB (dnto (atB zs h) k) = fVal zs k := by
  induction k with
  | zero => rfl
  | succ k ih => rw [dnto_succ, foldB_snoc, ih]; rfl
def AllSm (pre : List Idx) : Prop := ∀ j, j ≤ pre.length → fSm (foldB (pre.take j))
theorem AllSm.nil : AllSm [] := by
  intro j hj
  rw [List.take_nil]
  exact ⟨by show (0:Int) ≤ 1; omega, by show (1:Int) ≤ _; omega, Int.le_refl _, by show (0:Int) ≤ _; omega⟩
theorem AllSm.snoc {pre : List Idx} {x : Idx} (h : AllSm pre) (h2 : fSm (foldB (pre ++ [x]))) : AllSm (pre ++ [x]) := by
  intro j hj
  rw [List.length_append, List.length_singleton] at hj
  by_cases hj2 : j ≤ pre.length
  · rw [List.take_append_of_le_length hj2]; exact h j hj2
  · rw [List.take_of_length_le (by rw [List.length_append, List.length_singleton]; omega)]; exact h2
theorem AllSm.last {pre : List Idx} (h : AllSm pre) : fSm (foldB pre) := by have := h pre.length (Nat.le_refl _); rwa [List.take_length] at this
theorem fStep_bd {s : Int × Int} {x : Int} (h : fSm s) (h0 : 0 ≤ x) (h1 : x ≤ 1000000) : 0 ≤ x * s.1 ∧ x * s.1 ≤ 1000000000000 := by
  obtain ⟨a, b, _, _⟩ := h
  refine ⟨Int.mul_nonneg h0 a, ?_⟩
  have := Int.mul_le_mul h1 b a (by omega)
  omega
/-- The cells of the call: the two results and the fraction. -/
structure St (H : Nat) (c P Q : Int) (W : World) : Prop where
  r : W.heap[H]? = some (.cells #[.int .i64 0, .int .i64 0] 23 (0, 0))
  e : W.heap[H + 1]? = some (.cells #[.int .i64 c] 24 (0, 0))
  x : W.heap[H + 1 + 1]? = some (.cells #[.int .i64 P, .int .i64 Q] 23 (0, 0))
theorem St.own {H : Nat} {c P Q : Int} {A B : World} {row : Option Nat} (h : St H c P Q A) (hg : A.grownBy B row) (hr : ∀ r, row = some r → ∃ o : Obj, A.heap[r]? = some o ∧ o.isCells = false) : St H c P Q B :=
  ⟨(grownBy_keeps_cells hg hr h.r rfl).trans h.r, (grownBy_keeps_cells hg hr h.e rfl).trans h.e, (grownBy_keeps_cells hg hr h.x rfl).trans h.x⟩
theorem St.set {H : Nat} {c P Q P' Q' : Int} {W : World} (h : St H c P Q W) : St H c P' Q' ((W.setCell ⟨H + 1 + 1, 0, none⟩ (.int .i64 P')).setCell ⟨H + 1 + 1, 1, none⟩ (.int .i64 Q')) :=
  ⟨by rw [heap_set_far _ (by omega), heap_set_far _ (by omega)]; exact h.r, by rw [heap_set_far _ (by omega), heap_set_far _ (by omega)]; exact h.e, by rw [heap_set _ (heap_set _ h.x)]; rfl⟩
theorem St.ret {H : Nat} {c c' P Q P' Q' : Int} {W : World} (h : St H c P Q W) (h2 : P' = 0) (h3 : Q' = 0) : St H c' P Q (((W.setCell ⟨H, 0, none⟩ (.int .i64 P')).setCell ⟨H, 1, none⟩ (.int .i64 Q')).setCell ⟨H + 1, 0, none⟩ (.int .i64 c')) := by
  subst h2
  subst h3
  exact ⟨by rw [heap_set_far _ (by omega), heap_set _ (heap_set _ h.r)]; rfl, by rw [heap_set _ (show _ = some (Obj.cells #[.int .i64 c] 24 (0, 0)) by rw [heap_set_far _ (by omega), heap_set_far _ (by omega)]; exact h.e)]; rfl, by rw [heap_set_far _ (by omega), heap_set_far _ (by omega), heap_set_far _ (by omega)]; exact h.x⟩
theorem St.fin {H : Nat} {c c' P Q p q : Int} {W : World} (h : St H c P Q W) :
    (((W.setCell ⟨H, 0, none⟩ (.int .i64 p)).setCell ⟨H, 1, none⟩ (.int .i64 q)).setCell ⟨H + 1, 0, none⟩ (.int .i64 c')).heap[H]? = some (.cells #[.int .i64 p, .int .i64 q] 23 (0, 0)) ∧
    (((W.setCell ⟨H, 0, none⟩ (.int .i64 p)).setCell ⟨H, 1, none⟩ (.int .i64 q)).setCell ⟨H + 1, 0, none⟩ (.int .i64 c')).heap[H + 1]? = some (.cells #[.int .i64 c'] 24 (0, 0)) :=
  ⟨by rw [heap_set_far _ (by omega), heap_set _ (heap_set _ h.r)]; rfl, by rw [heap_set _ (show _ = some (Obj.cells #[.int .i64 c] 24 (0, 0)) by rw [heap_set_far _ (by omega), heap_set_far _ (by omega)]; exact h.e)]; rfl⟩
theorem fSm_take {pre : List Idx} (x : Idx) (h : AllSm pre) (hb : fBig (foldB (pre ++ [x]))) : ∃ k, k ≤ (pre ++ [x]).length ∧ fBig (foldB ((pre ++ [x]).take k)) ∧ ∀ j, j < k → fSm (foldB ((pre ++ [x]).take j)) := by
  refine ⟨pre.length + 1, by rw [List.length_append, List.length_singleton]; exact Nat.le_refl _, by rw [List.take_of_length_le (by rw [List.length_append, List.length_singleton]; exact Nat.le_refl _)]; exact hb, fun j hj => ?_⟩
  rw [List.take_append_of_le_length (by omega)]
  exact h j (by omega)
end Go.Proofs.Ythnbhhfbmkklmaa
