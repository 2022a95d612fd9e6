/- slices.Backward at ints: what it hands back has its contract (from the last element to the first). After the kit's worked text on slices.All. -/
import Derived.RangeFuncBox
import Derived.RangeFuncLeaves
import Derived.Shelf.Abstract
import Derived.WalkKit
import Derived.OwnWalkIn
import Derived.TacticsInMore
import Derived.LoopNIn
import Derived.LoopIn
import Derived.Test.YthnbhhfbmkklmaaRows
import Derived.Test.YthnbhhfbmkklmaaMem
namespace Go.Proofs.Ythnbhhfbmkklmaa
open Go.RowKit Go.Shelf
attribute [local go_sem] Oper.semAt_some

/-- What has come when k rounds are over. -/
def dnto {α : Type} (f : Nat → α) (k : Nat) : List α := (List.range k).map f
theorem dnto_succ {α : Type} (f : Nat → α) (k : Nat) : dnto f (k + 1) = dnto f k ++ [f k] := by simp [dnto, List.range_succ]
theorem dnto_length {α : Type} (f : Nat → α) (k : Nat) : (dnto f k).length = k := by simp [dnto]
theorem dnto_take {α : Type} (f : Nat → α) {k j : Nat} (h : j ≤ k) : (dnto f k).take j = dnto f j := by
  unfold dnto
  rw [← List.map_take, List.take_range, Nat.min_eq_left h]
/-- What a round must keep: what lay below n₀, and the iterator's own box. -/
def KpB (n₀ Bs : Nat) (A B : World) : Prop := Below n₀ A B ∧ B.heap[Bs]? = A.heap[Bs]?
theorem KpB.refl (n₀ Bs : Nat) (A : World) : KpB n₀ Bs A A := ⟨Below.refl _ _, rfl⟩
theorem KpB.trans {n₀ Bs : Nat} {A B C : World} (h : KpB n₀ Bs A B) (h2 : KpB n₀ Bs B C) : KpB n₀ Bs A C := ⟨h.1.trans h2.1, h2.2.trans h.2⟩
variable {α : Type} (enc : α → Array Value) (atk : Nat → α)
/-- The slice value sv holds the ints zs, in a block below n₀; or there are none. -/
def IntsB (n₀ : Nat) (W : World) (a : Option Addr) (cap : Nat) (zs : List Int) : Prop :=
  zs = [] ∨ ∃ b off, a = some ⟨b, off, none⟩ ∧ b < n₀ ∧ ∀ j, j < zs.length → W.cell? ⟨b, off + j, none⟩ = some (.int .i64 (zs[j]?.getD 0))
theorem IntsB.below {n₀ : Nat} {A B : World} (h : Below n₀ A B) {a : Option Addr} {cap : Nat} {zs : List Int} : IntsB n₀ A a cap zs → IntsB n₀ B a cap zs
  | .inl e => .inl e
  | .inr ⟨b, off, e, hb, hc⟩ => .inr ⟨b, off, e, hb, fun j hj => (h.cell (p := ⟨b, off + j, none⟩) hb).trans (hc j hj)⟩
end Go.Proofs.Ythnbhhfbmkklmaa
