/- Slices of structs of two fields that came in: what their cells hold. Over whatever program. -/
import Derived.Test.YthnbhhfbmkklmaaArgs
import Derived.Deep.SlicePairs
import Derived.ChangeArms
namespace Go.Proofs.Ythnbhhfbmkklmaa
open Go.RowKit

/-- A list of pairs of cells. -/
def cells2 (zs : List (Value × Value)) : List Value := zs.flatMap fun a => [a.1, a.2]
theorem cells2_nil : cells2 [] = [] := rfl
theorem cells2_length (zs : List (Value × Value)) : (cells2 zs).length = zs.length * 2 := by
  induction zs with
  | nil => rfl
  | cons a zs ih =>
    show (a.1 :: a.2 :: cells2 zs).length = _
    simp only [List.length_cons, ih]; omega
theorem cells2_get (l : List (Value × Value)) (k : Nat) (a : Value × Value) (h : l[k]? = some a) : (cells2 l)[k * 2]? = some a.1 ∧ (cells2 l)[k * 2 + 1]? = some a.2 := by
  induction l generalizing k with
  | nil => simp at h
  | cons b l ih =>
    have e : cells2 (b :: l) = b.1 :: b.2 :: cells2 l := rfl
    rw [e]
    cases k with
    | zero => simp at h; subst h; exact ⟨rfl, rfl⟩
    | succ k =>
      rw [List.getElem?_cons_succ] at h
      obtain ⟨h1, h2⟩ := ih k h
      refine ⟨?_, ?_⟩
      · rw [show (k + 1) * 2 = k * 2 + 1 + 1 by omega, List.getElem?_cons_succ, List.getElem?_cons_succ]; exact h1
      · rw [show (k + 1) * 2 + 1 = k * 2 + 1 + 1 + 1 by omega, List.getElem?_cons_succ, List.getElem?_cons_succ]; exact h2
theorem cells2_get' (l : List (Value × Value)) (j : Nat) (u : Value) (h : (cells2 l)[j]? = some u) : ∃ k a, l[k]? = some a ∧ ((j = k * 2 ∧ u = a.1) ∨ (j = k * 2 + 1 ∧ u = a.2)) := by
  have hj : j < l.length * 2 := by rw [← cells2_length]; exact (List.getElem?_eq_some_iff.1 h).1
  have hk : j / 2 < l.length := by omega
  refine ⟨j / 2, l[j / 2], List.getElem?_eq_getElem hk, ?_⟩
  obtain ⟨h1, h2⟩ := cells2_get l (j / 2) _ (List.getElem?_eq_getElem hk)
  rcases (by omega : j = j / 2 * 2 ∨ j = j / 2 * 2 + 1) with e | e
  · left; refine ⟨e, ?_⟩; rw [← e, h] at h1; exact Option.some.inj h1
  · right; refine ⟨e, ?_⟩; rw [← e, h] at h2; exact Option.some.inj h2
/-- Pairs of numbers that came in. -/
def PairsIn (k0 k1 : IntKind) (w : World) (ao : Option Addr) (len : Nat) (zs : List (Int × Int)) : Prop :=
  zs.length = len ∧ len ≤ 9223372036854775807 ∧ (∀ z ∈ zs, (Lit.int k0 z.1).wf = true ∧ (Lit.int k1 z.2).wf = true) ∧ Reads w ao (cells2 (zs.map fun z => (.int k0 z.1, .int k1 z.2)))
/-- Pairs of a truth and a number that came in. -/
def FlagsIn (k1 : IntKind) (w : World) (ao : Option Addr) (len : Nat) (zs : List (Bool × Int)) : Prop :=
  zs.length = len ∧ len ≤ 9223372036854775807 ∧ (∀ z ∈ zs, (Lit.int k1 z.2).wf = true) ∧ Reads w ao (cells2 (zs.map fun z => (.bool z.1, .int k1 z.2)))
theorem pairsIn_nil (k0 k1 : IntKind) (w : World) : PairsIn k0 k1 w none 0 [] := ⟨rfl, by omega, by simp, Reads.nil _ _⟩
theorem flagsIn_nil (k1 : IntKind) (w : World) : FlagsIn k1 w none 0 [] := ⟨rfl, by omega, by simp, Reads.nil _ _⟩
theorem PairsIn.below {k0 k1 : IntKind} {w w' : World} {ao : Option Addr} {n : Nat} {zs : List (Int × Int)} (h : PairsIn k0 k1 w ao n zs) (hb : Below w.heap.size w w') : PairsIn k0 k1 w' ao n zs := ⟨h.1, h.2.1, h.2.2.1, h.2.2.2.below hb⟩
theorem FlagsIn.below {k1 : IntKind} {w w' : World} {ao : Option Addr} {n : Nat} {zs : List (Bool × Int)} (h : FlagsIn k1 w ao n zs) (hb : Below w.heap.size w w') : FlagsIn k1 w' ao n zs := ⟨h.1, h.2.1, h.2.2.1, h.2.2.2.below hb⟩
theorem choose_list {α : Type} {p : Nat → α → Prop} : ∀ (n : Nat), (∀ i, i < n → ∃ a, p i a) → ∃ l : List α, l.length = n ∧ ∀ i a, l[i]? = some a → p i a
  | 0, _ => ⟨[], rfl, by simp⟩
  | n + 1, h => by
    obtain ⟨l, hl, hp⟩ := choose_list n fun i hi => h i (by omega)
    obtain ⟨a, ha⟩ := h n (by omega)
    refine ⟨l ++ [a], by simp [hl], fun i b hb => ?_⟩
    rw [List.getElem?_append] at hb
    split at hb
    · exact hp i b hb
    · rename_i hi
      by_cases hin : i = n
      · subst hin; rw [hl, Nat.sub_self] at hb; simp at hb; subst hb; exact ha
      · rw [List.getElem?_eq_none (by simp; omega)] at hb; cases hb
theorem pairs_of {w : World} {a : Addr} {len cap m : Nat} {α : Type} {g : α → Value × Value} {q : α → Prop} (hl : len ≤ cap) (hm : cap ≤ maxLen) (hmm : len ≤ m)
    (h : ∀ i, i < m → ∃ z, w.cell? (a.add (i * 2)) = some (g z).1 ∧ w.cell? (a.add (i * 2 + 1)) = some (g z).2 ∧ q z) :
    ∃ zs : List α, zs.length = len ∧ len ≤ 9223372036854775807 ∧ (∀ z ∈ zs, q z) ∧ Reads w (some a) (cells2 (zs.map g)) := by
  unfold maxLen at hm
  obtain ⟨l, hlen, hp⟩ := choose_list len fun i hi => h i (by omega)
  refine ⟨l, hlen, by omega, ?_, reads_of ?_⟩
  · intro z hz
    obtain ⟨i, hi⟩ := List.getElem?_of_mem hz
    exact (hp i z hi).2.2
  · intro i u hu
    obtain ⟨k, b, hk, hd⟩ := cells2_get' _ i u hu
    rw [List.getElem?_map] at hk
    cases hz : l[k]? with
    | none => rw [hz] at hk; simp at hk
    | some z =>
      rw [hz] at hk
      simp at hk
      subst hk
      rcases hd with ⟨rfl, rfl⟩ | ⟨rfl, rfl⟩
      · exact (hp k z hz).1
      · exact (hp k z hz).2.1
end Go.Proofs.Ythnbhhfbmkklmaa
