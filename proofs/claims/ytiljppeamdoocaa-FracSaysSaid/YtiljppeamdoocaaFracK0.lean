/- FracSays: the walk. (Printed by wip/tools/gen_frac.py.) -/
import Derived.Test.YtiljppeamdoocaaFracY
import Derived.Test.YtiljppeamdoocaaArgs
import Derived.Test.YtiljppeamdoocaaEqualInt
namespace Go.Proofs.Ytiljppeamdoocaa
open Go.RowKit

/-- The error that the law wants when i elements are looked at. -/
def WantAt (zs : List Int) (i : Nat) (c : Int) : Prop := (zs.length = 0 ∧ c = 4) ∨ (0 < zs.length ∧ fBad zs ∧ c = 1) ∨ (0 < zs.length ∧ (∀ j x, j < i → zs[j]? = some x → ¬ fBadAt x j) ∧ c = 0)
theorem WantAt.next {zs : List Int} {i : Nat} {c x : Int} (h : WantAt zs i c) (hx : zs[i]? = some x) (hb : ¬ fBadAt x i) : WantAt zs (i + 1) c := by
  rcases h with h | h | ⟨h1, h2, h3⟩
  · exact .inl h
  · exact .inr (.inl h)
  · refine .inr (.inr ⟨h1, fun j y hj hy => ?_, h3⟩)
    by_cases he : j = i
    · subst he; rw [hx] at hy; cases hy; exact hb
    · exact h2 j y (by omega) hy
theorem WantAt.zero (zs : List Int) : WantAt zs 0 (if zs.length = 0 then 4 else 0) := by
  by_cases h : zs.length = 0
  · rw [if_pos h]; exact .inl ⟨h, rfl⟩
  · rw [if_neg h]; exact .inr (.inr ⟨by omega, fun j x hj => by omega, rfl⟩)
theorem want0 {zs : List Int} {len : Nat} (hl : zs.length = len) (h0 : ((len : Int) == 0) = false) : WantAt zs 0 0 := by
  have h := WantAt.zero zs
  have : ¬ len = 0 := by simpa using h0
  rwa [if_neg (by omega)] at h
theorem want4 {zs : List Int} {len : Nat} (hl : zs.length = len) (h0 : ((len : Int) == 0) = true) : WantAt zs 0 4 := by
  have h := WantAt.zero zs
  have : len = 0 := by simpa using h0
  rwa [if_pos (by omega)] at h
/-- The error and the fraction that the law has when the last k elements are taken in. -/
def BackAt (zs : List Int) (k : Nat) (c P Q : Int) : Prop :=
  (zs.length = 0 ∧ c = 4) ∨ (0 < zs.length ∧ fBad zs ∧ c = 1) ∨ (0 < zs.length ∧ ¬ fBad zs ∧ (∀ j, j ≤ k → fSm (fVal zs j)) ∧ (P, Q) = fVal zs k ∧ c = 0) ∨
  (0 < zs.length ∧ ¬ fBad zs ∧ (∃ j, j ≤ zs.length ∧ fBig (fVal zs j)) ∧ c = 2)
theorem fSm_zero (zs : List Int) : fSm (fVal zs 0) := ⟨by show (0:Int) ≤ 1; omega, by show (1:Int) ≤ _; omega, Int.le_refl _, by show (0:Int) ≤ _; omega⟩
theorem WantAt.back {zs : List Int} {c : Int} (h : WantAt zs zs.length c) : BackAt zs 0 c 1 0 := by
  rcases h with h | h | ⟨h1, h2, h3⟩
  · exact .inl h
  · exact .inr (.inl h)
  · refine .inr (.inr (.inl ⟨h1, ?_, fun j hj => ?_, rfl, h3⟩))
    · rintro ⟨i, x, hx, hb⟩
      exact h2 i x (List.getElem?_eq_some_iff.1 hx).1 hx hb
    · obtain rfl : j = 0 := by omega
      exact fSm_zero zs
theorem BackAt.zero {zs : List Int} {k : Nat} {P Q : Int} (h : BackAt zs k 0 P Q) : 0 < zs.length ∧ ¬ fBad zs ∧ (∀ j, j ≤ k → fSm (fVal zs j)) ∧ (P, Q) = fVal zs k := by
  rcases h with h | h | h | h
  · exact absurd h.2 (by omega)
  · exact absurd h.2.2 (by omega)
  · exact ⟨h.1, h.2.1, h.2.2.1, h.2.2.2.1⟩
  · exact absurd h.2.2.2 (by omega)
theorem BackAt.fin {zs : List Int} {k : Nat} {c3 P Q p q c : Int} (h : BackAt zs k c3 P Q) (hk : k = zs.length ∨ c3 ≠ 0) (hv : ValSpec zs p q c) : c3 = c ∧ ((c = 0 ∧ P = p ∧ Q = q) ∨ (c ≠ 0 ∧ p = 0 ∧ q = 0)) := by
  rcases hv with ⟨v1, v2, v3, v4⟩ | ⟨v1, v2, v3, v4, v5⟩ | ⟨v1, v2, v3, v4, v5, v6⟩ | ⟨v1, v2, ⟨j, j1, j2, j3⟩, v4, v5, v6⟩
  · rcases h with h | h | h | h
    · exact ⟨by rw [h.2, v4], .inr ⟨by omega, v2, v3⟩⟩
    · omega
    · omega
    · omega
  · rcases h with h | h | h | h
    · omega
    · exact ⟨by rw [h.2.2, v5], .inr ⟨by omega, v3, v4⟩⟩
    · exact absurd v2 h.2.1
    · exact absurd v2 h.2.1
  · rcases h with h | h | ⟨h1, h2, h3, h4, h5⟩ | ⟨h1, h2, ⟨j, hj, hb⟩, h4⟩
    · omega
    · exact absurd h.2.1 v2
    · obtain rfl : k = zs.length := by
        rcases hk with hk | hk
        · exact hk
        · exact absurd h5 hk
      refine ⟨by rw [h5, v6], .inl ⟨v6, ?_, ?_⟩⟩
      · rw [v4, ← h4]
      · rw [v5, ← h4]
    · exact absurd (v3 j hj) fun h => fBig_not hb h
  · rcases h with h | h | ⟨h1, h2, h3, h4, h5⟩ | ⟨h1, h2, h3, h4⟩
    · omega
    · exact absurd h.2.1 v2
    · obtain rfl : k = zs.length := by
        rcases hk with hk | hk
        · exact hk
        · exact absurd h5 hk
      exact absurd (h3 j j1) fun h => fBig_not j2 h
    · exact ⟨by rw [h4, v6], .inr ⟨by omega, v4, v5⟩⟩
theorem reads_set {w : World} {b o B j : Nat} {xs : List Value} {v : Value} (h : Reads w (some ⟨b, o, none⟩) xs) (hne : b ≠ B) : Reads (w.setCell ⟨B, j, none⟩ v) (some ⟨b, o, none⟩) xs := by
  intro i u hu
  obtain ⟨b2, o2, ha, hc⟩ := h i u hu
  injection ha with ha
  injection ha with e1 e2
  subst e1 e2
  exact ⟨b, o, rfl, (World.cell?_of_block (heap_set_far v (fun e => hne e.symm))).trans hc⟩
theorem frac_cells {w1 w2 : World} {k : Nat} {P Q : Int} (h : w1.heap[k]? = some (.cells #[.int .i64 P, .int .i64 Q] 23 (0, 0))) (hb : Below w1.heap.size w1 w2) (o : Obj) :
    (w2.alloc o).heap[k]? = some (.cells #[.int .i64 P, .int .i64 Q] 23 (0, 0)) ∧ (w2.alloc o).cell? ⟨k, 0, none⟩ = some (.int .i64 P) ∧ (w2.alloc o).cell? ⟨k, 1, none⟩ = some (.int .i64 Q) := by
  have h2 : (w2.alloc o).heap[k]? = _ := heap_alloc_old w2 o (by rw [hb.block _ (Array.getElem?_eq_some_iff.1 h).1]; exact h)
  exact ⟨h2, cell_of_row _ _ 0 _ _ _ h2, cell_of_row _ _ 1 _ _ _ h2⟩

end Go.Proofs.Ytiljppeamdoocaa
