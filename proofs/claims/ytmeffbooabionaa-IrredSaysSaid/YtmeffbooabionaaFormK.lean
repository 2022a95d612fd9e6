/- Slices of the call's own, under a length of a given name. -/
import Derived.Test.YtmeffbooabionaaRow
set_option linter.unusedVariables false
set_option linter.unusedSimpArgs false
namespace Go.Proofs.Ytmeffbooabionaa
open Go.RowKit

theorem own_formK {w : World} {base e size : Nat} {v : Value} {n K : Nat} {xs : List Value} (h : w.ownsRow base e size v n xs) (hx : xs ≠ []) (hK : n = K) : ∃ g cap, v = .slice (some ⟨g, 0, none⟩) K cap ∧ w.ownsRow base e size (.slice (some ⟨g, 0, none⟩) K cap) K xs := by
  subst hK
  obtain ⟨g, cap, rfl⟩ := own_form h hx
  exact ⟨g, cap, rfl, h⟩
theorem reads_cell0 {w : World} {b : Nat} {xs : List Value} (h : Reads w (some ⟨b, 0, none⟩) xs) {i : Nat} {u : Value} (hi : xs[i]? = some u) : w.cell? ⟨b, i, none⟩ = some u := by
  obtain ⟨b2, o2, ha, hc⟩ := h i u hi
  injection ha with ha
  injection ha with e1 e2
  subst e1 e2
  rw [Nat.zero_add] at hc
  exact hc
theorem own_dataK {w : World} {base e : Nat} {v : Value} {n : Nat} {xs : List Value} (h : w.ownsRow base e 1 v n xs) : ∃ ao cap, v = .slice ao n cap ∧ Reads w ao xs ∧ (ao = none → n = 0 ∧ cap = 0) ∧ n ≤ cap ∧ cap ≤ 9223372036854775807 := by
  obtain ⟨ao, cap, hv, hR, hn, _⟩ := own_reads h
  refine ⟨ao, cap, hv, hR, hn, ?_⟩
  rcases h.2 with ⟨h1, h2⟩ | ⟨g, cp, cur, hv3, h2⟩
  · rw [h1] at hv
    injection hv with e1 e2 e3
    omega
  · rw [hv3] at hv
    injection hv with e1 e2 e3
    have := h2.2.2.1
    have := h2.2.2.2.1
    unfold maxLen at *
    omega
theorem Own.caps {w : World} {base e g n cap : Nat} {f : Nat → Value} (h : Own w base e g n cap f) : n ≤ cap ∧ cap ≤ 9223372036854775807 := by
  obtain ⟨ao, cp, hv, _, _, h1, h2⟩ := own_dataK h
  cases hv
  exact ⟨h1, h2⟩
end Go.Proofs.Ytmeffbooabionaa
