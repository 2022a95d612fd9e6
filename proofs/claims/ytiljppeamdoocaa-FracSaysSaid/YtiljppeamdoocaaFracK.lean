/- FracSays: the walk. -/
import Derived.Test.YtiljppeamdoocaaFracKa
import Derived.Test.YtiljppeamdoocaaFracKb
import Derived.Test.YtiljppeamdoocaaFracKc
import Derived.Test.YtiljppeamdoocaaFracKd
import Derived.Test.YtiljppeamdoocaaFracKg
namespace Go.Proofs.Ytiljppeamdoocaa
open Go.RowKit

theorem fracSays_bad (P Q : Int) (ao : Option Addr) (len cap : Nat) (zs : List Int) (w : World) (hl : zs.length = len) (h63 : len ≤ 9223372036854775807) (hR : Reads w ao (zs.map (Value.int .i64))) (hB : rgB P Q = false) :
    Calls Try.prog 3 #[.agg #[.int .i64 P, .int .i64 Q], .slice ao len cap] w fun e w' => e = .returned (.bool true) ∧ Below w.heap.size w w' := by
  have hs : decide (Q < 1) = true ∨ (decide (Q < 1) = false ∧ decide (1000000 < Q) = true) ∨ (decide (Q < 1) = false ∧ decide (1000000 < Q) = false ∧ decide (P < 0) = true) ∨ (decide (Q < 1) = false ∧ decide (1000000 < Q) = false ∧ decide (P < 0) = false ∧ decide (1000000 < P) = true) := by
    have : ¬ (1 ≤ Q ∧ Q ≤ 1000000 ∧ 0 ≤ P ∧ P ≤ 1000000) := fun h => by rw [rgB_iff.2 h] at hB; cases hB
    simp only [decide_eq_true_eq, decide_eq_false_iff_not]
    omega
  rcases hs with d1 | ⟨d1, d2⟩ | ⟨d1, d2, d3⟩ | ⟨d1, d2, d3, d4⟩
  · exact fracSays_bad_a P Q ao len cap zs w hl h63 hR hB d1
  · exact fracSays_bad_b P Q ao len cap zs w hl h63 hR hB d1 d2
  · exact fracSays_bad_c P Q ao len cap zs w hl h63 hR hB d1 d2 d3
  · exact fracSays_bad_d P Q ao len cap zs w hl h63 hR hB d1 d2 d3 d4
theorem fracSays_walk (P Q : Int) (ao : Option Addr) (len cap : Nat) (zs : List Int) (w : World) (_hP : (Lit.int .i64 P).wf = true) (_hQ : (Lit.int .i64 Q).wf = true) (h : IntsIn .i64 w ao len zs ∧ CapOk ao len cap) :
    Calls Try.prog 3 #[.agg #[.int .i64 P, .int .i64 Q], .slice ao len cap] w fun e w' => e = .returned (.bool true) ∧ Below w.heap.size w w' := by
  obtain ⟨⟨h1, h2, h3, h4⟩, h5⟩ := h
  cases hB : rgB P Q with
  | false => exact fracSays_bad P Q ao len cap zs w h1 h2 h4 hB
  | true =>
    obtain ⟨q1, q2, p1, p2⟩ := rgB_iff.1 hB
    obtain ⟨P', rfl⟩ : ∃ n : Nat, P = n := ⟨P.toNat, by omega⟩
    obtain ⟨Q', rfl⟩ : ∃ n : Nat, Q = n := ⟨Q.toNat, by omega⟩
    exact fracSays_good P' Q' ao len cap zs w h1 h2 h4 (by omega) (by omega) (by omega)
end Go.Proofs.Ytiljppeamdoocaa
