/- BinomSays: for arbitrary numbers the functions of package binom answer what the document says. Conditions: none. -/
import Derived.Test.YtonphmkilikapabRows
import Derived.Test.YtonphmkilikapabBinom4
namespace Go.Proofs.Ytonphmkilikapab
open Go.RowKit

/-- What Of answers, and the reference's. -/
def OfSays (n k C : Int) (E : Int) : Prop :=
  (∀ w : World, Calls Try.prog 49 #[.int .i64 n, .int .i64 k] w fun e w' => e = .returned (.tuple #[.int .i64 C, .int .i64 E]) ∧ Below w.heap.size w w') ∧
  (((n < 0 ∨ 60 < n) ∧ C = 0 ∧ E = 1) ∨ (¬ (n < 0 ∨ 60 < n) ∧ E = 0 ∧ ∀ w : World, Calls Try.prog 52 #[.int .i64 n, .int .i64 k] w fun e w' => e = .returned (.int .i64 C) ∧ w = w'))
theorem ofSays (n k : Int) : ∃ C E, OfSays n k C E := by
  by_cases h : n < 0 ∨ 60 < n
  · exact ⟨0, 1, fun w => (binom_Of_bad n k w h).mono (by rintro e w' ⟨rfl, rfl⟩; exact ⟨rfl, Below.refl _ _⟩), .inl ⟨h, rfl, rfl⟩⟩
  · by_cases hk : k < 0 ∨ n < k
    · exact ⟨0, 0, fun w => (binom_Of_out n k w h hk).mono (by rintro e w' ⟨rfl, rfl⟩; exact ⟨rfl, Below.refl _ _⟩), .inr ⟨h, rfl, fun w => ref_ChooseOf_out n k w hk⟩⟩
    · obtain ⟨N, rfl⟩ := Int.eq_ofNat_of_zero_le (show 0 ≤ n by omega)
      obtain ⟨K, rfl⟩ := Int.eq_ofNat_of_zero_le (show 0 ≤ k by omega)
      exact ⟨(ch N K : Nat), 0, fun w => binom_Of N K w (by omega) (by omega), .inr ⟨h, rfl, fun w => ref_ChooseOf N K w (by omega) (by omega)⟩⟩

set_option maxRecDepth 100000 in
set_option maxHeartbeats 4000000 in
theorem binomSays_bad (n k p : Int) (w : World) (h : badB n k p) :
    Calls Try.prog 7 #[.int .i64 n, .int .i64 k, .int .i64 p] w fun e w' => e = .returned (.bool true) ∧ Below w.heap.size w w' := by
  have H := Lib.hid h
  obtain ⟨C, E, hof, hcase⟩ := ofSays n k
  have HO := Lib.hid hof
  clear hof
  have hcases : n < 0 ∨ (¬ n < 0 ∧ (decide (1000000000 < n) = true ∨ (decide (1000000000 < n) = false ∧ (k < 0 ∨ (¬ k < 0 ∧ (decide (n < k) = true ∨ (decide (n < k) = false ∧ (p < 2 ∨ (¬ p < 2 ∧ (decide (1000 < p) = true ∨ (decide (1000 < p) = false ∧ ∃ q : Nat, p = q ∧ q ≤ 1000 ∧ Hid (prB q = false)))))))))))) := by
    unfold badB at h
    simp only [decide_eq_true_eq, decide_eq_false_iff_not]
    by_cases c1 : n < 0
    · exact .inl c1
    by_cases c2 : 1000000000 < n
    · exact .inr ⟨c1, .inl c2⟩
    by_cases c3 : k < 0
    · exact .inr ⟨c1, .inr ⟨c2, .inl c3⟩⟩
    by_cases c4 : n < k
    · exact .inr ⟨c1, .inr ⟨c2, .inr ⟨c3, .inl c4⟩⟩⟩
    by_cases c5 : p < 2
    · exact .inr ⟨c1, .inr ⟨c2, .inr ⟨c3, .inr ⟨c4, .inl c5⟩⟩⟩⟩
    by_cases c6 : 1000 < p
    · exact .inr ⟨c1, .inr ⟨c2, .inr ⟨c3, .inr ⟨c4, .inr ⟨c5, .inl c6⟩⟩⟩⟩⟩
    refine .inr ⟨c1, .inr ⟨c2, .inr ⟨c3, .inr ⟨c4, .inr ⟨c5, .inr ⟨c6, ?_⟩⟩⟩⟩⟩⟩
    obtain ⟨q, rfl⟩ := Int.eq_ofNat_of_zero_le (show 0 ≤ p by omega)
    refine ⟨q, rfl, by omega, ?_⟩
    rcases h with h | h | h | h | h | h | h
    all_goals first | (exfalso; omega) | exact h
  clear h
  rcases hcase with ⟨hn, rfl, rfl⟩ | ⟨hn, rfl, hch⟩
  · have hn2 : n < 0 ∨ (¬ n < 0 ∧ decide (60 < n) = true) := by simp only [decide_eq_true_eq]; omega
    clear hn
    rcases hcases with h1 | ⟨h1, h1 | ⟨h1', h1 | ⟨h1'', h1 | ⟨h1a, h1 | ⟨h1b, h1 | ⟨h1c, q, rfl, hq1, hq0⟩⟩⟩⟩⟩⟩
    all_goals rcases hn2 with h2 | ⟨h2, h3⟩
    all_goals first | (exfalso; omega) | skip
    all_goals
      go_enter Try.func7, Try.ntmps7
      go_wp2_with (first | (go_at_call 49; refine (HO.out _).mono ?_; rintro e w1 ⟨rfl, hb1⟩; have HB1 := Lib.hid hb1; clear hb1) | (go_at_call 50; refine (binom_Mod_bad n k _ _ H.out).mono ?_; rintro e w' ⟨rfl, rfl⟩) | (go_at_call 51; refine (binom_Times_bad n k _ _ H.out).mono ?_; rintro e w' ⟨rfl, rfl⟩) | (go_at_call 27; refine (ref_Prime q _ (by omega)).mono ?_; rw [hq0.out]; rintro e w' ⟨rfl, rfl⟩))
      go_ret
      exact ⟨rfl, HB1.out⟩
  · have hn2 : ¬ n < 0 := by omega
    have hn3 : decide (60 < n) = false := by simp; omega
    have hc1 : (C != C) = false := by simp
    have HCH := Lib.hid hch
    clear hn hch
    rcases hcases with h1 | ⟨h1, h1 | ⟨h1', h1 | ⟨h1'', h1 | ⟨h1a, h1 | ⟨h1b, h1 | ⟨h1c, q, rfl, hq1, hq0⟩⟩⟩⟩⟩⟩
    all_goals first | (exfalso; omega) | (exfalso; simp at h1 hn3; omega) | skip
    all_goals
      go_enter Try.func7, Try.ntmps7
      go_wp2_with (first | (go_at_call 49; refine (HO.out _).mono ?_; rintro e w1 ⟨rfl, hb1⟩; have HB1 := Lib.hid hb1; clear hb1) | (go_at_call 50; refine (binom_Mod_bad n k _ _ H.out).mono ?_; rintro e w' ⟨rfl, rfl⟩) | (go_at_call 51; refine (binom_Times_bad n k _ _ H.out).mono ?_; rintro e w' ⟨rfl, rfl⟩) | (go_at_call 52; refine (HCH.out _).mono ?_; rintro e w' ⟨rfl, rfl⟩) | (go_at_call 27; refine (ref_Prime q _ (by omega)).mono ?_; rw [hq0.out]; rintro e w' ⟨rfl, rfl⟩))
      go_ret
      exact ⟨rfl, HB1.out⟩

set_option maxRecDepth 100000 in
set_option maxHeartbeats 4000000 in
theorem binomSays_ok (n k p : Nat) (w : World) (hn : n ≤ 1000000000) (hk : k ≤ n) (hp : IsPr p) (hp2 : p ≤ 1000) :
    Calls Try.prog 7 #[.int .i64 n, .int .i64 k, .int .i64 p] w fun e w' => e = .returned (.bool true) ∧ Below w.heap.size w w' := by
  obtain ⟨C, E, hof, hcase⟩ := ofSays n k
  have HO := Lib.hid hof
  have HP := Lib.hid hp
  have hp1 := hp.1
  have HB := Lib.hid (prB_true hp)
  have b1 := often_le (n := n) hp.1
  have b2 := often_le (n := k) hp.1
  have b3 := often_le (n := n - k) hp.1
  have c3 := Lib.hid (fun w => ref_Often (n - k) p w (by omega) hp1 hp2)
  rw [show ((n - k : Nat) : Int) = (n : Int) - k by omega] at c3
  have f1 : decide ((n : Int) < 0) = false := by simp
  have f2 : decide ((1000000000 : Int) < n) = false := by simp; omega
  have f3 : decide ((k : Int) < 0) = false := by simp
  have f4 : decide ((n : Int) < k) = false := by simp; omega
  have f4' : decide (n < k) = false := by simp; omega
  have f5 : decide ((p : Int) < 2) = false := by simp; omega
  have f6 : decide ((1000 : Int) < p) = false := by simp; omega
  clear hof hp
  rcases hcase with ⟨hnn, rfl, rfl⟩ | ⟨hnn, rfl, hch⟩
  · have hn3 : decide ((60 : Int) < n) = true := by simp; omega
    clear hnn
    go_enter Try.func7, Try.ntmps7
    go_wp2_with (first | (go_at_call 49; refine (HO.out _).mono ?_; rintro e w1 ⟨rfl, hb1⟩; have HB1 := Lib.hid hb1; clear hb1) | (go_at_call 50; refine (binom_Mod n k p _ hn hk HP.out hp2).mono ?_; rintro e w' ⟨rfl, n2, rfl⟩) | (go_at_call 51; refine (binom_Times n k p _ hn hk HP.out hp2).mono ?_; rintro e w' ⟨rfl, rfl⟩) | (go_at_call 27; refine (ref_Prime p _ (by omega)).mono ?_; rw [HB.out]; rintro e w' ⟨rfl, rfl⟩) | (go_at_call 53; refine (ref_ChooseMod n k p _ hn hk hp1 hp2).mono ?_; rintro e w3 ⟨rfl, hb3⟩; have HB3 := Lib.hid hb3; clear hb3) | (go_at_call 54; with_reducible refine (ref_Often n p _ hn hp1 hp2).mono ?_; rintro e w' ⟨rfl, rfl⟩) | (go_at_call 54; with_reducible refine (ref_Often k p _ (by omega) hp1 hp2).mono ?_; rintro e w' ⟨rfl, rfl⟩) | (go_at_call 54; refine (c3.out _).mono ?_; rintro e w' ⟨rfl, rfl⟩))
    go_ret
    exact ⟨by simp, (below_drewN HB1.out _).trans (HB3.out.mono HB1.out.size)⟩
  · have hn3 : decide ((60 : Int) < n) = false := by simp; omega
    have hc1 : (C != C) = false := by simp
    have HCH := Lib.hid hch
    clear hnn hch
    go_enter Try.func7, Try.ntmps7
    go_wp2_with (first | (go_at_call 49; refine (HO.out _).mono ?_; rintro e w1 ⟨rfl, hb1⟩; have HB1 := Lib.hid hb1; clear hb1) | (go_at_call 50; refine (binom_Mod n k p _ hn hk HP.out hp2).mono ?_; rintro e w' ⟨rfl, n2, rfl⟩) | (go_at_call 51; refine (binom_Times n k p _ hn hk HP.out hp2).mono ?_; rintro e w' ⟨rfl, rfl⟩) | (go_at_call 27; refine (ref_Prime p _ (by omega)).mono ?_; rw [HB.out]; rintro e w' ⟨rfl, rfl⟩) | (go_at_call 53; refine (ref_ChooseMod n k p _ hn hk hp1 hp2).mono ?_; rintro e w3 ⟨rfl, hb3⟩; have HB3 := Lib.hid hb3; clear hb3) | (go_at_call 54; with_reducible refine (ref_Often n p _ hn hp1 hp2).mono ?_; rintro e w' ⟨rfl, rfl⟩) | (go_at_call 54; with_reducible refine (ref_Often k p _ (by omega) hp1 hp2).mono ?_; rintro e w' ⟨rfl, rfl⟩) | (go_at_call 54; refine (c3.out _).mono ?_; rintro e w' ⟨rfl, rfl⟩) | (go_at_call 52; refine (HCH.out _).mono ?_; rintro e w' ⟨rfl, rfl⟩))
    go_ret
    exact ⟨by simp, (below_drewN HB1.out _).trans (HB3.out.mono HB1.out.size)⟩
theorem i64_wf {a : Int} (h : (Lit.int .i64 a).wf = true) : -9223372036854775808 ≤ a ∧ a ≤ 9223372036854775807 := by
  simpa [Lit.wf, IntKind.min, IntKind.max, IntKind.signed, IntKind.bits] using h
theorem binomSays_walk (n k p : Int) (w : World) (_wn : (Lit.int .i64 n).wf = true) (_wk : (Lit.int .i64 k).wf = true) (_wp : (Lit.int .i64 p).wf = true) :
    Calls Try.prog 7 #[.int .i64 n, .int .i64 k, .int .i64 p] w fun e w' => e = .returned (.bool true) ∧ Below w.heap.size w w' := by
  by_cases h : badB n k p
  · exact binomSays_bad n k p w h
  · unfold badB at h
    simp only [not_or] at h
    obtain ⟨h1, h2, h3, h4, h5, h6, h7⟩ := h
    obtain ⟨N, rfl⟩ := Int.eq_ofNat_of_zero_le (show 0 ≤ n by omega)
    obtain ⟨K, rfl⟩ := Int.eq_ofNat_of_zero_le (show 0 ≤ k by omega)
    obtain ⟨q, rfl⟩ := Int.eq_ofNat_of_zero_le (show 0 ≤ p by omega)
    have hq : prB q = true := by
      cases hq : prB q with
      | true => rfl
      | false => exact absurd hq h7
    exact binomSays_ok N K q w (by omega) (by omega) (prB_iff.1 hq) (by omega)
end Go.Proofs.Ytonphmkilikapab
