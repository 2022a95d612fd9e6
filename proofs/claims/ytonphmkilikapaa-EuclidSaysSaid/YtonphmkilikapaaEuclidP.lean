/- EuclidSays where b is 0, and the law whole. -/
import Derived.Test.YtonphmkilikapaaEuclidL
namespace Go.Proofs.Ytonphmkilikapaa
open Go.RowKit
set_option maxRecDepth 100000 in
set_option maxHeartbeats 2000000 in
theorem euclidSays_zero (a : Int) (w : World) (ha : -1000000000 ≤ a) (ha' : a ≤ 1000000000) :
    Calls Try.prog 9 #[.int .i64 a, .int .i64 0] w fun e w' => e = .returned (.bool true) ∧ Below w.heap.size w w' := by
  have hbig : Hid ([a, 0].any bigB = false) := by
    show _ = _
    simp [bigB]; omega
  have lz : (lcmI a 0 != 0) = false := by simp [lcmI]
  have yz : (bezY a 0 != 0) = false := by simp [bezY]
  have hg : gI a 0 = (a.natAbs : Int) := by simp [gI]
  have hst : (stepsI a 0 == 0) = true := by rw [stepsI_zero]; rfl
  have hx : bezX a 0 * a = gI a 0 := by
    rw [hg]; simp only [bezX, if_true]
    split
    · omega
    · split <;> omega
  have hx2 : (bezX a 0 * a != gI a 0) = false := by rw [hx]; simp
  have hx3 : a = 0 → (bezX a 0 != 0) = false := by intro h; subst h; simp [bezX]
  have hg0 : 0 ≤ gI a 0 := by omega
  have hgm : gI a 0 ≤ 1000000000 := by omega
  have p1 : -1000000000 ≤ bezX a 0 * a := by rw [hx]; omega
  have p2 : bezX a 0 * a ≤ 1000000000 := by rw [hx]; omega
  clear hg hx
  by_cases hneg : a < 0
  · have za : (a == 0) = false := by simp; omega
    clear hx3
    go_enter Try.func9, Try.ntmps9
    go_wp2_with (first | (go_at_call 40; refine (euclid_Gcd a 0 _ ha ha' (by omega) (by omega)).mono ?_; rintro e w' ⟨rfl, n, rfl⟩) | (go_at_call 41; refine (euclid_Lcm a 0 _ ha ha' (by omega) (by omega)).mono ?_; rintro e w' ⟨rfl, n2, rfl⟩) | (go_at_call 42; refine (euclid_Bezout a 0 _ ha ha' (by omega) (by omega)).mono ?_; rintro e w' ⟨rfl, n3, rfl⟩))
    refine (euclid_Steps_bad a 0 _ (by omega)).mono ?_; rintro e w' ⟨rfl, n4, rfl⟩
    go_wp2_with (first | (go_at_call 44; refine (big_any [a, 0] _ 2 _ (by simp) (reads_new2 _ _ _ _)).mono ?_; rw [hbig.out]; rintro e w' ⟨rfl, n5, rfl⟩) | (go_at_call 45; refine (gcdOf a 0 _ (by omega) (by omega) (by omega) (by omega)).mono ?_; rintro e w' ⟨rfl, rfl⟩))
    go_ret
    exact ⟨rfl, (by repeat (first | exact Below.refl _ _ | apply below_drewN | (refine Below.alloc ?_ (by simp) _)))⟩
  · by_cases h0 : a = 0
    · subst h0
      have hx4 := hx3 rfl
      clear hx3
      go_enter Try.func9, Try.ntmps9
      go_wp2_with (first | (go_at_call 40; refine (euclid_Gcd 0 0 _ ha ha' (by omega) (by omega)).mono ?_; rintro e w' ⟨rfl, n, rfl⟩) | (go_at_call 41; refine (euclid_Lcm 0 0 _ ha ha' (by omega) (by omega)).mono ?_; rintro e w' ⟨rfl, n2, rfl⟩) | (go_at_call 42; refine (euclid_Bezout 0 0 _ ha ha' (by omega) (by omega)).mono ?_; rintro e w' ⟨rfl, n3, rfl⟩))
      refine (euclid_Steps 0 0 _ (by omega) (by omega) (by omega) (by omega)).mono ?_; rintro e w' ⟨rfl, n4, rfl⟩
      go_wp2_with (first | (go_at_call 44; refine (big_any [0, 0] _ 2 _ (by simp) (reads_new2 _ _ _ _)).mono ?_; rw [hbig.out]; rintro e w' ⟨rfl, n5, rfl⟩) | (go_at_call 45; refine (gcdOf 0 0 _ (by omega) (by omega) (by omega) (by omega)).mono ?_; rintro e w' ⟨rfl, rfl⟩))
      refine wp_loop_rounds 1 ?_
      rw [rounds_succ]
      go_wp2
      go_ret
      exact ⟨rfl, (by repeat (first | exact Below.refl _ _ | apply below_drewN | (refine Below.alloc ?_ (by simp) _)))⟩
    · have za : (a == 0) = false := by simp; omega
      clear hx3
      go_enter Try.func9, Try.ntmps9
      go_wp2_with (first | (go_at_call 40; refine (euclid_Gcd a 0 _ ha ha' (by omega) (by omega)).mono ?_; rintro e w' ⟨rfl, n, rfl⟩) | (go_at_call 41; refine (euclid_Lcm a 0 _ ha ha' (by omega) (by omega)).mono ?_; rintro e w' ⟨rfl, n2, rfl⟩) | (go_at_call 42; refine (euclid_Bezout a 0 _ ha ha' (by omega) (by omega)).mono ?_; rintro e w' ⟨rfl, n3, rfl⟩))
      refine (euclid_Steps a 0 _ (by omega) (by omega) (by omega) (by omega)).mono ?_; rintro e w' ⟨rfl, n4, rfl⟩
      go_wp2_with (first | (go_at_call 44; refine (big_any [a, 0] _ 2 _ (by simp) (reads_new2 _ _ _ _)).mono ?_; rw [hbig.out]; rintro e w' ⟨rfl, n5, rfl⟩) | (go_at_call 45; refine (gcdOf a 0 _ (by omega) (by omega) (by omega) (by omega)).mono ?_; rintro e w' ⟨rfl, rfl⟩))
      refine wp_loop_rounds 1 ?_
      rw [rounds_succ]
      go_wp2
      go_ret
      exact ⟨rfl, (by repeat (first | exact Below.refl _ _ | apply below_drewN | (refine Below.alloc ?_ (by simp) _)))⟩

theorem i64_wf {a : Int} (h : (Lit.int .i64 a).wf = true) : -9223372036854775808 ≤ a ∧ a ≤ 9223372036854775807 := by
  simpa [Lit.wf, IntKind.min, IntKind.max, IntKind.signed, IntKind.bits] using h
theorem euclidSays_walk (a b : Int) (w : World) (_wa : (Lit.int .i64 a).wf = true) (_wb : (Lit.int .i64 b).wf = true) :
    Calls Try.prog 9 #[.int .i64 a, .int .i64 b] w fun e w' => e = .returned (.bool true) ∧ Below w.heap.size w w' := by
  by_cases h : (a < -1000000000 ∨ 1000000000 < a) ∨ (b < -1000000000 ∨ 1000000000 < b)
  · exact euclidSays_bad a b w h
  · by_cases h0 : b = 0
    · subst h0; exact euclidSays_zero a w (by omega) (by omega)
    · exact euclidSays_ok a b w (by omega) (by omega) (by omega) (by omega) h0
end Go.Proofs.Ytonphmkilikapaa
