/- EuclidSays: for arbitrary numbers the functions of package euclid answer what the document says. Conditions: none. -/
import Derived.Test.YtonphmkilikapaaRows
import Derived.Test.YtonphmkilikapaaEuclid
import Derived.Test.YtonphmkilikapaaGcdOf
namespace Go.Proofs.Ytonphmkilikapaa
open Go.RowKit

theorem reads_new2 (w : World) (x y : Value) (e : TypeId) : Reads (w.alloc (.cells #[x, y] e)) (some ⟨w.heap.size, 0, none⟩) [x, y] := by
  intro j u hu
  refine ⟨w.heap.size, 0, rfl, ?_⟩
  match j, hu with
  | 0, hu => simp at hu; subst hu; simp [World.cell?_alloc_new]
  | 1, hu => simp at hu; subst hu; simp [World.cell?_alloc_new]

set_option maxRecDepth 100000 in
set_option maxHeartbeats 1000000 in
theorem euclidSays_bad (a b : Int) (w : World) (h : (a < -1000000000 ∨ 1000000000 < a) ∨ (b < -1000000000 ∨ 1000000000 < b)) :
    Calls Try.prog 9 #[.int .i64 a, .int .i64 b] w fun e w' => e = .returned (.bool true) ∧ Below w.heap.size w w' := by
  have hb : Hid ([a, b].any bigB = true) := by
    show _ = _
    simp only [List.any_cons, List.any_nil, Bool.or_false, bigB, ← Bool.decide_or, decide_eq_true_eq]
    exact h
  have H := Lib.hid h
  clear h
  go_enter Try.func9, Try.ntmps9
  go_wp2_with (first | (go_at_call 40; refine (euclid_Gcd_bad a b _ H.out).mono ?_; rintro e w' ⟨rfl, n, rfl⟩) | (go_at_call 41; refine (euclid_Lcm_bad a b _ H.out).mono ?_; rintro e w' ⟨rfl, n2, rfl⟩) | (go_at_call 42; refine (euclid_Bezout_bad a b _ H.out).mono ?_; rintro e w' ⟨rfl, n3, rfl⟩) | (go_at_call 43; refine (euclid_Steps_bad a b _ (by have := H.out; omega)).mono ?_; rintro e w' ⟨rfl, n4, rfl⟩) | (go_at_call 44; refine (big_any [a, b] _ 2 _ (by simp) (reads_new2 _ _ _ _)).mono ?_; rw [hb.out]; rintro e w' ⟨rfl, n5, rfl⟩))
  go_ret
  exact ⟨rfl, (by repeat (first | exact Below.refl _ _ | apply below_drewN | (refine Below.alloc ?_ (by simp) _)))⟩

/-- What the law asks, in the walk's own spelling: A and B are the amounts of a and b. -/
structure EuLaw (a b A B : Int) : Prop where
  g1 : 1 ≤ gI a b
  A0 : 0 ≤ A / gI a b
  Am : A / gI a b ≤ 1000000000
  B0 : 0 ≤ B / gI a b
  Bm : B / gI a b ≤ 1000000000
  P0 : 0 ≤ A / gI a b * (B / gI a b)
  Pm : A / gI a b * (B / gI a b) ≤ 1000000000000000000
theorem euLaw (a b A B : Int) (ha : -1000000000 ≤ a) (ha' : a ≤ 1000000000) (hb : -1000000000 ≤ b) (hb' : b ≤ 1000000000) (h0 : a ≠ 0 ∨ b ≠ 0)
    (hA : (if a < -a then -a else a) = A) (hB : (if b < -b then -b else b) = B) : EuLaw a b A B := by
  have g1 := gI_pos a b h0
  have A0 : 0 ≤ A := by split at hA <;> omega
  have B0 : 0 ≤ B := by split at hB <;> omega
  have Am : A ≤ 1000000000 := by split at hA <;> omega
  have Bm : B ≤ 1000000000 := by split at hB <;> omega
  have qA := Int.ediv_nonneg A0 (show 0 ≤ gI a b by omega)
  have qB := Int.ediv_nonneg B0 (show 0 ≤ gI a b by omega)
  have qA' : A / gI a b ≤ A := Int.ediv_le_self _ A0
  have qB' : B / gI a b ≤ B := Int.ediv_le_self _ B0
  have hp : (A / gI a b * (B / gI a b)).natAbs ≤ 1000000000 * 1000000000 := by
    rw [Int.natAbs_mul]; exact Nat.mul_le_mul (by omega) (by omega)
  have hp0 := Int.mul_nonneg qA qB
  exact ⟨g1, qA, by omega, qB, by omega, hp0, by omega⟩
/-- The least common multiple, where neither number is 0. -/
theorem lcm_law (a b A B : Int) (ha : a ≠ 0) (hb : b ≠ 0) (hA : (if a < -a then -a else a) = A) (hB : (if b < -b then -b else b) = B) :
    1 ≤ lcmI a b ∧ lcmI a b / gI a b = A / gI a b * (B / gI a b) ∧ lcmI a b % gI a b = 0 ∧ lcmI a b ≤ A * B := by
  obtain ⟨g, a', b', h1, h2, h3, h4, h5, h6⟩ := gcd_split a b hb
  have hg : gI a b = g := by rw [h1]; rfl
  have h3' : a' ≠ 0 := by intro h; rw [h] at h3; simp at h3; exact ha h3
  have eA : A = g * a'.natAbs := by
    have : A = a.natAbs := by split at hA <;> omega
    rw [this, h3, Int.natAbs_mul]; push_cast; rw [show ((g.natAbs : Int)) = g by omega]
  have eB : B = g * b'.natAbs := by
    have : B = b.natAbs := by split at hB <;> omega
    rw [this, h4, Int.natAbs_mul]; push_cast; rw [show ((g.natAbs : Int)) = g by omega]
  have eL : lcmI a b = g * (a'.natAbs * b'.natAbs : Int) := by
    unfold lcmI
    rw [if_neg (by omega), hg, h3, tdiv_cancel g a' h2, h4]
    have hm : ∀ x : Int, max x (-x) = x.natAbs := by intro x; omega
    rw [hm, Int.natAbs_mul, Int.natAbs_mul]
    push_cast
    rw [show ((g.natAbs : Int)) = g by omega, Int.mul_left_comm]
  have ga : A / g = a'.natAbs := by rw [eA, Int.mul_ediv_cancel_left _ (by omega)]
  have gb : B / g = b'.natAbs := by rw [eB, Int.mul_ediv_cancel_left _ (by omega)]
  rw [hg, ga, gb, eL]
  have p1 : 1 ≤ (a'.natAbs * b'.natAbs : Int) := Int.mul_pos (by omega) (by omega)
  refine ⟨?_, by rw [Int.mul_ediv_cancel_left _ (by omega)], by simp, ?_⟩
  · have := Int.mul_pos (show 0 < g by omega) p1; omega
  · rw [eA, eB]
    have : g * (a'.natAbs : Int) * (g * (b'.natAbs : Int)) = g * (g * (a'.natAbs * b'.natAbs : Int)) := by
      simp only [Int.mul_assoc, Int.mul_left_comm]
    rw [this]
    refine Int.mul_le_mul_of_nonneg_left ?_ (by omega)
    have := Int.mul_le_mul_of_nonneg_right (show (1 : Int) ≤ g by omega) (show (0 : Int) ≤ (a'.natAbs * b'.natAbs : Int) by omega)
    omega


set_option maxRecDepth 100000 in
set_option maxHeartbeats 2000000 in
/-- The walk where b is not 0, up to the last part (the steps). -/
theorem euclidSays_ok (a b : Int) (w : World) (ha : -1000000000 ≤ a) (ha' : a ≤ 1000000000) (hb : -1000000000 ≤ b) (hb' : b ≤ 1000000000) (h0 : b ≠ 0) :
    Calls Try.prog 9 #[.int .i64 a, .int .i64 b] w fun e w' => e = .returned (.bool true) ∧ Below w.heap.size w w' := by
  have hbig : Hid ([a, b].any bigB = false) := by
    show _ = _
    simp [bigB]; omega
  obtain ⟨A, hA⟩ : ∃ A, (if a < -a then -a else a) = A := ⟨_, rfl⟩
  obtain ⟨B, hB⟩ : ∃ B, (if b < -b then -b else b) = B := ⟨_, rfl⟩
  have E := euLaw a b A B ha ha' hb hb' (.inr h0) hA hB
  have g1 := E.g1; have A0 := E.A0; have Am := E.Am; have B0 := E.B0; have Bm := E.Bm; have P0 := E.P0; have Pm := E.Pm
  have S := bezSteps a b ha ha' hb hb' h0
  have gm := S.gm; have x0 := S.x0; have xm := S.xm; have plo := S.plo; have phi := S.phi
  have L := bez_law a b h0
  have xB : bezX a b < B / gI a b := by
    have := L.2.1
    rw [max_if, hB, Int.tdiv_eq_ediv_of_nonneg (by split at hB <;> omega)] at this
    exact this
  have y1 : -1000000001000000000 ≤ bezY a b * b := by have := L.2.2; omega
  have y2 : bezY a b * b ≤ 1000000001000000000 := by have := L.2.2; omega
  have hs : (bezX a b * a + bezY a b * b != gI a b) = false := by rw [L.2.2]; simp
  have zb : (b == 0) = false := by simp; exact h0
  have za0 : (a == 0) = false ∨ (a == 0) = true := by cases (a == 0) <;> simp
  have LL : Hid (a ≠ 0 → 1 ≤ lcmI a b ∧ lcmI a b / gI a b = A / gI a b * (B / gI a b) ∧ lcmI a b % gI a b = 0 ∧ lcmI a b ≤ A * B) := fun h => lcm_law a b A B h h0 hA hB
  clear L E S
  rcases za0 with za | za
  · have L2 := LL.out (by simpa using za)
    have l1 := L2.1
    have lq : (lcmI a b / gI a b != A / gI a b * (B / gI a b)) = false := by rw [L2.2.1]; simp
    have lr : (lcmI a b % gI a b != 0) = false := by rw [L2.2.2.1]; simp
    have lm : lcmI a b ≤ 9223372036854775807 := by
      have hp : (A * B).natAbs ≤ 1000000000 * 1000000000 := by
        rw [Int.natAbs_mul]; refine Nat.mul_le_mul ?_ ?_
        · split at hA <;> omega
        · split at hB <;> omega
      omega
    clear L2
    have gz : ¬ gI a b = 0 := by omega
    have hA0 : 0 ≤ A ∧ A ≤ 1000000000 := by split at hA <;> omega
    have hB0 : 0 ≤ B ∧ B ≤ 1000000000 := by split at hB <;> omega
    have wl : IntKind.i64.wrap ((lcmI a b).tdiv (gI a b)) = lcmI a b / gI a b := IntWalk.i64_quo _ _ ⟨by omega, lm, g1⟩
    have wA : IntKind.i64.wrap (A.tdiv (gI a b)) = A / gI a b := IntWalk.i64_quo _ _ ⟨by omega, by omega, g1⟩
    have wB : IntKind.i64.wrap (B.tdiv (gI a b)) = B / gI a b := IntWalk.i64_quo _ _ ⟨by omega, by omega, g1⟩
    have wP : IntKind.i64.wrap (A / gI a b * (B / gI a b)) = A / gI a b * (B / gI a b) := IntWalk.i64_in _ (by omega)
    have tm : (lcmI a b).tmod (gI a b) = lcmI a b % gI a b := IntWalk.rem_in _ _ (by omega)
    have na : IntKind.i64.wrap (-a) = -a := IntWalk.i64_in _ (by omega)
    have nb : IntKind.i64.wrap (-b) = -b := IntWalk.i64_in _ (by omega)
    have ld : decide (lcmI a b < 1) = false := by simp; omega
    clear hA0 hB0
    go_enter Try.func9, Try.ntmps9
    go_wp2_with (first | (go_at_call 40; refine (euclid_Gcd a b _ ha ha' hb hb').mono ?_; rintro e w' ⟨rfl, n, rfl⟩) | (go_at_call 41; refine (euclid_Lcm a b _ ha ha' hb hb').mono ?_; rintro e w' ⟨rfl, n2, rfl⟩) | (go_at_call 42; refine (euclid_Bezout a b _ ha ha' hb hb').mono ?_; rintro e w' ⟨rfl, n3, rfl⟩))
    by_cases hneg : a < 0 ∨ b < 0
    · refine (euclid_Steps_bad a b _ (by omega)).mono ?_; rintro e w' ⟨rfl, n4, rfl⟩
      have HN := Lib.hid hneg
      clear hneg
      go_wp2_with (first | (go_at_call 44; refine (big_any [a, b] _ 2 _ (by simp) (reads_new2 _ _ _ _)).mono ?_; rw [hbig.out]; rintro e w' ⟨rfl, n5, rfl⟩) | (go_at_call 45; refine (gcdOf a b _ (by omega) (by omega) (by omega) (by omega)).mono ?_; rintro e w' ⟨rfl, rfl⟩))
      go_quiet (fail)
      by_cases hn1 : a < 0
      · go_wp2
        go_ret
        exact ⟨rfl, (by repeat (first | exact Below.refl _ _ | apply below_drewN | (refine Below.alloc ?_ (by simp) _)))⟩
      · have hn2 : b < 0 := by have := HN.out; omega
        go_wp2
        go_ret
        exact ⟨rfl, (by repeat (first | exact Below.refl _ _ | apply below_drewN | (refine Below.alloc ?_ (by simp) _)))⟩
    · refine (euclid_Steps a b _ (by omega) ha' (by omega) hb').mono ?_; rintro e w' ⟨rfl, n4, rfl⟩
      have HN := Lib.hid hneg
      clear hneg
      go_wp2_with (first | (go_at_call 44; refine (big_any [a, b] _ 2 _ (by simp) (reads_new2 _ _ _ _)).mono ?_; rw [hbig.out]; rintro e w' ⟨rfl, n5, rfl⟩) | (go_at_call 45; refine (gcdOf a b _ (by omega) (by omega) (by omega) (by omega)).mono ?_; rintro e w' ⟨rfl, rfl⟩))
      go_quiet (fail)
      have hn1 : 0 ≤ a := by have := HN.out; omega
      have hn2 : 0 ≤ b := by have := HN.out; omega
      go_wp2
      go_loopw [0, 1, 15] (fun va vb vn wr => ∃ c d k : Int, va = .int .i64 c ∧ vb = .int .i64 d ∧ vn = .int .i64 k ∧ 0 ≤ c ∧ c ≤ 1000000000 ∧ 0 ≤ d ∧ d ≤ 1000000000 ∧ 0 ≤ k ∧ k ≤ 1000000000 ∧ Hid (k + stepsI c d = stepsI a b) ∧ Below w.heap.size w wr) (fun _ vb _ _ => (intOf vb).toNat)
      case atStart => exact ⟨a, b, 0, rfl, rfl, rfl, by omega, ha', by omega, hb', by omega, by omega, by show _ = _; omega, (by repeat (first | exact Below.refl _ _ | apply below_drewN | (refine Below.alloc ?_ (by simp) _)))⟩
      case round =>
        obtain ⟨c, d, k, rfl, rfl, rfl, hc, hc', hd, hd', hk, hk', hs2, hbel⟩ := hrel
        by_cases h0 : d = 0
        · subst h0
          have hk2 : (stepsI a b == k) = true := by
            have := hs2.out
            rw [stepsI_zero] at this
            simp; omega
          go_wp2
          go_ret
          exact ⟨by first | rfl | exact ret_bool hk2, hbel⟩
        · have z : 0 < d := by omega
          have gz2 : ¬ d = 0 := h0
          have hq : c - c / d * d = c % d := by have := Int.emod_add_mul_ediv c d; rw [Int.mul_comm] at this; omega
          have hm : Hid (c % d < d) := Int.emod_lt_of_pos c (by omega)
          have hm0 : 0 ≤ c % d := Int.emod_nonneg c h0
          have q0 : 0 ≤ c / d := Int.ediv_nonneg hc (by omega)
          have q1 : c / d ≤ 1000000000 := by have := Int.ediv_le_self d hc; omega
          have qd0 : 0 ≤ c / d * d := Int.mul_nonneg q0 hd
          have qd1 : c / d * d ≤ 1000000000 := by omega
          have hkb : k + 1 ≤ 1000000000 := by
            have h1 := hs2.out; rw [stepsI_succ c d hc (by omega)] at h1; have := (stepsI_bd d (c % d)).1; have := (stepsI_bd a b).2; omega
          have hs3 : Hid (k + 1 + stepsI d (c % d) = stepsI a b) := by
            have h1 := hs2.out; rw [stepsI_succ c d hc (by omega)] at h1; show _ = _; omega
          go_wp2
          go_quiet (fail)
          go_wp2
          go_roundw
          case rel => exact ⟨_, _, _, rfl, rfl, rfl, hd, hd', hm0, by have := hm.out; omega, by omega, hkb, hs3, below_drewN hbel _⟩
          case measure => have := hm.out; simp [intOf]; omega
  · have lz : (lcmI a b != 0) = false := by
      have : a = 0 := by simpa using za
      simp [lcmI, this]
    go_enter Try.func9, Try.ntmps9
    go_wp2_with (first | (go_at_call 40; refine (euclid_Gcd a b _ ha ha' hb hb').mono ?_; rintro e w' ⟨rfl, n, rfl⟩) | (go_at_call 41; refine (euclid_Lcm a b _ ha ha' hb hb').mono ?_; rintro e w' ⟨rfl, n2, rfl⟩) | (go_at_call 42; refine (euclid_Bezout a b _ ha ha' hb hb').mono ?_; rintro e w' ⟨rfl, n3, rfl⟩))
    by_cases hneg : a < 0 ∨ b < 0
    · refine (euclid_Steps_bad a b _ (by omega)).mono ?_; rintro e w' ⟨rfl, n4, rfl⟩
      by_cases hn1 : a < 0
      · go_wp2_with (first | (go_at_call 44; refine (big_any [a, b] _ 2 _ (by simp) (reads_new2 _ _ _ _)).mono ?_; rw [hbig.out]; rintro e w' ⟨rfl, n5, rfl⟩) | (go_at_call 45; refine (gcdOf a b _ (by omega) (by omega) (by omega) (by omega)).mono ?_; rintro e w' ⟨rfl, rfl⟩))
        go_ret
        exact ⟨rfl, (by repeat (first | exact Below.refl _ _ | apply below_drewN | (refine Below.alloc ?_ (by simp) _)))⟩
      · have hn2 : b < 0 := by omega
        go_wp2_with (first | (go_at_call 44; refine (big_any [a, b] _ 2 _ (by simp) (reads_new2 _ _ _ _)).mono ?_; rw [hbig.out]; rintro e w' ⟨rfl, n5, rfl⟩) | (go_at_call 45; refine (gcdOf a b _ (by omega) (by omega) (by omega) (by omega)).mono ?_; rintro e w' ⟨rfl, rfl⟩))
        go_ret
        exact ⟨rfl, (by repeat (first | exact Below.refl _ _ | apply below_drewN | (refine Below.alloc ?_ (by simp) _)))⟩
    · refine (euclid_Steps a b _ (by omega) ha' (by omega) hb').mono ?_; rintro e w' ⟨rfl, n4, rfl⟩
      have hn1 : 0 ≤ a := by omega
      have hn2 : 0 ≤ b := by omega
      clear hneg
      go_wp2_with (first | (go_at_call 44; refine (big_any [a, b] _ 2 _ (by simp) (reads_new2 _ _ _ _)).mono ?_; rw [hbig.out]; rintro e w' ⟨rfl, n5, rfl⟩) | (go_at_call 45; refine (gcdOf a b _ (by omega) (by omega) (by omega) (by omega)).mono ?_; rintro e w' ⟨rfl, rfl⟩))
      go_loopw [0, 1, 15] (fun va vb vn wr => ∃ c d k : Int, va = .int .i64 c ∧ vb = .int .i64 d ∧ vn = .int .i64 k ∧ 0 ≤ c ∧ c ≤ 1000000000 ∧ 0 ≤ d ∧ d ≤ 1000000000 ∧ 0 ≤ k ∧ k ≤ 1000000000 ∧ Hid (k + stepsI c d = stepsI a b) ∧ Below w.heap.size w wr) (fun _ vb _ _ => (intOf vb).toNat)
      case atStart => exact ⟨a, b, 0, rfl, rfl, rfl, by omega, ha', by omega, hb', by omega, by omega, by show _ = _; omega, (by repeat (first | exact Below.refl _ _ | apply below_drewN | (refine Below.alloc ?_ (by simp) _)))⟩
      case round =>
        obtain ⟨c, d, k, rfl, rfl, rfl, hc, hc', hd, hd', hk, hk', hs2, hbel⟩ := hrel
        by_cases h0 : d = 0
        · subst h0
          have hk2 : (stepsI a b == k) = true := by
            have := hs2.out
            rw [stepsI_zero] at this
            simp; omega
          go_wp2
          go_ret
          exact ⟨by first | rfl | exact ret_bool hk2, hbel⟩
        · have z : 0 < d := by omega
          have gz2 : ¬ d = 0 := h0
          have hq : c - c / d * d = c % d := by have := Int.emod_add_mul_ediv c d; rw [Int.mul_comm] at this; omega
          have hm : Hid (c % d < d) := Int.emod_lt_of_pos c (by omega)
          have hm0 : 0 ≤ c % d := Int.emod_nonneg c h0
          have q0 : 0 ≤ c / d := Int.ediv_nonneg hc (by omega)
          have q1 : c / d ≤ 1000000000 := by have := Int.ediv_le_self d hc; omega
          have qd0 : 0 ≤ c / d * d := Int.mul_nonneg q0 hd
          have qd1 : c / d * d ≤ 1000000000 := by omega
          have hkb : k + 1 ≤ 1000000000 := by
            have h1 := hs2.out; rw [stepsI_succ c d hc (by omega)] at h1; have := (stepsI_bd d (c % d)).1; have := (stepsI_bd a b).2; omega
          have hs3 : Hid (k + 1 + stepsI d (c % d) = stepsI a b) := by
            have h1 := hs2.out; rw [stepsI_succ c d hc (by omega)] at h1; show _ = _; omega
          go_wp2
          go_quiet (fail)
          go_wp2
          go_roundw
          case rel => exact ⟨_, _, _, rfl, rfl, rfl, hd, hd', hm0, by have := hm.out; omega, by omega, hkb, hs3, below_drewN hbel _⟩
          case measure => have := hm.out; simp [intOf]; omega
end Go.Proofs.Ytonphmkilikapaa
