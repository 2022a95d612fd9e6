/- Contracts of binom.check, Mod, Times, Of and of the reference's ChooseOf, ChooseMod. -/
import Derived.Test.YtonphmkilikapabRows
import Derived.Test.YtonphmkilikapabBinom
import Derived.Test.YtonphmkilikapabRow
import Derived.RegionTactic
import Derived.ChangeAlike
namespace Go.Proofs.Ytonphmkilikapab
open Go.RowKit

set_option maxRecDepth 20000 in
set_option maxHeartbeats 400000 in
theorem binom_check (n k p : Nat) (w : World) (hn : n ≤ 1000000000) (hk : k ≤ n) (hp : IsPr p) (hp2 : p ≤ 1000) :
    Calls Try.prog 120 #[.int .i64 n, .int .i64 k, .int .i64 p] w fun e w' => e = .returned (.int .i64 0) ∧ w = w' := by
  have HB := Lib.hid (prB_true hp)
  have d1 : decide ((1000000000 : Int) < n) = false := by simp; omega
  have d2 : decide ((n : Int) < 0) = false := by simp
  have d3 : decide ((k : Int) < 0) = false := by simp
  have d4 : decide ((n : Int) < k) = false := by simp; omega
  have d4' : decide (n < k) = false := by simp; omega
  have d5 : decide ((1000 : Int) < p) = false := by simp; omega
  clear hp
  go_enter Try.func120, Try.ntmps120
  go_wp2_with (go_at_call 114; refine (prime_Is p _ (by omega)).mono ?_; rw [HB.out]; rintro e w' ⟨rfl, rfl⟩)
  go_ret
  exact ⟨rfl, rfl⟩
def badB (n k p : Int) : Prop := n < 0 ∨ 1000000000 < n ∨ k < 0 ∨ n < k ∨ p < 2 ∨ 1000 < p ∨ prB p.toNat = false
set_option maxRecDepth 20000 in
set_option maxHeartbeats 2000000 in
theorem binom_check_bad (n k p : Int) (w : World) (h : badB n k p) :
    Calls Try.prog 120 #[.int .i64 n, .int .i64 k, .int .i64 p] w fun e w' => e = .returned (.int .i64 1) ∧ w = w' := by
  have key : ∀ (b1 b2 b3 b4 b5 b6 b7 : Bool), decide (n < 0) = b1 → decide (1000000000 < n) = b2 → decide (k < 0) = b3 → decide (n < k) = b4 → decide (1000 < p) = b5 →
      (b1 || b2 || b3 || b4 || b6 || !b7 || b5) = true → (∀ w : World, Calls Try.prog 114 #[.int .i64 p] w fun e w' => e = .returned (.tuple #[.bool b7, .int .i64 (if b6 = true then 1 else 0)]) ∧ w = w') →
      Calls Try.prog 120 #[.int .i64 n, .int .i64 k, .int .i64 p] w fun e w' => e = .returned (.int .i64 1) ∧ w = w' := by
    intro b1 b2 b3 b4 b5 b6 b7 h1 h2 h3 h4 h5 hb hc
    have HC := Lib.hid hc
    clear hc h
    go_enter Try.func120, Try.ntmps120
    by_cases hxb1 : b1 = true
    · subst hxb1
      clear hb
      go_wp2_with (go_at_call 114; refine (HC.out _).mono ?_; rintro e w' ⟨rfl, rfl⟩)
      all_goals (go_ret; exact ⟨rfl, rfl⟩)
    obtain rfl : b1 = false := by cases b1 <;> simp_all
    by_cases hxb2 : b2 = true
    · subst hxb2
      clear hb
      go_wp2_with (go_at_call 114; refine (HC.out _).mono ?_; rintro e w' ⟨rfl, rfl⟩)
      all_goals (go_ret; exact ⟨rfl, rfl⟩)
    obtain rfl : b2 = false := by cases b2 <;> simp_all
    by_cases hxb3 : b3 = true
    · subst hxb3
      clear hb
      go_wp2_with (go_at_call 114; refine (HC.out _).mono ?_; rintro e w' ⟨rfl, rfl⟩)
      all_goals (go_ret; exact ⟨rfl, rfl⟩)
    obtain rfl : b3 = false := by cases b3 <;> simp_all
    by_cases hxb4 : b4 = true
    · subst hxb4
      clear hb
      go_wp2_with (go_at_call 114; refine (HC.out _).mono ?_; rintro e w' ⟨rfl, rfl⟩)
      all_goals (go_ret; exact ⟨rfl, rfl⟩)
    obtain rfl : b4 = false := by cases b4 <;> simp_all
    by_cases hxb6 : b6 = true
    · subst hxb6
      clear hb
      go_wp2_with (go_at_call 114; refine (HC.out _).mono ?_; rintro e w' ⟨rfl, rfl⟩)
      all_goals (go_ret; exact ⟨rfl, rfl⟩)
    obtain rfl : b6 = false := by cases b6 <;> simp_all
    by_cases hxb7 : b7 = false
    · subst hxb7
      clear hb
      go_wp2_with (go_at_call 114; refine (HC.out _).mono ?_; rintro e w' ⟨rfl, rfl⟩)
      all_goals (go_ret; exact ⟨rfl, rfl⟩)
    obtain rfl : b7 = true := by cases b7 <;> simp_all
    by_cases hxb5 : b5 = true
    · subst hxb5
      clear hb
      go_wp2_with (go_at_call 114; refine (HC.out _).mono ?_; rintro e w' ⟨rfl, rfl⟩)
      all_goals (go_ret; exact ⟨rfl, rfl⟩)
    obtain rfl : b5 = false := by cases b5 <;> simp_all
    simp at hb
  unfold badB at h
  by_cases hp : p < 0 ∨ 1000000 < p
  · refine key _ _ _ _ _ true false rfl rfl rfl rfl rfl (by simp) fun w => (prime_Is_bad p w hp).mono ?_
    rintro e w' ⟨rfl, rfl⟩
    exact ⟨rfl, rfl⟩
  · obtain ⟨q, rfl⟩ := Int.eq_ofNat_of_zero_le (show 0 ≤ p by omega)
    refine key _ _ _ _ _ false (prB q) rfl rfl rfl rfl rfl ?_ fun w => (prime_Is q w (by omega)).mono ?_
    · have h2 : (q : Int) < 2 → prB q = false := fun h => prB_false fun h3 => by have := h3.1; omega
      rcases h with h | h | h | h | h | h | h
      · simp [h]
      · simp [h]
      · simp [h]
      · have : decide (n < k) = true := by simp; exact h
        rw [this]; simp
      · rw [h2 h]; simp
      · have : decide ((1000 : Int) < (q : Int)) = true := by simp; omega
        rw [this]; simp
      · have h3 : prB q = false := h
        rw [h3]; simp
    · rintro e w' ⟨rfl, rfl⟩
      exact ⟨rfl, rfl⟩

theorem binom_small_any (N K : Int) (n k p c : Nat) (hN : N = (n : Int)) (hK : K = (k : Int)) (hc : ch n k % p = c) (hn : n < p) (hk : k < p) (hp : IsPr p) (hp2 : p ≤ 1000) (w : World) :
    Calls Try.prog 121 #[.int .i64 N, .int .i64 K, .int .i64 p] w fun e w' => e = .returned (.int .i64 (c : Nat)) ∧ ∃ m, w' = w.drewN m := by
  subst hN hK hc
  exact binom_small n k p w hn hk hp hp2

set_option maxRecDepth 20000 in
set_option maxHeartbeats 1000000 in
theorem binom_Mod (n k p : Nat) (w : World) (hn : n ≤ 1000000000) (hk : k ≤ n) (hp : IsPr p) (hp2 : p ≤ 1000) :
    Calls Try.prog 50 #[.int .i64 n, .int .i64 k, .int .i64 p] w fun e w' => e = .returned (.tuple #[.int .i64 (chMod n k p : Nat), .int .i64 0]) ∧ ∃ m, w' = w.drewN m := by
  have HP := Lib.hid hp
  have hp1 := hp.1
  have hpz : ¬ (p : Int) = 0 := by omega
  clear hp
  go_enter Try.func50, Try.ntmps50
  go_wp2_with (go_at_call 120; refine (binom_check n k p _ hn hk HP.out hp2).mono ?_; rintro e w' ⟨rfl, rfl⟩)
  go_loopw [0, 1, 9] (fun vn vk vo wr => ∃ m j o : Nat, vn = .int .i64 m ∧ vk = .int .i64 j ∧ vo = .int .i64 o ∧ m ≤ 1000000000 ∧ j ≤ 1000000000 ∧ o < p ∧ Hid (luc p (m + j) m j o = chMod n k p) ∧ ∃ q, wr = w.drewN q) (fun vn vk _ _ => (intOf vn).toNat + (intOf vk).toNat)
  case atStart => exact ⟨n, k, 1, rfl, rfl, rfl, hn, by omega, by omega, rfl, 0, rfl⟩
  case round =>
    obtain ⟨m, j, o, rfl, rfl, rfl, hm, hj, ho, hg, q, rfl⟩ := hrel
    by_cases hz : m = 0 ∧ j = 0
    · obtain ⟨rfl, rfl⟩ := hz
      have hR : Hid (o = chMod n k p) := by show _ = _; have := hg.out; rwa [luc_done] at this
      have f1 : decide ((0 : Int) < ((0 : Nat) : Int)) = false := by simp
      go_wp2_with fail
      go_ret2
      exact ⟨by rw [← hR.out]; rfl, _, rfl⟩
    · obtain ⟨c, hc⟩ : ∃ c, ch (m % p) (j % p) % p = c := ⟨_, rfl⟩
      have hcp : c < p := by rw [← hc]; exact Nat.mod_lt _ (by omega)
      have HC := Lib.hid hc
      obtain ⟨p0, p1⟩ := prod_bd (M := 1000) (show (0 : Int) ≤ o by omega) (by omega) (show (0 : Int) ≤ c by omega) (by omega)
      have t1 : (m : Int).tmod p = ((m % p : Nat) : Int) := by rw [IntWalk.rem_in _ _ (by omega)]; push_cast; rfl
      have t2 : (j : Int).tmod p = ((j % p : Nat) : Int) := by rw [IntWalk.rem_in _ _ (by omega)]; push_cast; rfl
      have t3 : IntKind.i64.wrap ((o : Int) * c) = (o : Int) * c := IntWalk.i64_in _ (by omega)
      have t4 : ((o : Int) * c).tmod p = ((o * c % p : Nat) : Int) := by rw [IntWalk.rem_in _ _ (by omega)]; push_cast; rfl
      have t5 : IntKind.i64.wrap ((m : Int).tdiv p) = ((m / p : Nat) : Int) := by rw [IntWalk.i64_quo _ _ ⟨by omega, by omega, by omega⟩]; push_cast; rfl
      have t6 : IntKind.i64.wrap ((j : Int).tdiv p) = ((j / p : Nat) : Int) := by rw [IntWalk.i64_quo _ _ ⟨by omega, by omega, by omega⟩]; push_cast; rfl
      have hnew : Hid (luc p (m / p + j / p) (m / p) (j / p) (o * c % p) = chMod n k p) := by
        show _ = _
        rw [← hg.out, ← hc]
        obtain ⟨f, hf⟩ : ∃ f, m + j = f + 1 := ⟨m + j - 1, by omega⟩
        rw [hf, luc_step hz]
        have a1 : m / p ≤ m / 2 := Nat.div_le_div_left (by omega) (by omega)
        have a2 : j / p ≤ j / 2 := Nat.div_le_div_left (by omega) (by omega)
        exact luc_fuel p (by omega) _ _ _ _ _ (Nat.le_refl _) (by omega)
      have a1 : Hid (m / p + j / p < m + j ∧ m / p ≤ m ∧ j / p ≤ j) := by
        have a1 : m / p ≤ m / 2 := Nat.div_le_div_left (by omega) (by omega)
        have a2 : j / p ≤ j / 2 := Nat.div_le_div_left (by omega) (by omega)
        exact ⟨by omega, by omega, by omega⟩
      have hlt : Hid (o * c % p < p) := Nat.mod_lt _ (by omega)
      obtain ⟨qm0, qm1⟩ := quo_bd m p
      obtain ⟨qj0, qj1⟩ := quo_bd j p
      clear hc
      by_cases hm0 : m = 0
      · subst hm0
        have hj0 : 0 < j := by omega
        have HZ := Lib.hid hz
        clear hz
        go_wp2_with fail
        go_quiet ((go_at_call 121; exact quiet_at (fun W => binom_small_any _ _ (0 % p) (j % p) p c (by simp) (by push_cast; rfl) HC.out (Nat.mod_lt _ (by omega)) (Nat.mod_lt _ (by omega)) HP.out hp2 W)))
        go_wp2_with fail
        go_quiet (fail)
        go_wp2_with fail
        go_roundw
        case rel => exact ⟨0 / p, j / p, o * c % p, by simp, by push_cast; rfl, by push_cast; rfl, by have := a1.out; omega, by have := a1.out; omega, hlt.out, hnew, by first | exact dr3 _ _ _ _ | exact dr2 _ _ _ | exact ⟨_, rfl⟩⟩
        case measure =>
          have := a1.out
          have h3 : ((j / p : Nat) : Int) = (j : Int) / (p : Int) := Int.natCast_ediv ..
          simp [intOf]; omega
      · have hj0 : 0 < m := by omega
        have HZ := Lib.hid hz
        clear hm0 hz
        go_wp2_with fail
        go_quiet ((go_at_call 121; exact quiet_at (fun W => binom_small_any _ _ (m % p) (j % p) p c (by push_cast; rfl) (by push_cast; rfl) HC.out (Nat.mod_lt _ (by omega)) (Nat.mod_lt _ (by omega)) HP.out hp2 W)))
        go_wp2_with fail
        go_quiet (fail)
        go_wp2_with fail
        go_roundw
        case rel => exact ⟨m / p, j / p, o * c % p, by push_cast; rfl, by push_cast; rfl, by push_cast; rfl, by have := a1.out; omega, by have := a1.out; omega, hlt.out, hnew, by first | exact dr3 _ _ _ _ | exact dr2 _ _ _ | exact ⟨_, rfl⟩⟩
        case measure =>
          have := a1.out
          have h3 : ((j / p : Nat) : Int) = (j : Int) / (p : Int) := Int.natCast_ediv ..
          have h4 : ((m / p : Nat) : Int) = (m : Int) / (p : Int) := Int.natCast_ediv ..
          simp [intOf]; omega
end Go.Proofs.Ytonphmkilikapab
