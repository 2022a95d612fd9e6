/- Contracts of the reference's SymbolOf, RootOf and of square.Root, square.Two. -/
import Derived.Test.YtkincmkmkfiglaaRows
import Derived.Test.YtkincmkmkfiglaaPrime
import Derived.Test.YtkincmkmkfiglaaRest
import Derived.Test.YtkincmkmkfiglaaSquareM
namespace Go.Proofs.Ytkincmkmkfiglaa
open Go.RowKit

theorem NoDiv.isPr {m p : Nat} (h : NoDiv m p) (hp : 2 ≤ p) (hd : p ∣ m) : IsPr p :=
  ⟨hp, fun e h1 h2 he => h e h1 h2 (Nat.dvd_trans he hd)⟩
theorem NoDiv.dvd {m k p : Nat} (h : NoDiv m p) (hd : k ∣ m) : NoDiv k p := fun e h1 h2 he => h e h1 h2 (Nat.dvd_trans he hd)
theorem NoDiv.le {m p : Nat} (h : NoDiv m p) (hm : 2 ≤ m) : p ≤ m := by
  rcases Nat.lt_or_ge m p with h1 | h1
  · exact absurd (Nat.dvd_refl m) (h m hm h1)
  · exact h1
theorem odd_div {m p : Nat} (hm : m % 2 = 1) (hd : p ∣ m) : (m / p) % 2 = 1 := by
  obtain ⟨k, rfl⟩ := hd
  rcases Nat.eq_zero_or_pos p with h0 | h0
  · subst h0; simp at hm
  · rw [Nat.mul_div_cancel_left _ h0]
    rcases Nat.mod_two_eq_zero_or_one k with h | h
    · rw [Nat.mul_mod, h] at hm; simp at hm
    · exact h
theorem lt_sq'' {n d : Nat} (h : n < d * d) : (n : Int) < (d : Int) * d := by
  have h2 : ((d * d : Nat) : Int) = (d : Int) * d := by push_cast; rfl
  omega
theorem ge_sq'' {n d : Nat} (h : ¬ n < d * d) : ¬ (n : Int) < (d : Int) * d := by
  have h2 : ((d * d : Nat) : Int) = (d : Int) * d := by push_cast; rfl
  omega
def Tri (o : Int) : Prop := o = 0 ∨ o = 1 ∨ o = -1
theorem Tri.bd {o : Int} (h : Tri o) : -1 ≤ o ∧ o ≤ 1 := by rcases h with h | h | h <;> omega
set_option maxRecDepth 20000 in
set_option maxHeartbeats 4000000 in
theorem ref_SymbolOf (a : Int) (n : Nat) (w : World) (ha : -9223372036854775808 ≤ a) (ha' : a ≤ 9223372036854775807) (h1 : 1 ≤ n) (hn : n ≤ 1000000) (hodd : n % 2 = 1) :
    Calls Try.prog 60 #[.int .i64 a, .int .i64 n] w fun e w' => e = .returned (.int .i64 (jac a n)) ∧ ∃ m, w' = w.drewN m := by
  have HOD := Lib.hid hodd
  clear hodd
  go_enter Try.func60, Try.ntmps60
  go_wp2_with fail
  go_loopw [1, 5, 6] (fun vm vo vp wr => ∃ (m p : Nat) (o : Int), vm = .int .i64 m ∧ vo = .int .i64 o ∧ vp = .int .i64 p ∧ 1 ≤ m ∧ m ≤ 1000000 ∧ 3 ≤ p ∧ p ≤ 1000002 ∧ Hid (m % 2 = 1) ∧ Hid (p % 2 = 1) ∧ Hid (NoDiv m p) ∧ Hid (Tri o) ∧ Hid (o * jac a m = jac a n) ∧ ∃ q, wr = w.drewN q) (fun vm _ vp _ => (intOf vm).toNat + 2 - (intOf vp).toNat)
  case atStart => exact ⟨n, 3, 1, rfl, rfl, rfl, h1, hn, by omega, by omega, HOD, Lib.hid (by omega), Lib.hid (fun e h2 h3 he => by
    have : e = 2 := by omega
    subst this
    have := HOD.out
    omega), Lib.hid (.inr (.inl rfl)), Lib.hid (Int.one_mul _), 0, rfl⟩
  case round =>
    obtain ⟨m, p, o, rfl, rfl, rfl, hm1, hm2, hp1, hp2, hmo, hpo, hnd, htri, hjac, q, rfl⟩ := hrel
    by_cases hm : m = 1
    · subst hm
      have hfin : Hid (o = jac a n) := by
        have := hjac.out
        rw [jac_one, Int.mul_one] at this
        exact this
      go_wp2_with fail
      go_ret
      exact ⟨by rw [hfin.out]; rfl, q, rfl⟩
    · have hm2' : 2 ≤ m := by omega
      have d0 : decide ((1 : Int) < m) = true := by simp; omega
      have hpm := hnd.out.le hm2'
      have wsq : IntKind.i64.wrap ((p : Int) * p) = (p : Int) * p := by
        have := sq_int p 1000000 (by omega)
        exact IntWalk.i64_in _ (by omega)
      -- the inner loop's p: either p itself, or m
      obtain ⟨P, hP1, hP2, hP3, hP4, hP5, hP6⟩ : ∃ P : Nat, 3 ≤ P ∧ P ≤ 1000000 ∧ p ≤ P ∧ P % 2 = 1 ∧ NoDiv m P ∧ ((m < p * p ∧ P = m) ∨ (¬ m < p * p ∧ P = p)) := by
        by_cases hpp : m < p * p
        · have hpr := hnd.out.prime hm2' hpp
          exact ⟨m, by omega, by omega, hpm, hmo.out, hpr.2, .inl ⟨hpp, rfl⟩⟩
        · exact ⟨p, hp1, by omega, by omega, hpo.out, hnd.out, .inr ⟨hpp, rfl⟩⟩
      have key : Hid (NoDiv m P ∧ P % 2 = 1) := ⟨hP5, hP4⟩
      have hlast : Hid (∀ k : Nat, 1 ≤ k → k ≤ m → ¬ P ∣ k → (k = m → False) ∨ True → k + 2 - (P + 2) < m + 2 - p) := by
        intro k _ hk _ _
        omega
      clear hP4 hP5
      have hPI : ¬ ((P : Int) = 0) := by omega
      have wP2 : IntKind.i64.wrap ((P : Int) + 2) = (P : Int) + 2 := IntWalk.i64_in _ (by omega)
      have wP1 : IntKind.i64.wrap ((P : Int) - 1) = (P : Int) - 1 := IntWalk.i64_in _ (by omega)
      have eP : Int.tdiv ((P : Int) - 1) 2 = (((P - 1) / 2 : Nat) : Int) := by rw [Int.tdiv_eq_ediv_of_nonneg (by omega)]; omega
      have eP' : ((P : Int) - 1) / 2 = (((P - 1) / 2 : Nat) : Int) := by omega
      obtain ⟨e, he⟩ : ∃ e, (P - 1) / 2 = e := ⟨_, rfl⟩
      have he2 : e < 2 ^ 20 := by omega
      have HE := Lib.hid he
      rw [he] at eP eP'
      have HM1 := Lib.hid (fun W => ref_mod a P W ha ha' (by omega) (by omega))
      have hmb := Int.emod_nonneg a (b := (P : Int)) (by omega)
      have hmb2 := Int.emod_lt_of_pos a (b := (P : Int)) (by omega)
      have HP := Lib.hid (fun W => ref_PowOf 20 (a % (P : Int)) e P W he2 (by omega) (by omega) (by omega) (by omega) (by omega))
      rw [pwm_mod] at HP
      obtain ⟨r, hr⟩ : ∃ r, a % (P : Int) = r := ⟨_, rfl⟩
      obtain ⟨x, hx⟩ : ∃ x, pwm a e P = x := ⟨_, rfl⟩
      rw [hr] at HM1 HP hmb hmb2
      rw [hx] at HP
      have HLEG : Hid (leg a P = if x = 0 then 0 else if x = 1 then 1 else -1) := by
        show _ = _
        unfold leg
        rw [he, hx]
      have HR0 : Hid (r = 0 → x = 0) := by
        intro h0
        have := leg_dvd (a := a) (p := P) hP1 (by rw [hr]; exact h0)
        rw [he, hx] at this
        exact this
      clear he hr hx
      rcases hP6 with ⟨hpp, hPm⟩ | ⟨hpp, hPm⟩
      · have d1 : decide ((m : Int) < (p : Int) * p) = true := by simp only [decide_eq_true_eq]; exact lt_sq'' hpp
        subst hPm
        go_wp2_with fail
        go_loopw [1, 5] (fun vm vo wr => ∃ (k : Nat) (o : Int), vm = .int .i64 k ∧ vo = .int .i64 o ∧ 1 ≤ k ∧ k ≤ P ∧ Hid (k % 2 = 1) ∧ Hid (NoDiv k P) ∧ Hid (Tri o) ∧ Hid (o * jac a k = jac a n) ∧ ∃ q, wr = w.drewN q) (fun vm _ _ => (intOf vm).toNat)
        case atStart => exact ⟨P, o, rfl, rfl, by omega, Nat.le_refl _, hmo, Lib.hid key.out.1, htri, hjac, q, rfl⟩
        case round =>
          obtain ⟨k, o, rfl, rfl, hk1, hk2, hko, hkd, htri, hjac, q, rfl⟩ := hrel
          by_cases hdv : P ∣ k
          · have d3 := dvd_beq k P hdv
            have hpr := hkd.out.isPr (by omega) hdv
            obtain ⟨j, hj⟩ : ∃ j, k / P = j := ⟨_, rfl⟩
            have hkj : k = P * j := by rw [← hj]; exact (Nat.mul_div_cancel' hdv).symm
            have hj1 : 1 ≤ j := by
              rcases Nat.eq_zero_or_pos j with h | h
              · rw [h] at hkj; omega
              · exact h
            have hjk : j < k := by rw [hkj]; have := Nat.mul_le_mul_right j hP1; omega
            have hjo : Hid (j % 2 = 1) := by show _ = _; rw [← hj]; exact odd_div hko.out hdv
            have hjd : Hid (NoDiv j P) := hkd.out.dvd ⟨P, by rw [hkj, Nat.mul_comm]⟩
            have hjj : Hid (jac a k = leg a P * jac a j) := by show _ = _; rw [hkj]; exact jac_mul a hpr hj1
            have eJ : (k : Int) / P = (j : Int) := by rw [← hj]; omega
            have wJ : IntKind.i64.wrap (j : Int) = (j : Int) := IntWalk.i64_in _ (by omega)
            have htb := htri.out.bd
            have won : IntKind.i64.wrap (-o) = -o := IntWalk.i64_in _ (by omega)
            clear hj hkj hdv hpr
            by_cases hx0 : x = 0
            · subst hx0
              have hnew : Hid (0 * jac a j = jac a n) := by
                have h1 := hjac.out
                have h2 := HLEG.out
                rw [if_pos rfl] at h2
                rw [hjj.out, h2, Int.zero_mul, Int.mul_zero] at h1
                show _ = _
                rw [Int.zero_mul]; exact h1
              by_cases hr0 : r = 0
              · subst hr0
                go_wp2_with (first | (go_at_call 123; refine (HM1.out _).mono ?_; rintro e1 w' ⟨rfl, q1, rfl⟩) | (go_at_call 122; refine (HP.out _).mono ?_; rintro e1 w' ⟨rfl, q1, rfl⟩))
                go_roundw
                case rel => exact ⟨j, 0, by first | rfl | go_num, rfl, hj1, by omega, hjo, hjd, Lib.hid (.inl rfl), hnew, _, rfl⟩
                case measure => simp [intOf]; omega
              · have dr : (r == 0) = false := by simpa using hr0
                go_wp2_with (first | (go_at_call 123; refine (HM1.out _).mono ?_; rintro e1 w' ⟨rfl, q1, rfl⟩) | (go_at_call 122; refine (HP.out _).mono ?_; rintro e1 w' ⟨rfl, q1, rfl⟩))
                go_roundw
                case rel => exact ⟨j, 0, by first | rfl | go_num, rfl, hj1, by omega, hjo, hjd, Lib.hid (.inl rfl), hnew, _, rfl⟩
                case measure => simp [intOf]; omega
            · have dr : (r == 0) = false := by simpa using fun h => hx0 (HR0.out h)
              have dx : (x == 0) = false := by simpa using hx0
              by_cases hx1 : x = 1
              · subst hx1
                have hnew : Hid (o * jac a j = jac a n) := by
                  have h1 := hjac.out
                  have h2 := HLEG.out
                  rw [if_neg (by decide), if_pos rfl] at h2
                  rw [hjj.out, h2, Int.one_mul] at h1
                  exact h1
                clear hx0
                go_wp2_with (first | (go_at_call 123; refine (HM1.out _).mono ?_; rintro e1 w' ⟨rfl, q1, rfl⟩) | (go_at_call 122; refine (HP.out _).mono ?_; rintro e1 w' ⟨rfl, q1, rfl⟩))
                go_roundw
                case rel => exact ⟨j, o, by first | rfl | go_num, rfl, hj1, by omega, hjo, hjd, htri, hnew, _, rfl⟩
                case measure => simp [intOf]; omega
              · have dx1 : (x == 1) = false := by simpa using hx1
                have hnew : Hid (-o * jac a j = jac a n) := by
                  have h1 := hjac.out
                  have h2 := HLEG.out
                  rw [if_neg hx0, if_neg hx1] at h2
                  rw [hjj.out, h2, Int.neg_mul, Int.one_mul] at h1
                  show _ = _
                  rw [Int.neg_mul, ← Int.mul_neg]; exact h1
                have hneg : Hid (Tri (-o)) := by
                  rcases htri.out with h | h | h <;> subst h
                  · exact .inl rfl
                  · exact .inr (.inr rfl)
                  · exact .inr (.inl rfl)
                clear hx0 hx1
                go_wp2_with (first | (go_at_call 123; refine (HM1.out _).mono ?_; rintro e1 w' ⟨rfl, q1, rfl⟩) | (go_at_call 122; refine (HP.out _).mono ?_; rintro e1 w' ⟨rfl, q1, rfl⟩))
                go_roundw
                case rel => exact ⟨j, -o, by first | rfl | go_num, by first | rfl | go_num, hj1, by omega, hjo, hjd, hneg, hnew, _, rfl⟩
                case measure => simp [intOf]; omega
          · have d3 := ndvd_beq k P hdv
            have hnd2 : Hid (NoDiv k (P + 2)) := hkd.out.odd hko.out key.out.2 hdv
            have hpo2 : Hid ((P + 2) % 2 = 1) := by show _ = _; have := key.out.2; omega
            clear hdv
            go_wp2_with fail
            go_roundw
            case rel => exact ⟨k, P + 2, o, rfl, rfl, by go_num, hk1, by omega, by omega, by omega, hko, hpo2, hnd2, htri, hjac, q, rfl⟩
            case measure => simp [intOf]; omega
      · have d1 : decide ((m : Int) < (p : Int) * p) = false := by simp only [decide_eq_false_iff_not]; exact ge_sq'' hpp
        subst hPm
        go_wp2_with fail
        go_loopw [1, 5] (fun vm vo wr => ∃ (k : Nat) (o : Int), vm = .int .i64 k ∧ vo = .int .i64 o ∧ 1 ≤ k ∧ k ≤ m ∧ Hid (k % 2 = 1) ∧ Hid (NoDiv k P) ∧ Hid (Tri o) ∧ Hid (o * jac a k = jac a n) ∧ ∃ q, wr = w.drewN q) (fun vm _ _ => (intOf vm).toNat)
        case atStart => exact ⟨m, o, rfl, rfl, by omega, Nat.le_refl _, hmo, Lib.hid key.out.1, htri, hjac, q, rfl⟩
        case round =>
          obtain ⟨k, o, rfl, rfl, hk1, hk2, hko, hkd, htri, hjac, q, rfl⟩ := hrel
          by_cases hdv : P ∣ k
          · have d3 := dvd_beq k P hdv
            have hpr := hkd.out.isPr (by omega) hdv
            obtain ⟨j, hj⟩ : ∃ j, k / P = j := ⟨_, rfl⟩
            have hkj : k = P * j := by rw [← hj]; exact (Nat.mul_div_cancel' hdv).symm
            have hj1 : 1 ≤ j := by
              rcases Nat.eq_zero_or_pos j with h | h
              · rw [h] at hkj; omega
              · exact h
            have hjk : j < k := by rw [hkj]; have := Nat.mul_le_mul_right j hP1; omega
            have hjo : Hid (j % 2 = 1) := by show _ = _; rw [← hj]; exact odd_div hko.out hdv
            have hjd : Hid (NoDiv j P) := hkd.out.dvd ⟨P, by rw [hkj, Nat.mul_comm]⟩
            have hjj : Hid (jac a k = leg a P * jac a j) := by show _ = _; rw [hkj]; exact jac_mul a hpr hj1
            have eJ : (k : Int) / P = (j : Int) := by rw [← hj]; omega
            have wJ : IntKind.i64.wrap (j : Int) = (j : Int) := IntWalk.i64_in _ (by omega)
            have htb := htri.out.bd
            have won : IntKind.i64.wrap (-o) = -o := IntWalk.i64_in _ (by omega)
            clear hj hkj hdv hpr
            by_cases hx0 : x = 0
            · subst hx0
              have hnew : Hid (0 * jac a j = jac a n) := by
                have h1 := hjac.out
                have h2 := HLEG.out
                rw [if_pos rfl] at h2
                rw [hjj.out, h2, Int.zero_mul, Int.mul_zero] at h1
                show _ = _
                rw [Int.zero_mul]; exact h1
              by_cases hr0 : r = 0
              · subst hr0
                go_wp2_with (first | (go_at_call 123; refine (HM1.out _).mono ?_; rintro e1 w' ⟨rfl, q1, rfl⟩) | (go_at_call 122; refine (HP.out _).mono ?_; rintro e1 w' ⟨rfl, q1, rfl⟩))
                go_roundw
                case rel => exact ⟨j, 0, by first | rfl | go_num, rfl, hj1, by omega, hjo, hjd, Lib.hid (.inl rfl), hnew, _, rfl⟩
                case measure => simp [intOf]; omega
              · have dr : (r == 0) = false := by simpa using hr0
                go_wp2_with (first | (go_at_call 123; refine (HM1.out _).mono ?_; rintro e1 w' ⟨rfl, q1, rfl⟩) | (go_at_call 122; refine (HP.out _).mono ?_; rintro e1 w' ⟨rfl, q1, rfl⟩))
                go_roundw
                case rel => exact ⟨j, 0, by first | rfl | go_num, rfl, hj1, by omega, hjo, hjd, Lib.hid (.inl rfl), hnew, _, rfl⟩
                case measure => simp [intOf]; omega
            · have dr : (r == 0) = false := by simpa using fun h => hx0 (HR0.out h)
              have dx : (x == 0) = false := by simpa using hx0
              by_cases hx1 : x = 1
              · subst hx1
                have hnew : Hid (o * jac a j = jac a n) := by
                  have h1 := hjac.out
                  have h2 := HLEG.out
                  rw [if_neg (by decide), if_pos rfl] at h2
                  rw [hjj.out, h2, Int.one_mul] at h1
                  exact h1
                clear hx0
                go_wp2_with (first | (go_at_call 123; refine (HM1.out _).mono ?_; rintro e1 w' ⟨rfl, q1, rfl⟩) | (go_at_call 122; refine (HP.out _).mono ?_; rintro e1 w' ⟨rfl, q1, rfl⟩))
                go_roundw
                case rel => exact ⟨j, o, by first | rfl | go_num, rfl, hj1, by omega, hjo, hjd, htri, hnew, _, rfl⟩
                case measure => simp [intOf]; omega
              · have dx1 : (x == 1) = false := by simpa using hx1
                have hnew : Hid (-o * jac a j = jac a n) := by
                  have h1 := hjac.out
                  have h2 := HLEG.out
                  rw [if_neg hx0, if_neg hx1] at h2
                  rw [hjj.out, h2, Int.neg_mul, Int.one_mul] at h1
                  show _ = _
                  rw [Int.neg_mul, ← Int.mul_neg]; exact h1
                have hneg : Hid (Tri (-o)) := by
                  rcases htri.out with h | h | h <;> subst h
                  · exact .inl rfl
                  · exact .inr (.inr rfl)
                  · exact .inr (.inl rfl)
                clear hx0 hx1
                go_wp2_with (first | (go_at_call 123; refine (HM1.out _).mono ?_; rintro e1 w' ⟨rfl, q1, rfl⟩) | (go_at_call 122; refine (HP.out _).mono ?_; rintro e1 w' ⟨rfl, q1, rfl⟩))
                go_roundw
                case rel => exact ⟨j, -o, by first | rfl | go_num, by first | rfl | go_num, hj1, by omega, hjo, hjd, hneg, hnew, _, rfl⟩
                case measure => simp [intOf]; omega
          · have d3 := ndvd_beq k P hdv
            have hnd2 : Hid (NoDiv k (P + 2)) := hkd.out.odd hko.out key.out.2 hdv
            have hpo2 : Hid ((P + 2) % 2 = 1) := by show _ = _; have := key.out.2; omega
            clear hdv
            go_wp2_with fail
            go_roundw
            case rel => exact ⟨k, P + 2, o, rfl, rfl, by go_num, hk1, by omega, by omega, by omega, hko, hpo2, hnd2, htri, hjac, q, rfl⟩
            case measure => simp [intOf]; omega
end Go.Proofs.Ytkincmkmkfiglaa
