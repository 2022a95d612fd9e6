/- Contracts of binom.Times, binom.Of and of the reference's ChooseOf, ChooseMod. -/
import Derived.Test.YtonphmkilikapabRows
import Derived.Test.YtonphmkilikapabBinom2
namespace Go.Proofs.Ytonphmkilikapab
open Go.RowKit

set_option maxRecDepth 20000 in
set_option maxHeartbeats 1000000 in
theorem binom_Times (n k p : Nat) (w : World) (hn : n ≤ 1000000000) (hk : k ≤ n) (hp : IsPr p) (hp2 : p ≤ 1000) :
    Calls Try.prog 51 #[.int .i64 n, .int .i64 k, .int .i64 p] w fun e w' => e = .returned (.tuple #[.int .i64 ((often n p : Int) - often k p - often (n - k) p), .int .i64 0]) ∧ w = w' := by
  have b1 := often_le (n := n) hp.1
  have b2 := often_le (n := k) hp.1
  have b3 := often_le (n := n - k) hp.1
  have HP := Lib.hid hp
  have hp1 := hp.1
  have c3 := Lib.hid (fun w => binom_exponent (n - k) p w (by omega) hp1 hp2)
  rw [show ((n - k : Nat) : Int) = (n : Int) - k by omega] at c3
  clear hp
  go_enter Try.func51, Try.ntmps51
  go_wp2_with (first | (go_at_call 120; refine (binom_check n k p _ hn hk HP.out hp2).mono ?_; rintro e w' ⟨rfl, rfl⟩) | (go_at_call 122; with_reducible refine (binom_exponent n p _ hn hp1 hp2).mono ?_; rintro e w' ⟨rfl, rfl⟩) | (go_at_call 122; with_reducible refine (binom_exponent k p _ (by omega) hp1 hp2).mono ?_; rintro e w' ⟨rfl, rfl⟩) | (go_at_call 122; refine (c3.out _).mono ?_; rintro e w' ⟨rfl, rfl⟩))
  go_ret2
  exact ⟨rfl, rfl⟩
set_option maxRecDepth 20000 in
set_option maxHeartbeats 400000 in
theorem binom_Times_bad (n k p : Int) (w : World) (h : badB n k p) :
    Calls Try.prog 51 #[.int .i64 n, .int .i64 k, .int .i64 p] w fun e w' => e = .returned (.tuple #[.int .i64 0, .int .i64 1]) ∧ w = w' := by
  have H := Lib.hid h
  clear h
  go_enter Try.func51, Try.ntmps51
  go_wp2_with (go_at_call 120; refine (binom_check_bad n k p _ H.out).mono ?_; rintro e w' ⟨rfl, rfl⟩)
  go_ret2
  exact ⟨rfl, rfl⟩
set_option maxRecDepth 20000 in
set_option maxHeartbeats 400000 in
theorem binom_Mod_bad (n k p : Int) (w : World) (h : badB n k p) :
    Calls Try.prog 50 #[.int .i64 n, .int .i64 k, .int .i64 p] w fun e w' => e = .returned (.tuple #[.int .i64 0, .int .i64 1]) ∧ w = w' := by
  have H := Lib.hid h
  clear h
  go_enter Try.func50, Try.ntmps50
  go_wp2_with (go_at_call 120; refine (binom_check_bad n k p _ H.out).mono ?_; rintro e w' ⟨rfl, rfl⟩)
  go_ret2
  exact ⟨rfl, rfl⟩

set_option maxRecDepth 20000 in
set_option maxHeartbeats 1000000 in
theorem ref_ChooseOf (n k : Nat) (w : World) (hn : n ≤ 60) (hk : k ≤ n) :
    Calls Try.prog 52 #[.int .i64 n, .int .i64 k] w fun e w' => e = .returned (.int .i64 (ch n k : Nat)) ∧ w = w' := by
  obtain ⟨m, hm⟩ : ∃ m, min k (n - k) = m := ⟨_, rfl⟩
  have hR : Hid (ch n m = ch n k) := by
    show _ = _
    rcases Nat.le_total k (n - k) with h | h
    · rw [← hm, Nat.min_eq_left h]
    · rw [← hm, Nat.min_eq_right h, ← ch_sym n k hk]
  have d3 : decide ((k : Int) < 0) = false := by simp
  have d4 : decide ((n : Int) < k) = false := by simp; omega
  have d4' : decide (n < k) = false := by simp; omega
  have hmk : m ≤ k := by omega
  have hmn : m ≤ n - k := by omega
  have HM : Hid (k ≤ m ∨ n - k ≤ m) := by show _ ∨ _; omega
  clear hm
  go_enter Try.func52, Try.ntmps52
  go_wp2_with fail
  go_loop [5, 6] (fun vo vi => ∃ i o : Nat, vi = .int .i64 i ∧ vo = .int .i64 o ∧ 1 ≤ i ∧ i ≤ m + 1 ∧ Hid (o = ch n (i - 1))) (fun _ vi => m + 1 - (intOf vi).toNat)
  case atStart => exact ⟨1, 1, rfl, rfl, by omega, by omega, by show _ = _; rw [ch_zero]⟩
  case round =>
    obtain ⟨i, o, rfl, rfl, hi1, hi2, ho⟩ := hrel
    by_cases him : i ≤ m
    · have f1 : (i : Int) ≤ k := by omega
      have f2 : (i : Int) ≤ (n : Int) - k := by omega
      have f3 : i ≤ k := by omega
      have hle : o ≤ 118264581564861424 := by rw [ho.out]; exact ch_le hn
      have hmul : Hid (o * (n - (i - 1)) = ch n i * i) := by
        show _ = _
        have := ch_step n (i - 1)
        rw [show i - 1 + 1 = i by omega] at this
        rw [ho.out, this]
      have p0 : 0 ≤ (o : Int) * ((n : Int) - i + 1) := Int.mul_nonneg (by omega) (by omega)
      have hpe : Hid ((o : Int) * ((n : Int) - i + 1) = ((ch n i * i : Nat) : Int)) := by
        show _ = _
        rw [← hmul.out, show (n : Int) - i + 1 = ((n - (i - 1) : Nat) : Int) by omega]; push_cast; rfl
      have p1 : (o : Int) * ((n : Int) - i + 1) ≤ 9000000000000000000 := by
        rw [hpe.out]
        have h1 := ch_le (k := i) hn
        have h2 : ch n i * i ≤ 118264581564861424 * 60 := Nat.mul_le_mul h1 (by omega)
        omega
      have hq : Hid ((o : Int) * ((n : Int) - i + 1) / (i : Int) = ((ch n i : Nat) : Int)) := by
        show _ = _
        rw [hpe.out, ← Int.natCast_ediv, Nat.mul_div_cancel _ (by omega)]
      have q0 : 0 ≤ (o : Int) * ((n : Int) - i + 1) / (i : Int) := Int.ediv_nonneg p0 (by omega)
      have q1 : (o : Int) * ((n : Int) - i + 1) / (i : Int) ≤ 9000000000000000000 := by
        have := Int.ediv_le_self (i : Int) p0; omega
      have hiz : ¬ (i : Int) = 0 := by omega
      go_wp2_with fail
      go_round
      case rel => exact ⟨i + 1, ch n i, by go_num, by rw [hq.out], by omega, by omega, by show _ = _; rw [show i + 1 - 1 = i by omega]⟩
      case measure => simp [intOf]; omega
    · have hF : Hid (o = ch n k) := by
        show _ = _
        rw [← hR.out, ho.out, show i - 1 = m by omega]
      have HI : i = m + 1 := by omega
      subst HI
      have hF2 : Hid (o = ch n k) := hF.out
      rcases HM.out with h | h
      · have f1 : ¬ ((m + 1 : Nat) : Int) ≤ k := by omega
        have f1' : ¬ (m + 1 ≤ k) := by omega
        go_wp2_with fail
        go_ret
        exact ⟨by rw [← hF2.out]; rfl, rfl⟩
      · have f1 : ¬ ((m + 1 : Nat) : Int) ≤ (n : Int) - k := by omega
        have f1' : ¬ (m + 1 ≤ n - k) := by omega
        have f2 : ¬ (n : Int) - k < 0 := by omega
        go_wp2_with fail
        all_goals (go_ret; exact ⟨by rw [← hF2.out]; rfl, rfl⟩)

theorem ref_ChooseOf_out (n k : Int) (w : World) (h : k < 0 ∨ n < k) :
    Calls Try.prog 52 #[.int .i64 n, .int .i64 k] w fun e w' => e = .returned (.int .i64 0) ∧ w = w' := by
  by_cases h1 : k < 0
  · go_enter Try.func52, Try.ntmps52
    go_wp2_with fail
    go_ret
    exact ⟨rfl, rfl⟩
  · have d4 : decide (n < k) = true := by simp; omega
    go_enter Try.func52, Try.ntmps52
    go_wp2_with fail
    go_ret
    exact ⟨rfl, rfl⟩

theorem intInfo0 : ElemRow Try.prog 3 (.int .i64 0) 1 8 := elemRow_of (by kernel_rfl) rfl (by omega)
def chV (p c : Nat) (j : Nat) : Value := .int .i64 ((ch c j % p : Nat) : Int)
/-- The row between two rows: the places above i are of the next one. -/
def chW (p c i : Nat) (j : Nat) : Value := if i < j then chV p (c + 1) j else chV p c j
set_option maxRecDepth 100000 in
set_option maxHeartbeats 2000000 in
theorem ref_ChooseMod (n k p : Nat) (w : World) (hn : n ≤ 1000000000) (hk : k ≤ n) (hp : 2 ≤ p) (hp2 : p ≤ 1000) :
    Calls Try.prog 53 #[.int .i64 n, .int .i64 k, .int .i64 p] w fun e w' => e = .returned (.int .i64 (chMod n k p : Nat)) ∧ Below w.heap.size w w' := by
  have hpz : ¬ (p : Int) = 0 := by omega
  go_enter Try.func53, Try.ntmps53
  go_wp2_with fail
  go_loopw [0, 1, 7] (fun vn vk vo wr => ∃ m j o : Nat, vn = .int .i64 m ∧ vk = .int .i64 j ∧ vo = .int .i64 o ∧ m ≤ 1000000000 ∧ j ≤ m ∧ o < p ∧ Hid (luc p (m + j) m j o = chMod n k p) ∧ Hid (Below w.heap.size w wr)) (fun vn vk _ _ => (intOf vn).toNat + (intOf vk).toNat)
  case atStart => exact ⟨n, k, 1, rfl, rfl, rfl, hn, hk, by omega, rfl, Below.refl _ _⟩
  case round =>
    obtain ⟨m, j, o, rfl, rfl, rfl, hm, hj, ho, hg, hbel⟩ := hrel
    by_cases hz : m = 0 ∧ j = 0
    · obtain ⟨rfl, rfl⟩ := hz
      have hR : Hid (o = chMod n k p) := by show _ = _; have := hg.out; rwa [luc_done] at this
      have f1 : decide ((0 : Int) < ((0 : Nat) : Int)) = false := by simp
      go_wp2_with fail
      go_ret
      exact ⟨by rw [← hR.out]; rfl, hbel.out⟩
    · by_cases hm0 : m = 0
      · exfalso; exact hz ⟨hm0, by omega⟩
      · have HZ := Lib.hid hz
        clear hz
        have hm1 : 0 < m := by omega
        go_wp2_with (at_make; refine make_own rfl _ _ 40 rfl w.heap.size 3 _ 8 Try.underlying40 intInfo0 rfl _ _ _ _ p (by rfl) (by rfl) rfl rfl (by omega) (by unfold maxLen; omega) hbel.out.size ?_; intro w1 hown hg1; have hcell := hown.cell (show 0 < p by omega); have hfro := hown.frozen 0)
        obtain ⟨g, hgs⟩ : ∃ g, wr.heap.size = g := ⟨_, rfl⟩
        rw [hgs] at hown ⊢
        have hst := hown.store 0 (.int .i64 1)
        have hb0 : Below w.heap.size w w1 := hbel.out.trans ((below_of_grown hg1 (Nat.le_refl _) (by intro k hk; cases hk)).mono hbel.out.size)
        have hb1 := Lib.hid (hown.belowStore hb0 (Nat.le_refl _) 0 (.int .i64 1))
        have hown1 : Own (w1.setCell ⟨g, 0, none⟩ (.int .i64 1)) w.heap.size 3 g p p (chV p 0) := hst.1.congr fun j _ => by
          unfold chV
          by_cases h0 : j = 0
          · subst h0; rw [if_pos rfl, ch_zero, Nat.mod_eq_of_lt (by omega)]; rfl
          · rw [if_neg h0, ch_big 0 j (by omega), Nat.zero_mod]; rfl
        have HOWN := Lib.hid hown1
        clear hst hown hown1 hcell hfro hb0 hg1 hgs
        go_loopw [23] (fun vc wi => ∃ c : Nat, vc = .int .i64 c ∧ c ≤ m % p ∧ Hid (Own wi w.heap.size 3 g p p (chV p c)) ∧ Hid (Below w.heap.size w wi)) (fun vc _ => m % p - (intOf vc).toNat)
        case atStart => exact ⟨0, rfl, by omega, HOWN, hb1⟩
        case round =>
          obtain ⟨c, rfl, hc, hoc, hbc⟩ := hrel
          by_cases hcm : c < m % p
          · have hcm2 : (c : Int) < (m : Int) % (p : Int) := by
              have : ((m % p : Nat) : Int) = (m : Int) % (p : Int) := Int.natCast_emod ..
              omega
            have hmp : m % p < p := Nat.mod_lt _ (by omega)
            have hc1000 : c + 1 ≤ 1000 := by omega
            go_wp2_with fail
            go_loopw [9] (fun vi wi => ∃ i : Nat, vi = .int .i64 i ∧ i < p ∧ Hid (Own wi w.heap.size 3 g p p (chW p c i)) ∧ Hid (Below w.heap.size w wi)) (fun vi _ => (intOf vi).toNat)
            case atStart => exact ⟨p - 1, by go_num, by omega, hoc.out.congr fun j hj => by unfold chW; rw [if_neg (by omega)], hbc⟩
            case round =>
              obtain ⟨i, rfl, hip, hoi, hbi⟩ := hrel
              by_cases hi0 : i = 0
              · subst hi0
                have hfin := Lib.hid (hoi.out.congr (f' := chV p (c + 1)) fun j hj => by
                  unfold chW
                  by_cases h0 : j = 0
                  · subst h0; rw [if_neg (by omega)]; unfold chV; rw [ch_zero, ch_zero]
                  · rw [if_pos (by omega)])
                go_wp2_with fail
                go_roundw
                case rel => exact ⟨c + 1, by go_num, by omega, hfin, hbi⟩
                case measure => simp [intOf]; omega
              · obtain ⟨t, ht⟩ : ∃ t, i = t + 1 := ⟨i - 1, by omega⟩
                have htp : t < p := by omega
                have hit : (i : Int) - 1 = (t : Int) := by omega
                have x1 : wr.cell? ⟨g, i, none⟩ = some (.int .i64 ((ch c i % p : Nat) : Int)) := by
                  have := hoi.out.cell hip
                  unfold chW at this
                  rw [if_neg (by omega)] at this; exact this
                have x2 : wr.cell? ⟨g, t, none⟩ = some (.int .i64 ((ch c t % p : Nat) : Int)) := by
                  have := hoi.out.cell htp
                  unfold chW at this
                  rw [if_neg (by omega)] at this; exact this
                have f1 := hoi.out.frozen i
                obtain ⟨x, hx⟩ : ∃ x, ch c i % p = x := ⟨_, rfl⟩
                obtain ⟨y, hy⟩ : ∃ y, ch c t % p = y := ⟨_, rfl⟩
                rw [hx] at x1
                rw [hy] at x2
                have hxp : x < p := by rw [← hx]; exact Nat.mod_lt _ (by omega)
                have hyp : y < p := by rw [← hy]; exact Nat.mod_lt _ (by omega)
                have hv : Value.int .i64 (((x : Int) + y) % p) = chV p (c + 1) i := by
                  unfold chV
                  rw [← hx, ← hy, ht, ch_succ]
                  congr 1
                  push_cast
                  rw [← Int.add_emod, Int.add_comm]
                have hst := hoi.out.store i (.int .i64 (((x : Int) + y) % p))
                have hnew := Lib.hid (hst.1.congr (f' := chW p c t) fun j hj => by
                  by_cases hji : j = i
                  · rw [if_pos hji, hv, hji]; unfold chW; rw [if_pos (by omega)]
                  · rw [if_neg hji]; unfold chW
                    by_cases h3 : i < j
                    · rw [if_pos h3, if_pos (by omega)]
                    · rw [if_neg h3, if_neg (by omega)])
                have hbs := Lib.hid (hoi.out.belowStore hbi.out (Nat.le_refl _) i (.int .i64 (((x : Int) + y) % p)))
                have i0 : (0 : Int) < i := by omega
                have i1 : (i : Int) < p := by omega
                have t0 : (0 : Int) ≤ t := by omega
                have t1 : (t : Int) < p := by omega
                have HT := Lib.hid ht
                have hlt : Hid (t < i) := by show _ < _; omega
                clear hst hv hx hy ht
                go_wp2_with fail
                go_region
                go_wp2_with fail
                go_roundw
                case rel => exact ⟨t, by go_num, htp, by
                  refine Own.below (w := (wr.setCell ⟨g, i, none⟩ (.int .i64 (((x : Int) + y) % p)))) hnew.out ?_
                  exact ⟨rfl, rfl, rfl, Nat.le_refl _, fun _ _ => rfl⟩, ⟨hbs.out.os, hbs.out.tape, hbs.out.output, hbs.out.size, hbs.out.block⟩⟩
                case measure => have := hlt.out; simp [intOf]; omega
          · have HCM : Hid (c = m % p) := by show _ = _; omega
            have hcm2 : ¬ (c : Int) < (m : Int) % (p : Int) := by
              have : ((m % p : Nat) : Int) = (m : Int) % (p : Int) := Int.natCast_emod ..
              omega
            clear hcm hc
            have hjp : j % p < p := Nat.mod_lt _ (by omega)
            have hx := hoc.out.cell hjp
            obtain ⟨z, hz⟩ : ∃ z, ch c (j % p) % p = z := ⟨_, rfl⟩
            have hzp : z < p := by rw [← hz]; exact Nat.mod_lt _ (by omega)
            unfold chV at hx
            rw [hz] at hx
            have j0 : 0 ≤ (j : Int) % (p : Int) := Int.emod_nonneg _ hpz
            have j1 : (j : Int) % (p : Int) < p := Int.emod_lt_of_pos _ (by omega)
            have HZZ := Lib.hid hz
            clear hz
            obtain ⟨p0, p1⟩ := prod_bd (M := 1000) (show (0 : Int) ≤ o by omega) (by omega) (show (0 : Int) ≤ z by omega) (by omega)
            obtain ⟨qm0, qm1⟩ := quo_bd m p
            obtain ⟨qj0, qj1⟩ := quo_bd j p
            have hnew : Hid (luc p (m / p + j / p) (m / p) (j / p) (o * z % p) = chMod n k p) := by
              show _ = _
              rw [← hg.out, ← HZZ.out, HCM.out]
              obtain ⟨f, hf⟩ : ∃ f, m + j = f + 1 := ⟨m + j - 1, by omega⟩
              rw [hf, luc_step HZ.out]
              have a1 : m / p ≤ m / 2 := Nat.div_le_div_left (by omega) (by omega)
              have a2 : j / p ≤ j / 2 := Nat.div_le_div_left (by omega) (by omega)
              exact luc_fuel p (by omega) _ _ _ _ _ (Nat.le_refl _) (by omega)
            have a3 : Hid (j / p ≤ m / p) := Nat.div_le_div_right hj
            have a1 : Hid (m / p + j / p < m + j ∧ m / p ≤ m ∧ j / p ≤ j) := by
              have a1 : m / p ≤ m / 2 := Nat.div_le_div_left (by omega) (by omega)
              have a2 : j / p ≤ j / 2 := Nat.div_le_div_left (by omega) (by omega)
              exact ⟨by omega, by omega, by omega⟩
            have hlt : Hid (o * z % p < p) := Nat.mod_lt _ (by omega)
            go_wp2_with fail
            go_quiet (fail)
            go_wp2_with fail
            go_roundw
            case rel => exact ⟨m / p, j / p, o * z % p, by push_cast; rfl, by push_cast; rfl, by push_cast; rfl, by have := a1.out; omega, a3.out, hlt.out, hnew, below_drewN hbc.out _⟩
            case measure =>
              have := a1.out
              have h3 : ((j / p : Nat) : Int) = (j : Int) / (p : Int) := Int.natCast_ediv ..
              have h4 : ((m / p : Nat) : Int) = (m : Int) / (p : Int) := Int.natCast_ediv ..
              simp [intOf]; omega
end Go.Proofs.Ytonphmkilikapab
