/- Contract of square.Symbol. -/
import Derived.Test.YtkincmkmkfiglaaRows
import Derived.Test.YtkincmkmkfiglaaSquare1
import Derived.Test.YtkincmkmkfiglaaFactor
import Derived.Test.YtkincmkmkfiglaaDivide
namespace Go.Proofs.Ytkincmkmkfiglaa
open Go.RowKit

set_option maxRecDepth 20000 in
set_option maxHeartbeats 1000000 in
theorem legendre1 (a : Int) (p b : Nat) (w : World) (ha : -9223372036854775808 ≤ a) (ha' : a ≤ 9223372036854775807) (hp1 : 3 ≤ p) (hp : p ≤ 1000000) (hc : w.cell? ⟨b, 0, none⟩ = some (.int .i64 p)) :
    Calls Try.prog 157 #[.int .i64 a, .pointer (some ⟨b, 0, none⟩)] w fun e w' => e = .returned (.int .i64 (leg a p)) ∧ ∃ m, w' = w.drewN m := by
  have wP1 : IntKind.i64.wrap ((p : Int) - 1) = (p : Int) - 1 := IntWalk.i64_in _ (by omega)
  have eP : Int.tdiv ((p : Int) - 1) 2 = (((p - 1) / 2 : Nat) : Int) := by rw [Int.tdiv_eq_ediv_of_nonneg (by omega)]; omega
  have eP' : ((p : Int) - 1) / 2 = (((p - 1) / 2 : Nat) : Int) := by omega
  obtain ⟨e, he⟩ : ∃ e, (p - 1) / 2 = e := ⟨_, rfl⟩
  have hlg : leg a p = if pwm a e p = 0 then 0 else if pwm a e p = 1 then 1 else -1 := by unfold leg; rw [he]
  rw [he] at eP eP'
  have HP := Lib.hid (fun W => rest_Pow a e p W ha ha' (by omega) (by omega) (by omega))
  obtain ⟨x, hx⟩ : ∃ x, pwm a e p = x := ⟨_, rfl⟩
  rw [hx] at HP hlg
  rw [hlg]
  clear he hx hlg
  by_cases hx0 : x = 0
  · subst hx0
    go_enter Try.func157, Try.ntmps157
    go_wp2_with (go_at_call 158; refine (HP.out _).mono ?_; rintro e1 w' ⟨rfl, q1, rfl⟩)
    go_ret
    exact ⟨rfl, _, rfl⟩
  · have dx : (x == 0) = false := by simpa using hx0
    rw [if_neg hx0]
    by_cases hx1 : x = 1
    · subst hx1
      go_enter Try.func157, Try.ntmps157
      go_wp2_with (go_at_call 158; refine (HP.out _).mono ?_; rintro e1 w' ⟨rfl, q1, rfl⟩)
      go_ret
      exact ⟨rfl, _, rfl⟩
    · have dx1 : (x == 1) = false := by simpa using hx1
      rw [if_neg hx1]
      clear hx0 hx1
      go_enter Try.func157, Try.ntmps157
      go_wp2_with (go_at_call 158; refine (HP.out _).mono ?_; rintro e1 w' ⟨rfl, q1, rfl⟩)
      go_ret
      exact ⟨rfl, _, rfl⟩
theorem Factors.dvd {n : Nat} {l : List (Nat × Nat)} (h : Factors n l) {b : Nat × Nat} (hb : b ∈ l) : b.1 ∣ n := by
  have := dvd_prodPow hb (h.pr _ hb).2
  rw [h.prod] at this
  exact this
theorem Factors.powDvd {n : Nat} {l : List (Nat × Nat)} (h : Factors n l) {b : Nat × Nat} (hb : b ∈ l) : b.1 ^ b.2 ∣ n := by
  rw [← h.prod]
  have key : ∀ m : List (Nat × Nat), b ∈ m → b.1 ^ b.2 ∣ prodPow m := by
    intro m
    induction m with
    | nil => intro h; cases h
    | cons c m ih =>
      intro h
      have e : prodPow (c :: m) = c.1 ^ c.2 * prodPow m := rfl
      rw [e]
      rw [List.mem_cons] at h
      rcases h with rfl | h
      · exact Nat.dvd_mul_right _ _
      · exact Nat.dvd_trans (ih h) (Nat.dvd_mul_left _ _)
  exact key l hb
theorem Tri.mul {o s : Int} (ho : Tri o) (hs : Tri s) : Tri (o * s) := by
  rcases ho with h | h | h <;> rcases hs with g | g | g <;> subst h <;> subst g
  · exact .inl rfl
  · exact .inl rfl
  · exact .inl rfl
  · exact .inl rfl
  · exact .inr (.inl rfl)
  · exact .inr (.inr rfl)
  · exact .inl rfl
  · exact .inr (.inr rfl)
  · exact .inr (.inl rfl)
theorem odd_ge3 {n p : Nat} (hn : n % 2 = 1) (hp : 2 ≤ p) (hd : p ∣ n) : 3 ≤ p := by
  rcases Nat.lt_or_ge p 3 with h | h
  · have : p = 2 := by omega
    subst this
    omega
  · exact h
set_option maxRecDepth 20000 in
set_option maxHeartbeats 1000000 in
theorem square_Symbol (a : Int) (n : Nat) (w : World) (ha : -9223372036854775808 ≤ a) (ha' : a ≤ 9223372036854775807) (h1 : 1 ≤ n) (hn : n ≤ 1000000) (hodd : n % 2 = 1) :
    Calls Try.prog 57 #[.int .i64 a, .int .i64 n] w fun e w' => e = .returned (.tuple #[.int .i64 (jac a n), .int .i64 0]) ∧ Below w.heap.size w w' := by
  have d0 : decide ((n : Int) < 1) = false := by simp; omega
  have d1 : decide ((1000000 : Int) < n) = false := by simp; omega
  have d2 : ((n : Int) % 2 == 0) = false := by simp only [beq_eq_false_iff_ne, ne_eq]; omega
  have HOD := Lib.hid hodd
  clear hodd
  go_enter Try.func57, Try.ntmps57
  go_wp2_with fail
  refine (prime_Factor n w h1 hn).mono ?_
  rintro e w1 ⟨l, v, hF, hll, rfl, hown, hbel⟩
  obtain ⟨ao, cp, rfl, hR, hnone, hmx⟩ := own_reads hown
  have HF := Lib.hid hF
  have HR := Lib.hid hR
  have HB := Lib.hid hbel
  have HMU : Hid (jac a n = valL (legG a) l) := mult_eq hF
  obtain ⟨len, hlen⟩ : ∃ len, l.length = len := ⟨_, rfl⟩
  rw [hlen] at hll ⊢
  have HL := Lib.hid hlen
  clear hF hR hnone hmx hown hbel hlen
  go_wp2_with fail
  go_loopw [8, 30] (fun vo vi wr => ∃ (k : Nat) (o : Int), vi = .int .i64 k ∧ k ≤ len ∧ vo = .int .i64 o ∧ Hid (o = valL (legG a) (l.take k)) ∧ Hid (Below w1.heap.size w1 wr)) (fun _ vi _ => len - (intOf vi).toNat)
  case atStart => exact ⟨0, 1, rfl, by omega, rfl, rfl, Below.refl _ _⟩
  case round =>
    obtain ⟨k, o, rfl, hk, rfl, hoe, hb⟩ := hrel
    by_cases hkl : k < len
    · obtain ⟨c, hc⟩ : ∃ c, l[k]? = some c := ⟨l[k]'(by rw [HL.out]; exact hkl), List.getElem?_eq_getElem _⟩
      have hma := List.mem_of_getElem? hc
      have hdv := HF.out.dvd hma
      have hpr := (HF.out.pr _ hma).1
      have hP3 := odd_ge3 HOD.out hpr.1 hdv
      have hPn := Nat.le_of_dvd (by omega) hdv
      have hNn : c.2 ≤ 1000000 := by
        have h2 : c.2 < 2 ^ c.2 := Nat.lt_two_pow_self
        have h3 : 2 ^ c.2 ≤ c.1 ^ c.2 := Nat.pow_le_pow_left hpr.1 _
        have h4 := Nat.le_of_dvd (by omega) (HF.out.powDvd hma)
        omega
      obtain ⟨P, N⟩ := c
      simp only at hP3 hPn hNn
      have hc1 := powCells_get l k _ hc
      have hR2 := (HR.out).below hb.out
      obtain ⟨b, of, rfl, hcell1⟩ := hR2 _ _ hc1.1
      obtain ⟨b', of', hbo, hcell2⟩ := hR2 _ _ hc1.2
      simp only [Option.some.injEq, Addr.mk.injEq, and_true] at hbo
      obtain ⟨rfl, rfl⟩ := hbo
      have HT := Lib.hid (take_snoc2 l k _ hc)
      have hcell1' : wr.cell? ⟨b, of + k * 2, none⟩ = some (.int .i64 P) := hcell1
      have hcell2' : wr.cell? ⟨b, of + k * 2 + 1, none⟩ = some (.int .i64 N) := hcell2
      clear hR2 hc1 hc hma hcell1 hcell2 hdv hpr
      have hct : Hid (Tri (leg a P)) := leg_cases a P
      have hto : Hid (Tri o) := by show Tri _; rw [hoe.out]; exact valL_bd a _
      obtain ⟨s, hs⟩ : ∃ s, leg a P = s := ⟨_, rfl⟩
      rw [hs] at hct
      have HC := Lib.hid (fun b W hc => legendre1 a P b W ha ha' hP3 (by omega) hc)
      rw [hs] at HC
      have HS := Lib.hid hs
      clear hs
      go_wp2_with (first | (go_at_call 120; go_in) | (go_at_call 157; refine (HC.out _ _ (by simp [World.cell?_alloc_new])).mono ?_; rintro e1 w' ⟨rfl, q1, rfl⟩))
      go_loop [8, 41] (fun vo vi => ∃ (i : Nat) (t : Int), vi = .int .i64 i ∧ i ≤ N ∧ vo = .int .i64 t ∧ Hid (Tri t) ∧ Hid (t = o * s ^ i)) (fun _ vi => N - (intOf vi).toNat)
      case atStart => exact ⟨0, o, rfl, by omega, rfl, hto, Lib.hid (by rw [Int.pow_zero, Int.mul_one])⟩
      case round =>
        obtain ⟨i, t, rfl, hiN, rfl, htt, hte⟩ := hrel
        by_cases hi : i < N
        · have hnt : Hid (Tri (t * s)) := htt.out.mul hct.out
          have hne : Hid (t * s = o * s ^ (i + 1)) := by
            show _ = _
            rw [hte.out, Int.pow_succ, Int.mul_assoc]
          obtain ⟨u, hu⟩ : ∃ u, t * s = u := ⟨_, rfl⟩
          rw [hu] at hnt hne
          have hub := hnt.out.bd
          have wu : IntKind.i64.wrap u = u := IntWalk.i64_in _ (by omega)
          go_wp2_with fail
          go_round
          case rel => exact ⟨i + 1, u, by go_num, by omega, rfl, hnt, hne⟩
          case measure => simp [intOf]; omega
        · have hnew : Hid (t = valL (legG a) (l.take (k + 1))) := by
            have hiN2 : i = N := by omega
            show _ = _
            rw [HT.out, valL_append, ← hoe.out, hte.out, hiN2]
            simp only [valL, legG]
            rw [HS.out, Int.mul_one]
          go_wp2_with fail
          go_roundw
          case rel => exact ⟨k + 1, t, by go_num, by omega, rfl, hnew, Lib.hid (by repeat (first | exact hb.out | apply below_drewN | (refine Below.alloc ?_ (by have := hb.out.size; simp; omega) _)))⟩
          case measure => simp [intOf]; omega
    · have hfin : Hid (jac a n = o) := by
        show _ = _
        rw [HMU.out, hoe.out, show k = l.length by rw [HL.out]; omega, List.take_length]
      go_wp2_with fail
      go_ret2
      exact ⟨by rw [hfin.out]; rfl, HB.out.trans (Below.mono hb.out HB.out.size)⟩
end Go.Proofs.Ytkincmkmkfiglaa
