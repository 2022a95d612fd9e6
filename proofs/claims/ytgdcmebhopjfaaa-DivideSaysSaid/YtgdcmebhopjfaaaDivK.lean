/- DivideSays: the walk. -/
import Derived.Test.YtgdcmebhopjfaaaPhi2
import Derived.Test.YtgdcmebhopjfaaaMu
import Derived.Test.YtgdcmebhopjfaaaDivs1
import Derived.Test.YtgdcmebhopjfaaaEqualInt
namespace Go.Proofs.Ytgdcmebhopjfaaa
open Go.RowKit

set_option maxRecDepth 100000 in
set_option maxHeartbeats 2000000 in
theorem divide_Phi_bad (n : Int) (w : World) (hn : n < 1 ∨ 1000000 < n) :
    Calls Try.prog 24 #[.int .i64 n] w fun e w' => e = .returned (.tuple #[.int .i64 0, .int .i64 1]) ∧ w' = w := by
  have CF := Lib.hid (prime_Factor_bad n w hn)
  go_enter Try.func24, Try.ntmps24
  go_wp2_with (go_at_call 92; refine CF.out.mono ?_; rintro e w1 ⟨rfl, rfl⟩)
  go_ret2
  exact ⟨rfl, rfl⟩
set_option maxRecDepth 100000 in
set_option maxHeartbeats 2000000 in
theorem divide_Moebius_bad (n : Int) (w : World) (hn : n < 1 ∨ 1000000 < n) :
    Calls Try.prog 25 #[.int .i64 n] w fun e w' => e = .returned (.tuple #[.int .i64 0, .int .i64 1]) ∧ w' = w := by
  have CF := Lib.hid (prime_Factor_bad n w hn)
  go_enter Try.func25, Try.ntmps25
  go_wp2_with (go_at_call 92; refine CF.out.mono ?_; rintro e w1 ⟨rfl, rfl⟩)
  go_ret2
  exact ⟨rfl, rfl⟩
set_option maxRecDepth 100000 in
set_option maxHeartbeats 2000000 in
theorem divide_Divisors_bad (n : Int) (w : World) (hn : n < 1 ∨ 1000000 < n) :
    Calls Try.prog 23 #[.int .i64 n] w fun e w' => e = .returned (.tuple #[.slice none 0 0, .int .i64 1]) ∧ w' = w := by
  have CF := Lib.hid (prime_Factor_bad n w hn)
  go_enter Try.func23, Try.ntmps23
  go_wp2_with (go_at_call 92; refine CF.out.mono ?_; rintro e w1 ⟨rfl, rfl⟩)
  go_ret2
  exact ⟨rfl, rfl⟩
theorem equal_nat (L : List Nat) (k : Nat) (hk : L.length = k) (ao bo : Option Addr) (ca cb : Nat) (w : World) (hl : k ≤ 9223372036854775807) (hX : Reads w ao (natInts L)) (hY : Reads w bo (natInts L)) :
    Calls Try.prog 21 #[.slice ao k ca, .slice bo k cb] w fun e w' => e = .returned (.bool true) ∧ ∃ n, w' = w.drewN n := by
  rw [natInts_map] at hX hY
  have h := equal_int (L.map fun x : Nat => (x : Int)) (L.map fun x : Nat => (x : Int)) ao bo ca cb w (by rw [List.length_map, hk]; exact hl) (by rw [List.length_map, hk]; exact hl) hX hY
  rw [List.length_map, hk] at h
  refine h.mono ?_
  rintro e w' ⟨rfl, m, rfl⟩
  exact ⟨by rw [decide_eq_true rfl], m, rfl⟩
set_option maxRecDepth 100000 in
set_option maxHeartbeats 4000000 in
theorem divideSays_bad (n : Int) (w : World) (hn : n < 1 ∨ 1000000 < n) :
    Calls Try.prog 4 #[.int .i64 n] w fun e w' => e = .returned (.bool true) ∧ Below w.heap.size w w' := by
  have C1 := Lib.hid (divide_Divisors_bad n w hn)
  have C2 := Lib.hid (divide_Phi_bad n w hn)
  have C3 := Lib.hid (divide_Moebius_bad n w hn)
  cases hd : decide (n < 1)
  all_goals
    have hd2 : decide (1000000 < n) = true ∨ decide (n < 1) = true := by
      rcases hn with h | h
      · exact .inr (by simpa using h)
      · exact .inl (by simpa using h)
    rw [hd] at hd2
    first
      | (have hd3 : decide (1000000 < n) = true := by rcases hd2 with h | h; exact h; cases h)
      | skip
    clear hn
    go_enter Try.func4, Try.ntmps4
    go_wp2_with (first
      | (go_at_call 23; refine C1.out.mono ?_; rintro e w1 ⟨rfl, rfl⟩)
      | (go_at_call 24; refine C2.out.mono ?_; rintro e w1 ⟨rfl, rfl⟩)
      | (go_at_call 25; refine C3.out.mono ?_; rintro e w1 ⟨rfl, rfl⟩)
      | fail)
    go_ret
    exact ⟨rfl, Below.refl _ _⟩
set_option maxRecDepth 100000 in
set_option maxHeartbeats 8000000 in
theorem divideSays_good (n : Nat) (w : World) (h1 : 1 ≤ n) (hn : n ≤ 1000000) :
    Calls Try.prog 4 #[.int .i64 n] w fun e w' => e = .returned (.bool true) ∧ Below w.heap.size w w' := by
  have C1 := Lib.hid (divide_Divisors n w h1 hn)
  have C2 := Lib.hid (fun X => divide_Phi n X h1 hn)
  have C3 := Lib.hid (fun X => divide_Moebius n X h1 hn)
  have C4 := Lib.hid (fun X => ref_DivisorsOf n X h1 hn)
  have C5 := Lib.hid (fun X => ref_PhiOf n X h1 hn)
  have C6 := Lib.hid (fun X => ref_MoebiusOf n X h1 hn)
  have hlen := divs_length n
  have hpos := divs_pos h1
  obtain ⟨K, hK⟩ : ∃ K, (divs n).length = K := ⟨_, rfl⟩
  obtain ⟨p, hp⟩ : ∃ p, phi n = p := ⟨_, rfl⟩
  obtain ⟨m, hm⟩ : ∃ m, mu n = m := ⟨_, rfl⟩
  rw [hp] at C2 C5
  rw [hm] at C3 C6
  have d1 : decide ((n : Int) < 1) = false := by simp; omega
  have d2 : decide ((1000000 : Int) < n) = false := by simp; omega
  have pp : ((p : Int) == p) = true := by simp
  have mm : ((m : Int) == m) = true := by simp
  have HK := Lib.hid hK
  have hK9 : K ≤ 9223372036854775807 := by omega
  clear hlen hpos hK
  go_enter Try.func4, Try.ntmps4
  go_wp2_with (first
    | (go_at_call 23; refine C1.out.mono ?_; rintro e w1 ⟨G, rfl, hR, b1⟩; rw [HK.out])
    | (go_at_call 24; refine (C2.out _).mono ?_; rintro e w2 ⟨rfl, b2⟩)
    | (go_at_call 25; refine (C3.out _).mono ?_; rintro e w3 ⟨rfl, b3⟩)
    | (go_at_call 26; refine (C4.out _).mono ?_; rintro e w4 ⟨v, rfl, hown, b4⟩; rw [HK.out] at hown; obtain ⟨ao, cp, rfl, hR4, _⟩ := own_reads hown; have CE := Lib.hid (equal_nat (divs n) K HK.out _ ao K cp w4 hK9 (((hR.below b2).below b3).below b4) hR4))
    | (go_at_call 21; refine CE.out.mono ?_; rintro e w5 ⟨rfl, m5, rfl⟩; have b5 := below_dr w4.heap.size w4 m5)
    | (go_at_call 27; refine (C5.out _).mono ?_; rintro e w6 ⟨rfl, b6⟩)
    | (go_at_call 28; refine (C6.out _).mono ?_; rintro e w7 ⟨rfl, b7⟩)
    | fail)
  go_ret
  have q2 := b1.trans (b2.mono b1.size)
  have q3 := q2.trans (b3.mono q2.size)
  have q4 := q3.trans (b4.mono q3.size)
  have q5 := q4.trans (b5.mono q4.size)
  have q6 := q5.trans (b6.mono q5.size)
  exact ⟨rfl, q6.trans (b7.mono q6.size)⟩
theorem divideSays_walk (n : Int) (w : World) (w0 : (Lit.int .i64 n).wf = true) :
    Calls Try.prog 4 #[.int .i64 n] w fun e w' => e = .returned (.bool true) ∧ Below w.heap.size w w' := by
  by_cases h : 1 ≤ n ∧ n ≤ 1000000
  · obtain ⟨k, rfl⟩ : ∃ k : Nat, n = k := ⟨n.toNat, by omega⟩
    exact divideSays_good k w (by omega) (by omega)
  · exact divideSays_bad n w (by omega)
end Go.Proofs.Ytgdcmebhopjfaaa
