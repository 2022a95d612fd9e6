/- Contract of tree.Check. -/
import Derived.Test.YtkincmkmkfiglaaRows
import Derived.Test.YtkincmkmkfiglaaTree5
namespace Go.Proofs.Ytkincmkmkfiglaa
open Go.RowKit

theorem xor_lt_two (k : Nat) {n : Nat} (h : k < n) (h2 : n ≤ 16) : k ^^^ 1 < 16 := Nat.xor_lt_two_pow (n := 4) (by omega) (by omega)
set_option maxRecDepth 20000 in
theorem Check_large (a : Nat) (n k : Int) (s : ByteArray) (ao : Option Addr) (len cap : Nat) (w : World) (h : n < 1 ∨ 16 < n) :
    Calls Try.prog 41 #[.int .u64 a, .int .i64 n, .int .i64 k, .string s, .slice ao len cap] w fun e w' => e = .returned (.tuple #[.bool false, .int .i64 2]) ∧ w = w' := by
  rcases h with h | h
  · have d1 : decide (n < 1) = true := by simp; omega
    go_enter Try.func41, Try.ntmps41
    go_wp2_with fail
    go_ret2
    exact ⟨rfl, rfl⟩
  · have d1 : decide (n < 1) = false := by simp; omega
    have d2 : decide (16 < n) = true := by simp; omega
    go_enter Try.func41, Try.ntmps41
    go_wp2_with fail
    go_ret2
    exact ⟨rfl, rfl⟩
set_option maxRecDepth 20000 in
theorem Check_none (a : Nat) (n k : Int) (s : ByteArray) (ao : Option Addr) (len cap : Nat) (w : World) (h1 : 1 ≤ n) (h2 : n ≤ 16) (h : k < 0 ∨ n ≤ k) :
    Calls Try.prog 41 #[.int .u64 a, .int .i64 n, .int .i64 k, .string s, .slice ao len cap] w fun e w' => e = .returned (.tuple #[.bool false, .int .i64 4]) ∧ w = w' := by
  have d1 : decide (n < 1) = false := by simp; omega
  have d2 : decide (16 < n) = false := by simp; omega
  rcases h with h | h
  · have d3 : decide (k < 0) = true := by simp; omega
    go_enter Try.func41, Try.ntmps41
    go_wp2_with fail
    go_ret2
    exact ⟨rfl, rfl⟩
  · have d3 : decide (k < 0) = false := by simp; omega
    have d4 : decide (n ≤ k) = true := by simp; omega
    go_enter Try.func41, Try.ntmps41
    go_wp2_with fail
    go_ret2
    exact ⟨rfl, rfl⟩
set_option maxRecDepth 20000 in
set_option maxHeartbeats 1000000 in
theorem Check_good (a n k : Nat) (s : ByteArray) (P : List Nat) (ao : Option Addr) (len cap : Nat) (w : World) (ha : a < 18446744073709551616) (h1 : 1 ≤ n) (h2 : n ≤ 16) (hk : k < n) (hs : s.size ≤ 9223372036854775807)
    (hl : P.length = len) (hcap : len ≤ cap) (hm : cap ≤ 9223372036854775807) (hb : Hid (∀ x ∈ P, x < 18446744073709551616)) (hR : Hid (Reads w ao (uL P))) :
    Calls Try.prog 41 #[.int .u64 a, .int .i64 n, .int .i64 k, .string s, .slice ao len cap] w fun e w' => e = .returned (.tuple #[.bool (chk nodeN n k (leafN s) P == some a), .int .i64 0]) ∧ w = w' := by
  have d1 : decide ((n : Int) < 1) = false := by simp; omega
  have d2 : decide ((16 : Int) < n) = false := by simp; omega
  have d3 : decide ((k : Int) < 0) = false := by simp
  have d4 : decide ((n : Int) ≤ k) = false := by simp; omega
  have d5 : decide (n ≤ k) = false := by simp; omega
  have d6 : decide (16 < n) = false := by simp; omega
  have HC := Lib.hid (tree_Leaf s w hs)
  have hlt := leafN_lt s (by omega)
  obtain ⟨X, hX⟩ : ∃ X, leafN s = X := ⟨_, rfl⟩
  rw [hX] at HC hlt ⊢
  obtain ⟨R, hR2⟩ : ∃ R, chk nodeN n k X P = R := ⟨_, rfl⟩
  rw [hR2]
  have HR2 := Lib.hid hR2
  have HL := Lib.hid hl
  clear hX hR2 hl
  go_enter Try.func41, Try.ntmps41
  go_wp2_with fail
  refine HC.out.mono ?_
  rintro e w' ⟨rfl, rfl⟩
  go_wp2_with fail
  clear d1 d2 d3 d4 d5 d6
  go_loop [1, 2, 4, 12] (fun vn vk vp vx => ∃ (n k : Nat) (p : List Nat) (a : Option Addr) (m c x : Nat), vn = .int .i64 n ∧ 1 ≤ n ∧ n ≤ 16 ∧ vk = .int .i64 k ∧ k < n ∧ vp = .slice a m c ∧ Hid (p.length = m) ∧ m ≤ c ∧ c ≤ 9223372036854775807 ∧ vx = .int .u64 x ∧ x < 18446744073709551616 ∧ Hid (∀ x ∈ p, x < 18446744073709551616) ∧ Hid (Reads w a (uL p)) ∧ Hid (chk nodeN n k x p = R)) (fun vn _ _ _ => (intOf vn).toNat)
  case atStart => exact ⟨n, k, P, ao, len, cap, X, rfl, h1, h2, rfl, hk, rfl, HL, hcap, hm, rfl, hlt, hb, hR, HR2⟩
  case round =>
    obtain ⟨n, k, p, ad, m, c, x, rfl, hn1, hn16, rfl, hk, rfl, hp, hmc, hc63, rfl, hx, hbp, hrp, hchk⟩ := hrel
    by_cases hn : 1 < n
    · have hqx := xor_lt_two k hk hn16
      have ex : bits .xor .i64 (k : Int) 1 = ((k ^^^ 1 : Nat) : Int) := i64_xor_nat k 1 (by omega) (by omega)
      have hch := chk_up nodeN (n := n) (k := k) (x := x) (p := p) (by omega) hn16 hk
      obtain ⟨y, hy⟩ : ∃ y, k ^^^ 1 = y := ⟨_, rfl⟩
      rw [hy] at ex hch hqx
      obtain ⟨k2, hk2⟩ : ∃ k2, k / 2 = k2 := ⟨_, rfl⟩
      have e2 : (k : Int) / 2 = (k2 : Int) := by omega
      have e3 : Int.tdiv (k : Int) 2 = (k2 : Int) := by rw [Int.tdiv_eq_ediv_of_nonneg (by omega), e2]
      have w3 : IntKind.i64.wrap (k2 : Int) = (k2 : Int) := IntWalk.i64_in _ (by omega)
      obtain ⟨n2, hn2⟩ : ∃ n2, (n + 1) / 2 = n2 := ⟨_, rfl⟩
      have e4 : ((n : Int) + 1) / 2 = (n2 : Int) := by omega
      have e5 : Int.tdiv ((n : Int) + 1) 2 = (n2 : Int) := by rw [Int.tdiv_eq_ediv_of_nonneg (by omega), e4]
      have w4 : IntKind.i64.wrap (n2 : Int) = (n2 : Int) := IntWalk.i64_in _ (by omega)
      have w5 : IntKind.i64.wrap ((n : Int) + 1) = (n : Int) + 1 := IntWalk.i64_in _ (by omega)
      have hkn2 : k2 < n2 := by omega
      have hn21 : 1 ≤ n2 := by omega
      have hn22 : n2 < n := by omega
      rw [hk2, hn2] at hch
      clear hy hk2 hn2
      by_cases hyn : y < n
      · rw [if_pos hyn] at hch
        by_cases hm0 : m = 0
        · subst hm0
          have hnil : p = [] := List.eq_nil_of_length_eq_zero hp.out
          have HN : Hid (R = none) := by show _ = _; rw [← hchk.out, hch, hnil]
          clear hch hnil
          go_wp2_with fail
          go_ret2
          have h := HN.out
          subst h
          exact ⟨rfl, rfl⟩
        · obtain ⟨z, r, hzr⟩ : ∃ z r, p = z :: r := by
            cases p with
            | nil => exact absurd hp.out.symm hm0
            | cons z r => exact ⟨z, r, rfl⟩
          rw [hzr] at hch
          dsimp only at hch
          have hchp := hchk.out
          rw [hzr, hch] at hchp
          clear hch hchk
          have hz : z < 18446744073709551616 := hbp.out z (by rw [hzr]; simp)
          have HBR : Hid (∀ x ∈ r, x < 18446744073709551616) := Lib.hid fun x hx => hbp.out x (by rw [hzr]; simp [hx])
          obtain ⟨b, of, rfl, cz⟩ := hrp.out 0 (.int .u64 (z : Int)) (by rw [hzr]; rfl)
          rw [Nat.add_zero] at cz
          have HRR : Hid (Reads w (some ⟨b, of + 1, none⟩) (uL r)) := by
            intro j u hu
            obtain ⟨b2, o2, h3, h4⟩ := hrp.out (j + 1) u (by rw [hzr]; exact hu)
            cases h3
            exact ⟨b, of + 1, rfl, by rw [← h4]; congr 2; omega⟩
          have HLR : Hid (r.length = m - 1) := by
            have h := hp.out
            rw [hzr, List.length_cons] at h
            show _ = _; omega
          obtain ⟨m', rfl⟩ : ∃ m', m = m' + 1 := ⟨m - 1, by omega⟩
          rw [Nat.add_sub_cancel] at HLR
          have HR3 : Hid (Reads w (if c = 1 then some ⟨b, of, none⟩ else some ⟨b, of + 1, none⟩) (uL r)) := by
            show Reads _ _ _
            by_cases hc1 : c = 1
            · have : r = [] := List.eq_nil_of_length_eq_zero (by rw [HLR.out]; omega)
              rw [this]
              exact Reads.nil _ _
            · rw [if_neg hc1]; exact HRR.out
          clear hzr hm0 HRR
          have hm1 : ¬ (((m' + 1 : Nat) : Int) = 0) := by omega
          by_cases hpar : k % 2 = 0
          · skip
            have r1 : (k : Int) % 2 = 0 := by omega
            have r2 : Int.tmod (k : Int) 2 = 0 := by rw [Int.tmod_eq_emod_of_nonneg (by omega), r1]
            have HN := Lib.hid (tree_Node x z w hx hz)
            have hnb := nodeN_lt x z
            obtain ⟨t, ht⟩ : ∃ t, nodeN x z = t := ⟨_, rfl⟩
            rw [if_pos hpar, ht] at hchp
            rw [ht] at HN hnb
            have HCH := Lib.hid hchp
            clear hchp ht
            go_wp2_with fail
            refine HN.out.mono ?_
            rintro e w' ⟨rfl, rfl⟩
            go_wp2_with fail
            go_round
            case rel => exact ⟨n2, k2, r, (if c = 1 then some ⟨b, of, none⟩ else some ⟨b, of + 1, none⟩), m', c - 1, t, by go_num, hn21, by omega, by go_num, hkn2, by go_num, HLR, by omega, by omega, rfl, hnb, HBR, HR3, HCH⟩
            case measure => simp [intOf]; omega
          · skip
            have r1 : (k : Int) % 2 = 1 := by omega
            have r2 : Int.tmod (k : Int) 2 = 1 := by rw [Int.tmod_eq_emod_of_nonneg (by omega), r1]
            have HN := Lib.hid (tree_Node z x w hz hx)
            have hnb := nodeN_lt z x
            obtain ⟨t, ht⟩ : ∃ t, nodeN z x = t := ⟨_, rfl⟩
            rw [if_neg hpar, ht] at hchp
            rw [ht] at HN hnb
            have HCH := Lib.hid hchp
            clear hchp ht
            go_wp2_with fail
            refine HN.out.mono ?_
            rintro e w' ⟨rfl, rfl⟩
            go_wp2_with fail
            go_round
            case rel => exact ⟨n2, k2, r, (if c = 1 then some ⟨b, of, none⟩ else some ⟨b, of + 1, none⟩), m', c - 1, t, by go_num, hn21, by omega, by go_num, hkn2, by go_num, HLR, by omega, by omega, rfl, hnb, HBR, HR3, HCH⟩
            case measure => simp [intOf]; omega
      · rw [if_neg hyn] at hch
        have HCH : Hid (chk nodeN n2 k2 x p = R) := by show _ = _; rw [← hchk.out, hch]
        clear hch hchk
        go_wp2_with fail
        go_round
        case rel => exact ⟨n2, k2, p, ad, m, c, x, by go_num, hn21, by omega, by go_num, hkn2, rfl, hp, hmc, hc63, rfl, hx, hbp, hrp, HCH⟩
        case measure => simp [intOf]; omega
    · obtain rfl : n = 1 := by omega
      obtain rfl : k = 0 := by omega
      by_cases hm0 : m = 0
      · subst hm0
        have hnil : p = [] := List.eq_nil_of_length_eq_zero hp.out
        have HN : Hid (R = some x) := by show _ = _; rw [← hchk.out, hnil, chk_one, if_pos rfl]
        have hv : ((x : Int) == (a : Int)) = (some x == some a) := by
          show _ = (x == a)
          rw [Bool.eq_iff_iff]; simp; omega
        clear hnil
        go_wp2_with fail
        go_ret2
        have h := HN.out
        subst h
        exact ⟨rfl, rfl⟩
      · have HN : Hid (R = none) := by
          show _ = _
          rw [← hchk.out, chk_one, if_neg (fun h => hm0 (by rw [← hp.out, h]; rfl))]
        have hm1 : ¬ ((m : Int) = 0) := by omega
        go_wp2_with fail
        go_ret2
        have h := HN.out
        subst h
        exact ⟨rfl, rfl⟩
end Go.Proofs.Ytkincmkmkfiglaa
