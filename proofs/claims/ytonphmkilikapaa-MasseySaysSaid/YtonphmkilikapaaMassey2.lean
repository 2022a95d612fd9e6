/- Contracts of massey.Next and of the reference's Makes, lowest and Hangs. -/
import Derived.Test.YtonphmkilikapaaRows
import Derived.Test.YtonphmkilikapaaMassey
import Derived.Test.YtonphmkilikapaaCloneB
import Derived.Test.YtonphmkilikapaaU64
namespace Go.Proofs.Ytonphmkilikapaa
open Go.RowKit
attribute [local go_sem] bits_and_bv bits_xor_bv bv_ne bv_zero

set_option maxRecDepth 20000 in
set_option maxHeartbeats 1000000 in
theorem ref_Makes (s c : Nat → Bool) (n m : Nat) (ao bo : Option Addr) (cap cap2 : Nat) (w : World) (hn : n ≤ 100) (hm : m ≤ 100) (hs : Hid (Reads w ao (rowF n (bvV s)))) (hc : Hid (Reads w bo (rowF m (bvV c)))) (hg : Hid (gens s c m n)) :
    Calls Try.prog 66 #[.slice ao n cap, .slice bo m cap2] w fun e w' => e = .returned (.bool true) ∧ w = w' := by
  go_enter Try.func66, Try.ntmps66
  go_wp2_with fail
  go_loop [5] (fun vi => ∃ i : Nat, vi = .int .i64 i ∧ m ≤ i ∧ (i ≤ n ∨ i = m)) (fun vi => n - (intOf vi).toNat)
  case atStart => exact ⟨m, rfl, by omega, .inr rfl⟩
  case round =>
    obtain ⟨i, rfl, him, hi⟩ := hrel
    by_cases hin : i < n
    · have hgi := Lib.hid (hg.out i him hin)
      have HI := Lib.hid hi
      clear hi
      go_wp2_with fail
      go_loop [6, 19] (fun vo vi => ∃ k : Nat, vi = .int .i64 k ∧ k ≤ m ∧ ∃ b : Bool, vo = .int .u8 (bv b) ∧ Hid (b = xs k fun k => c k && s (i - 1 - k))) (fun _ vi => m - (intOf vi).toNat)
      case atStart => exact ⟨0, rfl, by omega, false, rfl, rfl⟩
      case round =>
        obtain ⟨k, rfl, hk, b, rfl, hb⟩ := hrel
        by_cases hkm : k < m
        · obtain ⟨b1, o1, rfl, x1⟩ := hc.out k _ (rowF_get (bvV c) hkm)
          obtain ⟨t, ht⟩ : ∃ t, i - 1 - k = t := ⟨_, rfl⟩
          have hit : (i : Int) - 1 - (k : Int) = (t : Int) := by omega
          obtain ⟨b2, o2, rfl, x2⟩ := hs.out t _ (rowF_get (bvV s) (by omega))
          unfold bvV at x1 x2
          have t0 : (0 : Int) ≤ t := by omega
          have t1 : (t : Int) < n := by omega
          have hnew : Hid (b.xor (c k && s t) = xs (k + 1) fun k => c k && s (i - 1 - k)) := by
            show _ = _
            rw [xs, ht, hb.out]
          clear ht
          go_wp2_with fail
          go_round
          case rel => exact ⟨k + 1, by go_num, by omega, _, rfl, hnew⟩
          case measure => simp [intOf]; omega
        · have hR : Hid (b = s i) := by
            have : k = m := by omega
            show _ = _
            rw [hb.out, this]; exact hgi.out
          obtain ⟨b2, o2, rfl, x2⟩ := hs.out i _ (rowF_get (bvV s) hin)
          unfold bvV at x2
          have hne : (b != s i) = false := by rw [hR.out]; simp
          go_wp2_with fail
          go_round
          case rel => exact ⟨i + 1, by go_num, by omega, by omega⟩
          case measure => simp [intOf]; omega
    · go_wp2_with fail
      go_ret
      exact ⟨rfl, rfl⟩

theorem u64_bv (b : Bool) : IntKind.u64.wrap (bv b) = bv b := by cases b <;> decide
theorem u64_one (k : Nat) (hk : k ≤ 60) : IntKind.u64.wrap (2 ^ k) = ((2 ^ k : Nat) : Int) := by
  have h := Nat.pow_le_pow_right (n := 2) (by omega) hk
  have e : (2 : Int) ^ k = ((2 ^ k : Nat) : Int) := by push_cast; rfl
  rw [e]
  generalize 2 ^ k = q at h
  exact u64_in _ (by omega) (by omega)
theorem u64_shl (b : Bool) (k : Nat) (hk : k ≤ 60) : IntKind.u64.wrap (bv b * 2 ^ k) = ((if b = true then 2 ^ k else 0 : Nat) : Int) := by
  cases b
  · show IntKind.u64.wrap (0 * 2 ^ k) = ((0 : Nat) : Int)
    rw [Int.zero_mul]; rfl
  · show IntKind.u64.wrap (1 * 2 ^ k) = ((2 ^ k : Nat) : Int)
    rw [Int.one_mul]
    exact u64_one k hk
theorem and_bit (a k : Nat) : (a &&& 2 ^ k = 0) ↔ a.testBit k = false := by
  constructor
  · intro h
    have h2 : (a &&& 2 ^ k).testBit k = false := by rw [h]; simp
    rw [Nat.testBit_and, Nat.testBit_two_pow_self, Bool.and_true] at h2
    exact h2
  · intro h
    apply Nat.eq_of_testBit_eq
    intro i
    rw [Nat.testBit_and, Nat.zero_testBit]
    by_cases hi : i = k
    · subst hi; rw [h]; rfl
    · rw [Nat.testBit_two_pow_of_ne (by omega), Bool.and_false]
theorem lbw_lt (w r : Nat) (h0 : 0 < r) (h1 : r < 2 ^ w) : lbw w r < w := by
  rcases Nat.lt_or_ge (lbw w r) w with h | h
  · exact h
  · have h2 := (lbw_bit w r h0 h1).1
    rw [Nat.testBit_lt_two_pow (Nat.lt_of_lt_of_le h1 (Nat.pow_le_pow_right (by omega) h))] at h2; cases h2
set_option maxRecDepth 20000 in
set_option maxHeartbeats 1000000 in
theorem ref_lowest (r : Nat) (w : World) (h0 : 0 < r) (h1 : r < 2 ^ 61) :
    Calls Try.prog 101 #[.int .u64 r] w fun e w' => e = .returned (.int .u64 ((2 ^ lbw 64 r : Nat) : Int)) ∧ w = w' := by
  obtain ⟨q, hq⟩ : ∃ q : Nat, 18446744073709551616 - r = q := ⟨_, rfl⟩
  obtain ⟨x, hx⟩ : ∃ x : Nat, 2 ^ lbw 64 r = x := ⟨_, rfl⟩
  have e1 : IntKind.u64.wrap (-(r : Int)) = (q : Int) := by rw [u64_neg r h0 (by omega), hq]
  have e2 : bits .and .u64 (r : Int) (q : Int) = (x : Int) := by
    rw [u64_and_nat r q (by omega) (by omega), ← hx]
    congr 1
    have := and_neg 64 r h0 (by omega)
    rw [← hq]
    exact this
  rw [hx]
  clear hq hx
  go_enter Try.func101, Try.ntmps101
  go_wp2_with fail
  go_ret
  exact ⟨rfl, rfl⟩

theorem u64Info : ElemRow Try.prog 124 (.int .u64 0) 1 8 := elemRow_of (by kernel_rfl) rfl (by omega)
def u64V (R : List Nat) : List Value := R.map fun (r : Nat) => Value.int .u64 (r : Int)
def okB (s : Nat → Bool) (n t : Nat) : Bool := (kept s n t).all fun r => decide (r ≠ 2 ^ n)
theorem okB_iff (s : Nat → Bool) (n t : Nat) : okB s n t = true ↔ ∀ r ∈ kept s n t, r ≠ 2 ^ n := by unfold okB; simp
theorem okB_step (s : Nat → Bool) (n t r : Nat) (h : redR (kept s n t) (rowAt s n (n + t) n) = r) : okB s n (t + 1) = (okB s n t && decide (r ≠ 2 ^ n)) := by
  unfold okB
  simp only [kept]
  rw [h]
  split
  · rw [List.all_append]; simp
  · rename_i h0
    have : r = 0 := by simpa using h0
    subst this
    have : (0 : Nat) ≠ 2 ^ n := by have := Nat.pow_pos (n := n) (show 0 < 2 by omega); omega
    simp [this]
theorem kept_len (s : Nat → Bool) (n t : Nat) : (kept s n t).length ≤ t := by
  induction t with
  | zero => simp [kept]
  | succ t ih => simp only [kept]; split <;> (try simp) <;> omega
set_option maxRecDepth 100000 in
set_option maxHeartbeats 4000000 in
theorem ref_Hangs (s : Nat → Bool) (N : Nat) (ao : Option Addr) (cap : Nat) (w : World) (hN : N ≤ 60) (hs : Hid (Reads w ao (rowF N (bvV s)))) (L : Nat) (hL : L ≤ N) (c : Nat → Bool) (hc : Hid (gens s c L N)) (hmin : Hid (∀ n c, n < L → ¬ gens s c n N)) :
    Calls Try.prog 65 #[.slice ao N cap] w fun e w' => e = .returned (.int .i64 L) ∧ Below w.heap.size w w' := by
  go_enter Try.func65, Try.ntmps65
  go_wp2_with fail
  go_loopw [13] (fun vn wr => ∃ n : Nat, vn = .int .i64 n ∧ n ≤ L ∧ Hid (Below w.heap.size w wr)) (fun vn _ => N - (intOf vn).toNat)
  case atStart => exact ⟨0, rfl, by omega, Below.refl _ _⟩
  case round =>
    obtain ⟨n, rfl, hnL, hbel⟩ := hrel
    by_cases hnN : n < N
    · have hs1 := Lib.hid (hs.out.below hbel.out)
      obtain ⟨P, hP⟩ : ∃ P : Nat, 2 ^ n = P := ⟨_, rfl⟩
      have eP : IntKind.u64.wrap (2 ^ n) = (P : Int) := by rw [u64_one n (by omega), hP]
      have HP := Lib.hid hP
      clear hP
      go_wp2_with fail
      go_loopw [4, 5, 6] (fun vr vo vi wr => ∃ (t i : Nat), vi = .int .i64 i ∧ Hid (i = n + t) ∧ i ≤ N ∧ vo = .bool (okB s n t) ∧ Hid (wr.ownsRow w.heap.size 124 1 vr (kept s n t).length (u64V (kept s n t))) ∧ Hid (Below w.heap.size w wr)) (fun _ _ vi _ => N - (intOf vi).toNat)
      case atStart => exact ⟨0, n, rfl, rfl, by omega, rfl, World.ownsRow_nil _ _ _ _, hbel⟩
      case round =>
        obtain ⟨t, i, rfl, hit, hiN, rfl, hrow, hbel2⟩ := hrel
        by_cases hi : i < N
        · have hs2 := Lib.hid (hs.out.below hbel2.out)
          obtain ⟨b2, o2, rfl, x2⟩ := hs2.out i _ (rowF_get (bvV s) hi)
          unfold bvV at x2
          obtain ⟨r0, hr0⟩ : ∃ r0 : Nat, rowAt s n i 0 = r0 := ⟨_, rfl⟩
          have e0 : IntKind.u64.wrap (bv (s i) * 2 ^ n) = (r0 : Int) := by rw [u64_shl _ _ (by omega), ← hr0]; rfl
          have e00 := u64_bv (s i)
          have HR0 := Lib.hid hr0
          clear hr0
          go_wp2_with fail
          go_loop [7, 31] (fun vx vk => ∃ k x : Nat, vk = .int .i64 k ∧ k ≤ n ∧ vx = .int .u64 x ∧ Hid (rowAt s n i k = x)) (fun _ vk => n - (intOf vk).toNat)
          case atStart => exact ⟨0, r0, rfl, by omega, rfl, HR0⟩
          case round =>
            obtain ⟨k, x, rfl, hk, rfl, hx⟩ := hrel
            by_cases hkn : k < n
            · obtain ⟨j, hj⟩ : ∃ j, i - 1 - k = j := ⟨_, rfl⟩
              have hit1 := hit.out
              have hij : (i : Int) - 1 - (k : Int) = (j : Int) := by omega
              obtain ⟨b3, o3, ha3, x3⟩ := hs2.out j _ (rowF_get (bvV s) (by omega))
              injection ha3 with ha3
              injection ha3 with hb3 ho3
              subst hb3 ho3
              unfold bvV at x3
              obtain ⟨q, hq⟩ : ∃ q : Nat, (if s j = true then 2 ^ k else 0) = q := ⟨_, rfl⟩
              have hq1 : q < 18446744073709551616 := by
                rw [← hq]
                have := Nat.pow_le_pow_right (n := 2) (by omega) (show k ≤ 60 by omega)
                split <;> omega
              have hx1 : x < 18446744073709551616 := by
                rw [← hx.out]
                have h1 := rowAt_lt s n i (m := k) (by omega)
                have h2 := Nat.pow_le_pow_right (n := 2) (by omega) (show n + 1 ≤ 61 by omega)
                omega
              have e1 : IntKind.u64.wrap (bv (s j) * 2 ^ k) = (q : Int) := by rw [u64_shl _ _ (by omega), hq]
              have e11 := u64_bv (s j)
              obtain ⟨y, hy⟩ : ∃ y : Nat, x ||| q = y := ⟨_, rfl⟩
              have e2 : bits .or .u64 (x : Int) (q : Int) = (y : Int) := by rw [u64_or_nat x q hx1 hq1, hy]
              have hnew : Hid (rowAt s n i (k + 1) = y) := by
                show _ = _
                rw [rowAt, hx.out, hj, hq, hy]
              have j0 : (0 : Int) ≤ j := by omega
              have j1 : (j : Int) < N := by omega
              clear hit1 hj hq hq1 hx1 hy
              go_wp2_with fail
              go_round
              case rel => exact ⟨k + 1, y, by go_num, by omega, rfl, hnew⟩
              case measure => first | (simp [intOf]; omega) | omega
            · have hx2 : Hid (rowAt s n i n = x) := by
                have : k = n := by omega
                show _ = _
                rw [← hx.out, this]
              clear hx
              obtain ⟨len, hlen⟩ : ∃ len, (kept s n t).length = len := ⟨_, rfl⟩
              have hlen2 : len ≤ 60 := by have := kept_len s n t; have := hit.out; omega
              obtain ⟨ro, rc, hv, hRR, hnone, _⟩ := own_reads hrow.out
              subst hv
              have HLEN := Lib.hid hlen
              have HRR := Lib.hid hRR
              have hrow2 := hrow.out
              rw [hlen] at hrow2 ⊢
              have HROW := Lib.hid hrow2
              clear hlen hRR hnone hrow2 hrow
              have hxb : x < 2 ^ (n + 1) := by rw [← hx2.out]; exact rowAt_lt s n i (Nat.le_refl n)
              have HXB := Lib.hid hxb
              have HRW := Lib.hid (kept_rows s (show n < 64 by omega) t)
              have hp61 : Hid (2 ^ (n + 1) ≤ 2 ^ 61) := Nat.pow_le_pow_right (n := 2) (by omega) (show n + 1 ≤ 61 by omega)
              clear hxb
              go_wp2_with fail
              go_loop [7, 49] (fun vx vk => ∃ k y : Nat, vk = .int .i64 k ∧ k ≤ len ∧ vx = .int .u64 y ∧ Hid (y = redR ((kept s n t).take k) x)) (fun _ vk => len - (intOf vk).toNat)
              case atStart => exact ⟨0, x, rfl, by omega, rfl, rfl⟩
              case round =>
                obtain ⟨k2, y, rfl, hk2, rfl, hy⟩ := hrel
                have hyb : Hid (y < 2 ^ (n + 1)) := by
                  show _ < _
                  rw [hy.out]
                  exact redR_lt _ (fun r hr => (HRW.out.lt r (List.mem_of_mem_take hr)).2) HXB.out
                by_cases hkl : k2 < len
                · obtain ⟨r, hr⟩ : ∃ r, (kept s n t)[k2]? = some r := ⟨(kept s n t)[k2]'(by rw [HLEN.out]; exact hkl), List.getElem?_eq_getElem _⟩
                  obtain ⟨b4, o4, rfl, x4⟩ := HRR.out k2 (.int .u64 (r : Int)) (by simp [u64V, hr])
                  have hrb := HRW.out.lt r (List.mem_of_getElem? hr)
                  have hr61 : Hid (0 < r ∧ r < 2 ^ 61) := ⟨hrb.1, Nat.lt_of_lt_of_le hrb.2 hp61.out⟩
                  have hy61 : Hid (y < 2 ^ 61) := Nat.lt_of_lt_of_le hyb.out hp61.out
                  obtain ⟨lo, hlo⟩ : ∃ lo : Nat, 2 ^ lbw 64 r = lo := ⟨_, rfl⟩
                  have hlo61 : lo < 18446744073709551616 := by
                    rw [← hlo]
                    have h1 := lbw_lt 61 r hr61.out.1 hr61.out.2
                    have h2 : lbw 64 r < 61 := by
                      rcases Nat.lt_or_ge (lbw 64 r) 61 with h3 | h3
                      · exact h3
                      · have h4 := (lbw_bit 64 r hr61.out.1 (by have := hr61.out.2; omega)).1
                        rw [Nat.testBit_lt_two_pow (Nat.lt_of_lt_of_le hr61.out.2 (Nat.pow_le_pow_right (by omega) h3))] at h4; cases h4
                    have h3 := Nat.pow_le_pow_right (n := 2) (by omega) (show lbw 64 r ≤ 61 by omega)
                    omega
                  obtain ⟨z, hz⟩ : ∃ z : Nat, y &&& lo = z := ⟨_, rfl⟩
                  have e3 : bits .and .u64 (y : Int) (lo : Int) = (z : Int) := by rw [u64_and_nat y lo (by have := hy61.out; omega) hlo61, hz]
                  have hcall := Lib.hid (fun w => ref_lowest r w hr61.out.1 hr61.out.2)
                  rw [hlo] at hcall
                  have htk : Hid (redR ((kept s n t).take (k2 + 1)) x = redS y r) := by
                    show _ = _
                    obtain ⟨hl5, he5⟩ := List.getElem?_eq_some_iff.1 hr
                    rw [List.take_succ_eq_append_getElem hl5, redR_snoc, he5, ← hy.out]
                  have hbit : Hid ((z = 0) ↔ y.testBit (lbw 64 r) = false) := by
                    show _ ↔ _
                    rw [← hz, ← hlo]; exact and_bit _ _
                  clear hr hrb hlo61 hlo hz
                  by_cases hz0 : z = 0
                  · have hnew : Hid (y = redR ((kept s n t).take (k2 + 1)) x) := by
                      show _ = _
                      rw [htk.out]; unfold redS
                      rw [hbit.out.1 hz0, if_neg (by simp)]
                    subst hz0
                    go_wp2_with (go_at_call 101; refine (hcall.out _).mono ?_; rintro e w' ⟨rfl, rfl⟩)
                    go_round
                    case rel => exact ⟨k2 + 1, y, by go_num, by omega, rfl, hnew⟩
                    case measure => simp [intOf]; omega
                  · obtain ⟨y2, hy2⟩ : ∃ y2 : Nat, y ^^^ r = y2 := ⟨_, rfl⟩
                    have e4 : bits .xor .u64 (y : Int) (r : Int) = (y2 : Int) := by rw [u64_xor_nat y r (by have := hy61.out; omega) (by have := hr61.out; omega), hy2]
                    have ez : ((z : Int) != 0) = true := by simp; omega
                    have hnew : Hid (y2 = redR ((kept s n t).take (k2 + 1)) x) := by
                      show _ = _
                      rw [htk.out]; unfold redS
                      have : y.testBit (lbw 64 r) = true := by
                        cases hb : y.testBit (lbw 64 r) with
                        | true => rfl
                        | false => exact absurd (hbit.out.2 hb) hz0
                      rw [this, if_pos rfl, hy2]
                    clear hy2
                    go_wp2_with (go_at_call 101; refine (hcall.out _).mono ?_; rintro e w' ⟨rfl, rfl⟩)
                    go_round
                    case rel => exact ⟨k2 + 1, y2, by go_num, by omega, rfl, hnew⟩
                    case measure => simp [intOf]; omega
                · have hyR : Hid (redR (kept s n t) (rowAt s n (n + t) n) = y) := by
                    show _ = _
                    have h1 : k2 = (kept s n t).length := by rw [HLEN.out]; omega
                    rw [hy.out, h1, List.take_length, ← hit.out, hx2.out]
                  have hok := Lib.hid (okB_step s n t y hyR.out)
                  have hit2 : Hid (i + 1 = n + (t + 1)) := by have := hit.out; show _ = _; omega
                  have hlen3 : len + 1 ≤ 100 := by omega
                  clear hy
                  by_cases hyP : y = P
                  · subst hyP
                    have hok2 : Hid (okB s n (t + 1) = false) := by
                      show _ = _
                      rw [hok.out, HP.out]; simp
                    have hy0 : ((y : Int) != 0) = true := by
                      have : 0 < y := by rw [← HP.out]; exact Nat.pow_pos (by omega)
                      simp; omega
                    have hkn2 : Hid (kept s n (t + 1) = kept s n t ++ [y]) := by
                      show _ = _
                      simp only [kept]
                      rw [hyR.out, if_pos (by rw [← HP.out]; have := Nat.pow_pos (n := n) (show 0 < 2 by omega); omega)]
                    go_wp2_with (at_builtin; go_must (refine app_one rfl (.tmp 68) (.tmp 70) _ rfl w.heap.size 124 _ 1 8 Try.underlying123 u64Info _ len (u64V (kept s n t)) (by rfl) HROW.out [.int .u64 (y : Int)] (by rfl) rfl (by intro u hu; simp at hu; subst hu; rfl) (by unfold maxLen; omega) (by omega) hbel2.out.size ?_); intro v2 w2 hown2 hgr2 hb2)
                    have hn3 : Hid (w2.ownsRow w.heap.size 124 1 v2 (kept s n (t + 1)).length (u64V (kept s n (t + 1)))) := by
                      show World.ownsRow _ _ _ _ _ _ _
                      rw [hkn2.out, List.length_append, HLEN.out]
                      simp only [u64V, List.map_append] at hown2 ⊢
                      exact hown2
                    go_roundw
                    case rel => exact ⟨t + 1, i + 1, by go_num, hit2, by omega, by rw [hok2.out], hn3, hbel2.out.trans hb2⟩
                    case measure => simp [intOf]; omega
                  · have hyP2 : ((y : Int) == (P : Int)) = false := by simp; omega
                    have hok2 : Hid (okB s n (t + 1) = okB s n t) := by
                      show _ = _
                      rw [hok.out, HP.out]; simp [hyP]
                    by_cases hy0 : y = 0
                    · have hkn2 : Hid (kept s n (t + 1) = kept s n t) := by
                        show _ = _
                        simp only [kept]
                        rw [hyR.out, if_neg (by simp [hy0])]
                      have hn3 : Hid (wr.ownsRow w.heap.size 124 1 (.slice ro len rc) (kept s n (t + 1)).length (u64V (kept s n (t + 1)))) := by
                        show World.ownsRow _ _ _ _ _ _ _
                        rw [hkn2.out, HLEN.out]; exact HROW.out
                      have hy1 : ((y : Int) != 0) = false := by simp; omega
                      go_wp2_with fail
                      go_roundw
                      case rel => exact ⟨t + 1, i + 1, by go_num, hit2, by omega, by rw [hok2.out], hn3, hbel2⟩
                      case measure => simp [intOf]; omega
                    · have hkn2 : Hid (kept s n (t + 1) = kept s n t ++ [y]) := by
                        show _ = _
                        simp only [kept]
                        rw [hyR.out, if_pos hy0]
                      have hy1 : ((y : Int) != 0) = true := by simp; omega
                      go_wp2_with (at_builtin; go_must (refine app_one rfl (.tmp 68) (.tmp 70) _ rfl w.heap.size 124 _ 1 8 Try.underlying123 u64Info _ len (u64V (kept s n t)) (by rfl) HROW.out [.int .u64 (y : Int)] (by rfl) rfl (by intro u hu; simp at hu; subst hu; rfl) (by unfold maxLen; omega) (by omega) hbel2.out.size ?_); intro v2 w2 hown2 hgr2 hb2)
                      have hn3 : Hid (w2.ownsRow w.heap.size 124 1 v2 (kept s n (t + 1)).length (u64V (kept s n (t + 1)))) := by
                        show World.ownsRow _ _ _ _ _ _ _
                        rw [hkn2.out, List.length_append, HLEN.out]
                        simp only [u64V, List.map_append] at hown2 ⊢
                        exact hown2
                      go_roundw
                      case rel => exact ⟨t + 1, i + 1, by go_num, hit2, by omega, by rw [hok2.out], hn3, hbel2.out.trans hb2⟩
                      case measure => simp [intOf]; omega
        · have hfin := Lib.hid (kept_ok s (n := n) (N := N) (by omega) (by omega))
          have hNt : Hid (N - n = t) := by have := hit.out; show _ = _; omega
          by_cases hnl : n = L
          · have hokT : Hid (okB s n t = true) := by
              show _ = _
              rw [okB_iff, ← hNt.out, hfin.out]
              exact ⟨c, by rw [hnl]; exact hc.out⟩
            have HNL := Lib.hid hnl
            clear hnl
            rw [hokT.out]
            go_wp2_with fail
            go_ret
            exact ⟨by rw [← HNL.out]; rfl, hbel2.out⟩
          · have hokF : Hid (okB s n t = false) := by
              show _ = _
              cases hb : okB s n t with
              | false => rfl
              | true =>
                rw [okB_iff, ← hNt.out, hfin.out] at hb
                obtain ⟨c2, hc2⟩ := hb
                exact absurd hc2 (hmin.out n c2 (by omega))
            rw [hokF.out]
            go_wp2_with fail
            go_roundw
            case rel => exact ⟨n + 1, by go_num, by omega, hbel2⟩
            case measure => simp [intOf]; omega
    · have hLN : Hid (L = N) := by show _ = _; omega
      go_wp2_with fail
      go_ret
      exact ⟨by rw [hLN.out]; rfl, hbel.out⟩
end Go.Proofs.Ytonphmkilikapaa
