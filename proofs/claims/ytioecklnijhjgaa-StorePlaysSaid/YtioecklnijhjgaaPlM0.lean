/- Small laws that every walk of this seat uses: draws, results, bits of an int. No function of the program. -/
import Derived.WalkKit
import Derived.WalkSpells
import Derived.WalkLawsBesides
import Derived.Deep.QuietTactic
import Derived.BigQuiet
import Derived.Lib.Hide
import Derived.Handy
set_option linter.unusedVariables false
set_option linter.unusedSimpArgs false
namespace Go.Proofs.Ytioecklnijhjgaa
open Go.RowKit

theorem ret_int {k : IntKind} {a b : Int} (h : a = b) : Ending.returned (.int k a) = .returned (.int k b) := by rw [h]
theorem ret_bool {a b : Bool} (h : a = b) : Ending.returned (.bool a) = .returned (.bool b) := by rw [h]
theorem quiet_at {P : Program} {f : FuncId} {args : Array Value} {w : World} {a n : Nat} {v : Value}
    (h : ∀ W : World, Calls P f args W fun e w' => e = .returned v ∧ ∃ m, w' = W.drewN m) :
    Calls P f args (w.drewN (a + n)) fun e w'' => e = .returned v ∧ ∃ m, w'' = w.drewN (a + m) :=
  (h _).mono fun _ _ ⟨he, m, hm⟩ => ⟨he, n + m, by rw [hm, World.drewN_drewN, Nat.add_assoc]⟩
theorem quiet_on {P : Program} {f : FuncId} {args : Array Value} {w : World} {n : Nat} {v : Value}
    (h : ∀ W : World, Calls P f args W fun e w' => e = .returned v ∧ ∃ m, w' = W.drewN m) :
    Calls P f args (w.drewN n) fun e w'' => e = .returned v ∧ ∃ m, w'' = w.drewN m :=
  (h _).mono fun _ _ ⟨he, m, hm⟩ => ⟨he, n + m, by rw [hm, World.drewN_drewN]⟩
theorem dr2 (w : World) (n m : Nat) : ∃ k, (w.drewN n).drewN m = w.drewN k := ⟨_, World.drewN_drewN ..⟩
theorem dr0 (w : World) : ∃ k, w = w.drewN k := ⟨0, rfl⟩
theorem results_tmp4 {fn : Func} {t u v x : Tmp} (h : fn.results = #[.tmp t, .tmp u, .tmp v, .tmp x]) (tmps : Array Value) (P : Program) (w : World) :
    (results fn tmps).run P w = .ok (.tuple #[tmps.getD t undef, tmps.getD u undef, tmps.getD v undef, tmps.getD x undef]) w := by simp [results, h]

theorem below_drewN {B : Nat} {a w : World} (h : Below B a w) (n : Nat) : Below B a (w.drewN n) := ⟨h.os, h.tape, h.output, h.size, h.block⟩
theorem below_dr (B : Nat) (w : World) (n : Nat) : Below B w (w.drewN n) := below_drewN (Below.refl B w) n

/-! ### Bits of an int from 0 on -/
theorem ofInt_i64 (a : Nat) (ha : a < 9223372036854775808) : (BitVec.ofInt 64 (a : Int)).toNat = a := by
  rw [BitVec.ofInt_natCast, BitVec.toNat_ofNat]; exact Nat.mod_eq_of_lt (by omega)
theorem i64_and_nat (a b : Nat) (ha : a < 9223372036854775808) (hb : b < 9223372036854775808) : bits .and .i64 (a : Int) (b : Int) = ((a &&& b : Nat) : Int) := by
  have hx : a &&& b < 2 ^ 63 := Nat.and_lt_two_pow _ (by omega)
  show IntKind.i64.wrap ((BitVec.ofInt 64 (a : Int) &&& BitVec.ofInt 64 (b : Int)).toNat : Int) = _
  rw [BitVec.toNat_and, ofInt_i64 a ha, ofInt_i64 b hb]
  exact IntWalk.i64_in _ (by omega)
theorem i64_or_nat (a b : Nat) (ha : a < 9223372036854775808) (hb : b < 9223372036854775808) : bits .or .i64 (a : Int) (b : Int) = ((a ||| b : Nat) : Int) := by
  have hx : a ||| b < 2 ^ 63 := Nat.or_lt_two_pow (by omega) (by omega)
  show IntKind.i64.wrap ((BitVec.ofInt 64 (a : Int) ||| BitVec.ofInt 64 (b : Int)).toNat : Int) = _
  rw [BitVec.toNat_or, ofInt_i64 a ha, ofInt_i64 b hb]
  exact IntWalk.i64_in _ (by omega)
theorem i64_xor_nat (a b : Nat) (ha : a < 9223372036854775808) (hb : b < 9223372036854775808) : bits .xor .i64 (a : Int) (b : Int) = ((a ^^^ b : Nat) : Int) := by
  have hx : a ^^^ b < 2 ^ 63 := Nat.xor_lt_two_pow (by omega) (by omega)
  show IntKind.i64.wrap ((BitVec.ofInt 64 (a : Int) ^^^ BitVec.ofInt 64 (b : Int)).toNat : Int) = _
  rw [BitVec.toNat_xor, ofInt_i64 a ha, ofInt_i64 b hb]
  exact IntWalk.i64_in _ (by omega)
theorem i64_and_one (a : Nat) (ha : a < 9223372036854775808) : bits .and .i64 (a : Int) 1 = ((a % 2 : Nat) : Int) := by
  have := i64_and_nat a 1 ha (by omega)
  rw [Nat.and_one_is_mod] at this
  exact this
end Go.Proofs.Ytioecklnijhjgaa
namespace Go.Proofs.Ytioecklnijhjgaa
open Go.RowKit
theorem u32_in (x : Int) (h0 : 0 ≤ x) (h1 : x < 4294967296) : IntKind.u32.wrap x = x := by
  simp only [IntKind.wrap, IntKind.signed, IntKind.bits]
  simp
  omega
theorem ofInt_u32 (a : Nat) (ha : a < 4294967296) : (BitVec.ofInt 32 (a : Int)).toNat = a := by
  rw [BitVec.ofInt_natCast, BitVec.toNat_ofNat]; exact Nat.mod_eq_of_lt (by omega)
theorem u32_and_nat (a b : Nat) (ha : a < 4294967296) (hb : b < 4294967296) : bits .and .u32 (a : Int) (b : Int) = ((a &&& b : Nat) : Int) := by
  have hx : a &&& b < 2 ^ 32 := Nat.and_lt_two_pow _ (by omega)
  show IntKind.u32.wrap ((BitVec.ofInt 32 (a : Int) &&& BitVec.ofInt 32 (b : Int)).toNat : Int) = _
  rw [BitVec.toNat_and, ofInt_u32 a ha, ofInt_u32 b hb]
  exact u32_in _ (by omega) (by omega)
theorem u32_or_nat (a b : Nat) (ha : a < 4294967296) (hb : b < 4294967296) : bits .or .u32 (a : Int) (b : Int) = ((a ||| b : Nat) : Int) := by
  have hx : a ||| b < 2 ^ 32 := Nat.or_lt_two_pow (by omega) (by omega)
  show IntKind.u32.wrap ((BitVec.ofInt 32 (a : Int) ||| BitVec.ofInt 32 (b : Int)).toNat : Int) = _
  rw [BitVec.toNat_or, ofInt_u32 a ha, ofInt_u32 b hb]
  exact u32_in _ (by omega) (by omega)
theorem u32_xor_nat (a b : Nat) (ha : a < 4294967296) (hb : b < 4294967296) : bits .xor .u32 (a : Int) (b : Int) = ((a ^^^ b : Nat) : Int) := by
  have hx : a ^^^ b < 2 ^ 32 := Nat.xor_lt_two_pow (by omega) (by omega)
  show IntKind.u32.wrap ((BitVec.ofInt 32 (a : Int) ^^^ BitVec.ofInt 32 (b : Int)).toNat : Int) = _
  rw [BitVec.toNat_xor, ofInt_u32 a ha, ofInt_u32 b hb]
  exact u32_in _ (by omega) (by omega)
theorem u32_neg (r : Nat) (h0 : 0 < r) (h1 : r < 4294967296) : IntKind.u32.wrap (-(r : Int)) = ((4294967296 - r : Nat) : Int) := by
  simp only [IntKind.wrap, IntKind.signed, IntKind.bits]
  simp
  omega
end Go.Proofs.Ytioecklnijhjgaa
namespace Go.Proofs.Ytioecklnijhjgaa

def stepP (x : Nat) : Nat := if x % 2 = 1 then x / 2 ^^^ 2197175160 else x / 2
def itP : Nat → Nat → Nat
  | 0, x => x
  | n + 1, x => stepP (itP n x)
def stepR (z b : Nat) : Nat := if (z / 2147483648 ^^^ b) = 1 then (z * 2 % 4294967296) ^^^ 517762881 else z * 2 % 4294967296
def itR (c : Nat) : Nat → Nat → Nat
  | 0, z => z
  | n + 1, z => stepR (itR c n z) (c / 2 ^ n % 2)
theorem x32 {a b : Nat} (ha : a < 4294967296) (hb : b < 4294967296) : a ^^^ b < 4294967296 := Nat.xor_lt_two_pow (n := 32) ha hb
theorem stepP_lt {x : Nat} (h : x < 4294967296) : stepP x < 4294967296 := by
  unfold stepP
  split
  · exact x32 (by omega) (by omega)
  · omega
theorem itP_lt {x : Nat} (h : x < 4294967296) : ∀ n, itP n x < 4294967296
  | 0 => h
  | n + 1 => stepP_lt (itP_lt h n)
theorem stepR_lt (z b : Nat) : stepR z b < 4294967296 := by
  unfold stepR
  split
  · exact x32 (by omega) (by omega)
  · omega
theorem itR_lt {c z : Nat} (h : z < 4294967296) : ∀ n, itR c n z < 4294967296
  | 0 => h
  | n + 1 => stepR_lt _ _
/-- One is the other read from the other end. -/
structure Turned (s z : Nat) : Prop where
  s32 : s < 4294967296
  z32 : z < 4294967296
  bit : ∀ t, t < 32 → s.testBit t = z.testBit (31 - t)
theorem poly_bits : ∀ t : Fin 32, (2197175160 : Nat).testBit t.val = (517762881 : Nat).testBit (31 - t.val) := by decide
theorem tb_half (x t : Nat) : (x / 2).testBit t = x.testBit (t + 1) := by rw [Nat.testBit_succ]
theorem tb_dbl (z t : Nat) (h : t < 32) : (z * 2 % 4294967296).testBit t = (decide (1 ≤ t) && z.testBit (t - 1)) := by
  rw [show (4294967296 : Nat) = 2 ^ 32 from rfl, Nat.testBit_mod_two_pow, Nat.mul_comm, show 2 * z = 2 ^ 1 * z from rfl, Nat.testBit_two_pow_mul]
  simp [h]
theorem tb_zero (x : Nat) : x.testBit 0 = decide (x % 2 = 1) := Nat.testBit_zero x
theorem top_bit {z : Nat} (h : z < 4294967296) : z / 2147483648 = if z.testBit 31 then 1 else 0 := by
  rw [Nat.testBit_eq_decide_div_mod_eq]
  by_cases h1 : z / 2 ^ 31 % 2 = 1
  · simp [h1]; omega
  · simp [h1]; omega
theorem turned_step {s z c : Nat} (hc : c < 256) (h : Turned s z) : Turned (stepP (s ^^^ c) ^^^ c / 2) (stepR z (c % 2)) := by
  have hs := h.s32
  have hz := h.z32
  have h0 := h.bit 0 (by omega)
  rw [tb_zero] at h0
  have hbit : (z / 2147483648 ^^^ c % 2) = 1 ↔ (s ^^^ c) % 2 = 1 := by
    rw [top_bit hz]
    have e1 : (s ^^^ c) % 2 = (s % 2 ^^^ c % 2) := Nat.xor_mod_two_pow (n := 1)
    rw [e1]
    simp only [Nat.sub_zero] at h0
    rw [← h0]
    rcases Nat.mod_two_eq_zero_or_one s with h1 | h1 <;> rcases Nat.mod_two_eq_zero_or_one c with h2 | h2 <;> simp [h1, h2]
  have hy : s ^^^ c < 4294967296 := x32 hs (by omega)
  refine ⟨x32 (stepP_lt hy) (by omega), stepR_lt _ _, fun t ht => ?_⟩
  have e : (stepP (s ^^^ c) ^^^ c / 2).testBit t = (s.testBit (t + 1) ^^ (decide ((s ^^^ c) % 2 = 1) && (2197175160 : Nat).testBit t)) := by
    rw [Nat.testBit_xor, tb_half]
    unfold stepP
    by_cases hb : (s ^^^ c) % 2 = 1
    · rw [if_pos hb, Nat.testBit_xor, tb_half, Nat.testBit_xor]
      simp [hb]
      cases s.testBit (t + 1) <;> cases c.testBit (t + 1) <;> simp
    · rw [if_neg hb, tb_half, Nat.testBit_xor]
      simp [hb]
  have e2 : (stepR z (c % 2)).testBit (31 - t) = ((decide (1 ≤ 31 - t) && z.testBit (31 - t - 1)) ^^ (decide ((s ^^^ c) % 2 = 1) && (517762881 : Nat).testBit (31 - t))) := by
    unfold stepR
    by_cases hb : (s ^^^ c) % 2 = 1
    · rw [if_pos (hbit.2 hb), Nat.testBit_xor, tb_dbl _ _ (by omega)]
      simp [hb]
    · rw [if_neg (fun h => hb (hbit.1 h)), tb_dbl _ _ (by omega)]
      simp [hb]
  rw [e, e2, poly_bits ⟨t, ht⟩]
  congr 1
  by_cases ht31 : t = 31
  · subst ht31
    rw [Nat.testBit_lt_two_pow (show s < 2 ^ (31 + 1) from hs)]
    simp
  · rw [h.bit (t + 1) (by omega)]
    have : 31 - (t + 1) = 31 - t - 1 := by omega
    rw [this]
    simp
    intro _
    omega
theorem turned_it {s z c : Nat} (hc : c < 256) (h : Turned s z) : ∀ n, Turned (itP n (s ^^^ c) ^^^ c / 2 ^ n) (itR c n z)
  | 0 => by
    simp only [itP, itR, Nat.pow_zero, Nat.div_one, Nat.xor_assoc, Nat.xor_self, Nat.xor_zero]
    exact h
  | n + 1 => by
    have ih := turned_it hc h n
    have st := turned_step (c := c / 2 ^ n) (Nat.lt_of_le_of_lt (Nat.div_le_self _ _) hc) ih
    rw [Nat.xor_assoc, Nat.xor_self, Nat.xor_zero, Nat.div_div_eq_div_mul, ← Nat.pow_succ] at st
    exact st
theorem turned_byte {s z c : Nat} (hc : c < 256) (h : Turned s z) : Turned (itP 8 (s ^^^ c)) (itR c 8 z) := by
  have := turned_it hc h 8
  rw [Nat.div_eq_of_lt (show c < 2 ^ 8 from hc), Nat.xor_zero] at this
  exact this
theorem turned_ones : Turned 4294967295 4294967295 := ⟨by omega, by omega, by
  have H : ∀ t : Fin 32, (4294967295 : Nat).testBit t.val = (4294967295 : Nat).testBit (31 - t.val) := by decide
  exact fun t ht => H ⟨t, ht⟩⟩
/-- What the reference's last loop gathers. -/
def revN (z : Nat) : Nat → Nat
  | 0 => 0
  | i + 1 => revN z i ||| (z / 2 ^ i % 2) * 2 ^ (31 - i)
theorem revN_bit (z : Nat) : ∀ i, i ≤ 32 → ∀ t, (revN z i).testBit t = (decide (t < 32) && decide (31 - t < i) && z.testBit (31 - t))
  | 0, _, t => by simp [revN]
  | i + 1, hi, t => by
    have hb : ((z / 2 ^ i % 2) * 2 ^ (31 - i)).testBit t = (decide (t = 31 - i) && z.testBit i) := by
      rw [Nat.testBit_eq_decide_div_mod_eq (x := z)]
      rcases Nat.mod_two_eq_zero_or_one (z / 2 ^ i) with h | h
      · simp [h]
      · rw [h, Nat.one_mul, Nat.testBit_two_pow]
        simp [eq_comm]
    simp only [revN]
    rw [Nat.testBit_or, revN_bit z i (by omega) t, hb]
    by_cases h1 : t < 32
    · by_cases h2 : t = 31 - i
      · subst h2
        have e : 31 - (31 - i) = i := by omega
        rw [e]
        have : 31 - i < 32 := by omega
        simp [this]
      · by_cases h3 : 31 - t < i
        · have h4 : 31 - t < i + 1 := by omega
          simp [h1, h2, h3, h4]
        · have h4 : ¬ 31 - t < i + 1 := by omega
          simp [h1, h2, h3, h4]
    · have h2 : ¬ t = 31 - i := by omega
      simp [h1, h2]
theorem revN_lt (z : Nat) (i : Nat) (hi : i ≤ 32) : revN z i < 4294967296 := by
  refine Nat.lt_pow_two_of_testBit (n := 32) _ fun t ht => ?_
  rw [revN_bit z i hi]
  have : ¬ t < 32 := by omega
  simp [this]
theorem revN_turned {s z : Nat} (h : Turned s z) : revN z 32 = s := by
  apply Nat.eq_of_testBit_eq
  intro t
  rw [revN_bit z 32 (Nat.le_refl _)]
  by_cases ht : t < 32
  · rw [h.bit t ht]
    have : 31 - t < 32 := by omega
    simp [ht, this]
  · rw [Nat.testBit_lt_two_pow (Nat.lt_of_lt_of_le h.s32 (Nat.pow_le_pow_right (n := 2) (by omega) (show 32 ≤ t by omega)))]
    simp [ht]
/-- The state behind the first bytes. -/
def crcX (l : List Nat) : Nat := l.foldl (fun x c => itP 8 (x ^^^ c)) 4294967295
def crcZ (l : List Nat) : Nat := l.foldl (fun z c => itR c 8 z) 4294967295
theorem crc_turned {l : List Nat} (h : ∀ c ∈ l, c < 256) : Turned (crcX l) (crcZ l) := by
  unfold crcX crcZ
  generalize h0 : (4294967295 : Nat) = o
  have ht : Turned o o := by rw [← h0]; exact turned_ones
  suffices H : ∀ (l : List Nat) (x z : Nat), (∀ c ∈ l, c < 256) → Turned x z → Turned (l.foldl (fun x c => itP 8 (x ^^^ c)) x) (l.foldl (fun z c => itR c 8 z) z) from H l o o h ht
  intro l
  induction l with
  | nil => intro x z _ h; exact h
  | cons c l ih =>
    intro x z hl h
    exact ih _ _ (fun a ha => hl a (by simp [ha])) (turned_byte (hl c (by simp)) h)
theorem crcX_snoc (l : List Nat) (c : Nat) : crcX (l ++ [c]) = itP 8 (crcX l ^^^ c) := by unfold crcX; rw [List.foldl_append]; rfl
theorem crcZ_snoc (l : List Nat) (c : Nat) : crcZ (l ++ [c]) = itR c 8 (crcZ l) := by unfold crcZ; rw [List.foldl_append]; rfl
end Go.Proofs.Ytioecklnijhjgaa
