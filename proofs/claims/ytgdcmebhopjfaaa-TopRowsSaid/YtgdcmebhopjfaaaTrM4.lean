/- The rank by columns; answers and inverses by reduced rows. Plain algebra over the field of 256 elements. -/
import Derived.Test.YtgdcmebhopjfaaaMatM
import Derived.WalkKit
import Derived.WalkSpells
import Derived.WalkLawsBesides
import Derived.Deep.QuietTactic
import Derived.BigQuiet
import Derived.Lib.Hide
import Derived.Handy
namespace Go.Proofs.Ytgdcmebhopjfaaa
open Classical

/-! ### Columns are taken off, one by one -/
/-- Column k is taken off all columns behind it, so that row a has nothing there. -/
def colOff (C : Mt) (a k : Nat) : Mt := fun i j => if k < j then C i j + C a j * (C a k)⁻¹ * C i k else C i j
/-- The columns from k on are the first matrix's, less some of those ahead of k; those ahead of k are made by the r that were not nought, each of which has a row where all later ones have nothing. -/
structure ColRed (R n : Nat) (M C : Mt) (k r : Nat) (q a : Nat → Nat) : Prop where
  at_ : ∀ t, t < r → a t < R
  from_ : ∀ j, k ≤ j → j < n → ∃ x : Nat → GF, ∀ i, i < R → C i j = M i j + sumG (fun t => M i t * x t) k
  made : ∀ j, j < k → ∃ b : Nat → GF, ∀ i, i < R → M i j = sumG (fun t => C i (q t) * b t) r
  qk : ∀ t, t < r → q t < k
  ne : ∀ t, t < r → C (a t) (q t) ≠ 0
  off : ∀ t, t < r → ∀ j, k ≤ j → j < n → C (a t) j = 0
  offq : ∀ s t, s < t → t < r → C (a s) (q t) = 0
theorem ColRed.start (R n : Nat) (M : Mt) (q a : Nat → Nat) : ColRed R n M M 0 0 q a :=
  ⟨fun _ h => by omega, fun j _ _ => ⟨fun _ => 0, fun i _ => (g_add_zero _).symm⟩, fun _ h => by omega, fun _ h => by omega, fun _ h => by omega, fun _ h => by omega, fun _ _ _ h => by omega⟩
/-- What is made of columns that the pivots' columns make is made by these. -/
theorem ColRed.comb {R n : Nat} {M C : Mt} {k r : Nat} {q a : Nat → Nat} (h : ColRed R n M C k r q a) (y : Nat → GF) :
    ∃ e : Nat → GF, ∀ i, i < R → sumG (fun t => M i t * y t) k = sumG (fun t => C i (q t) * e t) r := by
  have key : ∀ m, m ≤ k → ∃ e : Nat → GF, ∀ i, i < R → sumG (fun t => M i t * y t) m = sumG (fun t => C i (q t) * e t) r := by
    intro m
    induction m with
    | zero => intro _; exact ⟨fun _ => 0, fun i _ => (sumG_zero fun t _ => g_mul_zero _).symm⟩
    | succ m ih =>
      intro hm
      obtain ⟨e, he⟩ := ih (by omega)
      obtain ⟨b, hb⟩ := h.made m (by omega)
      refine ⟨fun t => e t + b t * y m, fun i hi => ?_⟩
      show sumG _ m + M i m * y m = _
      rw [he i hi, hb i hi, ← sumG_muls, ← sumG_add]
      exact sumG_congr fun t _ => by rw [g_mul_add, gfld.mul_assoc]
  exact key k (Nat.le_refl k)
theorem dep_col {R : Nat} {M : Mt} {k : Nat} {x : Nat → GF} (h : ∀ i, i < R → M i k + sumG (fun t => M i t * x t) k = 0) : Dep R M k := by
  refine ⟨fun j => if j = k then 1 else x j, if_pos rfl, fun i hi => ?_⟩
  show sumG (fun j => M i j * (if j = k then 1 else x j)) k + M i k * (if k = k then 1 else x k) = 0
  rw [if_pos rfl, g_mul_one, gfld.add_comm, ← h i hi]
  congr 1
  exact sumG_congr fun j hj => by rw [if_neg (by omega)]
theorem col_dep {R : Nat} {M : Mt} {k : Nat} (h : Dep R M k) : ∃ x : Nat → GF, ∀ i, i < R → M i k + sumG (fun t => M i t * x t) k = 0 := by
  obtain ⟨v, h1, h2⟩ := h
  refine ⟨v, fun i hi => ?_⟩
  have h3 : sumG (fun j => M i j * v j) k + M i k * v k = 0 := h2 i hi
  rw [h1, g_mul_one, gfld.add_comm] at h3
  exact h3
theorem ColRed.dep {R n : Nat} {M C : Mt} {k r : Nat} {q a : Nat → Nat} (h : ColRed R n M C k r q a) (hk : k < n) (h0 : ∀ i, i < R → C i k = 0) : Dep R M k := by
  obtain ⟨x, hx⟩ := h.from_ k (Nat.le_refl k) hk
  exact dep_col (x := x) fun i hi => by rw [← hx i hi, h0 i hi]
theorem ColRed.not_dep {R n : Nat} {M C : Mt} {k r : Nat} {q a : Nat → Nat} (h : ColRed R n M C k r q a) (hk : k < n) {i : Nat} (hi : i < R) (hne : C i k ≠ 0) : ¬ Dep R M k := by
  intro hd
  obtain ⟨v, hv⟩ := col_dep hd
  obtain ⟨x, hx⟩ := h.from_ k (Nat.le_refl k) hk
  obtain ⟨e, he⟩ := h.comb (fun t => x t + v t)
  have hC : ∀ i, i < R → C i k = sumG (fun t => C i (q t) * e t) r := by
    intro i hi
    rw [← he i hi, hx i hi, g_eq (hv i hi), ← sumG_add]
    exact sumG_congr fun t _ => by rw [g_mul_add]; exact gfld.add_comm _ _
  have hz : ∀ m s, s < m → s < r → e s = 0 := by
    intro m
    induction m with
    | zero => intro s hs; omega
    | succ m ih =>
      intro s hs hr
      have h1 := hC (a s) (h.at_ s hr)
      rw [h.off s hr k (Nat.le_refl k) hk, sumG_one (k := s) hr fun t ht hts => by
        rcases Nat.lt_or_ge t s with h2 | h2
        · rw [ih t (by omega) ht, g_mul_zero]
        · rw [h.offq s t (by omega) ht, g_zero_mul]] at h1
      rcases gfld.mul_eq_zero h1.symm with h2 | h2
      · exact absurd h2 (h.ne s hr)
      · exact h2
  exact hne ((hC i hi).trans (sumG_zero fun t ht => by rw [hz (t + 1) t (by omega) ht, g_mul_zero]))
theorem sumG_succ (f : Nat → GF) (n : Nat) : sumG f (n + 1) = sumG f n + f n := rfl
theorem ColRed.skip {R n : Nat} {M C : Mt} {k r : Nat} {q a : Nat → Nat} (h : ColRed R n M C k r q a) (hk : k < n) (h0 : ∀ i, i < R → C i k = 0) : ColRed R n M C (k + 1) r q a := by
  refine ⟨h.at_, fun j hj hn => ?_, fun j hj => ?_, fun t ht => by have := h.qk t ht; omega, h.ne, fun t ht j hj hn => h.off t ht j (by omega) hn, h.offq⟩
  · obtain ⟨x, hx⟩ := h.from_ j (by omega) hn
    refine ⟨fun t => if t = k then 0 else x t, fun i hi => ?_⟩
    rw [hx i hi, sumG_succ]
    dsimp only
    rw [if_pos rfl, g_mul_zero, g_add_zero]
    congr 1
    exact sumG_congr fun t ht => by rw [if_neg (by omega)]
  · by_cases he : j = k
    · subst he
      obtain ⟨x, hx⟩ := h.from_ j (Nat.le_refl j) hk
      obtain ⟨e, he⟩ := h.comb x
      refine ⟨e, fun i hi => ?_⟩
      rw [← he i hi]
      have h1 := hx i hi
      rw [h0 i hi] at h1
      exact g_eq h1.symm
    · exact h.made j (by omega)
theorem colOff_le (C : Mt) {a k i j : Nat} (h : j ≤ k) : colOff C a k i j = C i j := by unfold colOff; rw [if_neg (by omega)]
theorem colOff_gt (C : Mt) {a k i j : Nat} (h : k < j) : colOff C a k i j = C i j + C a j * (C a k)⁻¹ * C i k := by unfold colOff; rw [if_pos h]
theorem ColRed.step {R n : Nat} {M C : Mt} {k r : Nat} {q a : Nat → Nat} (h : ColRed R n M C k r q a) (hk : k < n) {b : Nat} (hb : b < R) (h0 : C b k ≠ 0) :
    ColRed R n M (colOff C b k) (k + 1) (r + 1) (fun t => if t = r then k else q t) (fun t => if t = r then b else a t) := by
  have hq : ∀ t, t < r → ∀ i, colOff C b k i (q t) = C i (q t) := fun t ht i => colOff_le C (by have := h.qk t ht; omega)
  have hqk : ∀ i, colOff C b k i k = C i k := fun i => colOff_le C (Nat.le_refl k)
  have hsum : ∀ (e : Nat → GF) (z : GF) (i : Nat), sumG (fun t => colOff C b k i (if t = r then k else q t) * (if t = r then z else e t)) (r + 1) = sumG (fun t => C i (q t) * e t) r + C i k * z := by
    intro e z i
    rw [sumG_succ, if_pos rfl, if_pos rfl, hqk]
    congr 1
    exact sumG_congr fun t ht => by rw [if_neg (by omega), if_neg (by omega), hq t ht]
  refine ⟨fun t ht => ?_, fun j hj hn => ?_, fun j hj => ?_, fun t ht => ?_, fun t ht => ?_, fun t ht j hj hn => ?_, fun s t hs ht => ?_⟩
  · by_cases he : t = r
    · simp only [if_pos he]; exact hb
    · simp only [if_neg he]; exact h.at_ t (by omega)
  · obtain ⟨x, hx⟩ := h.from_ j (by omega) hn
    obtain ⟨y, hy⟩ := h.from_ k (Nat.le_refl k) hk
    obtain ⟨c, hc⟩ : ∃ c, C b j * (C b k)⁻¹ = c := ⟨_, rfl⟩
    refine ⟨fun t => if t = k then c else x t + c * y t, fun i hi => ?_⟩
    rw [colOff_gt C (by omega), hc, hx i hi, hy i hi, sumG_succ]
    dsimp only
    rw [if_pos rfl, sumG_congr (f := fun t => M i t * (if t = k then c else x t + c * y t)) (g := fun t => M i t * x t + c * (M i t * y t)) (fun t ht => by rw [if_neg (by omega), g_mul_add]; ac_rfl), sumG_add, sumG_smul, g_mul_add]
    ac_rfl
  · by_cases he : j = k
    · subst he
      obtain ⟨x, hx⟩ := h.from_ j (Nat.le_refl j) hk
      obtain ⟨e, he⟩ := h.comb x
      refine ⟨fun t => if t = r then 1 else e t, fun i hi => ?_⟩
      rw [hsum, g_mul_one, ← he i hi, hx i hi]
      rw [gfld.add_comm (M i j), ← gfld.add_assoc, g_self, g_zero_add]
    · obtain ⟨e, he⟩ := h.made j (by omega)
      refine ⟨fun t => if t = r then 0 else e t, fun i hi => ?_⟩
      rw [hsum, g_mul_zero, g_add_zero, he i hi]
  · by_cases he : t = r
    · simp only [if_pos he]; omega
    · simp only [if_neg he]; have := h.qk t (by omega); omega
  · by_cases he : t = r
    · simp only [if_pos he]; rw [hqk]; exact h0
    · simp only [if_neg he]; rw [hq t (by omega)]; exact h.ne t (by omega)
  · rw [colOff_gt C (by omega)]
    by_cases he : t = r
    · simp only [if_pos he]
      rw [gfld.mul_assoc, gfld.mul_comm _ (C b k), gfld.mul_inv _ h0, g_mul_one, g_self]
    · simp only [if_neg he]
      rw [h.off t (by omega) j (by omega) hn, h.off t (by omega) k (Nat.le_refl k) hk, g_mul_zero, g_add_zero]
  · have hs' : s ≠ r := by omega
    simp only [if_neg hs']
    by_cases he : t = r
    · simp only [if_pos he]
      rw [hqk]
      exact h.off s (by omega) k (Nat.le_refl k) hk
    · simp only [if_neg he]
      rw [hq t (by omega)]
      exact h.offq s t hs (by omega)
theorem rkG_dep {R : Nat} {M : Mt} {k : Nat} (h : Dep R M k) : rkG R M (k + 1) = rkG R M k := by show _ + _ = _; rw [if_pos h]; omega
theorem rkG_not {R : Nat} {M : Mt} {k : Nat} (h : ¬ Dep R M k) : rkG R M (k + 1) = rkG R M k + 1 := by show _ + _ = _; rw [if_neg h]
/-! ### Answers -/
/-- The answer that reduced rows tell: at the pivots' columns the last column's numbers. -/
def ansG (M : Mt) (r : Nat) (p : Nat → Nat) (n : Nat) : Nat → GF := fun j => sumG (fun t => if p t = j then M t n else 0) r
theorem ans_ok {R n : Nat} {W M : Mt} {r : Nat} {p : Nat → Nat} (h : Red R M r p n) (hs : SN R (n + 1) W M) (h0 : ∀ i, r ≤ i → i < R → M i n = 0) {i : Nat} (hi : i < R) :
    sumG (fun j => W i j * ansG M r p n j) n = W i n := by
  have h1 := (hs (n + 1) (Nat.le_refl _) (tellV M r p n)).2 (h.dep h0).2 i hi
  have h2 : sumG (fun j => W i j * tellV M r p n j) n + W i n * tellV M r p n n = 0 := h1
  rw [show tellV M r p n n = 1 by unfold tellV; rw [if_pos rfl], g_mul_one] at h2
  rw [← g_eq h2]
  exact sumG_congr fun j hj => by unfold tellV ansG; rw [if_neg (by omega)]
theorem rkG_wide {R n : Nat} {W A : Mt} (h : ∀ i, i < R → ∀ j, j < n → W i j = A i j) : rkG R W n = rkG R A n := rkG_congr (SN.of_eq h)
/-- With the unit rows beside it, a table that is reduced to the unit rows tells its inverse. -/
theorem inv_ok {n : Nat} {A W M : Mt} (hw1 : ∀ i, i < n → ∀ j, j < n → W i j = A i j) (hw2 : ∀ i, i < n → ∀ j, j < n → W i (n + j) = if i = j then 1 else 0) (hs : SN n (n + n) W M)
    (hu : ∀ i, i < n → ∀ c, c < n → M i c = if i = c then 1 else 0) {i c : Nat} (hi : i < n) (hc : c < n) : sumG (fun j => M i (n + j) * A j c) n = if i = c then 1 else 0 := by
  have hsum : ∀ (f : Nat → GF) (m : Nat), sumG f (n + m) = sumG f n + sumG (fun j => f (n + j)) m := by
    intro f m
    induction m with
    | zero => exact (g_add_zero _).symm
    | succ m ih => show sumG f (n + m) + f (n + m) = _ + (_ + _); rw [ih, gfld.add_assoc]
  let v : Nat → GF := fun j => if j < n then (if j = c then 1 else 0) else A (j - n) c
  have hd : ∀ (X : Mt) (i : Nat), dotG (X i) v (n + n) = X i c + sumG (fun j => X i (n + j) * A j c) n := by
    intro X i
    unfold dotG
    rw [hsum]
    congr 1
    · rw [sumG_one hc fun j hj hne => by show X i j * (if j < n then (if j = c then (1 : GF) else 0) else A (j - n) c) = 0; rw [if_pos hj, if_neg hne, g_mul_zero]]
      show X i c * (if c < n then (if c = c then (1 : GF) else 0) else A (c - n) c) = _
      rw [if_pos hc, if_pos rfl, g_mul_one]
    · refine sumG_congr fun j hj => ?_
      show X i (n + j) * (if n + j < n then (if n + j = c then (1 : GF) else 0) else A (n + j - n) c) = _
      rw [if_neg (by omega), Nat.add_sub_cancel_left]
  have h0 : Nul n W (n + n) v := by
    intro i hi
    rw [hd, hw1 i hi c hc, sumG_one hi fun j hj hne => by rw [hw2 i hi j hj, if_neg fun e => hne e.symm, g_zero_mul], hw2 i hi i hi, if_pos rfl, g_one_mul, g_self]
  have h1 := (hs _ (Nat.le_refl _) v).1 h0 i hi
  rw [hd, hu i hi c hc] at h1
  exact (g_eq h1).symm
end Go.Proofs.Ytgdcmebhopjfaaa
namespace Go.Proofs.Ytgdcmebhopjfaaa
open Go.RowKit

theorem ret_int {k : IntKind} {a b : Int} (h : a = b) : Ending.returned (.int k a) = .returned (.int k b) := by rw [h]
theorem ret_bool {a b : Bool} (h : a = b) : Ending.returned (.bool a) = .returned (.bool b) := by rw [h]
theorem quiet_at {P : Program} {f : FuncId} {args : Array Value} {w : World} {a n : Nat} {v : Value}
    (h : ∀ W : World, Calls P f args W fun e w' => e = .returned v ∧ ∃ m, w' = W.drewN m) :
    Calls P f args (w.drewN (a + n)) fun e w'' => e = .returned v ∧ ∃ m, w'' = w.drewN (a + m) :=
  (h _).mono fun _ _ ⟨he, m, hm⟩ => ⟨he, n + m, by rw [hm, World.drewN_drewN, Nat.add_assoc]⟩
theorem quiet_on {P : Program} {f : FuncId} {args : Array Value} {w : World} {n : Nat} {v : Value}
    (h : ∀ W : World, Calls P f args W fun e w' => e = .returned v ∧ ∃ m, w' = W.drewN m) :
    Calls P f args (w.drewN n) fun e w'' => e = .returned v ∧ ∃ m, w'' = w.drewN m :=
  (h _).mono fun _ _ ⟨he, m, hm⟩ => ⟨he, n + m, by rw [hm, World.drewN_drewN]⟩
theorem dr2 (w : World) (n m : Nat) : ∃ k, (w.drewN n).drewN m = w.drewN k := ⟨_, World.drewN_drewN ..⟩
theorem dr0 (w : World) : ∃ k, w = w.drewN k := ⟨0, rfl⟩
theorem results_tmp4 {fn : Func} {t u v x : Tmp} (h : fn.results = #[.tmp t, .tmp u, .tmp v, .tmp x]) (tmps : Array Value) (P : Program) (w : World) :
    (results fn tmps).run P w = .ok (.tuple #[tmps.getD t undef, tmps.getD u undef, tmps.getD v undef, tmps.getD x undef]) w := by simp [results, h]

theorem below_drewN {B : Nat} {a w : World} (h : Below B a w) (n : Nat) : Below B a (w.drewN n) := ⟨h.os, h.tape, h.output, h.size, h.block⟩
theorem below_dr (B : Nat) (w : World) (n : Nat) : Below B w (w.drewN n) := below_drewN (Below.refl B w) n

/-! ### Bits of an int from 0 on -/
theorem ofInt_i64 (a : Nat) (ha : a < 9223372036854775808) : (BitVec.ofInt 64 (a : Int)).toNat = a := by
  rw [BitVec.ofInt_natCast, BitVec.toNat_ofNat]; exact Nat.mod_eq_of_lt (by omega)
theorem i64_and_nat (a b : Nat) (ha : a < 9223372036854775808) (hb : b < 9223372036854775808) : bits .and .i64 (a : Int) (b : Int) = ((a &&& b : Nat) : Int) := by
  have hx : a &&& b < 2 ^ 63 := Nat.and_lt_two_pow _ (by omega)
  show IntKind.i64.wrap ((BitVec.ofInt 64 (a : Int) &&& BitVec.ofInt 64 (b : Int)).toNat : Int) = _
  rw [BitVec.toNat_and, ofInt_i64 a ha, ofInt_i64 b hb]
  exact IntWalk.i64_in _ (by omega)
theorem i64_or_nat (a b : Nat) (ha : a < 9223372036854775808) (hb : b < 9223372036854775808) : bits .or .i64 (a : Int) (b : Int) = ((a ||| b : Nat) : Int) := by
  have hx : a ||| b < 2 ^ 63 := Nat.or_lt_two_pow (by omega) (by omega)
  show IntKind.i64.wrap ((BitVec.ofInt 64 (a : Int) ||| BitVec.ofInt 64 (b : Int)).toNat : Int) = _
  rw [BitVec.toNat_or, ofInt_i64 a ha, ofInt_i64 b hb]
  exact IntWalk.i64_in _ (by omega)
theorem i64_xor_nat (a b : Nat) (ha : a < 9223372036854775808) (hb : b < 9223372036854775808) : bits .xor .i64 (a : Int) (b : Int) = ((a ^^^ b : Nat) : Int) := by
  have hx : a ^^^ b < 2 ^ 63 := Nat.xor_lt_two_pow (by omega) (by omega)
  show IntKind.i64.wrap ((BitVec.ofInt 64 (a : Int) ^^^ BitVec.ofInt 64 (b : Int)).toNat : Int) = _
  rw [BitVec.toNat_xor, ofInt_i64 a ha, ofInt_i64 b hb]
  exact IntWalk.i64_in _ (by omega)
theorem i64_and_one (a : Nat) (ha : a < 9223372036854775808) : bits .and .i64 (a : Int) 1 = ((a % 2 : Nat) : Int) := by
  have := i64_and_nat a 1 ha (by omega)
  rw [Nat.and_one_is_mod] at this
  exact this
end Go.Proofs.Ytgdcmebhopjfaaa
