/- TopRows in plain Lean: powers, rank, what is mended. -/
import Derived.Test.YtgdcmebhopjfaaaTrM4
import Derived.Test.YtgdcmebhopjfaaaTrM14
import Derived.Test.YtgdcmebhopjfaaaTrM15
namespace Go.Proofs.Ytgdcmebhopjfaaa

/-- The table of powers. -/
def vanG : Mt := fun i j => pwF (gf i) j
theorem gpow_pw {x : Nat} (hx : x < 256) : ∀ j, (pwF (gf x) j).val = gpow x j
  | 0 => rfl
  | j + 1 => by
    show (gf x * pwF (gf x) j).val = gmul (gpow x j) x
    rw [gfld.mul_comm, GF.mul_val, gpow_pw hx j, gf_val hx]
theorem pw_poly (k : Nat) : PolyF (k + 1) (fun x : GF => pwF x k) := by
  induction k with
  | zero => exact PolyF.const gfld 1
  | succ k ih => exact PolyF.mulx gfld ih
theorem sum_poly (c : Nat → GF) : ∀ k, PolyF k (fun x => sumG (fun t => pwF x t * c t) k)
  | 0 => PolyF.zero gfld 0
  | k + 1 => PolyF.add gfld (PolyF.succ gfld (sum_poly c k)) ((PolyF.smul gfld (c k) (pw_poly k)).ext fun x => gfld.mul_comm _ _)
theorem sumG_shift (f : Nat → GF) : ∀ k, sumG f (k + 1) = f 0 + sumG (fun t => f (t + 1)) k
  | 0 => by show 0 + f 0 = f 0 + 0; rw [gfld.add_comm]
  | k + 1 => by
    show sumG f (k + 1) + f (k + 1) = f 0 + (sumG (fun t => f (t + 1)) k + f (k + 1))
    rw [sumG_shift f k, gfld.add_assoc]
theorem poly_sum : ∀ {k : Nat} {f : GF → GF}, PolyF k f → ∃ c : Nat → GF, ∀ x, f x = sumG (fun t => pwF x t * c t) k
  | 0, f, h => by
    obtain ⟨l, hl, e⟩ := h
    cases l with
    | nil => exact ⟨fun _ => 0, fun x => e x⟩
    | cons a l => cases hl
  | k + 1, f, h => by
    obtain ⟨a, g, hg, e⟩ := PolyF.uncons h
    obtain ⟨c, hc⟩ := poly_sum hg
    refine ⟨fun t => if t = 0 then a else c (t - 1), fun x => ?_⟩
    rw [e x, hc x, sumG_shift]
    congr 1
    · show a = 1 * (if 0 = 0 then a else c (0 - 1))
      rw [if_pos rfl, g_one_mul]
    · rw [← sumG_smul]
      refine sumG_congr fun t _ => ?_
      show x * (pwF x t * c t) = x * pwF x t * (if t + 1 = 0 then a else c (t + 1 - 1))
      rw [if_neg (by omega), Nat.add_sub_cancel, gfld.mul_assoc]
theorem row_dep {n K : Nat} {f : GF → GF} (hf : PolyF K f) {W : Mt} (hW : ∀ i, i < n → ∀ j, j < K → W i j = vanG i j) (hK : ∀ i, i < n → W i K = f (gf i)) : Dep n W K := by
  obtain ⟨c, hc⟩ := poly_sum hf
  refine dep_col (x := c) fun i hi => ?_
  rw [hK i hi, hc, ← sumG_add_self (fun t => pwF (gf i) t * c t) K]
  congr 1
  exact sumG_congr fun j hj => by rw [hW i hi j hj]; rfl
where
  sumG_add_self (g : Nat → GF) (k : Nat) : sumG g k + sumG g k = 0 := g_self _
theorem van_indep {n k : Nat} (hk : k < n) (hn : n ≤ 256) : ¬ Dep n vanG k := by
  intro h
  obtain ⟨x, hx⟩ := col_dep h
  have hl : Lead k 1 (fun z : GF => pwF z k + sumG (fun t => pwF z t * x t) k) := ⟨_, sum_poly x k, fun z => by rw [g_one_mul]⟩
  have hnd : ((List.range k).map gf).Nodup := by
    rw [List.nodup_iff_pairwise_ne, List.pairwise_map]
    refine List.Pairwise.imp_of_mem ?_ (List.pairwise_lt_range (n := k))
    intro a b ha hb hab e
    have := gf_inj (by have := List.mem_range.1 ha; omega) (by have := List.mem_range.1 hb; omega) e
    omega
  have h1 := hl.roots gfld (rs := (List.range k).map gf) (by simp) hnd (fun r hr => by
    obtain ⟨i, hi, rfl⟩ := List.mem_map.1 hr
    exact hx i (by have := List.mem_range.1 hi; omega)) (gf k)
  have h2 : pwF (gf k) k + sumG (fun t => pwF (gf k) t * x t) k = 0 := hx k hk
  rw [h2, g_one_mul] at h1
  refine prodR_ne gfld (l := (List.range k).map gf) (x := gf k) ?_ h1.symm
  intro hm
  obtain ⟨i, hi, e⟩ := List.mem_map.1 hm
  have := gf_inj (by have := List.mem_range.1 hi; omega) (by omega) e
  have := List.mem_range.1 hi
  omega
theorem van_rank {n : Nat} (hn : n ≤ 256) : ∀ {k : Nat}, k ≤ n → rkG n vanG k = k
  | 0, _ => rfl
  | k + 1, h => by rw [rkG_not (van_indep (by omega) hn), van_rank hn (by omega)]
/-! What is mended. -/
theorem rowP_of {B : Nat → GF} {l : List Nat} {k : Nat} {f : GF → GF} (hf : PolyF k f) (hk : k ≤ l.length) (hn : l.Nodup) (hl : ∀ a ∈ l, a < 256) (h : ∀ a ∈ l, f (gf a) = B a) (x : GF) : rowP B l k x = f x :=
  lag_uniq gfld hf _ _ (fun i j hi hj hij => atP_ne hn hl i j (by omega) (by omega) hij) (fun j hj => h _ (getD_mem (by omega))) x
theorem pl_but (n a : Nat) : n ≤ (pl (fun i => decide (i ≠ a)) n).length + 1 := by
  have : ∀ m, m ≤ (pl (fun i => decide (i ≠ a)) m).length + (if a < m then 1 else 0) := by
    intro m
    induction m with
    | zero => simp
    | succ m ih =>
      rw [pl_succ]
      by_cases h : m = a
      · subst h
        rw [if_neg (by simp), if_pos (by omega)]
        rw [if_neg (by omega)] at ih
        omega
      · rw [if_pos (by simpa using h), List.length_append, List.length_singleton]
        by_cases h2 : a < m
        · rw [if_pos h2] at ih; rw [if_pos (by omega)]; omega
        · rw [if_neg h2] at ih; omega
  have := this n
  split at this <;> omega
theorem diffs_congr {f g B : Nat → GF} : ∀ {n : Nat}, (∀ i, i < n → f i = g i) → diffs f B n = diffs g B n
  | 0, _ => rfl
  | n + 1, h => by
    show diffs f B n + _ = diffs g B n + _
    rw [diffs_congr fun i hi => h i (by omega), h n (by omega)]
/-- One place that may be wrong. -/
theorem diffs_one {f B : Nat → GF} {a : Nat} (h : ∀ i, i ≠ a → f i = B i) : ∀ n, diffs f B n = if a < n ∧ (f a).val ≠ (B a).val then 1 else 0
  | 0 => by rw [if_neg (by omega)]; rfl
  | n + 1 => by
    show diffs f B n + (if (f n).val = (B n).val then 0 else 1) = _
    rw [diffs_one h n]
    by_cases hn : n = a
    · subst hn
      rw [if_neg (by omega)]
      by_cases he : (f n).val = (B n).val
      · rw [if_pos he, if_neg (fun h2 => h2.2 he)]
      · rw [if_neg he, if_pos ⟨by omega, he⟩]
    · rw [if_pos (show (f n).val = (B n).val by rw [h n hn])]
      by_cases h2 : a < n ∧ (f a).val ≠ (B a).val
      · rw [if_pos h2, if_pos ⟨by omega, h2.2⟩]
      · rw [if_neg h2, if_neg (fun h3 => h2 ⟨by omega, h3.2⟩)]
theorem agree_len (g B : Nat → GF) (a : Nat) : ∀ n, n ≤ (pl (fun i => decide ((g i).val = (B i).val ∧ i ≠ a)) n).length + diffs g B n + (if a < n then 1 else 0)
  | 0 => by simp
  | n + 1 => by
    have ih := agree_len g B a n
    rw [pl_succ]
    show n + 1 ≤ _ + (diffs g B n + (if (g n).val = (B n).val then 0 else 1)) + _
    by_cases h : n = a
    · subst h
      rw [if_neg (by rw [decide_eq_true_iff]; exact fun e => e.2 rfl), if_pos (show n < n + 1 by omega)]
      rw [if_neg (show ¬ n < n by omega)] at ih
      omega
    · by_cases h2 : (g n).val = (B n).val
      · rw [if_pos (by rw [decide_eq_true_iff]; exact ⟨h2, h⟩), List.length_append, List.length_singleton]
        by_cases h3 : a < n
        · rw [if_pos h3] at ih; rw [if_pos (show a < n + 1 by omega)]; omega
        · rw [if_neg h3] at ih; omega
      · rw [if_neg (by rw [decide_eq_true_iff]; exact fun e => h2 e.1), if_neg h2]
        by_cases h3 : a < n
        · rw [if_pos h3] at ih; rw [if_pos (show a < n + 1 by omega)]; omega
        · rw [if_neg h3] at ih; omega
/-- K places that are not a. -/
def setT (K a : Nat) : Nat := if a < K then 2 ^ (K + 1) - 1 - 2 ^ a else 2 ^ K - 1
theorem setT_all : ∀ K : Fin 9, ∀ a : Fin 12, ones16 (setT K.val a.val) = K.val ∧ inS (setT K.val a.val) a.val = false ∧ setT K.val a.val < 2 ^ (K.val + 1) := by decide +kernel
theorem welch_found {f : GF → GF} {B : Nat → GF} {n K a : Nat} (hf : PolyF K f) (hB : ∀ i, i ≠ a → f (gf i) = B i) (hK : K ≤ 8) (hKn : K + 2 ≤ n) (hn : n ≤ 12) (ha : a < 12) : ¬ NotFound B n K := by
  intro h
  obtain ⟨h1, h2, h3⟩ := setT_all ⟨K, by omega⟩ ⟨a, ha⟩
  simp only at h1 h2 h3
  have hlt : setT K a < 2 ^ n := Nat.lt_of_lt_of_le h3 (Nat.pow_le_pow_right (by omega) (by omega))
  refine h (setT K a) hlt ⟨h1, ?_⟩
  have hl := pl_ones16 (s := setT K a) (by omega) hlt
  rw [h1] at hl
  have e : ∀ i, i < n → setRow B n K (setT K a) i = f (gf i) := fun i _ => rowP_of hf (by omega) (pl_nodup _ _) (fun b hb => by have := (mem_pl.1 hb).1; omega) (fun b hb => hB b (fun e => by
    subst e
    have := (mem_pl.1 hb).2
    rw [h2] at this
    cases this)) (gf i)
  have h4 : setDiff B n K (setT K a) ≤ 1 := by
    show diffs _ B n ≤ 1
    rw [diffs_congr e, diffs_one (f := fun i => f (gf i)) (a := a) hB]
    split <;> omega
  omega
theorem welch_row {f : GF → GF} {B : Nat → GF} {n K a s : Nat} (hf : PolyF K f) (hB : ∀ i, i ≠ a → f (gf i) = B i) (hKn : K + 2 ≤ n) (hn : n ≤ 12) (h : Found B n K s) :
    (∀ i, i < n → setRow B n K s i = f (gf i)) ∧ setDiff B n K s = if a < n ∧ (f (gf a)).val ≠ (B a).val then 1 else 0 := by
  obtain ⟨hs, ⟨h1, h2⟩, _⟩ := h
  have hg : PolyF K (rowP B (pl (inS s) n) K) := lag_poly gfld _ _ _
  have hal := agree_len (setRow B n K s) B a n
  have h3 : K ≤ (pl (fun i => decide ((setRow B n K s i).val = (B i).val ∧ i ≠ a)) n).length := by
    have h4 : diffs (setRow B n K s) B n = setDiff B n K s := rfl
    rw [h4] at hal
    split at hal <;> omega
  have e : ∀ x, rowP B (pl (inS s) n) K x = f x := by
    intro x
    refine PolyF.agree gfld hg hf (rs := (pl (fun i => decide ((setRow B n K s i).val = (B i).val ∧ i ≠ a)) n).map gf) (by rw [List.length_map]; exact h3) ?_ ?_ x
    · rw [List.nodup_iff_pairwise_ne, List.pairwise_map]
      refine List.Pairwise.imp_of_mem ?_ (List.nodup_iff_pairwise_ne.1 (pl_nodup _ n))
      intro b c hb hc hbc e
      exact hbc (gf_inj (by have := (mem_pl.1 hb).1; omega) (by have := (mem_pl.1 hc).1; omega) e)
    · intro r hr
      obtain ⟨b, hb, rfl⟩ := List.mem_map.1 hr
      have := of_decide_eq_true (mem_pl.1 hb).2
      rw [hB b this.2]
      exact GF.ext this.1
  have e2 : ∀ i, i < n → setRow B n K s i = f (gf i) := fun i _ => e (gf i)
  refine ⟨e2, ?_⟩
  show diffs _ B n = _
  rw [diffs_congr e2, diffs_one (f := fun i => f (gf i)) (a := a) hB]
end Go.Proofs.Ytgdcmebhopjfaaa
namespace Go.Proofs.Ytgdcmebhopjfaaa

/-- A power modulo m. -/
def pwm (a : Int) (n : Nat) (m : Int) : Int := a ^ n % m
theorem pow_emod (a m : Int) (n : Nat) : (a % m) ^ n % m = a ^ n % m := by
  induction n with
  | zero => simp
  | succ n ih => rw [Int.pow_succ, Int.pow_succ, Int.mul_emod, ih, Int.emod_emod, ← Int.mul_emod]
theorem pwm_mod (a m : Int) (n : Nat) : pwm (a % m) n m = pwm a n m := pow_emod a m n
theorem mul_pow_emod (x y m : Int) (j : Nat) : (x % m * (y % m) ^ j) % m = (x * y ^ j) % m := by
  rw [Int.mul_emod, Int.emod_emod, pow_emod, ← Int.mul_emod]
theorem pwm_nonneg (a : Int) (n : Nat) {m : Int} (hm : 1 ≤ m) : 0 ≤ pwm a n m ∧ pwm a n m < m :=
  ⟨Int.emod_nonneg _ (by omega), Int.emod_lt_of_pos _ (by omega)⟩
theorem sq_pow (a : Int) (j : Nat) : (a * a) ^ j = a ^ (2 * j) := by
  induction j with
  | zero => simp
  | succ j ih => rw [Int.pow_succ, ih, show 2 * (j + 1) = 2 * j + 1 + 1 by omega, Int.pow_succ, Int.pow_succ, Int.mul_assoc]
theorem pow_odd (out A : Int) (m : Int) (k : Nat) (h : k % 2 = 1) : (out * A % m * (A * A % m) ^ (k / 2)) % m = (out * A ^ k) % m := by
  rw [mul_pow_emod, sq_pow, Int.mul_assoc, Int.mul_comm A, ← Int.pow_succ]
  congr 3; omega
theorem pow_even (out A : Int) (m : Int) (k : Nat) (h : k % 2 = 0) : (out * (A * A % m) ^ (k / 2)) % m = (out * A ^ k) % m := by
  have : (out * (A * A % m) ^ (k / 2)) % m = (out % m * (A * A % m) ^ (k / 2)) % m := by
    generalize (A * A % m) ^ (k / 2) = X
    exact (Int.mul_emod out X m).trans (by rw [Int.mul_emod (out % m) X m, Int.emod_emod])
  rw [this, mul_pow_emod, sq_pow]
  congr 3; omega
theorem pwm_half (a : Int) (n : Nat) (m : Int) : pwm a (n / 2) m * pwm a (n / 2) m % m = pwm a (2 * (n / 2)) m := by
  unfold pwm
  rw [← Int.mul_emod, show 2 * (n / 2) = n / 2 + n / 2 by omega, Int.pow_add]
theorem pwm_succ (a : Int) (n : Nat) (m : Int) : pwm a n m * (a % m) % m = pwm a (n + 1) m := by
  unfold pwm
  rw [← Int.mul_emod, Int.pow_succ]
theorem prod_bd {x y M : Int} (hx : 0 ≤ x) (hx' : x ≤ M) (hy : 0 ≤ y) (hy' : y ≤ M) : 0 ≤ x * y ∧ x * y ≤ M * M :=
  ⟨Int.mul_nonneg hx hy, Int.mul_le_mul hx' hy' hy (by omega)⟩
end Go.Proofs.Ytgdcmebhopjfaaa
