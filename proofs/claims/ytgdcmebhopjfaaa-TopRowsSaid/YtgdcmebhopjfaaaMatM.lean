/- Matrices over the field of 256 elements: sums, null spaces, reduction, rank. Plain algebra. -/
import Derived.Test.YtgdcmebhopjfaaaInterp
namespace Go.Proofs.Ytgdcmebhopjfaaa
open Classical

instance : Std.Associative (α := GF) (· + ·) := ⟨gfld.add_assoc⟩
instance : Std.Commutative (α := GF) (· + ·) := ⟨gfld.add_comm⟩
instance : Std.Associative (α := GF) (· * ·) := ⟨gfld.mul_assoc⟩
instance : Std.Commutative (α := GF) (· * ·) := ⟨gfld.mul_comm⟩
theorem g_self (a : GF) : a + a = 0 := gfld.add_neg a
theorem g_add_zero (a : GF) : a + 0 = a := gfld.add_zero a
theorem g_zero_add (a : GF) : 0 + a = a := gfld.zero_add a
theorem g_mul_zero (a : GF) : a * 0 = 0 := gfld.mul_zero a
theorem g_zero_mul (a : GF) : 0 * a = 0 := gfld.zero_mul a
theorem g_mul_one (a : GF) : a * 1 = a := gfld.mul_one a
theorem g_one_mul (a : GF) : 1 * a = a := gfld.one_mul a
theorem g_one_ne : (1 : GF) ≠ 0 := gfld.one_ne
theorem g_add_mul (a b c : GF) : (a + b) * c = a * c + b * c := gfld.add_mul a b c
theorem g_mul_add (a b c : GF) : a * (b + c) = a * b + a * c := gfld.mul_add a b c
theorem g_eq {a b : GF} (h : a + b = 0) : a = b := gfld.sub_eq_zero h
theorem g_cancel {a b : GF} : a + (a + b) = b := by rw [← gfld.add_assoc, g_self, g_zero_add]

/-- The first n values of f, together. -/
def sumG (f : Nat → GF) : Nat → GF
  | 0 => 0
  | n + 1 => sumG f n + f n
theorem sumG_congr {f g : Nat → GF} : ∀ {n : Nat}, (∀ j, j < n → f j = g j) → sumG f n = sumG g n
  | 0, _ => rfl
  | n + 1, h => by show sumG f n + f n = sumG g n + g n; rw [sumG_congr fun j hj => h j (by omega), h n (by omega)]
theorem sumG_zero {f : Nat → GF} {n : Nat} (h : ∀ j, j < n → f j = 0) : sumG f n = 0 := by
  induction n with
  | zero => rfl
  | succ n ih => show sumG f n + f n = 0; rw [ih fun j hj => h j (by omega), h n (by omega), g_add_zero]
theorem sumG_add (f g : Nat → GF) : ∀ n, sumG (fun j => f j + g j) n = sumG f n + sumG g n
  | 0 => (g_add_zero 0).symm
  | n + 1 => by show sumG _ n + (f n + g n) = (sumG f n + f n) + (sumG g n + g n); rw [sumG_add f g n]; ac_rfl
theorem sumG_smul (c : GF) (f : Nat → GF) : ∀ n, sumG (fun j => c * f j) n = c * sumG f n
  | 0 => (g_mul_zero c).symm
  | n + 1 => by show sumG _ n + c * f n = c * (sumG f n + f n); rw [sumG_smul c f n, g_mul_add]
theorem sumG_muls (c : GF) (f : Nat → GF) (n : Nat) : sumG (fun j => f j * c) n = sumG f n * c := by
  rw [gfld.mul_comm (sumG f n), ← sumG_smul]; exact sumG_congr fun j _ => gfld.mul_comm _ _
theorem sumG_swap (f : Nat → Nat → GF) (m : Nat) : ∀ n, sumG (fun i => sumG (fun j => f i j) m) n = sumG (fun j => sumG (fun i => f i j) n) m
  | 0 => (sumG_zero fun _ _ => rfl).symm
  | n + 1 => by
    show sumG _ n + sumG (fun j => f n j) m = _
    rw [sumG_swap f m n, ← sumG_add]
    rfl
theorem sumG_one {f : Nat → GF} {n k : Nat} (hk : k < n) (h : ∀ j, j < n → j ≠ k → f j = 0) : sumG f n = f k := by
  induction n with
  | zero => omega
  | succ n ih =>
    show sumG f n + f n = f k
    by_cases he : k = n
    · subst he
      rw [sumG_zero fun j hj => h j (by omega) (by omega), g_zero_add]
    · rw [ih (by omega) fun j hj hne => h j (by omega) hne, h n (by omega) (by omega), g_add_zero]
/-- Row r times v, n places. -/
def dotG (r v : Nat → GF) (n : Nat) : GF := sumG (fun j => r j * v j) n
theorem dotG_congr {r r' v v' : Nat → GF} {n : Nat} (h : ∀ j, j < n → r j = r' j) (h2 : ∀ j, j < n → v j = v' j) : dotG r v n = dotG r' v' n :=
  sumG_congr fun j hj => by rw [h j hj, h2 j hj]
theorem dotG_add (r s v : Nat → GF) (n : Nat) : dotG (fun j => r j + s j) v n = dotG r v n + dotG s v n := by
  unfold dotG; rw [← sumG_add]; exact sumG_congr fun j _ => g_add_mul _ _ _
theorem dotG_mul (r v : Nat → GF) (c : GF) (n : Nat) : dotG (fun j => r j * c) v n = dotG r v n * c := by
  unfold dotG; rw [← sumG_muls]; exact sumG_congr fun j _ => by show r j * c * v j = r j * v j * c; ac_rfl

abbrev Mt := Nat → Nat → GF
/-- v is nought by each of R rows. -/
def Nul (R : Nat) (M : Mt) (n : Nat) (v : Nat → GF) : Prop := ∀ i, i < R → dotG (M i) v n = 0
/-- The same vectors are nought by both. -/
def SN (R n : Nat) (M M' : Mt) : Prop := ∀ m, m ≤ n → ∀ v, Nul R M m v ↔ Nul R M' m v
theorem SN.refl (R n : Nat) (M : Mt) : SN R n M M := fun _ _ _ => Iff.rfl
theorem SN.trans {R n : Nat} {A B C : Mt} (h : SN R n A B) (h2 : SN R n B C) : SN R n A C := fun m hm v => (h m hm v).trans (h2 m hm v)
theorem SN.of_eq {R n : Nat} {A B : Mt} (h : ∀ i, i < R → ∀ j, j < n → A i j = B i j) : SN R n A B := fun m hm v =>
  ⟨fun h1 i hi => (dotG_congr (fun j hj => (h i hi j (by omega)).symm) fun _ _ => rfl).trans (h1 i hi), fun h1 i hi => (dotG_congr (fun j hj => h i hi j (by omega)) fun _ _ => rfl).trans (h1 i hi)⟩

/-- Rows a and b change places. -/
def swapR (M : Mt) (a b : Nat) : Mt := fun i => if i = a then M b else if i = b then M a else M i
/-- Row a, times c. -/
def mulR (M : Mt) (a : Nat) (c : GF) : Mt := fun i j => if i = a then M i j * c else M i j
/-- Row a is taken off row k, as often as row k has it in column c. -/
def offR (M : Mt) (a c k : Nat) : Mt := fun i j => if i = k ∧ k ≠ a then M i j + M a j * M i c else M i j
/-- Row a is taken off the first k rows. -/
def offs (M : Mt) (a c k : Nat) : Mt := fun i j => if i < k ∧ i ≠ a then M i j + M a j * M i c else M i j
theorem offs_zero (M : Mt) (a c : Nat) : offs M a c 0 = M := by
  funext i j; unfold offs; rw [if_neg (by omega)]
theorem offs_succ (M : Mt) (a c k : Nat) : offs M a c (k + 1) = offR (offs M a c k) a c k := by
  funext i j
  unfold offs offR
  dsimp only
  by_cases h1 : i = k ∧ k ≠ a
  · obtain ⟨rfl, h2⟩ := h1
    rw [if_pos ⟨by omega, h2⟩, if_pos ⟨rfl, h2⟩, if_neg (by omega), if_neg (by omega), if_neg (by omega)]
  · rw [if_neg h1]
    by_cases h3 : i < k ∧ i ≠ a
    · rw [if_pos ⟨by omega, h3.2⟩, if_pos h3]
    · rw [if_neg (by omega), if_neg h3]
theorem swapR_SN {R n a b : Nat} (M : Mt) (ha : a < R) (hb : b < R) : SN R n M (swapR M a b) := by
  intro m _ v
  constructor
  · intro h i hi
    unfold swapR
    split
    · exact h b hb
    · split
      · exact h a ha
      · exact h i hi
  · intro h i hi
    have e : ∀ i, swapR M a b i = if i = a then M b else if i = b then M a else M i := fun i => rfl
    by_cases h1 : i = a
    · have := h b hb
      rw [e, if_pos rfl] at this
      by_cases h2 : b = a
      · rw [if_pos h2] at this; rw [h1, ← h2]; exact this
      · rw [if_neg h2] at this; rw [h1]; exact this
    · by_cases h2 : i = b
      · have := h a ha
        rw [e, if_pos rfl] at this
        rw [h2]; exact this
      · have := h i hi
        rw [e, if_neg h1, if_neg h2] at this
        exact this
theorem mulR_SN {R n a : Nat} (M : Mt) {c : GF} (hc : c ≠ 0) : SN R n M (mulR M a c) := by
  intro m _ v
  have key : ∀ i, dotG (mulR M a c i) v m = if i = a then dotG (M i) v m * c else dotG (M i) v m := by
    intro i
    by_cases h : i = a
    · rw [if_pos h, ← dotG_mul]
      exact dotG_congr (fun j _ => by unfold mulR; rw [if_pos h]) fun _ _ => rfl
    · rw [if_neg h]
      exact dotG_congr (fun j _ => by unfold mulR; rw [if_neg h]) fun _ _ => rfl
  constructor
  · intro h i hi
    rw [key, h i hi, g_zero_mul]
    split <;> rfl
  · intro h i hi
    have h1 := h i hi
    rw [key] at h1
    split at h1
    · rcases gfld.mul_eq_zero h1 with h2 | h2
      · exact h2
      · exact absurd h2 hc
    · exact h1
theorem offs_SN {R n a c k : Nat} (M : Mt) (ha : a < R) : SN R n M (offs M a c k) := by
  intro m _ v
  have key : ∀ i, dotG (offs M a c k i) v m = if i < k ∧ i ≠ a then dotG (M i) v m + dotG (M a) v m * M i c else dotG (M i) v m := by
    intro i
    by_cases h : i < k ∧ i ≠ a
    · rw [if_pos h, ← dotG_mul, ← dotG_add]
      exact dotG_congr (fun j _ => by unfold offs; rw [if_pos h]) fun _ _ => rfl
    · rw [if_neg h]
      exact dotG_congr (fun j _ => by unfold offs; rw [if_neg h]) fun _ _ => rfl
  have hself : dotG (offs M a c k a) v m = dotG (M a) v m := by rw [key, if_neg (by omega)]
  constructor
  · intro h i hi
    rw [key, h i hi, h a ha, g_zero_mul, g_add_zero]
    split <;> rfl
  · intro h i hi
    have h1 := h i hi
    have h2 := h a ha
    rw [hself] at h2
    rw [key, h2, g_zero_mul, g_add_zero] at h1
    split at h1 <;> exact h1

/-! ### Columns that those ahead of them make -/
/-- Column k is a sum of the columns ahead of it, times numbers. -/
def Dep (R : Nat) (M : Mt) (k : Nat) : Prop := ∃ v : Nat → GF, v k = 1 ∧ Nul R M (k + 1) v
theorem SN.dep {R n : Nat} {A B : Mt} (h : SN R n A B) {k : Nat} (hk : k < n) : Dep R A k ↔ Dep R B k :=
  ⟨fun ⟨v, h1, h2⟩ => ⟨v, h1, (h _ (by omega) v).1 h2⟩, fun ⟨v, h1, h2⟩ => ⟨v, h1, (h _ (by omega) v).2 h2⟩⟩
/-- How many of the first n columns are not made by those ahead of them: the rank. -/
noncomputable def rkG (R : Nat) (M : Mt) : Nat → Nat
  | 0 => 0
  | n + 1 => rkG R M n + if Dep R M n then 0 else 1
theorem rkG_le (R : Nat) (M : Mt) : ∀ n, rkG R M n ≤ n
  | 0 => Nat.le_refl _
  | n + 1 => by have := rkG_le R M n; show _ + _ ≤ _; split <;> omega
theorem rkG_congr {R : Nat} {A B : Mt} : ∀ {n : Nat}, SN R n A B → rkG R A n = rkG R B n
  | 0, _ => rfl
  | n + 1, h => by
    show rkG R A n + _ = rkG R B n + _
    rw [rkG_congr (n := n) fun m hm => h m (by omega)]
    have := h.dep (k := n) (by omega)
    by_cases h1 : Dep R A n
    · rw [if_pos h1, if_pos (this.1 h1)]
    · rw [if_neg h1, if_neg fun h2 => h1 (this.2 h2)]
/-- Reduced by the first c columns, with r pivots in the columns p. -/
structure Red (R : Nat) (M : Mt) (r : Nat) (p : Nat → Nat) (c : Nat) : Prop where
  rR : r ≤ R
  piv : ∀ t, t < r → ∀ i, i < R → M i (p t) = if i = t then 1 else 0
  lt : ∀ t, t < r → p t < c
  inc : ∀ s t, s < t → t < r → p s < p t
  low : ∀ i, r ≤ i → i < R → ∀ j, j < c → M i j = 0
  lead : ∀ t, t < r → ∀ j, j < p t → M t j = 0
theorem Red.start (R : Nat) (M : Mt) (p : Nat → Nat) : Red R M 0 p 0 :=
  ⟨by omega, fun _ h => by omega, fun _ h => by omega, fun _ _ _ h => by omega, fun _ _ _ _ h => by omega, fun _ h => by omega⟩
theorem Red.p_ge {R : Nat} {M : Mt} {r : Nat} {p : Nat → Nat} {c : Nat} (h : Red R M r p c) : ∀ t, t < r → t ≤ p t
  | 0, _ => Nat.zero_le _
  | t + 1, ht => by have := h.p_ge t (by omega); have := h.inc t (t + 1) (by omega) ht; omega
theorem Red.r_le {R : Nat} {M : Mt} {r : Nat} {p : Nat → Nat} {c : Nat} (h : Red R M r p c) : r ≤ c := by
  rcases Nat.eq_zero_or_pos r with h0 | h0
  · omega
  · have := h.p_ge (r - 1) (by omega)
    have := h.lt (r - 1) (by omega)
    omega
/-- What the pivots' rows tell of column k, as numbers of the pivots' columns. -/
def tellV (M : Mt) (r : Nat) (p : Nat → Nat) (k : Nat) : Nat → GF := fun j => if j = k then 1 else sumG (fun t => if p t = j then M t k else 0) r
theorem tellV_dot {R : Nat} {M : Mt} {r : Nat} {p : Nat → Nat} {c k : Nat} (h : Red R M r p c) (hk : ∀ t, t < r → p t ≠ k) {i : Nat} (hi : i < R) :
    dotG (M i) (tellV M r p k) (k + 1) = (if i < r ∧ p i < k then M i k else 0) + M i k := by
  show sumG _ k + M i k * tellV M r p k k = _
  have e1 : tellV M r p k k = 1 := by unfold tellV; rw [if_pos rfl]
  rw [e1, g_mul_one]
  congr 1
  have e2 : sumG (fun j => M i j * tellV M r p k j) k = sumG (fun j => sumG (fun t => if p t = j then M i j * M t k else 0) r) k := by
    refine sumG_congr fun j hj => ?_
    unfold tellV
    rw [if_neg (by omega), ← sumG_smul]
    refine sumG_congr fun t _ => ?_
    split
    · rfl
    · exact g_mul_zero _
  rw [e2, sumG_swap (fun j t => if p t = j then M i j * M t k else 0)]
  have e3 : sumG (fun t => sumG (fun j => if p t = j then M i j * M t k else 0) k) r = sumG (fun t => if i = t ∧ p t < k then M t k else 0) r := by
    refine sumG_congr fun t ht => ?_
    by_cases h1 : p t < k
    · rw [sumG_one h1 fun j _ hne => if_neg fun h => hne h.symm, if_pos rfl, h.piv t ht i hi]
      by_cases h2 : i = t
      · rw [if_pos h2, if_pos ⟨h2, h1⟩, g_one_mul]
      · rw [if_neg h2, if_neg fun h => h2 h.1, g_zero_mul]
    · rw [if_neg fun h => h1 h.2]
      exact sumG_zero fun j hj => if_neg fun h => h1 (by omega)
  rw [e3]
  by_cases h1 : i < r
  · rw [sumG_one h1 fun t _ hne => if_neg fun h => hne h.1.symm]
    by_cases h2 : p i < k
    · rw [if_pos ⟨rfl, h2⟩, if_pos ⟨h1, h2⟩]
    · rw [if_neg fun h => h2 h.2, if_neg fun h => h2 h.2]
  · rw [if_neg fun h => h1 h.1]
    exact sumG_zero fun t ht => if_neg fun h => h1 (by omega)
/-- A column that has nothing in the rows below the pivots is made by those ahead of it. -/
theorem Red.dep {R : Nat} {M : Mt} {r : Nat} {p : Nat → Nat} {c : Nat} (h : Red R M r p c) (h0 : ∀ i, r ≤ i → i < R → M i c = 0) : Dep R M c ∧ Nul R M (c + 1) (tellV M r p c) := by
  have hn : Nul R M (c + 1) (tellV M r p c) := fun i hi => by
    rw [tellV_dot h (fun t ht => by have := h.lt t ht; omega) hi]
    by_cases h1 : i < r
    · rw [if_pos ⟨h1, h.lt i h1⟩, g_self]
    · rw [if_neg fun h => h1 h.1, h0 i (by omega) hi, g_add_zero]
  exact ⟨⟨_, by unfold tellV; rw [if_pos rfl], hn⟩, hn⟩
/-- One that has something there is not. -/
theorem Red.not_dep {R : Nat} {M : Mt} {r : Nat} {p : Nat → Nat} {c : Nat} (h : Red R M r p c) {i : Nat} (hi : r ≤ i) (hR : i < R) (hne : M i c ≠ 0) : ¬ Dep R M c := by
  rintro ⟨v, h1, h2⟩
  have h3 := h2 i hR
  have h4 : dotG (M i) v (c + 1) = M i c := by
    show sumG _ c + M i c * v c = _
    rw [h1, g_mul_one, sumG_zero fun j hj => by rw [h.low i hi hR j hj, g_zero_mul], g_zero_add]
  exact hne (h4.symm.trans h3)
theorem Red.skip {R : Nat} {M : Mt} {r : Nat} {p : Nat → Nat} {c : Nat} (h : Red R M r p c) (h0 : ∀ i, r ≤ i → i < R → M i c = 0) : Red R M r p (c + 1) :=
  ⟨h.rR, h.piv, fun t ht => by have := h.lt t ht; omega, h.inc, fun i hi hR j hj => by
    by_cases he : j = c
    · subst he; exact h0 i hi hR
    · exact h.low i hi hR j (by omega), h.lead⟩
/-- The step at a pivot: the rows change places, the upper one is divided, and taken off all others. -/
def stepR (R : Nat) (M : Mt) (at_ k c : Nat) : Mt := offs (mulR (swapR M at_ k) at_ (M k c)⁻¹) at_ c R
theorem stepR_SN {R n : Nat} (M : Mt) {r k c : Nat} (hr : r < R) (hk : k < R) (h0 : M k c ≠ 0) : SN R n M (stepR R M r k c) :=
  (swapR_SN M hr hk).trans ((mulR_SN _ (gfld.inv_ne h0)).trans (offs_SN _ hr))
theorem swapR_at (M : Mt) (a b : Nat) : swapR M a b a = M b := by unfold swapR; rw [if_pos rfl]
theorem mulR_at (M : Mt) (a j : Nat) (c : GF) : mulR M a c a j = M a j * c := by unfold mulR; rw [if_pos rfl]
theorem mulR_ne (M : Mt) {a i : Nat} (j : Nat) (c : GF) (h : i ≠ a) : mulR M a c i j = M i j := by unfold mulR; rw [if_neg h]
theorem stepR_at (R : Nat) (M : Mt) (r k c j : Nat) : stepR R M r k c r j = M k j * (M k c)⁻¹ := by
  unfold stepR offs
  rw [if_neg (by omega), mulR_at, swapR_at]
theorem stepR_ne {R : Nat} (M : Mt) {r k c i : Nat} (j : Nat) (hi : i < R) (hne : i ≠ r) : stepR R M r k c i j = swapR M r k i j + M k j * (M k c)⁻¹ * swapR M r k i c := by
  unfold stepR offs
  rw [if_pos ⟨hi, hne⟩, mulR_at, swapR_at, mulR_ne _ _ _ hne, mulR_ne _ _ _ hne]
theorem Red.step {R : Nat} {M : Mt} {r : Nat} {p : Nat → Nat} {c k : Nat} (h : Red R M r p c) (hr : r < R) (hk : r ≤ k) (hkR : k < R) (h0 : M k c ≠ 0) :
    Red R (stepR R M r k c) (r + 1) (fun t => if t = r then c else p t) (c + 1) := by
  have hsw : ∀ i, i ≠ r → r ≤ i → i < R → ∃ i', r ≤ i' ∧ i' < R ∧ swapR M r k i = M i' := by
    intro i h1 h2 h3
    unfold swapR
    rw [if_neg h1]
    split
    · exact ⟨r, Nat.le_refl _, hr, rfl⟩
    · exact ⟨i, h2, h3, rfl⟩
  have hup : ∀ i, i < r → swapR M r k i = M i := by
    intro i h1
    unfold swapR
    rw [if_neg (by omega), if_neg (by omega)]
  have hrow : ∀ j, j < c → M k j = 0 := fun j hj => h.low k hk hkR j hj
  refine ⟨hr, ?_, ?_, ?_, ?_, ?_⟩
  · intro t ht i hi
    by_cases htr : t = r
    · subst htr
      simp only [if_pos]
      by_cases hit : i = t
      · subst hit
        rw [if_pos rfl, stepR_at, gfld.mul_inv _ h0]
      · rw [if_neg hit, stepR_ne M _ hi hit, gfld.mul_inv _ h0, g_one_mul, g_self]
    · simp only [if_neg htr]
      have htl : t < r := by omega
      have hpt := h.lt t htl
      by_cases hir : i = r
      · subst hir
        rw [stepR_at, if_neg (by omega), hrow _ hpt, g_zero_mul]
      · rw [stepR_ne M _ hi hir, hrow _ hpt, g_zero_mul, g_zero_mul, g_add_zero]
        by_cases hil : i < r
        · rw [hup i hil, h.piv t htl i hi]
        · obtain ⟨i', h1, h2, h3⟩ := hsw i hir (by omega) hi
          rw [h3, h.piv t htl i' h2, if_neg (by omega), if_neg (by omega)]
  · intro t ht
    by_cases htr : t = r
    · simp only [if_pos htr]; omega
    · simp only [if_neg htr]; have := h.lt t (by omega); omega
  · intro s t hst ht
    have hs : s ≠ r := by omega
    simp only [if_neg hs]
    by_cases htr : t = r
    · simp only [if_pos htr]; have := h.lt s (by omega); omega
    · simp only [if_neg htr]; exact h.inc s t hst (by omega)
  · intro i hi hR j hj
    rw [stepR_ne M _ hR (by omega)]
    obtain ⟨i', h1, h2, h3⟩ := hsw i (by omega) (by omega) hR
    rw [h3]
    by_cases hjc : j = c
    · subst hjc
      rw [gfld.mul_inv _ h0, g_one_mul, g_self]
    · rw [h.low i' h1 h2 j (by omega), hrow j (by omega), g_zero_mul, g_zero_mul, g_add_zero]
  · intro t ht j hj
    by_cases htr : t = r
    · subst htr
      simp only [if_pos] at hj
      rw [stepR_at, hrow j hj, g_zero_mul]
    · simp only [if_neg htr] at hj
      have htl : t < r := by omega
      have hpt := h.lt t htl
      rw [stepR_ne M _ (by omega) htr, hup t htl, hrow j (by omega), g_zero_mul, g_zero_mul, g_add_zero]
      exact h.lead t htl j hj
/-- When each row has its pivot, nothing more is to be done. -/
theorem Red.full {R : Nat} {M : Mt} {p : Nat → Nat} {c n : Nat} (h : Red R M R p c) (hn : c ≤ n) : Red R M R p n :=
  ⟨h.rR, h.piv, fun t ht => by have := h.lt t ht; omega, h.inc, fun i h1 h2 => by omega, h.lead⟩
theorem Red.full_rk {R : Nat} {M : Mt} {p : Nat → Nat} {c : Nat} (h : Red R M R p c) (hr : rkG R M c = R) : ∀ n, c ≤ n → rkG R M n = R := by
  intro n
  induction n with
  | zero => intro hn; have : c = 0 := by omega
            subst this; exact hr
  | succ n ih =>
    intro hn
    by_cases he : c = n + 1
    · subst he; exact hr
    · show rkG R M n + _ = R
      rw [ih (by omega), if_pos ((h.full (n := n) (by omega)).dep fun i h1 h2 => by omega).1]
      rfl
/-- Where each of n rows has its pivot in the first n columns, those are the ones. -/
theorem Red.unit {n : Nat} {M : Mt} {p : Nat → Nat} (h : Red n M n p n) : ∀ i, i < n → ∀ c, c < n → M i c = if i = c then 1 else 0 := by
  have hp : ∀ d t, t + d + 1 = n → p t = t := by
    intro d
    induction d with
    | zero => intro t ht; have := h.p_ge t (by omega); have := h.lt t (by omega); omega
    | succ d ih =>
      intro t ht
      have h1 := ih (t + 1) (by omega)
      have h2 := h.inc t (t + 1) (by omega) (by omega)
      have := h.p_ge t (by omega)
      omega
  intro i hi c hc
  have h1 := h.piv c hc i hi
  rwa [hp (n - c - 1) c (by omega)] at h1
end Go.Proofs.Ytgdcmebhopjfaaa
