/- Fields, polynomials over them and interpolation, in plain algebra: no program in sight. -/

set_option linter.unusedVariables false
set_option linter.unusedSimpArgs false
namespace Go.Proofs.Ytmeffbooabionaa
set_option linter.unusedSectionVars false

structure Fld (α : Type) [Add α] [Mul α] [Neg α] [Zero α] [One α] [Inv α] : Prop where
  add_assoc : ∀ a b c : α, a + b + c = a + (b + c)
  add_comm : ∀ a b : α, a + b = b + a
  add_zero : ∀ a : α, a + 0 = a
  add_neg : ∀ a : α, a + -a = 0
  mul_assoc : ∀ a b c : α, a * b * c = a * (b * c)
  mul_comm : ∀ a b : α, a * b = b * a
  mul_one : ∀ a : α, a * 1 = a
  mul_add : ∀ a b c : α, a * (b + c) = a * b + a * c
  mul_inv : ∀ a : α, a ≠ 0 → a * a⁻¹ = 1
  one_ne : (1 : α) ≠ 0

section
variable {α : Type} [Add α] [Mul α] [Neg α] [Zero α] [One α] [Inv α] (F : Fld α)
include F

theorem Fld.zero_add (a : α) : 0 + a = a := by rw [F.add_comm, F.add_zero]
theorem Fld.one_mul (a : α) : 1 * a = a := by rw [F.mul_comm, F.mul_one]
theorem Fld.add_mul (a b c : α) : (a + b) * c = a * c + b * c := by rw [F.mul_comm, F.mul_add, F.mul_comm c a, F.mul_comm c b]
theorem Fld.neg_add (a : α) : -a + a = 0 := by rw [F.add_comm, F.add_neg]
theorem Fld.add_left_cancel {a b c : α} (h : a + b = a + c) : b = c := by
  have : -a + (a + b) = -a + (a + c) := by rw [h]
  rwa [← F.add_assoc, ← F.add_assoc, F.neg_add, F.zero_add, F.zero_add] at this
theorem Fld.mul_zero (a : α) : a * 0 = 0 := by
  have h : a * 0 + a * 0 = a * 0 + 0 := by rw [← F.mul_add, F.add_zero, F.add_zero]
  exact F.add_left_cancel h
theorem Fld.zero_mul (a : α) : 0 * a = 0 := by rw [F.mul_comm, F.mul_zero]
theorem Fld.eq_neg {a b : α} (h : a + b = 0) : b = -a := F.add_left_cancel (h.trans (F.add_neg a).symm)
theorem Fld.neg_mul (a b : α) : -a * b = -(a * b) := by
  apply F.eq_neg
  rw [← F.add_mul, F.add_neg, F.zero_mul]
theorem Fld.mul_neg (a b : α) : a * -b = -(a * b) := by rw [F.mul_comm, F.neg_mul, F.mul_comm]
theorem Fld.neg_neg (a : α) : - -a = a := (F.eq_neg (F.neg_add a)).symm
theorem Fld.neg_zero : -(0 : α) = 0 := (F.eq_neg (F.add_zero 0)).symm
theorem Fld.neg_add_rev (a b : α) : -(a + b) = -a + -b := by
  apply Eq.symm
  apply F.eq_neg
  rw [F.add_assoc, ← F.add_assoc b, F.add_comm b, F.add_assoc (-a), F.add_neg, F.add_zero, F.add_neg]
theorem Fld.sub_eq_zero {a b : α} (h : a + -b = 0) : a = b := by
  have := F.eq_neg h
  rw [← F.neg_neg a, ← this, F.neg_neg]
theorem Fld.sub_ne_zero {a b : α} (h : a ≠ b) : a + -b ≠ 0 := fun h2 => h (F.sub_eq_zero h2)
theorem Fld.mul_eq_zero {a b : α} (h : a * b = 0) : a = 0 ∨ b = 0 := by
  by_cases ha : a = 0
  · exact .inl ha
  · right
    have h2 : a⁻¹ * (a * b) = b := by rw [← F.mul_assoc, F.mul_comm a⁻¹, F.mul_inv a ha, F.one_mul]
    rw [← h2, h, F.mul_zero]
theorem Fld.mul_ne_zero {a b : α} (ha : a ≠ 0) (hb : b ≠ 0) : a * b ≠ 0 := fun h => by
  rcases F.mul_eq_zero h with h | h
  · exact ha h
  · exact hb h
theorem Fld.inv_ne {a : α} (ha : a ≠ 0) : a⁻¹ ≠ 0 := fun h => by
  have := F.mul_inv a ha
  rw [h, F.mul_zero] at this
  exact F.one_ne this.symm
theorem Fld.add_left_comm (a b c : α) : a + (b + c) = b + (a + c) := by rw [← F.add_assoc, F.add_comm a, F.add_assoc]
theorem Fld.mul_left_comm (a b c : α) : a * (b * c) = b * (a * c) := by rw [← F.mul_assoc, F.mul_comm a, F.mul_assoc]
theorem Fld.add_neg_cancel (a b : α) : a + (-a + b) = b := by rw [← F.add_assoc, F.add_neg, F.zero_add]
theorem Fld.neg_add_cancel (a b : α) : -a + (a + b) = b := by rw [← F.add_assoc, F.neg_add, F.zero_add]
theorem Fld.sub_add_sub (a b c : α) : (a + -b) + (b + -c) = a + -c := by rw [F.add_assoc, ← F.add_assoc (-b), F.neg_add, F.zero_add]

omit F in
/-- The value of a polynomial (its numbers from the lowest on). -/
def ev : List α → α → α
  | [], _ => 0
  | c :: l, x => c + x * ev l x
omit F in
/-- A function that a polynomial of k numbers tells. -/
def PolyF (k : Nat) (f : α → α) : Prop := ∃ l : List α, l.length = k ∧ ∀ x, f x = ev l x

theorem PolyF.zero (k : Nat) : PolyF k (fun _ => (0 : α)) := by
  induction k with
  | zero => exact ⟨[], rfl, fun x => rfl⟩
  | succ k ih =>
    obtain ⟨l, hl, he⟩ := ih
    exact ⟨0 :: l, by simp [hl], fun x => by rw [ev, ← he x, F.mul_zero, F.add_zero]⟩
omit F in
theorem PolyF.ext {k : Nat} {f g : α → α} (h : PolyF k f) (e : ∀ x, f x = g x) : PolyF k g := by
  obtain ⟨l, hl, he⟩ := h
  exact ⟨l, hl, fun x => by rw [← e x, he x]⟩
/-- A number and x times the rest. -/
theorem PolyF.cons {k : Nat} {f : α → α} (c : α) (h : PolyF k f) : PolyF (k + 1) (fun x => c + x * f x) := by
  obtain ⟨l, hl, he⟩ := h
  exact ⟨c :: l, by simp [hl], fun x => by simp only [ev]; rw [he x]⟩
omit F in
theorem PolyF.uncons {k : Nat} {f : α → α} (h : PolyF (k + 1) f) : ∃ c g, PolyF k g ∧ ∀ x, f x = c + x * g x := by
  obtain ⟨l, hl, he⟩ := h
  cases l with
  | nil => simp at hl
  | cons c l => exact ⟨c, ev l, ⟨l, by simpa using hl, fun x => rfl⟩, fun x => by rw [he x, ev]⟩
theorem PolyF.const {k : Nat} (c : α) : PolyF (k + 1) (fun _ => c) :=
  (PolyF.cons F c (PolyF.zero F k)).ext fun x => by rw [F.mul_zero, F.add_zero]
theorem PolyF.add {k : Nat} : ∀ {f g : α → α}, PolyF k f → PolyF k g → PolyF k (fun x => f x + g x) := by
  induction k with
  | zero =>
    rintro f g ⟨l, hl, he⟩ ⟨m, hm, hf⟩
    obtain rfl := List.eq_nil_of_length_eq_zero hl
    obtain rfl := List.eq_nil_of_length_eq_zero hm
    exact ⟨[], rfl, fun x => by simp only [he, hf, ev]; rw [F.add_zero]⟩
  | succ k ih =>
    intro f g hf hg
    obtain ⟨c, f', hf', ef⟩ := hf.uncons
    obtain ⟨d, g', hg', eg⟩ := hg.uncons
    refine (PolyF.cons F (c + d) (ih hf' hg')).ext fun x => ?_
    rw [ef, eg, F.mul_add, F.add_assoc, F.add_assoc, F.add_left_comm d]
theorem PolyF.smul {k : Nat} (a : α) : ∀ {f : α → α}, PolyF k f → PolyF k (fun x => a * f x) := by
  induction k with
  | zero =>
    rintro f ⟨l, hl, he⟩
    obtain rfl := List.eq_nil_of_length_eq_zero hl
    exact ⟨[], rfl, fun x => by simp only [he, ev]; rw [F.mul_zero]⟩
  | succ k ih =>
    intro f hf
    obtain ⟨c, f', hf', ef⟩ := hf.uncons
    refine (PolyF.cons F (a * c) (ih hf')).ext fun x => ?_
    rw [ef, F.mul_add, F.mul_left_comm]
theorem PolyF.mulx {k : Nat} {f : α → α} (h : PolyF k f) : PolyF (k + 1) (fun x => x * f x) :=
  (PolyF.cons F 0 h).ext fun x => F.zero_add _
theorem PolyF.succ {k : Nat} : ∀ {f : α → α}, PolyF k f → PolyF (k + 1) f := by
  induction k with
  | zero =>
    rintro f ⟨l, hl, he⟩
    obtain rfl := List.eq_nil_of_length_eq_zero hl
    exact (PolyF.zero F 1).ext fun x => by rw [he, ev]
  | succ k ih =>
    intro f hf
    obtain ⟨c, f', hf', ef⟩ := hf.uncons
    exact (PolyF.cons F c (ih hf')).ext fun x => (ef x).symm
theorem PolyF.mono {k m : Nat} (hkm : k ≤ m) {f : α → α} (h : PolyF k f) : PolyF m f := by
  induction hkm with
  | refl => exact h
  | step _ ih => exact PolyF.succ F ih
theorem PolyF.neg {k : Nat} {f : α → α} (h : PolyF k f) : PolyF k (fun x => -f x) :=
  (PolyF.smul F (-1) h).ext fun x => by rw [F.neg_mul, F.one_mul]
theorem PolyF.sub {k : Nat} {f g : α → α} (h : PolyF k f) (h2 : PolyF k g) : PolyF k (fun x => f x + -g x) := PolyF.add F h (PolyF.neg F h2)
/-- Times x and a number. -/
theorem PolyF.lin {k : Nat} {f : α → α} (a : α) (h : PolyF k f) : PolyF (k + 1) (fun x => (x + a) * f x) :=
  (PolyF.add F (PolyF.mulx F h) (PolyF.succ F (PolyF.smul F a h))).ext fun x => (F.add_mul _ _ _).symm
/-- What is nothing at a is x - a times something. -/
theorem PolyF.divide {k : Nat} (a : α) : ∀ {f : α → α}, PolyF (k + 1) f → ∃ g c, PolyF k g ∧ ∀ x, f x = (x + -a) * g x + c := by
  induction k with
  | zero =>
    intro f hf
    obtain ⟨c, f', ⟨l, hl, he⟩, ef⟩ := hf.uncons
    obtain rfl := List.eq_nil_of_length_eq_zero hl
    exact ⟨fun _ => 0, c, PolyF.zero F 0, fun x => by rw [ef, he, ev, F.mul_zero, F.mul_zero, F.add_zero, F.zero_add]⟩
  | succ k ih =>
    intro f hf
    obtain ⟨c, f', hf', ef⟩ := hf.uncons
    obtain ⟨g, d, hg, eg⟩ := ih hf'
    refine ⟨fun x => d + x * g x, c + a * d, PolyF.cons F d hg, fun x => ?_⟩
    rw [ef, eg]
    have e1 : x * ((x + -a) * g x + d) = (x + -a) * (x * g x) + x * d := by rw [F.mul_add, F.mul_left_comm]
    have e2 : (x + -a) * (d + x * g x) = x * d + -(a * d) + (x + -a) * (x * g x) := by rw [F.mul_add, F.add_mul x (-a) d, F.neg_mul]
    rw [e1, e2]
    generalize (x + -a) * (x * g x) = Z
    generalize x * d = Y
    generalize a * d = W
    -- c + (Z + Y) = ((Y + -W) + Z) + (c + W)
    have e3 : (Y + -W) + Z + (c + W) = (Y + Z) + (-W + (c + W)) := by
      rw [F.add_assoc Y, F.add_comm (-W) Z, ← F.add_assoc Y, F.add_assoc (Y + Z)]
    rw [e3, F.add_comm c W, F.neg_add_cancel, F.add_comm Y Z, F.add_comm c]
theorem PolyF.root {k : Nat} (a : α) {f : α → α} (hf : PolyF (k + 1) f) (h : f a = 0) : ∃ g, PolyF k g ∧ ∀ x, f x = (x + -a) * g x := by
  obtain ⟨g, c, hg, e⟩ := PolyF.divide F a hf
  have hc : c = 0 := by
    have := e a
    rw [F.add_neg, F.zero_mul, F.zero_add, h] at this
    exact this.symm
  exact ⟨g, hg, fun x => by rw [e x, hc, F.add_zero]⟩
/-- A polynomial of k numbers that is nothing at k places is nothing. -/
theorem PolyF.roots {k : Nat} : ∀ {f : α → α} {rs : List α}, PolyF k f → rs.length = k → rs.Nodup → (∀ r ∈ rs, f r = 0) → ∀ x, f x = 0 := by
  induction k with
  | zero =>
    rintro f rs ⟨l, hl, he⟩ _ _ _ x
    obtain rfl := List.eq_nil_of_length_eq_zero hl
    rw [he, ev]
  | succ k ih =>
    intro f rs hf hl hnd h x
    cases rs with
    | nil => simp at hl
    | cons r rs =>
      obtain ⟨g, hg, e⟩ := PolyF.root F r hf (h r (List.mem_cons_self ..))
      rw [List.nodup_cons] at hnd
      have hg0 := ih hg (by simpa using hl) hnd.2 (fun s hs => by
        have h1 := h s (List.mem_cons_of_mem _ hs)
        rw [e s] at h1
        rcases F.mul_eq_zero h1 with h2 | h2
        · have := F.sub_eq_zero h2
          subst this
          exact absurd hs hnd.1
        · exact h2)
      rw [e x, hg0 x, F.mul_zero]
/-- Two polynomials of k numbers that agree at k places are one. -/
theorem PolyF.agree {k : Nat} {f g : α → α} {rs : List α} (hf : PolyF k f) (hg : PolyF k g) (hl : k ≤ rs.length) (hnd : rs.Nodup) (h : ∀ r ∈ rs, f r = g r) (x : α) : f x = g x := by
  have hd := PolyF.roots F (PolyF.sub F hf hg) (rs := rs.take k) (by rw [List.length_take]; omega) (hnd.sublist (List.take_sublist _ _)) (fun r hr => by rw [h r (List.mem_of_mem_take hr), F.add_neg]) x
  exact F.sub_eq_zero hd

omit F in
/-- The product of x - r. -/
def prodR : List α → α → α
  | [], _ => 1
  | r :: l, x => (x + -r) * prodR l x
theorem prodR_zero {l : List α} {r : α} (h : r ∈ l) : prodR l r = 0 := by
  induction l with
  | nil => simp at h
  | cons s l ih =>
    rw [List.mem_cons] at h
    rcases h with h | h
    · subst h; rw [prodR, F.add_neg, F.zero_mul]
    · rw [prodR, ih h, F.mul_zero]
theorem prodR_ne {l : List α} {x : α} (h : x ∉ l) : prodR l x ≠ 0 := by
  induction l with
  | nil => exact F.one_ne
  | cons s l ih =>
    rw [List.mem_cons, not_or] at h
    exact F.mul_ne_zero (F.sub_ne_zero h.1) (ih h.2)
theorem prodR_snoc (l : List α) (r x : α) : prodR (l ++ [r]) x = prodR l x * (x + -r) := by
  induction l with
  | nil => simp only [List.nil_append, prodR]; rw [F.mul_one, F.one_mul]
  | cons s l ih => simp only [List.cons_append, prodR]; rw [ih, F.mul_assoc]
omit F in
/-- x to the k. -/
def pwF (x : α) : Nat → α
  | 0 => 1
  | k + 1 => x * pwF x k
omit F in
/-- A polynomial of k + 1 numbers of which c is the highest. -/
def Lead (k : Nat) (c : α) (f : α → α) : Prop := ∃ g, PolyF k g ∧ ∀ x, f x = c * pwF x k + g x
omit F in
theorem Lead.ext {k : Nat} {c : α} {f g : α → α} (h : Lead k c f) (e : ∀ x, f x = g x) : Lead k c g := by
  obtain ⟨u, hu, eu⟩ := h
  exact ⟨u, hu, fun x => by rw [← e x, eu]⟩
theorem Lead.lin {k : Nat} {c : α} {f : α → α} (a : α) (h : Lead k c f) : Lead (k + 1) c (fun x => (x + a) * f x) := by
  obtain ⟨u, hu, eu⟩ := h
  refine ⟨fun x => (a * c) * pwF x k + (x + a) * u x, ?_, fun x => ?_⟩
  · have hp : PolyF (k + 1) (fun x : α => pwF x k) := by
      clear hu eu
      induction k with
      | zero => exact PolyF.const F 1
      | succ k ih => exact PolyF.mulx F ih
    exact PolyF.add F (PolyF.smul F (a * c) hp) (PolyF.lin F a hu)
  · simp only [pwF]
    rw [eu, F.mul_add, F.add_mul x a (c * pwF x k)]
    rw [F.mul_left_comm x c, F.mul_assoc a c, F.add_assoc]
theorem Lead.poly {k : Nat} {c : α} {f : α → α} (h : Lead k c f) : PolyF (k + 1) f := by
  obtain ⟨u, hu, eu⟩ := h
  have hp : PolyF (k + 1) (fun x : α => pwF x k) := by
    clear hu eu
    induction k with
    | zero => exact PolyF.const F 1
    | succ k ih => exact PolyF.mulx F ih
  exact (PolyF.add F (PolyF.smul F c hp) (PolyF.succ F hu)).ext fun x => (eu x).symm
theorem Lead.sub {k : Nat} {c d : α} {f g : α → α} (h : Lead k c f) (h2 : Lead k d g) : Lead k (c + -d) (fun x => f x + -g x) := by
  obtain ⟨u, hu, eu⟩ := h
  obtain ⟨v, hv, e2⟩ := h2
  refine ⟨fun x => u x + -v x, PolyF.sub F hu hv, fun x => ?_⟩
  simp only
  rw [eu, e2, F.add_mul, F.neg_mul, F.neg_add_rev]
  simp only [F.add_assoc]
  rw [F.add_left_comm (u x)]
theorem Lead.smul {k : Nat} {c : α} {f : α → α} (a : α) (h : Lead k c f) : Lead k (a * c) (fun x => a * f x) := by
  obtain ⟨u, hu, eu⟩ := h
  exact ⟨fun x => a * u x, PolyF.smul F a hu, fun x => by simp only; rw [eu, F.mul_add, F.mul_assoc]⟩
theorem Lead.of_poly {k : Nat} {f : α → α} (h : PolyF k f) : Lead k 0 f := ⟨f, h, fun x => by rw [F.zero_mul, F.zero_add]⟩
theorem prodR_lead (l : List α) : Lead l.length 1 (prodR l) := by
  induction l with
  | nil => exact ⟨fun _ => 0, PolyF.zero F 0, fun x => by simp only [prodR, pwF, List.length_nil]; rw [F.add_zero, F.mul_one]⟩
  | cons r l ih => exact (Lead.lin F (-r) ih).ext fun x => rfl
/-- A polynomial with so many zeros is told by them and by its highest number. -/
theorem Lead.roots {k : Nat} {c : α} {f : α → α} {rs : List α} (h : Lead k c f) (hl : rs.length = k) (hnd : rs.Nodup) (h0 : ∀ r ∈ rs, f r = 0) (x : α) : f x = c * prodR rs x := by
  have hp : Lead k (c * 1) (fun x => c * prodR rs x) := by
    have := Lead.smul F c (prodR_lead F rs)
    rwa [hl] at this
  obtain ⟨u, hu, eu⟩ := Lead.sub F h hp
  have hd : PolyF k (fun x => f x + -(c * prodR rs x)) := hu.ext fun x => by
    have := eu x
    simp only at this
    rw [this, F.mul_one, F.add_neg, F.zero_mul, F.zero_add]
  exact F.sub_eq_zero (PolyF.roots F hd hl hnd (fun r hr => by rw [h0 r hr, prodR_zero F hr, F.mul_zero, F.neg_zero, F.add_zero]) x)

/-! ### Newton's road -/
omit F in
/-- The divided difference of places i - n to i. -/
def dd (xs ys : Nat → α) : Nat → Nat → α
  | 0, i => ys i
  | n + 1, i => (dd xs ys n i + -dd xs ys n (i - 1)) * (xs i + -xs (i - (n + 1)))⁻¹
omit F in
/-- The places a to a + n - 1. -/
def places (xs : Nat → α) (a n : Nat) : List α := (List.range n).map fun j => xs (a + j)
omit F in
/-- The polynomial through places a to a + n, in Newton's form. -/
def newt (xs ys : Nat → α) (a : Nat) : Nat → α → α
  | 0, _ => dd xs ys 0 a
  | n + 1, x => newt xs ys a n x + dd xs ys (n + 1) (a + n + 1) * prodR (places xs a (n + 1)) x
omit F in
theorem places_succ (xs : Nat → α) (a n : Nat) : places xs a (n + 1) = places xs a n ++ [xs (a + n)] := by simp [places, List.range_succ]
omit F in
theorem places_len (xs : Nat → α) (a n : Nat) : (places xs a n).length = n := by simp [places]
omit F in
theorem mem_places {xs : Nat → α} {a n : Nat} {r : α} : r ∈ places xs a n ↔ ∃ j, j < n ∧ xs (a + j) = r := by simp [places]
omit F in
theorem places_nodup {xs : Nat → α} {a n : Nat} (h : ∀ i j, i < j → j < a + n → xs i ≠ xs j) : (places xs a n).Nodup := by
  unfold places
  rw [List.nodup_iff_pairwise_ne, List.pairwise_map]
  refine List.pairwise_lt_range.imp_of_mem fun {i j} hi hj hij => ?_
  have hj2 := List.mem_range.1 hj
  exact h _ _ (by omega) (by omega)
theorem newt_lead (xs ys : Nat → α) (a n : Nat) : Lead n (dd xs ys n (a + n)) (newt xs ys a n) := by
  induction n with
  | zero => exact ⟨fun _ => 0, PolyF.zero F 0, fun x => by simp only [newt, pwF, Nat.add_zero]; rw [F.add_zero, F.mul_one]⟩
  | succ n ih =>
    have h1 := Lead.smul F (dd xs ys (n + 1) (a + n + 1)) (prodR_lead F (places xs a (n + 1)))
    rw [places_len, F.mul_one] at h1
    obtain ⟨u, hu, eu⟩ := h1
    refine ⟨fun x => newt xs ys a n x + u x, PolyF.add F (Lead.poly F ih) hu, fun x => ?_⟩
    have e2 := eu x
    simp only at e2
    simp only [newt]
    rw [e2, F.add_left_comm]
    rfl
/-- Newton's polynomial goes through the places. -/
theorem newt_at (xs ys : Nat → α) : ∀ (n a : Nat), (∀ i j, i < j → j < a + n + 1 → xs i ≠ xs j) → ∀ j, j ≤ n → newt xs ys a n (xs (a + j)) = ys (a + j) := by
  intro n
  induction n with
  | zero =>
    intro a _ j hj
    obtain rfl : j = 0 := by omega
    rfl
  | succ n ih =>
    intro a hd j hj
    have hQ := ih a (fun i j h1 h2 => hd i j h1 (by omega))
    have hR := ih (a + 1) (fun i j h1 h2 => hd i j h1 (by omega))
    have hne : xs (a + n + 1) + -xs a ≠ 0 := F.sub_ne_zero (hd a (a + n + 1) (by omega) (by omega)).symm
    -- the next one, in AITKEN's form
    have hS : Lead (n + 1) (dd xs ys (n + 1) (a + n + 1)) (fun x => (xs (a + n + 1) + -xs a)⁻¹ * ((x + -xs a) * newt xs ys (a + 1) n x + -((x + -xs (a + n + 1)) * newt xs ys a n x))) := by
      have h1 := Lead.smul F (xs (a + n + 1) + -xs a)⁻¹ (Lead.sub F (Lead.lin F (-xs a) (newt_lead F xs ys (a + 1) n)) (Lead.lin F (-xs (a + n + 1)) (newt_lead F xs ys a n)))
      have e : (xs (a + n + 1) + -xs a)⁻¹ * (dd xs ys n (a + 1 + n) + -dd xs ys n (a + n)) = dd xs ys (n + 1) (a + n + 1) := by
        show _ = (dd xs ys n (a + n + 1) + -dd xs ys n (a + n + 1 - 1)) * (xs (a + n + 1) + -xs (a + n + 1 - (n + 1)))⁻¹
        rw [F.mul_comm, show a + 1 + n = a + n + 1 by omega, show a + n + 1 - 1 = a + n by omega, show a + n + 1 - (n + 1) = a by omega]
      rwa [e] at h1
    have hinv : (xs (a + n + 1) + -xs a)⁻¹ * (xs (a + n + 1) + -xs a) = 1 := by rw [F.mul_comm, F.mul_inv _ hne]
    -- it goes through all
    have hSat : ∀ j, j ≤ n + 1 → (xs (a + n + 1) + -xs a)⁻¹ * ((xs (a + j) + -xs a) * newt xs ys (a + 1) n (xs (a + j)) + -((xs (a + j) + -xs (a + n + 1)) * newt xs ys a n (xs (a + j)))) = ys (a + j) := by
      intro j hj
      by_cases h0 : j = 0
      · subst h0
        have hq := hQ 0 (by omega)
        simp only [Nat.add_zero] at hq ⊢
        rw [F.add_neg, F.zero_mul, F.zero_add, hq, ← F.neg_mul, F.neg_add_rev, F.neg_neg, F.add_comm (-xs a), ← F.mul_assoc, hinv, F.one_mul]
      · have hr := hR (j - 1) (by omega)
        rw [show a + 1 + (j - 1) = a + j by omega] at hr
        by_cases hl : j = n + 1
        · subst hl
          rw [hr, ← Nat.add_assoc, F.add_neg, F.zero_mul, F.neg_zero, F.add_zero, ← F.mul_assoc, hinv, F.one_mul]
        · have hq := hQ j (by omega)
          rw [hr, hq, ← F.neg_mul, ← F.add_mul, F.neg_add_rev, F.neg_neg]
          have e : xs (a + j) + -xs a + (-xs (a + j) + xs (a + n + 1)) = xs (a + n + 1) + -xs a := by
            generalize xs (a + j) = X
            rw [F.add_comm X, F.add_assoc, F.add_neg_cancel, F.add_comm]
          rw [e, ← F.mul_assoc, hinv, F.one_mul]
    -- the difference to Newton's
    have hL : Lead (n + 1) (dd xs ys (n + 1) (a + n + 1)) (fun x => (xs (a + n + 1) + -xs a)⁻¹ * ((x + -xs a) * newt xs ys (a + 1) n x + -((x + -xs (a + n + 1)) * newt xs ys a n x)) + -newt xs ys a n x) := by
      have h1 := Lead.sub F hS (Lead.of_poly F (Lead.poly F (newt_lead F xs ys a n)))
      rwa [F.neg_zero, F.add_zero] at h1
    have hrt := Lead.roots F hL (places_len xs a (n + 1)) (places_nodup fun i j h1 h2 => hd i j h1 (by omega)) (fun r hr => by
      obtain ⟨i, hi, rfl⟩ := mem_places.1 hr
      rw [hSat i (by omega), hQ i (by omega), F.add_neg]) (xs (a + j))
    simp only [newt]
    rw [← hrt, hSat j hj]
    rw [F.add_comm (ys _), F.add_neg_cancel]
end
end Go.Proofs.Ytmeffbooabionaa
