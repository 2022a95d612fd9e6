/- Multiplicative functions (EULER's, MOEBIUS's) and sums over divisors, in plain arithmetic. -/
import Derived.Test.YtgdcmebhopjfaaaShM5
import Derived.Test.YtgdcmebhopjfaaaShM4
import Derived.Test.YtgdcmebhopjfaaaShM3
import Derived.Maps.OwnOps
import Derived.Maps.OwnSet
import Derived.Maps.Views
namespace Go.Proofs.Ytgdcmebhopjfaaa

theorem IsPr.dvd_mul {p a b : Nat} (hp : IsPr p) (h : p ∣ a * b) : p ∣ a ∨ p ∣ b := by
  have hg : Nat.gcd p a ∣ p := Nat.gcd_dvd_left p a
  have hg2 : Nat.gcd p a ∣ a := Nat.gcd_dvd_right p a
  have hpos : 0 < p := by have := hp.1; omega
  have hle := Nat.le_of_dvd hpos hg
  by_cases h1 : Nat.gcd p a = 1
  · right
    exact Nat.Coprime.dvd_of_dvd_mul_left h1 h
  · left
    by_cases h2 : Nat.gcd p a = p
    · rw [h2] at hg2; exact hg2
    · have h0 : 0 < Nat.gcd p a := Nat.gcd_pos_of_pos_left _ hpos
      exact absurd hg (hp.2 _ (by omega) (by omega))
theorem IsPr.eq_of_dvd {p q : Nat} (hp : IsPr p) (hq : IsPr q) (h : p ∣ q) : p = q := by
  have h1 := Nat.le_of_dvd (by have := hq.1; omega) h
  by_cases h2 : p = q
  · exact h2
  · exact absurd h (hq.2 p hp.1 (by omega))
theorem IsPr.dvd_pow {p a k : Nat} (hp : IsPr p) (h : p ∣ a ^ k) : p ∣ a := by
  induction k with
  | zero => rw [Nat.pow_zero] at h; have := Nat.le_of_dvd (by omega) h; have := hp.1; omega
  | succ k ih =>
    rw [Nat.pow_succ] at h
    rcases hp.dvd_mul h with h1 | h1
    · exact ih h1
    · exact h1
theorem dvd_prodPow {l : List (Nat × Nat)} {a : Nat × Nat} (ha : a ∈ l) (h1 : 1 ≤ a.2) : a.1 ∣ prodPow l := by
  induction l with
  | nil => simp at ha
  | cons b l ih =>
    rw [List.mem_cons] at ha
    rcases ha with ha | ha
    · subst ha
      obtain ⟨k, hk⟩ : ∃ k, a.2 = k + 1 := ⟨a.2 - 1, by omega⟩
      simp only [prodPow]
      rw [hk, Nat.pow_succ]
      exact ⟨a.1 ^ k * prodPow l, by rw [Nat.mul_comm (a.1 ^ k) a.1, Nat.mul_assoc]⟩
    · exact Nat.dvd_trans (ih ha) (Nat.dvd_mul_left _ _)
theorem pr_dvd_prodPow {p : Nat} {l : List (Nat × Nat)} (hp : IsPr p) (h : p ∣ prodPow l) (hl : ∀ a ∈ l, IsPr a.1) : ∃ a, a ∈ l ∧ a.1 = p := by
  induction l with
  | nil => simp only [prodPow] at h; have := Nat.le_of_dvd (by omega) h; have := hp.1; omega
  | cons b l ih =>
    simp only [prodPow] at h
    rcases hp.dvd_mul h with h1 | h1
    · exact ⟨b, List.mem_cons_self .., (hp.eq_of_dvd (hl b (List.mem_cons_self ..)) (hp.dvd_pow h1)).symm⟩
    · obtain ⟨a, ha, he⟩ := ih h1 (fun a ha => hl a (List.mem_cons_of_mem _ ha))
      exact ⟨a, List.mem_cons_of_mem _ ha, he⟩
theorem prodPow_pos {l : List (Nat × Nat)} (hl : ∀ a ∈ l, IsPr a.1 ∧ 1 ≤ a.2) : 1 ≤ prodPow l := by
  induction l with
  | nil => simp [prodPow]
  | cons b l ih =>
    simp only [prodPow]
    have h1 := ih fun a ha => hl a (List.mem_cons_of_mem _ ha)
    have h2 : 0 < b.1 ^ b.2 := Nat.pow_pos (by have := (hl b (List.mem_cons_self ..)).1.1; omega)
    exact Nat.mul_pos h2 h1
theorem Factors.tail {n : Nat} {a : Nat × Nat} {l : List (Nat × Nat)} (h : Factors n (a :: l)) : Factors (prodPow l) l :=
  ⟨rfl, (List.pairwise_cons.1 h.inc).2, fun b hb => h.pr b (List.mem_cons_of_mem _ hb)⟩
theorem Factors.head_not {n : Nat} {a : Nat × Nat} {l : List (Nat × Nat)} (h : Factors n (a :: l)) : ¬ a.1 ∣ prodPow l := by
  intro hd
  obtain ⟨b, hb, he⟩ := pr_dvd_prodPow (h.pr a (List.mem_cons_self ..)).1 hd (fun b hb => (h.pr b (List.mem_cons_of_mem _ hb)).1)
  have := (List.pairwise_cons.1 h.inc).1 b hb
  omega
theorem Factors.pos {n : Nat} {l : List (Nat × Nat)} (h : Factors n l) : 1 ≤ n := by rw [← h.prod]; exact prodPow_pos h.pr
theorem Factors.one {l : List (Nat × Nat)} (h : Factors 1 l) : l = [] := by
  cases l with
  | nil => rfl
  | cons a l =>
    have h1 := dvd_prodPow (List.mem_cons_self (a := a) (l := l)) (h.pr a (List.mem_cons_self ..)).2
    rw [h.prod] at h1
    have := Nat.le_of_dvd (by omega) h1
    have := (h.pr a (List.mem_cons_self ..)).1.1
    omega
theorem pow_cancel {p k m A B : Nat} (hp : 0 < p) (hA : ¬ p ∣ A) (hB : ¬ p ∣ B) (h : p ^ k * A = p ^ m * B) : k = m ∧ A = B := by
  induction k generalizing m with
  | zero =>
    cases m with
    | zero => simp only [Nat.pow_zero, Nat.one_mul] at h; exact ⟨rfl, h⟩
    | succ m => exfalso; apply hA; rw [Nat.pow_zero, Nat.one_mul] at h; rw [h, Nat.pow_succ]; exact ⟨p ^ m * B, by rw [Nat.mul_comm (p ^ m), Nat.mul_assoc]⟩
  | succ k ih =>
    cases m with
    | zero => exfalso; apply hB; rw [Nat.pow_zero, Nat.one_mul] at h; rw [← h, Nat.pow_succ]; exact ⟨p ^ k * A, by rw [Nat.mul_comm (p ^ k), Nat.mul_assoc]⟩
    | succ m =>
      have h2 : p ^ k * A = p ^ m * B := by
        rw [Nat.pow_succ, Nat.pow_succ, Nat.mul_comm (p ^ k), Nat.mul_comm (p ^ m), Nat.mul_assoc, Nat.mul_assoc] at h
        exact Nat.eq_of_mul_eq_mul_left hp h
      obtain ⟨h3, h4⟩ := ih h2
      exact ⟨by omega, h4⟩
/-- The factors of a number are told by it. -/
theorem Factors.uniq : ∀ {l m : List (Nat × Nat)} {n : Nat}, Factors n l → Factors n m → l = m := by
  intro l
  induction l with
  | nil =>
    intro m n h1 h2
    have : n = 1 := by rw [← h1.prod]; rfl
    subst this
    exact h2.one.symm
  | cons a l ih =>
    intro m n h1 h2
    cases m with
    | nil =>
      have : n = 1 := by rw [← h2.prod]; rfl
      subst this
      exact absurd h1.one (by simp)
    | cons b m =>
      have ha := h1.pr a (List.mem_cons_self ..)
      have hb := h2.pr b (List.mem_cons_self ..)
      have hab : b.1 ≤ a.1 := by
        have hd := dvd_prodPow (List.mem_cons_self (a := a) (l := l)) ha.2
        rw [h1.prod, ← h2.prod] at hd
        obtain ⟨c, hc, he⟩ := pr_dvd_prodPow ha.1 hd (fun c hc => (h2.pr c hc).1)
        rw [List.mem_cons] at hc
        rcases hc with hc | hc
        · subst hc; omega
        · have := (List.pairwise_cons.1 h2.inc).1 c hc; omega
      have hba : a.1 ≤ b.1 := by
        have hd := dvd_prodPow (List.mem_cons_self (a := b) (l := m)) hb.2
        rw [h2.prod, ← h1.prod] at hd
        obtain ⟨c, hc, he⟩ := pr_dvd_prodPow hb.1 hd (fun c hc => (h1.pr c hc).1)
        rw [List.mem_cons] at hc
        rcases hc with hc | hc
        · subst hc; omega
        · have := (List.pairwise_cons.1 h1.inc).1 c hc; omega
      have he : a.1 = b.1 := by omega
      have hp := h1.prod.trans h2.prod.symm
      simp only [prodPow] at hp
      rw [he] at hp
      have hn1 := h1.head_not
      rw [he] at hn1
      obtain ⟨h3, h4⟩ := pow_cancel (by have := hb.1.1; omega) hn1 h2.head_not hp
      have h5 := h1.tail
      rw [h4] at h5
      have h6 := ih h5 h2.tail
      rw [h6]
      congr 1
      exact Prod.ext he h3
theorem split_pow {p : Nat} (hp : 2 ≤ p) : ∀ {n : Nat}, 1 ≤ n → ∃ k m, n = p ^ k * m ∧ ¬ p ∣ m ∧ 1 ≤ m := by
  intro n
  induction n using Nat.strongRecOn with
  | _ n ih =>
    intro hn
    by_cases h : p ∣ n
    · obtain ⟨c, hc⟩ := h
      have hc1 : 1 ≤ c := by rcases Nat.eq_zero_or_pos c with h0 | h0
                             · subst h0; omega
                             · exact h0
      have hlt : c < n := by
        have : c * 2 ≤ c * p := Nat.mul_le_mul_left c hp
        rw [Nat.mul_comm c p] at this
        omega
      obtain ⟨k, m, h1, h2, h3⟩ := ih c hlt hc1
      refine ⟨k + 1, m, ?_, h2, h3⟩
      rw [hc, h1, Nat.pow_succ, Nat.mul_comm (p ^ k) p, Nat.mul_assoc]
    · exact ⟨0, n, by simp, h, hn⟩
theorem pr_divisor : ∀ {n : Nat}, 2 ≤ n → ∃ p, IsPr p ∧ p ∣ n := by
  intro n
  induction n using Nat.strongRecOn with
  | _ n ih =>
    intro hn
    by_cases h : IsPr n
    · exact ⟨n, h, Nat.dvd_refl n⟩
    · have h2 : ∃ d, 2 ≤ d ∧ d < n ∧ d ∣ n := by
        apply Classical.byContradiction
        intro hno
        exact h ⟨hn, fun d h1 h2 h3 => hno ⟨d, h1, h2, h3⟩⟩
      obtain ⟨d, h3, h4, h5⟩ := h2
      obtain ⟨p, hp, hd⟩ := ih d h4 h3
      exact ⟨p, hp, Nat.dvd_trans hd h5⟩

def insF (a : Nat × Nat) : List (Nat × Nat) → List (Nat × Nat)
  | [] => [a]
  | b :: l => if a.1 < b.1 then a :: b :: l else b :: insF a l
theorem mem_insF {a b : Nat × Nat} {l : List (Nat × Nat)} : b ∈ insF a l ↔ b = a ∨ b ∈ l := by
  induction l with
  | nil => simp [insF]
  | cons c l ih =>
    simp only [insF]
    split
    · simp
    · rw [List.mem_cons, ih, List.mem_cons]
      constructor
      · rintro (h | h | h)
        · exact .inr (.inl h)
        · exact .inl h
        · exact .inr (.inr h)
      · rintro (h | h | h)
        · exact .inr (.inl h)
        · exact .inl h
        · exact .inr (.inr h)
theorem prodPow_insF (a : Nat × Nat) (l : List (Nat × Nat)) : prodPow (insF a l) = a.1 ^ a.2 * prodPow l := by
  induction l with
  | nil => simp [insF, prodPow]
  | cons c l ih =>
    simp only [insF]
    split
    · rfl
    · simp only [prodPow]; rw [ih, Nat.mul_left_comm]
theorem insF_inc {a : Nat × Nat} {l : List (Nat × Nat)} (h : l.Pairwise (fun a b => a.1 < b.1)) (hn : ∀ b ∈ l, b.1 ≠ a.1) : (insF a l).Pairwise (fun a b => a.1 < b.1) := by
  induction l with
  | nil => simp [insF]
  | cons c l ih =>
    rw [List.pairwise_cons] at h
    simp only [insF]
    split
    · rename_i hac
      rw [List.pairwise_cons]
      refine ⟨fun b hb => ?_, List.pairwise_cons.2 h⟩
      rw [List.mem_cons] at hb
      rcases hb with hb | hb
      · subst hb; exact hac
      · have := h.1 b hb; omega
    · rename_i hac
      rw [List.pairwise_cons]
      refine ⟨fun b hb => ?_, ih h.2 fun b hb => hn b (List.mem_cons_of_mem _ hb)⟩
      rw [mem_insF] at hb
      rcases hb with hb | hb
      · subst hb
        have := hn c (List.mem_cons_self ..)
        omega
      · exact h.1 b hb
theorem Factors.ins {p k m : Nat} {l : List (Nat × Nat)} (h : Factors m l) (hp : IsPr p) (hk : 1 ≤ k) (hn : ¬ p ∣ m) : Factors (p ^ k * m) (insF (p, k) l) := by
  refine ⟨by rw [prodPow_insF, h.prod], insF_inc h.inc fun b hb he => ?_, fun a ha => ?_⟩
  · have h1 := dvd_prodPow hb (h.pr b hb).2
    rw [h.prod] at h1
    simp only at he
    rw [he] at h1
    exact hn h1
  · rw [mem_insF] at ha
    rcases ha with ha | ha
    · subst ha; exact ⟨hp, hk⟩
    · exact h.pr a ha
theorem factors_exist : ∀ {n : Nat}, 1 ≤ n → ∃ l, Factors n l := by
  intro n
  induction n using Nat.strongRecOn with
  | _ n ih =>
    intro hn
    by_cases h1 : n = 1
    · subst h1; exact ⟨[], rfl, List.Pairwise.nil, by simp⟩
    · obtain ⟨p, hp, hd⟩ := pr_divisor (show 2 ≤ n by omega)
      obtain ⟨k, m, he, hnd, hm⟩ := split_pow hp.1 hn
      have hk : 1 ≤ k := by
        rcases Nat.eq_zero_or_pos k with h0 | h0
        · subst h0; rw [Nat.pow_zero, Nat.one_mul] at he; rw [he] at hd; exact absurd hd hnd
        · exact h0
      have hlt : m < n := by
        have h2 : 2 ≤ p ^ k := Nat.le_trans hp.1 (by have := Nat.pow_le_pow_right (show 0 < p by have := hp.1; omega) hk; rwa [Nat.pow_one] at this)
        have := Nat.mul_le_mul_right m h2
        omega
      obtain ⟨l, hl⟩ := ih m hlt hm
      exact ⟨_, by rw [he]; exact hl.ins hp hk hnd⟩

/-- A value of the factors: multiplied, prime by prime. -/
def valL (g : Nat → Nat → Int) : List (Nat × Nat) → Int
  | [] => 1
  | a :: l => g a.1 a.2 * valL g l
theorem valL_insF (g : Nat → Nat → Int) (a : Nat × Nat) (l : List (Nat × Nat)) : valL g (insF a l) = g a.1 a.2 * valL g l := by
  induction l with
  | nil => rfl
  | cons c l ih =>
    simp only [insF]
    split
    · rfl
    · simp only [valL]; rw [ih, Int.mul_left_comm]
theorem valL_append (g : Nat → Nat → Int) (l m : List (Nat × Nat)) : valL g (l ++ m) = valL g l * valL g m := by
  induction l with
  | nil => simp [valL]
  | cons c l ih => simp only [List.cons_append, valL]; rw [ih, Int.mul_assoc]
noncomputable def facs (n : Nat) : List (Nat × Nat) := Classical.epsilon (Factors n)
theorem facs_spec {n : Nat} (hn : 1 ≤ n) : Factors n (facs n) := Classical.epsilon_spec (factors_exist hn)
theorem facs_eq {n : Nat} {l : List (Nat × Nat)} (h : Factors n l) : facs n = l := (facs_spec h.pos).uniq h
noncomputable def mult (g : Nat → Nat → Int) (n : Nat) : Int := valL g (facs n)
theorem mult_eq {g : Nat → Nat → Int} {n : Nat} {l : List (Nat × Nat)} (h : Factors n l) : mult g n = valL g l := by unfold mult; rw [facs_eq h]
theorem mult_one (g : Nat → Nat → Int) : mult g 1 = 1 := mult_eq (l := []) ⟨rfl, List.Pairwise.nil, by simp⟩
theorem mult_pow (g : Nat → Nat → Int) {p k m : Nat} (hp : IsPr p) (hk : 1 ≤ k) (hn : ¬ p ∣ m) (hm : 1 ≤ m) : mult g (p ^ k * m) = g p k * mult g m := by
  rw [mult_eq ((facs_spec hm).ins hp hk hn), valL_insF]; rfl
theorem mult_coprime (g : Nat → Nat → Int) : ∀ {a b : Nat}, 1 ≤ a → 1 ≤ b → Nat.gcd a b = 1 → mult g (a * b) = mult g a * mult g b := by
  intro a
  induction a using Nat.strongRecOn with
  | _ a ih =>
    intro b ha hb hg
    by_cases h1 : a = 1
    · subst h1; rw [mult_one, Nat.one_mul, Int.one_mul]
    · obtain ⟨p, hp, hd⟩ := pr_divisor (show 2 ≤ a by omega)
      obtain ⟨k, m, he, hnd, hm⟩ := split_pow hp.1 ha
      have hk : 1 ≤ k := by
        rcases Nat.eq_zero_or_pos k with h0 | h0
        · subst h0; rw [Nat.pow_zero, Nat.one_mul] at he; rw [he] at hd; exact absurd hd hnd
        · exact h0
      have hlt : m < a := by
        have h2 : 2 ≤ p ^ k := Nat.le_trans hp.1 (by have := Nat.pow_le_pow_right (show 0 < p by have := hp.1; omega) hk; rwa [Nat.pow_one] at this)
        have := Nat.mul_le_mul_right m h2
        omega
      have hpb : ¬ p ∣ b := by
        intro h
        have := Nat.dvd_gcd hd h
        rw [hg] at this
        have := Nat.le_of_dvd (by omega) this
        have := hp.1
        omega
      have hgm : Nat.gcd m b = 1 := by
        have h2 : Nat.gcd m b ∣ Nat.gcd a b := Nat.dvd_gcd (Nat.dvd_trans (Nat.gcd_dvd_left m b) (by rw [he]; exact Nat.dvd_mul_left _ _)) (Nat.gcd_dvd_right m b)
        rw [hg] at h2
        exact Nat.dvd_one.1 h2
      have hpm : ¬ p ∣ m * b := fun h => by
        rcases hp.dvd_mul h with h3 | h3
        · exact hnd h3
        · exact hpb h3
      rw [he, Nat.mul_assoc, mult_pow g hp hk hpm (Nat.mul_pos hm hb), mult_pow g hp hk hnd hm, ih m hlt hm hb hgm, Int.mul_assoc]

/-! ### Sums over divisors -/
def sumL (f : Nat → Int) (l : List Nat) : Int := (l.map f).sum
theorem sumL_nil (f : Nat → Int) : sumL f [] = 0 := rfl
theorem sumL_cons (f : Nat → Int) (a : Nat) (l : List Nat) : sumL f (a :: l) = f a + sumL f l := by simp [sumL]
theorem sumL_append (f : Nat → Int) (l m : List Nat) : sumL f (l ++ m) = sumL f l + sumL f m := by
  induction l with
  | nil => simp [sumL_nil]
  | cons a l ih => rw [List.cons_append, sumL_cons, sumL_cons, ih, Int.add_assoc]
theorem sumL_congr {f g : Nat → Int} {l : List Nat} (h : ∀ x ∈ l, f x = g x) : sumL f l = sumL g l := by
  unfold sumL; rw [List.map_congr_left h]
theorem sumL_mul (c : Int) (f : Nat → Int) (l : List Nat) : sumL (fun x => c * f x) l = c * sumL f l := by
  induction l with
  | nil => simp [sumL_nil]
  | cons a l ih => rw [sumL_cons, sumL_cons, ih, Int.mul_add]
theorem sumL_add (f g : Nat → Int) (l : List Nat) : sumL (fun x => f x + g x) l = sumL f l + sumL g l := by
  induction l with
  | nil => simp [sumL_nil]
  | cons a l ih => rw [sumL_cons, sumL_cons, sumL_cons, ih]; omega
theorem sumL_zero (l : List Nat) : sumL (fun _ => 0) l = 0 := by
  induction l with
  | nil => rfl
  | cons a l ih => rw [sumL_cons, ih]; rfl
theorem sumL_map (f : Nat → Int) (h : Nat → Nat) (l : List Nat) : sumL f (l.map h) = sumL (fun x => f (h x)) l := by simp [sumL, List.map_map, Function.comp_def]
theorem sumL_perm {f : Nat → Int} {l m : List Nat} (h : l.Perm m) : sumL f l = sumL f m := by
  induction h with
  | nil => rfl
  | cons a _ ih => rw [sumL_cons, sumL_cons, ih]
  | swap a b l => simp only [sumL_cons]; omega
  | trans _ _ ih1 ih2 => rw [ih1, ih2]
theorem sumL_filter (f : Nat → Int) (p : Nat → Bool) (l : List Nat) : sumL f (l.filter p) = sumL (fun x => if p x = true then f x else 0) l := by
  induction l with
  | nil => rfl
  | cons a l ih =>
    rw [List.filter_cons, sumL_cons, ← ih]
    by_cases h : p a = true
    · rw [if_pos h, if_pos h, sumL_cons]
    · rw [if_neg h, if_neg h, Int.zero_add]
theorem sumL_swap (h : Nat → Nat → Int) (l m : List Nat) : sumL (fun a => sumL (fun b => h a b) m) l = sumL (fun b => sumL (fun a => h a b) l) m := by
  induction l with
  | nil => simp only [sumL_nil]; rw [sumL_zero]
  | cons a l ih =>
    rw [sumL_cons, ih, ← sumL_add]
    exact sumL_congr fun b _ => (sumL_cons (fun a => h a b) a l).symm
/-- All divisors' values together. -/
def sd (f : Nat → Int) (n : Nat) : Int := sumL f (divs n)
theorem coprime_pow_dvd {p j e m : Nat} (hp : IsPr p) (hpe : ¬ p ∣ e) (h : e ∣ p ^ j * m) : e ∣ m := by
  induction j generalizing m with
  | zero => rwa [Nat.pow_zero, Nat.one_mul] at h
  | succ j ih =>
    rw [Nat.pow_succ, Nat.mul_assoc] at h
    have h2 := ih h
    have hc : Nat.gcd e p = 1 := by
      have hg : Nat.gcd e p ∣ p := Nat.gcd_dvd_right e p
      have hle := Nat.le_of_dvd (by have := hp.1; omega) hg
      by_cases h1 : Nat.gcd e p = 1
      · exact h1
      · by_cases h3 : Nat.gcd e p = p
        · exact absurd (by rw [← h3]; exact Nat.gcd_dvd_left e p) hpe
        · have h0 : 0 < Nat.gcd e p := Nat.gcd_pos_of_pos_right _ (by have := hp.1; omega)
          exact absurd hg (hp.2 _ (by omega) (by omega))
    exact Nat.Coprime.dvd_of_dvd_mul_left hc h2
theorem dvd_pow_split {p k m d : Nat} (hp : IsPr p) (hm : ¬ p ∣ m) (hd1 : 1 ≤ d) : d ∣ p ^ (k + 1) * m ↔ d ∣ p ^ k * m ∨ ∃ e, e ∣ m ∧ d = p ^ (k + 1) * e := by
  constructor
  · intro h
    obtain ⟨j, e, rfl, he, he1⟩ := split_pow hp.1 hd1
    have hem : e ∣ m := coprime_pow_dvd hp he (Nat.dvd_trans (Nat.dvd_mul_left _ _) h)
    rcases Nat.lt_trichotomy j (k + 1) with h1 | h1 | h1
    · left
      exact Nat.mul_dvd_mul (Nat.pow_dvd_pow p (by omega)) hem
    · subst h1; exact .inr ⟨e, hem, rfl⟩
    · exfalso
      have h2 : p ^ (k + 2) ∣ p ^ (k + 1) * m := Nat.dvd_trans (Nat.dvd_trans (Nat.pow_dvd_pow p (by omega)) (Nat.dvd_mul_right _ e)) h
      rw [Nat.pow_succ] at h2
      exact hm (Nat.dvd_of_mul_dvd_mul_left (Nat.pow_pos (by have := hp.1; omega)) h2)
  · rintro (h | ⟨e, he, rfl⟩)
    · exact Nat.dvd_trans h (Nat.mul_dvd_mul (Nat.pow_dvd_pow p (by omega)) (Nat.dvd_refl m))
    · exact Nat.mul_dvd_mul (Nat.dvd_refl _) he
theorem divs_nodup (n : Nat) : (divs n).Nodup := (divs_sorted n).imp (fun h => by omega)
theorem divs_pow_perm {p k m : Nat} (hp : IsPr p) (hm : ¬ p ∣ m) (h1 : 1 ≤ m) : (divs (p ^ (k + 1) * m)).Perm (divs (p ^ k * m) ++ (divs m).map fun d => p ^ (k + 1) * d) := by
  have hpp : ∀ j, 0 < p ^ j := fun j => Nat.pow_pos (by have := hp.1; omega)
  have hpos : ∀ j, 1 ≤ p ^ j * m := fun j => Nat.mul_pos (hpp j) h1
  rw [List.perm_ext_iff_of_nodup (divs_nodup _)]
  · intro d
    rw [mem_divs (hpos _), List.mem_append, mem_divs (hpos _), List.mem_map]
    constructor
    · rintro ⟨h2, h3⟩
      rcases (dvd_pow_split hp hm h2).1 h3 with h4 | ⟨e, he, rfl⟩
      · exact .inl ⟨h2, h4⟩
      · refine .inr ⟨e, (mem_divs h1).2 ⟨?_, he⟩, rfl⟩
        rcases Nat.eq_zero_or_pos e with h0 | h0
        · subst h0; omega
        · exact h0
    · rintro (⟨h2, h3⟩ | ⟨e, he, rfl⟩)
      · exact ⟨h2, (dvd_pow_split hp hm h2).2 (.inl h3)⟩
      · obtain ⟨h2, h3⟩ := (mem_divs h1).1 he
        have h4 : 1 ≤ p ^ (k + 1) * e := Nat.mul_pos (hpp _) h2
        exact ⟨h4, (dvd_pow_split hp hm h4).2 (.inr ⟨e, h3, rfl⟩)⟩
  · rw [List.nodup_append]
    refine ⟨divs_nodup _, ?_, ?_⟩
    · rw [List.nodup_iff_pairwise_ne, List.pairwise_map]
      refine (divs_sorted m).imp fun {a b} hab he => ?_
      have := Nat.eq_of_mul_eq_mul_left (hpp (k + 1)) he
      omega
    · intro a ha b hb hab
      subst hab
      rw [List.mem_map] at hb
      obtain ⟨e, he, rfl⟩ := hb
      obtain ⟨_, h3⟩ := (mem_divs (hpos _)).1 ha
      have h4 : p ^ (k + 1) ∣ p ^ k * m := Nat.dvd_trans (Nat.dvd_mul_right _ e) h3
      rw [Nat.pow_succ] at h4
      exact hm (Nat.dvd_of_mul_dvd_mul_left (hpp k) h4)
def gsum (g : Nat → Nat → Int) (p : Nat) : Nat → Int
  | 0 => 1
  | k + 1 => gsum g p k + g p (k + 1)
theorem sd_pow (g : Nat → Nat → Int) {p k m : Nat} (hp : IsPr p) (hm : ¬ p ∣ m) (h1 : 1 ≤ m) : sd (mult g) (p ^ k * m) = gsum g p k * sd (mult g) m := by
  induction k with
  | zero => rw [Nat.pow_zero, Nat.one_mul]; simp only [gsum]; rw [Int.one_mul]
  | succ k ih =>
    unfold sd at ih ⊢
    rw [sumL_perm (divs_pow_perm hp hm h1), sumL_append, ih, sumL_map]
    simp only [gsum]
    rw [Int.add_mul]
    congr 1
    rw [← sumL_mul]
    refine sumL_congr fun d hd => ?_
    obtain ⟨h2, h3⟩ := (mem_divs h1).1 hd
    exact mult_pow g hp (by omega) (fun h => hm (Nat.dvd_trans h h3)) h2

/-- EULER's function, MOEBIUS's. -/
def phiG (p k : Nat) : Int := (p : Int) ^ (k - 1) * ((p : Int) - 1)
def muG (_ k : Nat) : Int := if k = 1 then -1 else 0
noncomputable def phi (n : Nat) : Int := mult phiG n
noncomputable def mu (n : Nat) : Int := mult muG n
theorem gsum_phi (p k : Nat) : gsum phiG p k = (p : Int) ^ k := by
  induction k with
  | zero => simp [gsum]
  | succ k ih =>
    simp only [gsum, phiG, Nat.add_sub_cancel]
    rw [ih, Int.mul_sub, Int.mul_one, Int.pow_succ]; omega
theorem gsum_mu (p k : Nat) : gsum muG p (k + 1) = 0 := by
  induction k with
  | zero => simp [gsum, muG]
  | succ k ih => rw [gsum, ih]; simp [muG]
theorem sd_one (f : Nat → Int) : sd f 1 = f 1 := by simp [sd, divs, sumL, divp, List.range_succ]
/-- GAUSS. -/
theorem sd_phi : ∀ {n : Nat}, 1 ≤ n → sd phi n = n := by
  intro n
  induction n using Nat.strongRecOn with
  | _ n ih =>
    intro hn
    by_cases h1 : n = 1
    · subst h1; rw [sd_one]; exact mult_one _
    · obtain ⟨p, hp, hd⟩ := pr_divisor (show 2 ≤ n by omega)
      obtain ⟨k, m, he, hnd, hm⟩ := split_pow hp.1 hn
      have hk : 1 ≤ k := by
        rcases Nat.eq_zero_or_pos k with h0 | h0
        · subst h0; rw [Nat.pow_zero, Nat.one_mul] at he; rw [he] at hd; exact absurd hd hnd
        · exact h0
      have hlt : m < n := by
        have h2 : 2 ≤ p ^ k := Nat.le_trans hp.1 (by have := Nat.pow_le_pow_right (show 0 < p by have := hp.1; omega) hk; rwa [Nat.pow_one] at this)
        have := Nat.mul_le_mul_right m h2
        omega
      have h3 := ih m hlt hm
      unfold phi at h3 ⊢
      rw [he, sd_pow phiG hp hnd hm, h3, gsum_phi]
      push_cast
      rfl
theorem sd_mu {n : Nat} (hn : 1 ≤ n) : sd mu n = if n = 1 then 1 else 0 := by
  by_cases h1 : n = 1
  · subst h1; rw [sd_one, if_pos rfl]; exact mult_one _
  · obtain ⟨p, hp, hd⟩ := pr_divisor (show 2 ≤ n by omega)
    obtain ⟨k, m, he, hnd, hm⟩ := split_pow hp.1 hn
    have hk : 1 ≤ k := by
      rcases Nat.eq_zero_or_pos k with h0 | h0
      · subst h0; rw [Nat.pow_zero, Nat.one_mul] at he; rw [he] at hd; exact absurd hd hnd
      · exact h0
    obtain ⟨j, rfl⟩ : ∃ j, k = j + 1 := ⟨k - 1, by omega⟩
    unfold mu
    rw [if_neg h1, he, sd_pow muG hp hnd hm, gsum_mu, Int.zero_mul]
/-- The multiples of e among the divisors of n. -/
theorem divs_multiples {n e : Nat} (hn : 1 ≤ n) (he : 1 ≤ e) (hd : e ∣ n) : (divs n).filter (fun d => decide (e ∣ d)) = (divs (n / e)).map fun c => e * c := by
  obtain ⟨q, rfl⟩ := hd
  have hq : 1 ≤ q := by
    rcases Nat.eq_zero_or_pos q with h0 | h0
    · subst h0; omega
    · exact h0
  rw [Nat.mul_div_cancel_left _ (by omega : 0 < e)]
  apply sorted_ext
  · exact (divs_sorted _).filter _
  · rw [List.pairwise_map]
    exact (divs_sorted q).imp fun {a b} h => (Nat.mul_lt_mul_left (by omega)).2 h
  · intro x
    rw [List.mem_filter, mem_divs hn, List.mem_map]
    simp only [decide_eq_true_eq]
    constructor
    · rintro ⟨⟨h1, h2⟩, c, rfl⟩
      refine ⟨c, (mem_divs hq).2 ⟨?_, Nat.dvd_of_mul_dvd_mul_left (by omega) h2⟩, rfl⟩
      rcases Nat.eq_zero_or_pos c with h0 | h0
      · subst h0; omega
      · exact h0
    · rintro ⟨c, hc, rfl⟩
      obtain ⟨h1, h2⟩ := (mem_divs hq).1 hc
      exact ⟨⟨Nat.mul_pos he h1, Nat.mul_dvd_mul (Nat.dvd_refl e) h2⟩, Nat.dvd_mul_right _ _⟩
/-- MOEBIUS's inversion. -/
theorem moebius_inv (f : Nat → Int) {n : Nat} (hn : 1 ≤ n) : sd (fun d => sd (fun e => f e * mu (d / e)) d) n = f n := by
  have e1 : sd (fun d => sd (fun e => f e * mu (d / e)) d) n = sumL (fun d => sumL (fun e => if decide (e ∣ d) = true then f e * mu (d / e) else 0) (divs n)) (divs n) := by
    unfold sd
    refine sumL_congr fun d hd => ?_
    obtain ⟨h1, h2⟩ := (mem_divs hn).1 hd
    rw [← sumL_filter]
    congr 1
    apply sorted_ext (divs_sorted d) ((divs_sorted n).filter _)
    intro x
    rw [List.mem_filter, mem_divs h1, mem_divs hn]
    simp only [decide_eq_true_eq]
    exact ⟨fun ⟨a, b⟩ => ⟨⟨a, Nat.dvd_trans b h2⟩, b⟩, fun ⟨⟨a, _⟩, b⟩ => ⟨a, b⟩⟩
  rw [e1, sumL_swap]
  have e2 : sumL (fun e => sumL (fun d => if decide (e ∣ d) = true then f e * mu (d / e) else 0) (divs n)) (divs n) = sumL (fun e => if decide (e = n) = true then f n else 0) (divs n) := by
    refine sumL_congr fun e he => ?_
    obtain ⟨h1, h2⟩ := (mem_divs hn).1 he
    rw [← sumL_filter, divs_multiples hn h1 h2, sumL_map]
    have e3 : sumL (fun c => f e * mu (e * c / e)) (divs (n / e)) = sumL (fun c => f e * mu c) (divs (n / e)) := sumL_congr fun c _ => by rw [Nat.mul_div_cancel_left _ (by omega : 0 < e)]
    have hq : 1 ≤ n / e := Nat.div_pos (Nat.le_of_dvd (by omega) h2) (by omega)
    rw [e3, sumL_mul]
    have h3 := sd_mu hq
    unfold sd at h3
    rw [h3]
    by_cases h4 : e = n
    · subst h4; rw [Nat.div_self (by omega)]; simp
    · have h5 : n / e ≠ 1 := by
        intro h6
        have := Nat.div_mul_cancel h2
        rw [h6] at this; omega
      simp [h4, h5]
  rw [e2, ← sumL_filter]
  have e4 : (divs n).filter (fun e => decide (e = n)) = [n] := by
    apply sorted_ext ((divs_sorted n).filter _) (by simp)
    intro x
    rw [List.mem_filter, mem_divs hn]
    simp only [decide_eq_true_eq, List.mem_singleton]
    exact ⟨fun h => h.2, fun h => ⟨⟨by omega, by rw [h]; exact Nat.dvd_refl n⟩, h⟩⟩
  rw [e4]
  simp [sumL]
end Go.Proofs.Ytgdcmebhopjfaaa
namespace Go.Proofs.Ytgdcmebhopjfaaa

theorem dvd_lcm_gcd {a b d : Nat} (h : d ∣ Nat.lcm a b) : d ∣ Nat.lcm (Nat.gcd a d) (Nat.gcd b d) := by
  by_cases hg0 : Nat.gcd (Nat.gcd a d) (Nat.gcd b d) = 0
  · have h1 : Nat.gcd a d = 0 := Nat.eq_zero_of_gcd_eq_zero_left hg0
    have h2 : d = 0 := Nat.eq_zero_of_gcd_eq_zero_right h1
    subst h2
    have h3 : Nat.lcm a b = 0 := Nat.eq_zero_of_zero_dvd h
    have h4 : a = 0 := by simpa using h1
    subst h4; simp
  · have hp : 0 < Nat.gcd (Nat.gcd a d) (Nat.gcd b d) := by omega
    obtain ⟨g, hg⟩ : ∃ g, Nat.gcd (Nat.gcd a d) (Nat.gcd b d) = g := ⟨_, rfl⟩
    have hga : g ∣ a := by rw [← hg]; exact Nat.dvd_trans (Nat.gcd_dvd_left _ _) (Nat.gcd_dvd_left _ _)
    have hgb : g ∣ b := by rw [← hg]; exact Nat.dvd_trans (Nat.gcd_dvd_right _ _) (Nat.gcd_dvd_left _ _)
    have hgad : g ∣ Nat.gcd a d := by rw [← hg]; exact Nat.gcd_dvd_left _ _
    have hab : d * g ∣ a * b := by
      have h1 : d * g ∣ Nat.lcm a b * Nat.gcd a b := Nat.mul_dvd_mul h (Nat.dvd_gcd hga hgb)
      rwa [Nat.mul_comm (Nat.lcm a b), Nat.gcd_mul_lcm] at h1
    have h2 : d * g ∣ Nat.gcd a d * Nat.gcd b d := by
      rw [← Nat.gcd_mul_left]
      refine Nat.dvd_gcd ?_ ?_
      · rw [← Nat.gcd_mul_right]
        exact Nat.dvd_gcd hab (Nat.mul_dvd_mul (Nat.dvd_refl d) hgb)
      · rw [Nat.mul_comm]; exact Nat.mul_dvd_mul hgad (Nat.dvd_refl d)
    rw [← Nat.gcd_mul_lcm (Nat.gcd a d), hg, Nat.mul_comm g] at h2
    exact Nat.dvd_of_mul_dvd_mul_right (by omega) h2
/-- What is told modulo what a, and b, have in common with M, is told of their lcm. -/
theorem gcd_lcm_dvd {a b M : Nat} {z : Int} (ha : (Nat.gcd a M : Int) ∣ z) (hb : (Nat.gcd b M : Int) ∣ z) : (Nat.gcd (Nat.lcm a b) M : Int) ∣ z := by
  rw [← Int.dvd_natAbs, Int.natCast_dvd_natCast] at ha hb ⊢
  have h1 := dvd_lcm_gcd (a := a) (b := b) (d := Nat.gcd (Nat.lcm a b) M) (Nat.gcd_dvd_left _ _)
  refine Nat.dvd_trans h1 (Nat.lcm_dvd ?_ ?_)
  · exact Nat.dvd_trans (Nat.dvd_gcd (Nat.gcd_dvd_left _ _) (Nat.dvd_trans (Nat.gcd_dvd_right _ _) (Nat.gcd_dvd_right _ _))) ha
  · exact Nat.dvd_trans (Nat.dvd_gcd (Nat.gcd_dvd_left _ _) (Nat.dvd_trans (Nat.gcd_dvd_right _ _) (Nat.gcd_dvd_right _ _))) hb

/-- The lcm of all moduli, from the left. A pair: what is left, the modulus. -/
def lcmF (l : List (Nat × Nat)) : Nat := l.foldl (fun m a => Nat.lcm m a.2) 1
theorem lcmF_nil : lcmF [] = 1 := rfl
theorem lcmF_snoc (l : List (Nat × Nat)) (a : Nat × Nat) : lcmF (l ++ [a]) = Nat.lcm (lcmF l) a.2 := by simp [lcmF, List.foldl_append]
theorem foldl_lcm_dvd (l : List (Nat × Nat)) (m : Nat) : m ∣ l.foldl (fun m a => Nat.lcm m a.2) m ∧ ∀ a ∈ l, a.2 ∣ l.foldl (fun m a => Nat.lcm m a.2) m := by
  induction l generalizing m with
  | nil => exact ⟨Nat.dvd_refl m, by simp⟩
  | cons b l ih =>
    obtain ⟨h1, h2⟩ := ih (Nat.lcm m b.2)
    refine ⟨Nat.dvd_trans (Nat.dvd_lcm_left _ _) h1, fun a ha => ?_⟩
    rw [List.mem_cons] at ha
    rcases ha with ha | ha
    · subst ha; exact Nat.dvd_trans (Nat.dvd_lcm_right _ _) h1
    · exact h2 a ha
theorem lcmF_dvd {l : List (Nat × Nat)} {a : Nat × Nat} (h : a ∈ l) : a.2 ∣ lcmF l := (foldl_lcm_dvd l 1).2 a h
theorem foldl_lcm_gcd {M : Nat} {z : Int} (l : List (Nat × Nat)) : ∀ (m : Nat), (Nat.gcd m M : Int) ∣ z → (∀ a ∈ l, (Nat.gcd a.2 M : Int) ∣ z) → (Nat.gcd (l.foldl (fun m a => Nat.lcm m a.2) m) M : Int) ∣ z := by
  induction l with
  | nil => intro m hm _; exact hm
  | cons b l ih =>
    intro m hm h
    exact ih _ (gcd_lcm_dvd hm (h b (List.mem_cons_self ..))) fun a ha => h a (List.mem_cons_of_mem _ ha)
theorem lcmF_gcd {M : Nat} {z : Int} (l : List (Nat × Nat)) (h : ∀ a ∈ l, (Nat.gcd a.2 M : Int) ∣ z) : (Nat.gcd (lcmF l) M : Int) ∣ z :=
  foldl_lcm_gcd l 1 (by simp) h
/-- What has been joined: n, modulo m. -/
structure Sys (l : List (Nat × Nat)) (n m : Nat) : Prop where
  mod : m = lcmF l
  lt : n < m
  res : ∀ a ∈ l, n % a.2 = a.1
theorem Sys.start : Sys [] 0 1 := ⟨rfl, by omega, by simp⟩
theorem mod_dvd {n R M : Nat} (h : n % M = R) : (M : Int) ∣ (R : Int) - n := by
  have h2 := Nat.div_add_mod n M
  rw [h] at h2
  refine ⟨-((n / M : Nat) : Int), ?_⟩
  have h3 : (n : Int) = (M : Int) * ((n / M : Nat) : Int) + R := by exact_mod_cast h2.symm
  rw [Int.mul_neg]; omega
theorem dvd_mod {n R M : Nat} (hR : R < M) (h : (M : Int) ∣ (R : Int) - n) : n % M = R := by
  have h1 : (R : Int) % M = (n : Int) % M := Int.emod_eq_emod_iff_emod_sub_eq_zero.2 (Int.emod_eq_zero_of_dvd h)
  have h2 : (R : Int) % M = R := Int.emod_eq_of_lt (by omega) (by omega)
  rw [h2] at h1
  have h3 : ((n % M : Nat) : Int) = (n : Int) % M := by push_cast; rfl
  omega
theorem crt_gcd {l : List (Nat × Nat)} {n m R M : Nat} (h : Sys l n m) (hc : ∀ a ∈ l, (Nat.gcd a.2 M : Int) ∣ (R : Int) - a.1) : (Nat.gcd m M : Int) ∣ (R : Int) - n := by
  rw [h.mod]
  apply lcmF_gcd
  intro a ha
  have h1 := mod_dvd (h.res a ha)
  have h2 : (Nat.gcd a.2 M : Int) ∣ (a.1 : Int) - n := Int.dvd_trans (Int.natCast_dvd_natCast.2 (Nat.gcd_dvd_left _ _)) h1
  have h3 := Int.dvd_add (hc a ha) h2
  have e : (R : Int) - a.1 + (a.1 - n) = R - n := by omega
  rwa [e] at h3
theorem crt_step {n m R M : Nat} (hM : 1 ≤ M) (hR : R < M) (hd : (Nat.gcd m M : Int) ∣ (R : Int) - n) : ∃ k, k < M / Nat.gcd m M ∧ (n + k * m) % M = R := by
  obtain ⟨g, hg⟩ : ∃ g, Nat.gcd m M = g := ⟨_, rfl⟩
  rw [hg] at hd ⊢
  have hgp : 0 < g := by rw [← hg]; exact Nat.gcd_pos_of_pos_right _ (by omega)
  have hgM : g ∣ M := by rw [← hg]; exact Nat.gcd_dvd_right _ _
  have hgm : g ∣ m := by rw [← hg]; exact Nat.gcd_dvd_left _ _
  obtain ⟨q, hq⟩ := hgM
  obtain ⟨r, hr⟩ := hgm
  have hMq : M / g = q := by rw [hq, Nat.mul_div_cancel_left _ hgp]
  have hq1 : 1 ≤ q := by rcases Nat.eq_zero_or_pos q with h0 | h0
                         · subst h0; omega
                         · exact h0
  obtain ⟨t, ht⟩ := hd
  obtain ⟨_, _, hb⟩ := bez_law (m : Int) (M : Int) (by omega)
  have hgI : gI (m : Int) (M : Int) = g := by unfold gI; rw [Int.gcd_natCast_natCast, hg]
  rw [hgI] at hb
  rw [hMq]
  obtain ⟨x, hx⟩ : ∃ x, bezX (m : Int) M = x := ⟨_, rfl⟩
  obtain ⟨y, hy⟩ : ∃ y, bezY (m : Int) M = y := ⟨_, rfl⟩
  rw [hx, hy] at hb
  have hk0 : 0 ≤ (x * t) % q := Int.emod_nonneg _ (by omega)
  have hk1 : (x * t) % q < q := Int.emod_lt_of_pos _ (by omega)
  obtain ⟨k, hk⟩ : ∃ k : Nat, (k : Int) = (x * t) % q := ⟨((x * t) % q).toNat, by omega⟩
  refine ⟨k, by omega, dvd_mod hR ?_⟩
  -- k = x t - q s
  have h1 := Int.emod_add_mul_ediv (x * t) q
  obtain ⟨s, hs⟩ : ∃ s, x * t / (q : Int) = s := ⟨_, rfl⟩
  rw [hs, ← hk] at h1
  have hmq : (m : Int) * q = (M : Int) * r := by
    have : m * q = M * r := by rw [hr, hq, Nat.mul_assoc, Nat.mul_assoc, Nat.mul_comm r q]
    exact_mod_cast this
  refine ⟨y * t + r * s, ?_⟩
  have e1 : (R : Int) = n + g * t := by omega
  have e2 : (k : Int) = x * t - q * s := by omega
  push_cast
  rw [e1, e2, ← hb, Int.sub_mul, Int.add_mul, Int.mul_add]
  have e3 : x * t * m = x * m * t := by rw [Int.mul_right_comm]
  have e4 : (q : Int) * s * m = (M : Int) * (r * s) := by rw [Int.mul_right_comm, Int.mul_comm (q : Int) m, hmq, Int.mul_assoc]
  have e5 : y * (M : Int) * t = M * (y * t) := by rw [Int.mul_comm y, Int.mul_assoc]
  rw [e3, e4, e5]; omega
theorem crt_conv {n m k R M : Nat} (h : (n + k * m) % M = R) : (Nat.gcd m M : Int) ∣ (R : Int) - n := by
  have h1 := mod_dvd h
  have h2 : (Nat.gcd m M : Int) ∣ (R : Int) - ((n + k * m : Nat) : Int) := Int.dvd_trans (Int.natCast_dvd_natCast.2 (Nat.gcd_dvd_right _ _)) h1
  have h3 : (Nat.gcd m M : Int) ∣ ((k * m : Nat) : Int) := Int.natCast_dvd_natCast.2 (Nat.dvd_trans (Nat.gcd_dvd_left _ _) (Nat.dvd_mul_left _ _))
  have h4 := Int.dvd_add h2 h3
  have e : (R : Int) - ((n + k * m : Nat) : Int) + ((k * m : Nat) : Int) = R - n := by push_cast; omega
  rwa [e] at h4
theorem lcm_quo (m M : Nat) : m * (M / Nat.gcd m M) = Nat.lcm m M := by
  unfold Nat.lcm
  rw [Nat.mul_div_assoc _ (Nat.gcd_dvd_right m M)]
theorem lcm_quo' (m M : Nat) : m / Nat.gcd m M * M = Nat.lcm m M := by
  unfold Nat.lcm
  rw [Nat.div_mul_right_comm (Nat.gcd_dvd_left m M)]
theorem Sys.step {l : List (Nat × Nat)} {n m k R M : Nat} (h : Sys l n m) (hk : k < M / Nat.gcd m M) (he : (n + k * m) % M = R) : Sys (l ++ [(R, M)]) (n + k * m) (m * (M / Nat.gcd m M)) := by
  refine ⟨by rw [lcmF_snoc, ← h.mod, lcm_quo], ?_, fun a ha => ?_⟩
  · have h1 := h.lt
    have h2 : (k + 1) * m ≤ (M / Nat.gcd m M) * m := Nat.mul_le_mul_right m hk
    rw [Nat.add_mul, Nat.one_mul] at h2
    rw [Nat.mul_comm m]
    omega
  · rw [List.mem_append] at ha
    rcases ha with ha | ha
    · have h1 : a.2 ∣ k * m := Nat.dvd_trans (by rw [h.mod]; exact lcmF_dvd ha) (Nat.dvd_mul_left _ _)
      obtain ⟨c, hc⟩ := h1
      rw [hc, Nat.add_mul_mod_self_left]
      exact h.res a ha
    · simp at ha; subst ha; exact he
/-- Two of the congruences are at odds. -/
def odds (a b : Nat × Nat) : Prop := ¬ (Nat.gcd a.2 b.2 : Int) ∣ (a.1 : Int) - b.1
theorem Sys.agree {l : List (Nat × Nat)} {n m : Nat} (h : Sys l n m) {a b : Nat × Nat} (ha : a ∈ l) (hb : b ∈ l) : (Nat.gcd a.2 b.2 : Int) ∣ (a.1 : Int) - b.1 := by
  have h1 : (Nat.gcd a.2 b.2 : Int) ∣ (a.1 : Int) - n := Int.dvd_trans (Int.natCast_dvd_natCast.2 (Nat.gcd_dvd_left _ _)) (mod_dvd (h.res a ha))
  have h2 : (Nat.gcd a.2 b.2 : Int) ∣ (b.1 : Int) - n := Int.dvd_trans (Int.natCast_dvd_natCast.2 (Nat.gcd_dvd_right _ _)) (mod_dvd (h.res b hb))
  have h3 := Int.dvd_sub h1 h2
  have e : (a.1 : Int) - n - (b.1 - n) = a.1 - b.1 := by omega
  rwa [e] at h3
end Go.Proofs.Ytgdcmebhopjfaaa
namespace Go.Proofs.Ytgdcmebhopjfaaa

theorem phi_mul {a b : Nat} (ha : 1 ≤ a) (hb : 1 ≤ b) (h : Nat.gcd a b = 1) : phi (a * b) = phi a * phi b := mult_coprime phiG ha hb h
/-- One step of the loop: n / P * (P - 1). -/
theorem phi_step {c P M : Nat} {V : Int} {R : Nat} (hP : 1 ≤ P) (h : (c : Int) = V * ((P ^ (M + 1) * R : Nat) : Int)) : ((c / P * (P - 1) : Nat) : Int) = V * phiG P (M + 1) * (R : Int) := by
  have e1 : (c : Int) = (P : Int) * (V * ((P ^ M * R : Nat) : Int)) := by
    rw [h, Nat.pow_succ]
    push_cast
    rw [Int.mul_left_comm (P : Int) V]
    congr 1
    rw [Int.mul_comm ((P : Int) ^ M) (P : Int), Int.mul_assoc]
  have e2 : ((c / P : Nat) : Int) = V * ((P ^ M * R : Nat) : Int) := by
    have : ((c / P : Nat) : Int) = (c : Int) / (P : Int) := by push_cast; rfl
    rw [this, e1, Int.mul_ediv_cancel_left _ (by omega)]
  have e3 : ((c / P * (P - 1) : Nat) : Int) = ((c / P : Nat) : Int) * ((P : Int) - 1) := by rw [show (P : Int) - 1 = ((P - 1 : Nat) : Int) by omega]; push_cast; rfl
  rw [e3, e2]
  unfold phiG
  rw [Nat.add_sub_cancel]
  have e4 : ((P ^ M * R : Nat) : Int) = (P : Int) ^ M * (R : Int) := by push_cast; rfl
  rw [e4, Int.mul_assoc V, Int.mul_assoc V, Int.mul_assoc, Int.mul_assoc, Int.mul_comm (R : Int)]
theorem phi_le (c P : Nat) : c / P * (P - 1) ≤ c := Nat.le_trans (Nat.mul_le_mul_left _ (Nat.sub_le _ _)) (Nat.div_mul_le_self c P)

/-- A number that has nothing in common with a product has nothing in common with its parts. -/
theorem gcd_prod {a m n : Nat} : Nat.gcd a (m * n) = 1 ↔ Nat.gcd a m = 1 ∧ Nat.gcd a n = 1 := by
  constructor
  · intro h
    exact ⟨Nat.eq_one_of_dvd_one (by rw [← h]; exact Nat.dvd_gcd (Nat.gcd_dvd_left _ _) (Nat.dvd_trans (Nat.gcd_dvd_right _ _) (Nat.dvd_mul_right _ _))),
      Nat.eq_one_of_dvd_one (by rw [← h]; exact Nat.dvd_gcd (Nat.gcd_dvd_left _ _) (Nat.dvd_trans (Nat.gcd_dvd_right _ _) (Nat.dvd_mul_left _ _)))⟩
  · rintro ⟨h1, h2⟩
    exact Nat.Coprime.mul_right h1 h2
theorem gcd_em (a : Int) (m : Nat) : Int.gcd (a % (m : Int)) (m : Int) = Int.gcd a (m : Int) := by
  apply Nat.dvd_antisymm
  · refine Int.dvd_gcd ?_ (Int.gcd_dvd_right _ _)
    have h1 := Int.gcd_dvd_left (a % (m:Int)) (m:Int)
    have h2 := Int.gcd_dvd_right (a % (m:Int)) (m:Int)
    have h3 := Int.dvd_add h1 (Int.dvd_trans h2 (Int.dvd_mul_right (m : Int) (a / (m : Int))))
    rwa [Int.emod_add_mul_ediv] at h3
  · refine Int.dvd_gcd ?_ (Int.gcd_dvd_right _ _)
    rw [Int.emod_def]
    exact Int.dvd_sub (Int.gcd_dvd_left _ _) (Int.dvd_trans (Int.gcd_dvd_right _ _) (Int.dvd_mul_right _ _))
/-- Congruent modulo both, congruent modulo the product. -/
theorem uniq2 {m n z x : Nat} (h : Nat.gcd m n = 1) (hz : z < m * n) (hx : x < m * n) (h1 : z % m = x % m) (h2 : z % n = x % n) : z = x := by
  have a1 : (m : Int) ∣ (z : Int) - x := by
    have : ((z : Int) - x) % m = 0 := Int.emod_eq_emod_iff_emod_sub_eq_zero.1 (by exact_mod_cast h1)
    exact Int.dvd_of_emod_eq_zero this
  have a2 : (n : Int) ∣ (z : Int) - x := by
    have : ((z : Int) - x) % n = 0 := Int.emod_eq_emod_iff_emod_sub_eq_zero.1 (by exact_mod_cast h2)
    exact Int.dvd_of_emod_eq_zero this
  have b1 : m ∣ ((z : Int) - x).natAbs := by rw [← Int.natCast_dvd_natCast, Int.dvd_natAbs]; exact a1
  have b2 : n ∣ ((z : Int) - x).natAbs := by rw [← Int.natCast_dvd_natCast, Int.dvd_natAbs]; exact a2
  have b3 : m * n ∣ ((z : Int) - x).natAbs := Nat.Coprime.mul_dvd_of_dvd_of_dvd h b1 b2
  have b4 : ((z : Int) - x).natAbs < m * n := by omega
  have := Nat.eq_zero_of_dvd_of_lt b3 b4
  omega
/-- An inverse modulo a product is one modulo its parts, and there is but one. -/
theorem inv_uniq {a : Int} {m : Nat} {x y : Int} (hx : x * a % m = 1 % m) (hy : y * a % m = 1 % m) : x % m = y % m := by
  have h1 : x * (y * a) % m = x % m := by rw [Int.mul_emod, hy, ← Int.mul_emod, Int.mul_one]
  have h2 : y * (x * a) % m = y % m := by rw [Int.mul_emod, hx, ← Int.mul_emod, Int.mul_one]
  rw [← h1, ← h2]
  congr 1
  rw [Int.mul_left_comm]
theorem inv_part {a z : Int} {m n : Nat} (h : z * a % ((m * n : Nat) : Int) = 1 % ((m * n : Nat) : Int)) : z * a % m = 1 % m := by
  have h1 : z * a % ((m * n : Nat) : Int) % (m : Int) = 1 % ((m * n : Nat) : Int) % (m : Int) := by rw [h]
  have hd : (m : Int) ∣ ((m * n : Nat) : Int) := ⟨n, by push_cast; rfl⟩
  rwa [Int.emod_emod_of_dvd _ hd, Int.emod_emod_of_dvd _ hd] at h1
theorem gI_a (a : Int) (m : Nat) : gI (a % (m : Int)) (m : Int) = ((Nat.gcd a.natAbs m : Nat) : Int) := by
  unfold gI
  rw [gcd_em]; rfl
end Go.Proofs.Ytgdcmebhopjfaaa
namespace Go.Proofs.Ytgdcmebhopjfaaa
open Go.RowKit

theorem gI_prime {p l : Int} (hp : IsPr p.toNat) (h0 : 0 < l) (h1 : l < p) : gI (l % p) p = 1 := by
  obtain ⟨n, rfl⟩ : ∃ n : Nat, p = n := ⟨p.toNat, by omega⟩
  rw [Int.toNat_natCast] at hp
  rw [gI_a]
  have hd1 := Nat.gcd_dvd_left l.natAbs n
  have hd2 := Nat.gcd_dvd_right l.natAbs n
  have hle := Nat.le_of_dvd (by omega) hd1
  have hpos : 0 < Nat.gcd l.natAbs n := Nat.gcd_pos_of_pos_left _ (by omega)
  rcases Nat.lt_or_ge (Nat.gcd l.natAbs n) 2 with h | h
  · have : Nat.gcd l.natAbs n = 1 := by omega
    rw [this]; rfl
  · exact absurd hd2 (hp.2 _ h (by omega))
theorem inv_of {p : Int} {g : List Int} (OG : PolOk p g) (hn : 0 < g.length) : ∃ inv, bezX (co g (g.length - 1) % p) p = inv ∧ 0 ≤ inv ∧ inv < p ∧ inv * co g (g.length - 1) % p = 1 ∧ gI (co g (g.length - 1) % p) p = 1 := by
  have h1 := OG.p1
  have hb := OG.inF.co (by omega) (g.length - 1)
  have hne : co g (g.length - 1) ≠ 0 := by
    rcases OG.trm with h | h
    · omega
    · exact h
  have hg := gI_prime OG.pr (show 0 < co g (g.length - 1) by omega) hb.2
  obtain ⟨b1, b2, b3⟩ := bez_inv (show 1 ≤ p by omega) hg
  refine ⟨_, rfl, b1, b2, ?_, hg⟩
  generalize bezX (co g (g.length - 1) % p) p = x at b3 ⊢
  rw [Int.emod_eq_of_lt hb.1 hb.2] at b3
  rw [b3]
  exact Int.emod_eq_of_lt (by omega) (by omega)
theorem divOk_of {p inv : Int} {f g : List Int} (OF : PolOk p f) (OG : PolOk p g) (hn : 0 < g.length) (hi : inv * co g (g.length - 1) % p = 1) : DivOk p inv g f := ⟨by have := OF.p1; omega, OF.inF, OG.inF, hn, hi⟩
def Div3Post (p inv : Int) (f g : List Int) (w : World) (e : Ending) (w' : World) : Prop :=
  ∃ q r vq vr, (Trm q ∧ ∀ k, co q k = quo p inv g f k) ∧ (Trm r ∧ ∀ k, co r k = rdn p inv g (co f) (KOf f g) (KOf f g) k) ∧ Below w.heap.size w w' ∧ e = .returned (.tuple #[vq, vr, .int .i64 0]) ∧
    w'.ownsRow w.heap.size 3 1 vq q.length (q.map (Value.int .i64)) ∧ w'.ownsRow w.heap.size 3 1 vr r.length (r.map (Value.int .i64))
theorem tlen_take_succ (zs : List Int) (k : Nat) : tlen (zs.take (k + 1)) = if co zs k = 0 then tlen (zs.take k) else k + 1 := by
  split
  · rename_i h
    refine tlen_ext fun i => ?_
    rw [co_take, co_take]
    by_cases h1 : i < k
    · rw [if_pos (by omega), if_pos h1]
    · rw [if_neg h1]
      by_cases h2 : i < k + 1
      · rw [if_pos h2, show i = k by omega, h]
      · rw [if_neg h2]
  · rename_i h
    have h1 : k < tlen (zs.take (k + 1)) := tlen_gt_of (by rw [co_take, if_pos (by omega)]; exact h)
    have h2 : tlen (zs.take (k + 1)) ≤ k + 1 := tlen_le_of fun i hi => by rw [co_take, if_neg (by omega)]
    omega
set_option maxRecDepth 20000 in
set_option maxHeartbeats 1000000 in
theorem ref_Short (zs : List Int) (n : Nat) (ao : Option Addr) (cap base : Nat) (w : World) (hn : n ≤ 1000000000) (hl : zs.length = n) (hc : n ≤ cap) (hc2 : cap ≤ 9223372036854775807) (hnone : ao = none → n = 0 ∧ cap = 0) (hR : Hid (Reads w ao (zs.map (Value.int .i64)))) (hb : base ≤ w.heap.size) :
    Calls Try.prog 22 #[.slice ao n cap] w (ListPost base (trim zs) w) := by
  have HL := Lib.hid hl
  have HN := Lib.hid hnone
  have HB := Lib.hid hb
  clear hl hnone hb
  go_enter Try.func22, Try.ntmps22
  go_wp2_with fail
  go_loop [3, 8] (fun vt vi => ∃ k t : Nat, vi = .int .i64 k ∧ k ≤ n ∧ vt = .int .i64 t ∧ t ≤ k ∧ Hid (t = tlen (zs.take k))) (fun _ vi => n - (intOf vi).toNat)
  case atStart => exact ⟨0, 0, rfl, by omega, rfl, by omega, by show _ = _; rw [List.take_zero]; rfl⟩
  case round =>
    obtain ⟨k, t, rfl, hk, rfl, htk, ht⟩ := hrel
    by_cases hkn : k < n
    · obtain ⟨x, hx⟩ : ∃ x, co zs k = x := ⟨_, rfl⟩
      obtain ⟨b, o, rfl, hcx⟩ := hR.out k (.int .i64 x) (by rw [List.getElem?_map, co_some (by rw [HL.out]; omega), hx]; rfl)
      cases hz : (x != 0) with
      | true =>
        have ht2 : Hid (k + 1 = tlen (zs.take (k + 1))) := by show _ = _; rw [tlen_take_succ, if_neg (by rw [hx]; simpa using hz)]
        clear hx
        go_wp2_with fail
        go_round
        case rel => exact ⟨k + 1, k + 1, by go_num, by omega, by go_num, by omega, ht2⟩
        case measure => simp [intOf]; omega
      | false =>
        have ht2 : Hid (t = tlen (zs.take (k + 1))) := by show _ = _; rw [tlen_take_succ, if_pos (by rw [hx]; simpa using hz)]; exact ht.out
        clear hx
        go_wp2_with fail
        go_round
        case rel => exact ⟨k + 1, t, by go_num, by omega, rfl, by omega, ht2⟩
        case measure => simp [intOf]; omega
    · have hfin : Hid (t = tlen zs) := by
        show _ = _
        rw [ht.out, List.take_of_length_le (by rw [HL.out]; omega)]
      have hR2 : Hid (Reads w ao ((trim zs).map (Value.int .i64))) := reads_take hR.out _
      have hl2 : (trim zs).length = t := by rw [length_trim, hfin.out]
      have HN2 : Hid (ao = none → t = 0 ∧ cap = 0) := fun h => ⟨by have := (HN.out h).1; omega, (HN.out h).2⟩
      have t0 : (0 : Int) ≤ t := by omega
      have t1 : (t : Int) ≤ cap := by omega
      have t2 : t ≤ cap := by omega
      have htn : t ≤ n := by omega
      have hkk : k = n := by omega
      subst hkk
      go_wp2_with (go_at_call 91; refine (clone_int (trim zs) t ao cap base _ (by omega) hl2 HN2.out hR2 HB.out).mono ?_; rintro e w' ⟨v, rfl, hv⟩)
      go_ret
      exact ⟨v, rfl, hv⟩
end Go.Proofs.Ytgdcmebhopjfaaa
namespace Go.Proofs.Ytgdcmebhopjfaaa
open Go.RowKit

theorem heap_cell {W : World} {B : Nat} {cs : Array Value} {t : TypeId} {fr : Nat × Nat} (h : W.heap[B]? = some (.cells cs t fr)) (j : Nat) : W.cell? ⟨B, j, none⟩ = cs[j]? := cell_of_row W B j cs t fr h
theorem heap_frozen {W : World} {B : Nat} {cs : Array Value} {t : TypeId} (h : W.heap[B]? = some (.cells cs t (0, 0))) (j : Nat) : W.frozen? ⟨B, j, none⟩ = false := by simp [World.frozen?, h]
theorem heap_set {W : World} {B j : Nat} {cs : Array Value} {t : TypeId} {fr : Nat × Nat} (v : Value) (h : W.heap[B]? = some (.cells cs t fr)) : (W.setCell ⟨B, j, none⟩ v).heap[B]? = some (.cells (cs.setIfInBounds j v) t fr) := by
  obtain ⟨hlt, hk⟩ := Array.getElem?_eq_some_iff.1 h
  show (W.heap.modify B _)[B]? = _
  rw [Array.getElem?_eq_getElem (by rw [Array.size_modify]; exact hlt), Array.getElem_modify_self, hk]
  rfl
theorem heap_set_far {W : World} {B B' j : Nat} (v : Value) (hne : B ≠ B') : (W.setCell ⟨B, j, none⟩ v).heap[B']? = W.heap[B']? := Below.heap_setCell _ _ _ B' (fun e => hne e.symm)
theorem below_set {n₀ B j : Nat} {A W : World} (h : Below n₀ A W) (hB : n₀ ≤ B) (v : Value) : Below n₀ A (W.setCell ⟨B, j, none⟩ v) := h.setCell (p := ⟨B, j, none⟩) hB v
end Go.Proofs.Ytgdcmebhopjfaaa
namespace Go.Proofs.Ytgdcmebhopjfaaa
open Go.RowKit Go.Maps

def badP (p : Int) (z : Int × Int) : Bool := decide (z.1 < 0) || (decide (p ≤ z.1) || (decide (z.2 < 0) || decide (p ≤ z.2)))
def dupP (l : Pts) (i : Nat) (x : Int) : Bool := (l.take i).any fun y => y.1 == x
def ptsI (p : Int) (l : Pts) : Nat → Nat → Int
  | 0, _ => 0
  | n + 1, i => match l[i]? with
    | none => 0
    | some z => if badP p z = true then 1 else if dupP l i z.1 = true then 6 else ptsI p l n (i + 1)
noncomputable def ptsE (p : Int) (l : Pts) : Int := if fldE p = 1 then 1 else if 12 < l.length then 2 else ptsI p l l.length 0
theorem ptsI_step {p : Int} {l : Pts} {i : Nat} {z : Int × Int} (hz : l[i]? = some z) : ptsI p l (l.length - i) i = if badP p z = true then 1 else if dupP l i z.1 = true then 6 else ptsI p l (l.length - (i + 1)) (i + 1) := by
  have hi := (List.getElem?_eq_some_iff.1 hz).1
  obtain ⟨n, hn⟩ : ∃ n, l.length - i = n + 1 := ⟨l.length - i - 1, by omega⟩
  rw [hn, show l.length - (i + 1) = n by omega]
  rw [ptsI, hz]
theorem ptsI_end (p : Int) (l : Pts) : ptsI p l (l.length - l.length) l.length = 0 := by rw [Nat.sub_self]; rfl
/-- Points that pass. -/
structure PtsOk (p : Int) (l : Pts) : Prop where
  p1 : 2 ≤ p
  p2 : p ≤ 997
  pr : IsPr p.toNat
  len : l.length ≤ 12
  bd : ∀ (i : Nat) (z : Int × Int), l[i]? = some z → 0 ≤ z.1 ∧ z.1 < p ∧ 0 ≤ z.2 ∧ z.2 < p
  ne : ∀ (i j : Nat) (z y : Int × Int), j < i → l[i]? = some z → l[j]? = some y → y.1 ≠ z.1
theorem badP_false {p : Int} {z : Int × Int} (h : badP p z = false) : 0 ≤ z.1 ∧ z.1 < p ∧ 0 ≤ z.2 ∧ z.2 < p := by
  unfold badP at h
  simp at h
  omega
theorem dupP_iff {l : Pts} {i : Nat} {x : Int} : dupP l i x = true ↔ ∃ j y, j < i ∧ l[j]? = some y ∧ y.1 = x := by
  unfold dupP
  rw [List.any_eq_true]
  constructor
  · rintro ⟨y, hy, he⟩
    obtain ⟨j, hj⟩ := List.getElem?_of_mem hy
    rw [List.getElem?_take] at hj
    split at hj
    · exact ⟨j, y, ‹_›, hj, by simpa using he⟩
    · simp at hj
  · rintro ⟨j, y, hj, hy, he⟩
    refine ⟨y, List.mem_of_getElem? (i := j) ?_, by simpa using he⟩
    rw [List.getElem?_take, if_pos hj]; exact hy
theorem ptsI_ok {p : Int} {l : Pts} : ∀ n i, n + i = l.length → ptsI p l n i = 0 → ∀ k z, i ≤ k → l[k]? = some z → badP p z = false ∧ dupP l k z.1 = false
  | 0, i, hn, _, k, z, hk, hz => by
    have := (List.getElem?_eq_some_iff.1 hz).1
    omega
  | n + 1, i, hn, h, k, z, hk, hz => by
    obtain ⟨y, hy⟩ : ∃ y, l[i]? = some y := ⟨l[i]'(by omega), List.getElem?_eq_getElem _⟩
    have h' : (if badP p y = true then 1 else if dupP l i y.1 = true then 6 else ptsI p l n (i + 1)) = (0 : Int) := by
      rw [ptsI, hy] at h
      exact h
    split at h'
    · omega
    · rename_i hb
      split at h'
      · omega
      · rename_i hd
        by_cases he : k = i
        · subst he
          rw [hy] at hz
          cases hz
          exact ⟨by simpa using hb, by simpa using hd⟩
        · exact ptsI_ok n (i + 1) (by omega) h' k z (by omega) hz
theorem ptsOk_of {p : Int} {l : Pts} (h : ptsE p l = 0) : PtsOk p l := by
  unfold ptsE at h
  rcases fldE_cases p with ⟨h1, h2, h3, h4⟩ | h1
  · rw [h1, if_neg (by omega)] at h
    split at h
    · omega
    · rename_i hl
      have hk := ptsI_ok (p := p) (l := l) l.length 0 (by omega) h
      refine ⟨h2, h3, h4, by omega, fun i z hz => badP_false (hk i z (by omega) hz).1, fun i j z y hj hz hy he => ?_⟩
      have := (hk i z (by omega) hz).2
      rw [dupP_iff.2 ⟨j, y, hj, hy, he⟩] at this
      cases this
  · rw [h1, if_pos rfl] at h; omega
theorem bd_of_wf {x : Int} (h : (Lit.int .i64 x).wf = true) : -9223372036854775808 ≤ x ∧ x ≤ 9223372036854775807 := by
  simpa [Lit.wf, IntKind.min, IntKind.max, IntKind.signed, IntKind.bits] using h
theorem points_same (z y : Int × Int) (B : Nat) (w : World) (hB : w.heap[B]? = some (.cells #[.int .i64 z.1, .int .i64 z.2] 114 (0, 0))) :
    Calls Try.prog 146 #[pA y, .pointer (some ⟨B, 0, none⟩)] w fun e w' => e = .returned (.bool (y.1 == z.1)) ∧ Below w.heap.size w w' := by
  have c1 : (w.alloc (.cells #[.int .i64 y.1, .int .i64 y.2] 114)).cell? ⟨B, 0, none⟩ = some (.int .i64 z.1) := heap_cell (heap_alloc_old _ _ hB) 0
  have hb := Lib.hid ((Below.refl w.heap.size w).alloc (Nat.le_refl _) (.cells #[.int .i64 y.1, .int .i64 y.2] 114))
  go_enter Try.func146, Try.ntmps146
  go_wp2_with fail
  go_ret
  exact ⟨rfl, hb.out⟩
set_option maxRecDepth 100000 in
set_option maxHeartbeats 2000000 in
theorem points_Check (p : Int) (l : Pts) (n : Nat) (ao : Option Addr) (cap : Nat) (w : World) (hp : (Lit.int .i64 p).wf = true) (hl : l.length = n) (h63 : n ≤ 9223372036854775807) (hc : n ≤ cap) (hR : Hid (Reads w ao (cells2 (l.map pV)))) :
    Calls Try.prog 81 #[.int .i64 p, .slice ao n cap] w fun e w' => e = .returned (.int .i64 (ptsE p l)) ∧ Below w.heap.size w w' := by
  have HL := Lib.hid hl
  have HP := Lib.hid hp
  clear hl hp
  rcases fldE_cases p with ⟨hf, p1, p2, p3⟩ | hf
  · have HF := Lib.hid hf
    clear p3
    by_cases h12 : 12 < n
    · have hE : Hid (ptsE p l = 2) := by show _ = _; unfold ptsE; rw [HF.out, if_neg (by omega), if_pos (by rw [HL.out]; exact h12)]
      have d1 : decide ((12 : Int) < n) = true := by simp; omega
      clear hf h12
      go_enter Try.func81, Try.ntmps81
      go_wp2_with (go_at_call 76; refine (poly_Field p _ HP.out).mono ?_; rw [HF.out]; rintro e w' ⟨rfl, rfl⟩)
      go_ret
      exact ⟨by rw [hE.out]; rfl, Below.refl _ _⟩
    · have d1 : decide ((12 : Int) < n) = false := by simp; omega
      have hE : Hid (ptsE p l = ptsI p l (l.length - 0) 0) := by show _ = _; unfold ptsE; rw [HF.out, if_neg (by omega), if_neg (by rw [HL.out]; exact h12)]; rfl
      clear hf
      go_enter Try.func81, Try.ntmps81
      go_wp2_with (go_at_call 76; refine (poly_Field p _ HP.out).mono ?_; rw [HF.out]; rintro e w' ⟨rfl, rfl⟩)
      go_loopw [18] (fun vi wr => ∃ i : Nat, vi = .int .i64 i ∧ i ≤ n ∧ Hid (ptsE p l = ptsI p l (l.length - i) i) ∧ Hid (Below w'.heap.size w' wr)) (fun vi _ => n - (intOf vi).toNat)
      case atStart => exact ⟨0, rfl, by omega, hE, Below.refl _ _⟩
      case round =>
        obtain ⟨i, rfl, hin, he, hb⟩ := hrel
        by_cases hi : i < n
        · obtain ⟨z, hz⟩ : ∃ z, l[i]? = some z := ⟨l[i]'(by rw [HL.out]; exact hi), List.getElem?_eq_getElem _⟩
          obtain ⟨b, o, rfl, c1, c2⟩ := pair_cells (hR.out.below hb.out) hz
          have hst := ptsI_step (p := p) hz
          have HZ := Lib.hid hz
          have hb2 : Below w'.heap.size w' (wr.alloc (.cells #[.int .i64 z.1, .int .i64 z.2] 114)) := hb.out.trans ((Below.refl _ wr).alloc hb.out.size _)
          have HB2 := Lib.hid hb2
          have hnew : (wr.alloc (.cells #[.int .i64 z.1, .int .i64 z.2] 114)).heap[wr.heap.size]? = some (.cells #[.int .i64 z.1, .int .i64 z.2] 114 (0, 0)) := heap_alloc_new wr _
          have hR2 : Hid (Reads (wr.alloc (.cells #[.int .i64 z.1, .int .i64 z.2] 114)) (some ⟨b, o, none⟩) (cells2 ((l.take i).map pV))) := pair_take (hR.out.below hb2) i
          have CF : Hid (Calls Try.prog 84 #[.slice (some ⟨b, o, none⟩) i cap, .func (.func 146) #[] #[.pointer (some ⟨wr.heap.size, 0, none⟩)]] (wr.alloc (.cells #[.int .i64 z.1, .int .i64 z.2] 114)) fun e w' => e = .returned (.bool (dupP l i z.1)) ∧ Below (wr.alloc (.cells #[.int .i64 z.1, .int .i64 z.2] 114)).heap.size (wr.alloc (.cells #[.int .i64 z.1, .int .i64 z.2] 114)) w') := by
            refine containsFunc_ptc 146 (.pointer (some ⟨wr.heap.size, 0, none⟩)) (fun x W => by go_simp) (fun y => y.1 == z.1) (l.take i) i (some ⟨b, o, none⟩) cap _ (by rw [List.length_take, HL.out]; omega) (by omega) hR2 ?_
            intro y hy W hW
            exact points_same z y wr.heap.size W (by rw [hW.block _ (by rw [World.size_alloc]; omega)]; exact hnew)
          have i0 : (0 : Int) ≤ i := by omega
          have i1 : (i : Int) ≤ cap := by omega
          have i2 : i ≤ cap := by omega
          cases hbd : badP p z with
          | true =>
            have hE1 : Hid (ptsE p l = 1) := by show _ = _; rw [he.out, hst, if_pos hbd]
            have hs : decide (z.1 < 0) = true ∨ (decide (z.1 < 0) = false ∧ decide (p ≤ z.1) = true) ∨ (decide (z.1 < 0) = false ∧ decide (p ≤ z.1) = false ∧ decide (z.2 < 0) = true) ∨ (decide (z.1 < 0) = false ∧ decide (p ≤ z.1) = false ∧ decide (z.2 < 0) = false ∧ decide (p ≤ z.2) = true) := by
              unfold badP at hbd
              simp only [Bool.or_eq_true, decide_eq_true_eq, decide_eq_false_iff_not] at hbd ⊢
              omega
            clear hst hbd hz hnew hb2
            rcases hs with e1 | ⟨e1, e2⟩ | ⟨e1, e2, e3⟩ | ⟨e1, e2, e3, e4⟩
            all_goals
              go_wp2_with fail
              go_ret
              exact ⟨by rw [hE1.out]; rfl, HB2.out⟩
          | false =>
            have hs : decide (z.1 < 0) = false ∧ decide (p ≤ z.1) = false ∧ decide (z.2 < 0) = false ∧ decide (p ≤ z.2) = false := by
              unfold badP at hbd
              simpa using hbd
            obtain ⟨e1, e2, e3, e4⟩ := hs
            cases hd : dupP l i z.1 with
            | true =>
              have hE1 : Hid (ptsE p l = 6) := by show _ = _; rw [he.out, hst, if_neg (by rw [hbd]; simp), if_pos hd]
              rw [hd] at CF
              clear hst hbd hz hnew hb2 hd
              go_wp2_with (go_at_call 84; refine CF.out.mono ?_; rintro e w2 ⟨rfl, hb3⟩)
              go_ret
              exact ⟨by rw [hE1.out]; rfl, HB2.out.trans (hb3.mono HB2.out.size)⟩
            | false =>
              have hE1 : Hid (ptsE p l = ptsI p l (l.length - (i + 1)) (i + 1)) := by show _ = _; rw [he.out, hst, if_neg (by rw [hbd]; simp), if_neg (by rw [hd]; simp)]
              rw [hd] at CF
              clear hst hbd hz hnew hb2 hd
              go_wp2_with (go_at_call 84; refine CF.out.mono ?_; rintro e w2 ⟨rfl, hb3⟩)
              have HB3 := Lib.hid (HB2.out.trans (hb3.mono HB2.out.size))
              clear hb3
              go_roundw
              case rel => exact ⟨i + 1, by go_num, by omega, hE1, HB3⟩
              case measure => simp [intOf]; omega
        · have hE1 : Hid (ptsE p l = 0) := by
            show _ = _
            rw [he.out, show i = l.length by rw [HL.out]; omega]; exact ptsI_end p l
          go_wp2_with fail
          go_ret
          exact ⟨by rw [hE1.out]; rfl, hb.out⟩
  · have HF := Lib.hid hf
    have hE : Hid (ptsE p l = 1) := by show _ = _; unfold ptsE; rw [HF.out, if_pos rfl]
    clear hf
    go_enter Try.func81, Try.ntmps81
    go_wp2_with (go_at_call 76; refine (poly_Field p _ HP.out).mono ?_; rw [HF.out]; rintro e w' ⟨rfl, rfl⟩)
    go_ret
    exact ⟨by rw [hE.out]; rfl, Below.refl _ _⟩
end Go.Proofs.Ytgdcmebhopjfaaa
namespace Go.Proofs.Ytgdcmebhopjfaaa
open Go.RowKit

def plusS (p : Int) (f : List Int) (b : Int) (g : List Int) (high j k : Nat) : Int := if high ≤ k ∧ k < high + j then (co f k + b * co g (k - high)) % p else co f k
theorem plusS_zero (p : Int) (f : List Int) (b : Int) (g : List Int) (high k : Nat) : plusS p f b g high 0 k = co f k := by unfold plusS; rw [if_neg (by omega)]
theorem plusS_step (p : Int) (f : List Int) (b : Int) (g : List Int) (high j k : Nat) : plusS p f b g high (j + 1) k = if k = high + j then (co f (high + j) + b * co g j) % p else plusS p f b g high j k := by
  unfold plusS
  by_cases h : k = high + j
  · subst h; rw [if_pos rfl, if_pos (by omega), Nat.add_sub_cancel_left]
  · rw [if_neg h]
    by_cases h2 : high ≤ k ∧ k < high + j
    · rw [if_pos h2, if_pos (by omega)]
    · rw [if_neg h2, if_neg (by omega)]
theorem plusS_full {p : Int} {f g : List Int} (hf : InF p f) (hp : 0 < p) (b : Int) (high k : Nat) : plusS p f b g high g.length k = (co f k + b * sh g high k) % p := by
  unfold plusS
  by_cases h : high ≤ k ∧ k < high + g.length
  · rw [if_pos h]
    unfold sh
    rw [if_pos h.1]
  · rw [if_neg h]
    have : sh g high k = 0 := by
      rcases Nat.lt_or_ge k high with h2 | h2
      · exact sh_lt g h2
      · exact sh_ge g (by omega)
    rw [this, Int.mul_zero, Int.add_zero, hf.mod hp]
theorem cvn_cong (f g : List Int) (i k : Nat) {p : Int} {h : List Int} (hh : ∀ k, co h k = cvn f g i k % p) : (co h k + co f i * sh g i k) % p = cvn f g (i + 1) k % p := by
  rw [hh, Int.emod_add_emod]; rfl
end Go.Proofs.Ytgdcmebhopjfaaa
