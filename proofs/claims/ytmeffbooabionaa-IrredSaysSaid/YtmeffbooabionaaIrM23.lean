/- The factors of a number, in plain arithmetic. -/
import Derived.Test.YtmeffbooabionaaPrimeM
set_option linter.unusedVariables false
set_option linter.unusedSimpArgs false
namespace Go.Proofs.Ytmeffbooabionaa

def prodPow : List (Nat × Nat) → Nat
  | [] => 1
  | a :: l => a.1 ^ a.2 * prodPow l
theorem prodPow_append (l m : List (Nat × Nat)) : prodPow (l ++ m) = prodPow l * prodPow m := by
  induction l with
  | nil => simp [prodPow]
  | cons a l ih => simp [prodPow, ih, Nat.mul_assoc]
/-- The prime factors of n: primes that grow, each at least once, n multiplied. -/
structure Factors (n : Nat) (l : List (Nat × Nat)) : Prop where
  prod : prodPow l = n
  inc : l.Pairwise (fun a b => a.1 < b.1)
  pr : ∀ a ∈ l, IsPr a.1 ∧ 1 ≤ a.2
/-- What the rounds keep. -/
structure Fac (n m d : Nat) (l : List (Nat × Nat)) : Prop where
  prod : prodPow l * m = n
  inc : l.Pairwise (fun a b => a.1 < b.1)
  pr : ∀ a ∈ l, IsPr a.1 ∧ 1 ≤ a.2 ∧ a.1 < d
  nod : NoDiv m d
  m1 : 1 ≤ m
theorem Fac.start (n : Nat) (h : 1 ≤ n) : Fac n n 2 [] := ⟨by simp [prodPow], List.Pairwise.nil, by simp, NoDiv.start n, h⟩
theorem Fac.last {n d : Nat} {l : List (Nat × Nat)} (h : Fac n 1 d l) : Factors n l :=
  ⟨by have := h.prod; omega, h.inc, fun a ha => ⟨(h.pr a ha).1, (h.pr a ha).2.1⟩⟩
/-- Where no square is left, the number itself is the next one. -/
theorem Fac.jump {n m d : Nat} {l : List (Nat × Nat)} (h : Fac n m d l) (h2 : 2 ≤ m) (hs : m < d * d) : Fac n m m l := by
  have hp := h.nod.prime h2 hs
  have hd := h.nod.ge h2
  exact ⟨h.prod, h.inc, fun a ha => ⟨(h.pr a ha).1, (h.pr a ha).2.1, by have := (h.pr a ha).2.2; omega⟩, fun e h1 h3 h4 => hp.2 e h1 h3 h4, h.m1⟩
theorem Fac.skip {n m d : Nat} {l : List (Nat × Nat)} (h : Fac n m d l) (hd : ¬ d ∣ m) : Fac n m (d + 1) l :=
  ⟨h.prod, h.inc, fun a ha => ⟨(h.pr a ha).1, (h.pr a ha).2.1, by have := (h.pr a ha).2.2; omega⟩, h.nod.next hd, h.m1⟩
theorem Fac.take {n m d k m2 : Nat} {l : List (Nat × Nat)} (h : Fac n m d l) (h2 : 2 ≤ d) (hk : 1 ≤ k) (he : d ^ k * m2 = m) (hn : ¬ d ∣ m2) : Fac n m2 (d + 1) (l ++ [(d, k)]) := by
  have hdm : d ∣ m := by
    rw [← he]
    refine ⟨d ^ (k - 1) * m2, ?_⟩
    rw [← Nat.mul_assoc, Nat.mul_comm d, ← Nat.pow_succ]
    congr 2; omega
  have hpd := h.nod.divisor h2 hdm
  refine ⟨?_, ?_, ?_, (h.nod.of_dvd ⟨d ^ k, by rw [← he, Nat.mul_comm]⟩).next hn, ?_⟩
  · rw [prodPow_append]; simp only [prodPow, Nat.mul_one]; rw [Nat.mul_assoc, he]; exact h.prod
  · rw [List.pairwise_append]
    refine ⟨h.inc, by simp, fun a ha b hb => ?_⟩
    simp at hb; subst hb
    exact (h.pr a ha).2.2
  · intro a ha
    rw [List.mem_append] at ha
    rcases ha with ha | ha
    · exact ⟨(h.pr a ha).1, (h.pr a ha).2.1, by have := (h.pr a ha).2.2; omega⟩
    · simp at ha; subst ha
      exact ⟨hpd, hk, Nat.lt_succ_self _⟩
  · rcases Nat.eq_zero_or_pos m2 with h0 | h0
    · subst h0; simp at he; have := h.m1; omega
    · exact h0
theorem quo_step {d m m2 k : Nat} (h : d ^ k * m2 = m) (hd : d ∣ m2) : d ^ (k + 1) * (m2 / d) = m := by
  rw [Nat.pow_succ, Nat.mul_assoc, Nat.mul_div_cancel' hd, h]
end Go.Proofs.Ytmeffbooabionaa
namespace Go.Proofs.Ytmeffbooabionaa

/-- Two lists that grow and hold the same numbers are one. -/
theorem sorted_ext : ∀ {l m : List Nat}, l.Pairwise (· < ·) → m.Pairwise (· < ·) → (∀ x, x ∈ l ↔ x ∈ m) → l = m := by
  intro l
  induction l with
  | nil =>
    intro m _ _ h
    cases m with
    | nil => rfl
    | cons b m => exact absurd ((h b).2 (List.mem_cons_self ..)) (by simp)
  | cons a l ih =>
    intro m hl hm h
    cases m with
    | nil => exact absurd ((h a).1 (List.mem_cons_self ..)) (by simp)
    | cons b m =>
      rw [List.pairwise_cons] at hl hm
      have hab : a = b := by
        have h1 := (h a).1 (List.mem_cons_self ..)
        have h2 := (h b).2 (List.mem_cons_self ..)
        rw [List.mem_cons] at h1 h2
        rcases h1 with h1 | h1
        · exact h1
        · rcases h2 with h2 | h2
          · exact h2.symm
          · have := hm.1 a h1; have := hl.1 b h2; omega
      subst hab
      congr 1
      refine ih hl.2 hm.2 fun x => ?_
      have hx := h x
      rw [List.mem_cons, List.mem_cons] at hx
      constructor
      · intro hxl
        rcases hx.1 (.inr hxl) with h1 | h1
        · subst h1; exact absurd (hl.1 x hxl) (Nat.lt_irrefl _)
        · exact h1
      · intro hxm
        rcases hx.2 (.inr hxm) with h1 | h1
        · subst h1; exact absurd (hm.1 x hxm) (Nat.lt_irrefl _)
        · exact h1
def divp (n d : Nat) : Bool := decide (1 ≤ d ∧ d ∣ n)
/-- The divisors of n, in order. -/
def divs (n : Nat) : List Nat := (List.range (n + 1)).filter (divp n)
theorem mem_divs {n d : Nat} (hn : 1 ≤ n) : d ∈ divs n ↔ 1 ≤ d ∧ d ∣ n := by
  simp only [divs, List.mem_filter, List.mem_range, divp, decide_eq_true_eq]
  constructor
  · exact fun h => h.2
  · exact fun h => ⟨by have := Nat.le_of_dvd (by omega) h.2; omega, h⟩
theorem range_sorted (k : Nat) : (List.range k).Pairwise (· < ·) := List.pairwise_lt_range
theorem divs_sorted (n : Nat) : (divs n).Pairwise (· < ·) := (range_sorted _).filter _
/-- The divisors below k. -/
def lows (n k : Nat) : List Nat := (List.range k).filter (divp n)
def highs (n k : Nat) : List Nat := ((lows n k).filter fun d => decide (d * d < n)).map fun d => n / d
theorem mem_lows {n k d : Nat} : d ∈ lows n k ↔ d < k ∧ 1 ≤ d ∧ d ∣ n := by simp [lows, divp]
theorem mem_highs {n k e : Nat} : e ∈ highs n k ↔ ∃ d, d < k ∧ 1 ≤ d ∧ d ∣ n ∧ d * d < n ∧ n / d = e := by
  simp only [highs, List.mem_map, List.mem_filter, mem_lows, decide_eq_true_eq]
  constructor
  · rintro ⟨d, ⟨⟨h1, h2, h3⟩, h4⟩, h5⟩; exact ⟨d, h1, h2, h3, h4, h5⟩
  · rintro ⟨d, h1, h2, h3, h4, h5⟩; exact ⟨d, ⟨⟨h1, h2, h3⟩, h4⟩, h5⟩
theorem lows_succ (n k : Nat) (h : divp n k = true) : lows n (k + 1) = lows n k ++ [k] := by
  unfold lows; rw [List.range_succ, List.filter_append]; simp [h]
theorem lows_skip (n k : Nat) (h : divp n k = false) : lows n (k + 1) = lows n k := by
  unfold lows; rw [List.range_succ, List.filter_append]; simp [h]
theorem highs_succ (n k : Nat) (h : divp n k = true) (h2 : k * k < n) : highs n (k + 1) = highs n k ++ [n / k] := by
  unfold highs; rw [lows_succ n k h, List.filter_append, List.map_append]; simp [h2]
theorem highs_same (n k : Nat) (h : divp n k = true) (h2 : ¬ k * k < n) : highs n (k + 1) = highs n k := by
  unfold highs; rw [lows_succ n k h, List.filter_append, List.map_append]; simp [h2]
theorem highs_skip (n k : Nat) (h : divp n k = false) : highs n (k + 1) = highs n k := by unfold highs; rw [lows_skip n k h]
theorem quo_lt {n d e : Nat} (hn : 1 ≤ n) (hd : 1 ≤ d) (h1 : d ∣ n) (h2 : e ∣ n) (h : d < e) : n / e < n / d := by
  obtain ⟨c, rfl⟩ := h1
  obtain ⟨b, hb⟩ := h2
  have he : 0 < e := by omega
  have hc : 0 < c := by rcases Nat.eq_zero_or_pos c with h0 | h0; · subst h0; omega
                        · exact h0
  rw [Nat.mul_div_cancel_left _ (by omega : 0 < d), hb, Nat.mul_div_cancel_left _ he]
  rcases Nat.lt_or_ge b c with h3 | h3
  · exact h3
  · have h4 : d * c < e * b := Nat.lt_of_lt_of_le ((Nat.mul_lt_mul_right hc).2 h) (Nat.mul_le_mul_left e h3)
    omega
theorem divs_eq {n k : Nat} (hn : 1 ≤ n) (h1 : ∀ d, d < k → d * d ≤ n) (h2 : n < k * k) : lows n k ++ (highs n k).reverse = divs n := by
  apply sorted_ext
  · rw [List.pairwise_append]
    refine ⟨(range_sorted _).filter _, ?_, ?_⟩
    · rw [List.pairwise_reverse]
      unfold highs
      rw [List.pairwise_map]
      refine List.Pairwise.imp_of_mem ?_ (((range_sorted k).filter (divp n)).filter _)
      intro a b ha hb hab
      have ha2 := (mem_lows.1 (List.mem_filter.1 ha).1)
      have hb2 := (mem_lows.1 (List.mem_filter.1 hb).1)
      exact quo_lt hn ha2.2.1 ha2.2.2 hb2.2.2 hab
    · intro a ha b hb
      rw [List.mem_reverse, mem_highs] at hb
      obtain ⟨d, hd1, hd2, hd3, hd4, rfl⟩ := hb
      obtain ⟨c, rfl⟩ := hd3
      rw [Nat.mul_div_cancel_left _ (by omega : 0 < d)]
      have haa := h1 a (mem_lows.1 ha).1
      have hdc : d < c := Nat.lt_of_mul_lt_mul_left hd4
      rcases Nat.lt_or_ge a c with h3 | h3
      · exact h3
      · have h4 : c * c ≤ a * a := Nat.mul_le_mul h3 h3
        have h5 : d * c < c * c := (Nat.mul_lt_mul_right (by omega)).2 hdc
        omega
  · exact divs_sorted n
  · intro x
    rw [mem_divs hn, List.mem_append, List.mem_reverse, mem_lows, mem_highs]
    constructor
    · rintro (⟨_, h3, h4⟩ | ⟨d, h3, h4, ⟨c, rfl⟩, h6, rfl⟩)
      · exact ⟨h3, h4⟩
      · rw [Nat.mul_div_cancel_left _ (by omega : 0 < d)]
        refine ⟨?_, ⟨d, by rw [Nat.mul_comm]⟩⟩
        rcases Nat.eq_zero_or_pos c with h0 | h0
        · subst h0; omega
        · exact h0
    · rintro ⟨h3, c, rfl⟩
      by_cases hxk : x < k
      · exact .inl ⟨hxk, h3, ⟨c, rfl⟩⟩
      · right
        have hc0 : 0 < c := by
          rcases Nat.eq_zero_or_pos c with h0 | h0
          · subst h0; omega
          · exact h0
        have hck : c < k := by
          rcases Nat.lt_or_ge c k with h4 | h4
          · exact h4
          · have := Nat.mul_le_mul (show k ≤ x by omega) h4; omega
        refine ⟨c, hck, hc0, ⟨x, by rw [Nat.mul_comm]⟩, ?_, by rw [Nat.mul_div_cancel _ hc0]⟩
        exact (Nat.mul_lt_mul_right hc0).2 (by omega)
end Go.Proofs.Ytmeffbooabionaa
namespace Go.Proofs.Ytmeffbooabionaa

theorem IsPr.dvd_mul {p a b : Nat} (hp : IsPr p) (h : p ∣ a * b) : p ∣ a ∨ p ∣ b := by
  have hg : Nat.gcd p a ∣ p := Nat.gcd_dvd_left p a
  have hg2 : Nat.gcd p a ∣ a := Nat.gcd_dvd_right p a
  have hpos : 0 < p := by have := hp.1; omega
  have hle := Nat.le_of_dvd hpos hg
  by_cases h1 : Nat.gcd p a = 1
  · right
    exact Nat.Coprime.dvd_of_dvd_mul_left h1 h
  · left
    by_cases h2 : Nat.gcd p a = p
    · rw [h2] at hg2; exact hg2
    · have h0 : 0 < Nat.gcd p a := Nat.gcd_pos_of_pos_left _ hpos
      exact absurd hg (hp.2 _ (by omega) (by omega))
theorem IsPr.eq_of_dvd {p q : Nat} (hp : IsPr p) (hq : IsPr q) (h : p ∣ q) : p = q := by
  have h1 := Nat.le_of_dvd (by have := hq.1; omega) h
  by_cases h2 : p = q
  · exact h2
  · exact absurd h (hq.2 p hp.1 (by omega))
theorem IsPr.dvd_pow {p a k : Nat} (hp : IsPr p) (h : p ∣ a ^ k) : p ∣ a := by
  induction k with
  | zero => rw [Nat.pow_zero] at h; have := Nat.le_of_dvd (by omega) h; have := hp.1; omega
  | succ k ih =>
    rw [Nat.pow_succ] at h
    rcases hp.dvd_mul h with h1 | h1
    · exact ih h1
    · exact h1
theorem dvd_prodPow {l : List (Nat × Nat)} {a : Nat × Nat} (ha : a ∈ l) (h1 : 1 ≤ a.2) : a.1 ∣ prodPow l := by
  induction l with
  | nil => simp at ha
  | cons b l ih =>
    rw [List.mem_cons] at ha
    rcases ha with ha | ha
    · subst ha
      obtain ⟨k, hk⟩ : ∃ k, a.2 = k + 1 := ⟨a.2 - 1, by omega⟩
      simp only [prodPow]
      rw [hk, Nat.pow_succ]
      exact ⟨a.1 ^ k * prodPow l, by rw [Nat.mul_comm (a.1 ^ k) a.1, Nat.mul_assoc]⟩
    · exact Nat.dvd_trans (ih ha) (Nat.dvd_mul_left _ _)
theorem pr_dvd_prodPow {p : Nat} {l : List (Nat × Nat)} (hp : IsPr p) (h : p ∣ prodPow l) (hl : ∀ a ∈ l, IsPr a.1) : ∃ a, a ∈ l ∧ a.1 = p := by
  induction l with
  | nil => simp only [prodPow] at h; have := Nat.le_of_dvd (by omega) h; have := hp.1; omega
  | cons b l ih =>
    simp only [prodPow] at h
    rcases hp.dvd_mul h with h1 | h1
    · exact ⟨b, List.mem_cons_self .., (hp.eq_of_dvd (hl b (List.mem_cons_self ..)) (hp.dvd_pow h1)).symm⟩
    · obtain ⟨a, ha, he⟩ := ih h1 (fun a ha => hl a (List.mem_cons_of_mem _ ha))
      exact ⟨a, List.mem_cons_of_mem _ ha, he⟩
theorem prodPow_pos {l : List (Nat × Nat)} (hl : ∀ a ∈ l, IsPr a.1 ∧ 1 ≤ a.2) : 1 ≤ prodPow l := by
  induction l with
  | nil => simp [prodPow]
  | cons b l ih =>
    simp only [prodPow]
    have h1 := ih fun a ha => hl a (List.mem_cons_of_mem _ ha)
    have h2 : 0 < b.1 ^ b.2 := Nat.pow_pos (by have := (hl b (List.mem_cons_self ..)).1.1; omega)
    exact Nat.mul_pos h2 h1
theorem Factors.tail {n : Nat} {a : Nat × Nat} {l : List (Nat × Nat)} (h : Factors n (a :: l)) : Factors (prodPow l) l :=
  ⟨rfl, (List.pairwise_cons.1 h.inc).2, fun b hb => h.pr b (List.mem_cons_of_mem _ hb)⟩
theorem Factors.head_not {n : Nat} {a : Nat × Nat} {l : List (Nat × Nat)} (h : Factors n (a :: l)) : ¬ a.1 ∣ prodPow l := by
  intro hd
  obtain ⟨b, hb, he⟩ := pr_dvd_prodPow (h.pr a (List.mem_cons_self ..)).1 hd (fun b hb => (h.pr b (List.mem_cons_of_mem _ hb)).1)
  have := (List.pairwise_cons.1 h.inc).1 b hb
  omega
theorem Factors.pos {n : Nat} {l : List (Nat × Nat)} (h : Factors n l) : 1 ≤ n := by rw [← h.prod]; exact prodPow_pos h.pr
theorem Factors.one {l : List (Nat × Nat)} (h : Factors 1 l) : l = [] := by
  cases l with
  | nil => rfl
  | cons a l =>
    have h1 := dvd_prodPow (List.mem_cons_self (a := a) (l := l)) (h.pr a (List.mem_cons_self ..)).2
    rw [h.prod] at h1
    have := Nat.le_of_dvd (by omega) h1
    have := (h.pr a (List.mem_cons_self ..)).1.1
    omega
theorem pow_cancel {p k m A B : Nat} (hp : 0 < p) (hA : ¬ p ∣ A) (hB : ¬ p ∣ B) (h : p ^ k * A = p ^ m * B) : k = m ∧ A = B := by
  induction k generalizing m with
  | zero =>
    cases m with
    | zero => simp only [Nat.pow_zero, Nat.one_mul] at h; exact ⟨rfl, h⟩
    | succ m => exfalso; apply hA; rw [Nat.pow_zero, Nat.one_mul] at h; rw [h, Nat.pow_succ]; exact ⟨p ^ m * B, by rw [Nat.mul_comm (p ^ m), Nat.mul_assoc]⟩
  | succ k ih =>
    cases m with
    | zero => exfalso; apply hB; rw [Nat.pow_zero, Nat.one_mul] at h; rw [← h, Nat.pow_succ]; exact ⟨p ^ k * A, by rw [Nat.mul_comm (p ^ k), Nat.mul_assoc]⟩
    | succ m =>
      have h2 : p ^ k * A = p ^ m * B := by
        rw [Nat.pow_succ, Nat.pow_succ, Nat.mul_comm (p ^ k), Nat.mul_comm (p ^ m), Nat.mul_assoc, Nat.mul_assoc] at h
        exact Nat.eq_of_mul_eq_mul_left hp h
      obtain ⟨h3, h4⟩ := ih h2
      exact ⟨by omega, h4⟩
/-- The factors of a number are told by it. -/
theorem Factors.uniq : ∀ {l m : List (Nat × Nat)} {n : Nat}, Factors n l → Factors n m → l = m := by
  intro l
  induction l with
  | nil =>
    intro m n h1 h2
    have : n = 1 := by rw [← h1.prod]; rfl
    subst this
    exact h2.one.symm
  | cons a l ih =>
    intro m n h1 h2
    cases m with
    | nil =>
      have : n = 1 := by rw [← h2.prod]; rfl
      subst this
      exact absurd h1.one (by simp)
    | cons b m =>
      have ha := h1.pr a (List.mem_cons_self ..)
      have hb := h2.pr b (List.mem_cons_self ..)
      have hab : b.1 ≤ a.1 := by
        have hd := dvd_prodPow (List.mem_cons_self (a := a) (l := l)) ha.2
        rw [h1.prod, ← h2.prod] at hd
        obtain ⟨c, hc, he⟩ := pr_dvd_prodPow ha.1 hd (fun c hc => (h2.pr c hc).1)
        rw [List.mem_cons] at hc
        rcases hc with hc | hc
        · subst hc; omega
        · have := (List.pairwise_cons.1 h2.inc).1 c hc; omega
      have hba : a.1 ≤ b.1 := by
        have hd := dvd_prodPow (List.mem_cons_self (a := b) (l := m)) hb.2
        rw [h2.prod, ← h1.prod] at hd
        obtain ⟨c, hc, he⟩ := pr_dvd_prodPow hb.1 hd (fun c hc => (h1.pr c hc).1)
        rw [List.mem_cons] at hc
        rcases hc with hc | hc
        · subst hc; omega
        · have := (List.pairwise_cons.1 h1.inc).1 c hc; omega
      have he : a.1 = b.1 := by omega
      have hp := h1.prod.trans h2.prod.symm
      simp only [prodPow] at hp
      rw [he] at hp
      have hn1 := h1.head_not
      rw [he] at hn1
      obtain ⟨h3, h4⟩ := pow_cancel (by have := hb.1.1; omega) hn1 h2.head_not hp
      have h5 := h1.tail
      rw [h4] at h5
      have h6 := ih h5 h2.tail
      rw [h6]
      congr 1
      exact Prod.ext he h3
theorem split_pow {p : Nat} (hp : 2 ≤ p) : ∀ {n : Nat}, 1 ≤ n → ∃ k m, n = p ^ k * m ∧ ¬ p ∣ m ∧ 1 ≤ m := by
  intro n
  induction n using Nat.strongRecOn with
  | _ n ih =>
    intro hn
    by_cases h : p ∣ n
    · obtain ⟨c, hc⟩ := h
      have hc1 : 1 ≤ c := by rcases Nat.eq_zero_or_pos c with h0 | h0
                             · subst h0; omega
                             · exact h0
      have hlt : c < n := by
        have : c * 2 ≤ c * p := Nat.mul_le_mul_left c hp
        rw [Nat.mul_comm c p] at this
        omega
      obtain ⟨k, m, h1, h2, h3⟩ := ih c hlt hc1
      refine ⟨k + 1, m, ?_, h2, h3⟩
      rw [hc, h1, Nat.pow_succ, Nat.mul_comm (p ^ k) p, Nat.mul_assoc]
    · exact ⟨0, n, by simp, h, hn⟩
theorem pr_divisor : ∀ {n : Nat}, 2 ≤ n → ∃ p, IsPr p ∧ p ∣ n := by
  intro n
  induction n using Nat.strongRecOn with
  | _ n ih =>
    intro hn
    by_cases h : IsPr n
    · exact ⟨n, h, Nat.dvd_refl n⟩
    · have h2 : ∃ d, 2 ≤ d ∧ d < n ∧ d ∣ n := by
        apply Classical.byContradiction
        intro hno
        exact h ⟨hn, fun d h1 h2 h3 => hno ⟨d, h1, h2, h3⟩⟩
      obtain ⟨d, h3, h4, h5⟩ := h2
      obtain ⟨p, hp, hd⟩ := ih d h4 h3
      exact ⟨p, hp, Nat.dvd_trans hd h5⟩

def insF (a : Nat × Nat) : List (Nat × Nat) → List (Nat × Nat)
  | [] => [a]
  | b :: l => if a.1 < b.1 then a :: b :: l else b :: insF a l
theorem mem_insF {a b : Nat × Nat} {l : List (Nat × Nat)} : b ∈ insF a l ↔ b = a ∨ b ∈ l := by
  induction l with
  | nil => simp [insF]
  | cons c l ih =>
    simp only [insF]
    split
    · simp
    · rw [List.mem_cons, ih, List.mem_cons]
      constructor
      · rintro (h | h | h)
        · exact .inr (.inl h)
        · exact .inl h
        · exact .inr (.inr h)
      · rintro (h | h | h)
        · exact .inr (.inl h)
        · exact .inl h
        · exact .inr (.inr h)
theorem prodPow_insF (a : Nat × Nat) (l : List (Nat × Nat)) : prodPow (insF a l) = a.1 ^ a.2 * prodPow l := by
  induction l with
  | nil => simp [insF, prodPow]
  | cons c l ih =>
    simp only [insF]
    split
    · rfl
    · simp only [prodPow]; rw [ih, Nat.mul_left_comm]
theorem insF_inc {a : Nat × Nat} {l : List (Nat × Nat)} (h : l.Pairwise (fun a b => a.1 < b.1)) (hn : ∀ b ∈ l, b.1 ≠ a.1) : (insF a l).Pairwise (fun a b => a.1 < b.1) := by
  induction l with
  | nil => simp [insF]
  | cons c l ih =>
    rw [List.pairwise_cons] at h
    simp only [insF]
    split
    · rename_i hac
      rw [List.pairwise_cons]
      refine ⟨fun b hb => ?_, List.pairwise_cons.2 h⟩
      rw [List.mem_cons] at hb
      rcases hb with hb | hb
      · subst hb; exact hac
      · have := h.1 b hb; omega
    · rename_i hac
      rw [List.pairwise_cons]
      refine ⟨fun b hb => ?_, ih h.2 fun b hb => hn b (List.mem_cons_of_mem _ hb)⟩
      rw [mem_insF] at hb
      rcases hb with hb | hb
      · subst hb
        have := hn c (List.mem_cons_self ..)
        omega
      · exact h.1 b hb
theorem Factors.ins {p k m : Nat} {l : List (Nat × Nat)} (h : Factors m l) (hp : IsPr p) (hk : 1 ≤ k) (hn : ¬ p ∣ m) : Factors (p ^ k * m) (insF (p, k) l) := by
  refine ⟨by rw [prodPow_insF, h.prod], insF_inc h.inc fun b hb he => ?_, fun a ha => ?_⟩
  · have h1 := dvd_prodPow hb (h.pr b hb).2
    rw [h.prod] at h1
    simp only at he
    rw [he] at h1
    exact hn h1
  · rw [mem_insF] at ha
    rcases ha with ha | ha
    · subst ha; exact ⟨hp, hk⟩
    · exact h.pr a ha
theorem factors_exist : ∀ {n : Nat}, 1 ≤ n → ∃ l, Factors n l := by
  intro n
  induction n using Nat.strongRecOn with
  | _ n ih =>
    intro hn
    by_cases h1 : n = 1
    · subst h1; exact ⟨[], rfl, List.Pairwise.nil, by simp⟩
    · obtain ⟨p, hp, hd⟩ := pr_divisor (show 2 ≤ n by omega)
      obtain ⟨k, m, he, hnd, hm⟩ := split_pow hp.1 hn
      have hk : 1 ≤ k := by
        rcases Nat.eq_zero_or_pos k with h0 | h0
        · subst h0; rw [Nat.pow_zero, Nat.one_mul] at he; rw [he] at hd; exact absurd hd hnd
        · exact h0
      have hlt : m < n := by
        have h2 : 2 ≤ p ^ k := Nat.le_trans hp.1 (by have := Nat.pow_le_pow_right (show 0 < p by have := hp.1; omega) hk; rwa [Nat.pow_one] at this)
        have := Nat.mul_le_mul_right m h2
        omega
      obtain ⟨l, hl⟩ := ih m hlt hm
      exact ⟨_, by rw [he]; exact hl.ins hp hk hnd⟩

/-- A value of the factors: multiplied, prime by prime. -/
def valL (g : Nat → Nat → Int) : List (Nat × Nat) → Int
  | [] => 1
  | a :: l => g a.1 a.2 * valL g l
theorem valL_insF (g : Nat → Nat → Int) (a : Nat × Nat) (l : List (Nat × Nat)) : valL g (insF a l) = g a.1 a.2 * valL g l := by
  induction l with
  | nil => rfl
  | cons c l ih =>
    simp only [insF]
    split
    · rfl
    · simp only [valL]; rw [ih, Int.mul_left_comm]
theorem valL_append (g : Nat → Nat → Int) (l m : List (Nat × Nat)) : valL g (l ++ m) = valL g l * valL g m := by
  induction l with
  | nil => simp [valL]
  | cons c l ih => simp only [List.cons_append, valL]; rw [ih, Int.mul_assoc]
noncomputable def facs (n : Nat) : List (Nat × Nat) := Classical.epsilon (Factors n)
theorem facs_spec {n : Nat} (hn : 1 ≤ n) : Factors n (facs n) := Classical.epsilon_spec (factors_exist hn)
theorem facs_eq {n : Nat} {l : List (Nat × Nat)} (h : Factors n l) : facs n = l := (facs_spec h.pos).uniq h
noncomputable def mult (g : Nat → Nat → Int) (n : Nat) : Int := valL g (facs n)
theorem mult_eq {g : Nat → Nat → Int} {n : Nat} {l : List (Nat × Nat)} (h : Factors n l) : mult g n = valL g l := by unfold mult; rw [facs_eq h]
theorem mult_one (g : Nat → Nat → Int) : mult g 1 = 1 := mult_eq (l := []) ⟨rfl, List.Pairwise.nil, by simp⟩
theorem mult_pow (g : Nat → Nat → Int) {p k m : Nat} (hp : IsPr p) (hk : 1 ≤ k) (hn : ¬ p ∣ m) (hm : 1 ≤ m) : mult g (p ^ k * m) = g p k * mult g m := by
  rw [mult_eq ((facs_spec hm).ins hp hk hn), valL_insF]; rfl
theorem mult_coprime (g : Nat → Nat → Int) : ∀ {a b : Nat}, 1 ≤ a → 1 ≤ b → Nat.gcd a b = 1 → mult g (a * b) = mult g a * mult g b := by
  intro a
  induction a using Nat.strongRecOn with
  | _ a ih =>
    intro b ha hb hg
    by_cases h1 : a = 1
    · subst h1; rw [mult_one, Nat.one_mul, Int.one_mul]
    · obtain ⟨p, hp, hd⟩ := pr_divisor (show 2 ≤ a by omega)
      obtain ⟨k, m, he, hnd, hm⟩ := split_pow hp.1 ha
      have hk : 1 ≤ k := by
        rcases Nat.eq_zero_or_pos k with h0 | h0
        · subst h0; rw [Nat.pow_zero, Nat.one_mul] at he; rw [he] at hd; exact absurd hd hnd
        · exact h0
      have hlt : m < a := by
        have h2 : 2 ≤ p ^ k := Nat.le_trans hp.1 (by have := Nat.pow_le_pow_right (show 0 < p by have := hp.1; omega) hk; rwa [Nat.pow_one] at this)
        have := Nat.mul_le_mul_right m h2
        omega
      have hpb : ¬ p ∣ b := by
        intro h
        have := Nat.dvd_gcd hd h
        rw [hg] at this
        have := Nat.le_of_dvd (by omega) this
        have := hp.1
        omega
      have hgm : Nat.gcd m b = 1 := by
        have h2 : Nat.gcd m b ∣ Nat.gcd a b := Nat.dvd_gcd (Nat.dvd_trans (Nat.gcd_dvd_left m b) (by rw [he]; exact Nat.dvd_mul_left _ _)) (Nat.gcd_dvd_right m b)
        rw [hg] at h2
        exact Nat.dvd_one.1 h2
      have hpm : ¬ p ∣ m * b := fun h => by
        rcases hp.dvd_mul h with h3 | h3
        · exact hnd h3
        · exact hpb h3
      rw [he, Nat.mul_assoc, mult_pow g hp hk hpm (Nat.mul_pos hm hb), mult_pow g hp hk hnd hm, ih m hlt hm hb hgm, Int.mul_assoc]

/-! ### Sums over divisors -/
def sumL (f : Nat → Int) (l : List Nat) : Int := (l.map f).sum
theorem sumL_nil (f : Nat → Int) : sumL f [] = 0 := rfl
theorem sumL_cons (f : Nat → Int) (a : Nat) (l : List Nat) : sumL f (a :: l) = f a + sumL f l := by simp [sumL]
theorem sumL_append (f : Nat → Int) (l m : List Nat) : sumL f (l ++ m) = sumL f l + sumL f m := by
  induction l with
  | nil => simp [sumL_nil]
  | cons a l ih => rw [List.cons_append, sumL_cons, sumL_cons, ih, Int.add_assoc]
theorem sumL_congr {f g : Nat → Int} {l : List Nat} (h : ∀ x ∈ l, f x = g x) : sumL f l = sumL g l := by
  unfold sumL; rw [List.map_congr_left h]
theorem sumL_mul (c : Int) (f : Nat → Int) (l : List Nat) : sumL (fun x => c * f x) l = c * sumL f l := by
  induction l with
  | nil => simp [sumL_nil]
  | cons a l ih => rw [sumL_cons, sumL_cons, ih, Int.mul_add]
theorem sumL_add (f g : Nat → Int) (l : List Nat) : sumL (fun x => f x + g x) l = sumL f l + sumL g l := by
  induction l with
  | nil => simp [sumL_nil]
  | cons a l ih => rw [sumL_cons, sumL_cons, sumL_cons, ih]; omega
theorem sumL_zero (l : List Nat) : sumL (fun _ => 0) l = 0 := by
  induction l with
  | nil => rfl
  | cons a l ih => rw [sumL_cons, ih]; rfl
theorem sumL_map (f : Nat → Int) (h : Nat → Nat) (l : List Nat) : sumL f (l.map h) = sumL (fun x => f (h x)) l := by simp [sumL, List.map_map, Function.comp_def]
theorem sumL_perm {f : Nat → Int} {l m : List Nat} (h : l.Perm m) : sumL f l = sumL f m := by
  induction h with
  | nil => rfl
  | cons a _ ih => rw [sumL_cons, sumL_cons, ih]
  | swap a b l => simp only [sumL_cons]; omega
  | trans _ _ ih1 ih2 => rw [ih1, ih2]
theorem sumL_filter (f : Nat → Int) (p : Nat → Bool) (l : List Nat) : sumL f (l.filter p) = sumL (fun x => if p x = true then f x else 0) l := by
  induction l with
  | nil => rfl
  | cons a l ih =>
    rw [List.filter_cons, sumL_cons, ← ih]
    by_cases h : p a = true
    · rw [if_pos h, if_pos h, sumL_cons]
    · rw [if_neg h, if_neg h, Int.zero_add]
theorem sumL_swap (h : Nat → Nat → Int) (l m : List Nat) : sumL (fun a => sumL (fun b => h a b) m) l = sumL (fun b => sumL (fun a => h a b) l) m := by
  induction l with
  | nil => simp only [sumL_nil]; rw [sumL_zero]
  | cons a l ih =>
    rw [sumL_cons, ih, ← sumL_add]
    exact sumL_congr fun b _ => (sumL_cons (fun a => h a b) a l).symm
/-- All divisors' values together. -/
def sd (f : Nat → Int) (n : Nat) : Int := sumL f (divs n)
theorem coprime_pow_dvd {p j e m : Nat} (hp : IsPr p) (hpe : ¬ p ∣ e) (h : e ∣ p ^ j * m) : e ∣ m := by
  induction j generalizing m with
  | zero => rwa [Nat.pow_zero, Nat.one_mul] at h
  | succ j ih =>
    rw [Nat.pow_succ, Nat.mul_assoc] at h
    have h2 := ih h
    have hc : Nat.gcd e p = 1 := by
      have hg : Nat.gcd e p ∣ p := Nat.gcd_dvd_right e p
      have hle := Nat.le_of_dvd (by have := hp.1; omega) hg
      by_cases h1 : Nat.gcd e p = 1
      · exact h1
      · by_cases h3 : Nat.gcd e p = p
        · exact absurd (by rw [← h3]; exact Nat.gcd_dvd_left e p) hpe
        · have h0 : 0 < Nat.gcd e p := Nat.gcd_pos_of_pos_right _ (by have := hp.1; omega)
          exact absurd hg (hp.2 _ (by omega) (by omega))
    exact Nat.Coprime.dvd_of_dvd_mul_left hc h2
theorem dvd_pow_split {p k m d : Nat} (hp : IsPr p) (hm : ¬ p ∣ m) (hd1 : 1 ≤ d) : d ∣ p ^ (k + 1) * m ↔ d ∣ p ^ k * m ∨ ∃ e, e ∣ m ∧ d = p ^ (k + 1) * e := by
  constructor
  · intro h
    obtain ⟨j, e, rfl, he, he1⟩ := split_pow hp.1 hd1
    have hem : e ∣ m := coprime_pow_dvd hp he (Nat.dvd_trans (Nat.dvd_mul_left _ _) h)
    rcases Nat.lt_trichotomy j (k + 1) with h1 | h1 | h1
    · left
      exact Nat.mul_dvd_mul (Nat.pow_dvd_pow p (by omega)) hem
    · subst h1; exact .inr ⟨e, hem, rfl⟩
    · exfalso
      have h2 : p ^ (k + 2) ∣ p ^ (k + 1) * m := Nat.dvd_trans (Nat.dvd_trans (Nat.pow_dvd_pow p (by omega)) (Nat.dvd_mul_right _ e)) h
      rw [Nat.pow_succ] at h2
      exact hm (Nat.dvd_of_mul_dvd_mul_left (Nat.pow_pos (by have := hp.1; omega)) h2)
  · rintro (h | ⟨e, he, rfl⟩)
    · exact Nat.dvd_trans h (Nat.mul_dvd_mul (Nat.pow_dvd_pow p (by omega)) (Nat.dvd_refl m))
    · exact Nat.mul_dvd_mul (Nat.dvd_refl _) he
theorem divs_nodup (n : Nat) : (divs n).Nodup := (divs_sorted n).imp (fun h => by omega)
theorem divs_pow_perm {p k m : Nat} (hp : IsPr p) (hm : ¬ p ∣ m) (h1 : 1 ≤ m) : (divs (p ^ (k + 1) * m)).Perm (divs (p ^ k * m) ++ (divs m).map fun d => p ^ (k + 1) * d) := by
  have hpp : ∀ j, 0 < p ^ j := fun j => Nat.pow_pos (by have := hp.1; omega)
  have hpos : ∀ j, 1 ≤ p ^ j * m := fun j => Nat.mul_pos (hpp j) h1
  rw [List.perm_ext_iff_of_nodup (divs_nodup _)]
  · intro d
    rw [mem_divs (hpos _), List.mem_append, mem_divs (hpos _), List.mem_map]
    constructor
    · rintro ⟨h2, h3⟩
      rcases (dvd_pow_split hp hm h2).1 h3 with h4 | ⟨e, he, rfl⟩
      · exact .inl ⟨h2, h4⟩
      · refine .inr ⟨e, (mem_divs h1).2 ⟨?_, he⟩, rfl⟩
        rcases Nat.eq_zero_or_pos e with h0 | h0
        · subst h0; omega
        · exact h0
    · rintro (⟨h2, h3⟩ | ⟨e, he, rfl⟩)
      · exact ⟨h2, (dvd_pow_split hp hm h2).2 (.inl h3)⟩
      · obtain ⟨h2, h3⟩ := (mem_divs h1).1 he
        have h4 : 1 ≤ p ^ (k + 1) * e := Nat.mul_pos (hpp _) h2
        exact ⟨h4, (dvd_pow_split hp hm h4).2 (.inr ⟨e, h3, rfl⟩)⟩
  · rw [List.nodup_append]
    refine ⟨divs_nodup _, ?_, ?_⟩
    · rw [List.nodup_iff_pairwise_ne, List.pairwise_map]
      refine (divs_sorted m).imp fun {a b} hab he => ?_
      have := Nat.eq_of_mul_eq_mul_left (hpp (k + 1)) he
      omega
    · intro a ha b hb hab
      subst hab
      rw [List.mem_map] at hb
      obtain ⟨e, he, rfl⟩ := hb
      obtain ⟨_, h3⟩ := (mem_divs (hpos _)).1 ha
      have h4 : p ^ (k + 1) ∣ p ^ k * m := Nat.dvd_trans (Nat.dvd_mul_right _ e) h3
      rw [Nat.pow_succ] at h4
      exact hm (Nat.dvd_of_mul_dvd_mul_left (hpp k) h4)
def gsum (g : Nat → Nat → Int) (p : Nat) : Nat → Int
  | 0 => 1
  | k + 1 => gsum g p k + g p (k + 1)
theorem sd_pow (g : Nat → Nat → Int) {p k m : Nat} (hp : IsPr p) (hm : ¬ p ∣ m) (h1 : 1 ≤ m) : sd (mult g) (p ^ k * m) = gsum g p k * sd (mult g) m := by
  induction k with
  | zero => rw [Nat.pow_zero, Nat.one_mul]; simp only [gsum]; rw [Int.one_mul]
  | succ k ih =>
    unfold sd at ih ⊢
    rw [sumL_perm (divs_pow_perm hp hm h1), sumL_append, ih, sumL_map]
    simp only [gsum]
    rw [Int.add_mul]
    congr 1
    rw [← sumL_mul]
    refine sumL_congr fun d hd => ?_
    obtain ⟨h2, h3⟩ := (mem_divs h1).1 hd
    exact mult_pow g hp (by omega) (fun h => hm (Nat.dvd_trans h h3)) h2

/-- EULER's function, MOEBIUS's. -/
def phiG (p k : Nat) : Int := (p : Int) ^ (k - 1) * ((p : Int) - 1)
def muG (_ k : Nat) : Int := if k = 1 then -1 else 0
noncomputable def phi (n : Nat) : Int := mult phiG n
noncomputable def mu (n : Nat) : Int := mult muG n
theorem gsum_phi (p k : Nat) : gsum phiG p k = (p : Int) ^ k := by
  induction k with
  | zero => simp [gsum]
  | succ k ih =>
    simp only [gsum, phiG, Nat.add_sub_cancel]
    rw [ih, Int.mul_sub, Int.mul_one, Int.pow_succ]; omega
theorem gsum_mu (p k : Nat) : gsum muG p (k + 1) = 0 := by
  induction k with
  | zero => simp [gsum, muG]
  | succ k ih => rw [gsum, ih]; simp [muG]
theorem sd_one (f : Nat → Int) : sd f 1 = f 1 := by simp [sd, divs, sumL, divp, List.range_succ]
/-- GAUSS. -/
theorem sd_phi : ∀ {n : Nat}, 1 ≤ n → sd phi n = n := by
  intro n
  induction n using Nat.strongRecOn with
  | _ n ih =>
    intro hn
    by_cases h1 : n = 1
    · subst h1; rw [sd_one]; exact mult_one _
    · obtain ⟨p, hp, hd⟩ := pr_divisor (show 2 ≤ n by omega)
      obtain ⟨k, m, he, hnd, hm⟩ := split_pow hp.1 hn
      have hk : 1 ≤ k := by
        rcases Nat.eq_zero_or_pos k with h0 | h0
        · subst h0; rw [Nat.pow_zero, Nat.one_mul] at he; rw [he] at hd; exact absurd hd hnd
        · exact h0
      have hlt : m < n := by
        have h2 : 2 ≤ p ^ k := Nat.le_trans hp.1 (by have := Nat.pow_le_pow_right (show 0 < p by have := hp.1; omega) hk; rwa [Nat.pow_one] at this)
        have := Nat.mul_le_mul_right m h2
        omega
      have h3 := ih m hlt hm
      unfold phi at h3 ⊢
      rw [he, sd_pow phiG hp hnd hm, h3, gsum_phi]
      push_cast
      rfl
theorem sd_mu {n : Nat} (hn : 1 ≤ n) : sd mu n = if n = 1 then 1 else 0 := by
  by_cases h1 : n = 1
  · subst h1; rw [sd_one, if_pos rfl]; exact mult_one _
  · obtain ⟨p, hp, hd⟩ := pr_divisor (show 2 ≤ n by omega)
    obtain ⟨k, m, he, hnd, hm⟩ := split_pow hp.1 hn
    have hk : 1 ≤ k := by
      rcases Nat.eq_zero_or_pos k with h0 | h0
      · subst h0; rw [Nat.pow_zero, Nat.one_mul] at he; rw [he] at hd; exact absurd hd hnd
      · exact h0
    obtain ⟨j, rfl⟩ : ∃ j, k = j + 1 := ⟨k - 1, by omega⟩
    unfold mu
    rw [if_neg h1, he, sd_pow muG hp hnd hm, gsum_mu, Int.zero_mul]
/-- The multiples of e among the divisors of n. -/
theorem divs_multiples {n e : Nat} (hn : 1 ≤ n) (he : 1 ≤ e) (hd : e ∣ n) : (divs n).filter (fun d => decide (e ∣ d)) = (divs (n / e)).map fun c => e * c := by
  obtain ⟨q, rfl⟩ := hd
  have hq : 1 ≤ q := by
    rcases Nat.eq_zero_or_pos q with h0 | h0
    · subst h0; omega
    · exact h0
  rw [Nat.mul_div_cancel_left _ (by omega : 0 < e)]
  apply sorted_ext
  · exact (divs_sorted _).filter _
  · rw [List.pairwise_map]
    exact (divs_sorted q).imp fun {a b} h => (Nat.mul_lt_mul_left (by omega)).2 h
  · intro x
    rw [List.mem_filter, mem_divs hn, List.mem_map]
    simp only [decide_eq_true_eq]
    constructor
    · rintro ⟨⟨h1, h2⟩, c, rfl⟩
      refine ⟨c, (mem_divs hq).2 ⟨?_, Nat.dvd_of_mul_dvd_mul_left (by omega) h2⟩, rfl⟩
      rcases Nat.eq_zero_or_pos c with h0 | h0
      · subst h0; omega
      · exact h0
    · rintro ⟨c, hc, rfl⟩
      obtain ⟨h1, h2⟩ := (mem_divs hq).1 hc
      exact ⟨⟨Nat.mul_pos he h1, Nat.mul_dvd_mul (Nat.dvd_refl e) h2⟩, Nat.dvd_mul_right _ _⟩
/-- MOEBIUS's inversion. -/
theorem moebius_inv (f : Nat → Int) {n : Nat} (hn : 1 ≤ n) : sd (fun d => sd (fun e => f e * mu (d / e)) d) n = f n := by
  have e1 : sd (fun d => sd (fun e => f e * mu (d / e)) d) n = sumL (fun d => sumL (fun e => if decide (e ∣ d) = true then f e * mu (d / e) else 0) (divs n)) (divs n) := by
    unfold sd
    refine sumL_congr fun d hd => ?_
    obtain ⟨h1, h2⟩ := (mem_divs hn).1 hd
    rw [← sumL_filter]
    congr 1
    apply sorted_ext (divs_sorted d) ((divs_sorted n).filter _)
    intro x
    rw [List.mem_filter, mem_divs h1, mem_divs hn]
    simp only [decide_eq_true_eq]
    exact ⟨fun ⟨a, b⟩ => ⟨⟨a, Nat.dvd_trans b h2⟩, b⟩, fun ⟨⟨a, _⟩, b⟩ => ⟨a, b⟩⟩
  rw [e1, sumL_swap]
  have e2 : sumL (fun e => sumL (fun d => if decide (e ∣ d) = true then f e * mu (d / e) else 0) (divs n)) (divs n) = sumL (fun e => if decide (e = n) = true then f n else 0) (divs n) := by
    refine sumL_congr fun e he => ?_
    obtain ⟨h1, h2⟩ := (mem_divs hn).1 he
    rw [← sumL_filter, divs_multiples hn h1 h2, sumL_map]
    have e3 : sumL (fun c => f e * mu (e * c / e)) (divs (n / e)) = sumL (fun c => f e * mu c) (divs (n / e)) := sumL_congr fun c _ => by rw [Nat.mul_div_cancel_left _ (by omega : 0 < e)]
    have hq : 1 ≤ n / e := Nat.div_pos (Nat.le_of_dvd (by omega) h2) (by omega)
    rw [e3, sumL_mul]
    have h3 := sd_mu hq
    unfold sd at h3
    rw [h3]
    by_cases h4 : e = n
    · subst h4; rw [Nat.div_self (by omega)]; simp
    · have h5 : n / e ≠ 1 := by
        intro h6
        have := Nat.div_mul_cancel h2
        rw [h6] at this; omega
      simp [h4, h5]
  rw [e2, ← sumL_filter]
  have e4 : (divs n).filter (fun e => decide (e = n)) = [n] := by
    apply sorted_ext ((divs_sorted n).filter _) (by simp)
    intro x
    rw [List.mem_filter, mem_divs hn]
    simp only [decide_eq_true_eq, List.mem_singleton]
    exact ⟨fun h => h.2, fun h => ⟨⟨by omega, by rw [h]; exact Nat.dvd_refl n⟩, h⟩⟩
  rw [e4]
  simp [sumL]
end Go.Proofs.Ytmeffbooabionaa
