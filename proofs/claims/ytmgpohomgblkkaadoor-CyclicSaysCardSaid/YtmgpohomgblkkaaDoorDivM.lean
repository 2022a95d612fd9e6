/- Divisors in order, in plain arithmetic. -/
namespace Go.Proofs.YtmgpohomgblkkaaDoor

/-- Two lists that grow and hold the same numbers are one. -/
theorem sorted_ext : ∀ {l m : List Nat}, l.Pairwise (· < ·) → m.Pairwise (· < ·) → (∀ x, x ∈ l ↔ x ∈ m) → l = m := by
  intro l
  induction l with
  | nil =>
    intro m _ _ h
    cases m with
    | nil => rfl
    | cons b m => exact absurd ((h b).2 (List.mem_cons_self ..)) (by simp)
  | cons a l ih =>
    intro m hl hm h
    cases m with
    | nil => exact absurd ((h a).1 (List.mem_cons_self ..)) (by simp)
    | cons b m =>
      rw [List.pairwise_cons] at hl hm
      have hab : a = b := by
        have h1 := (h a).1 (List.mem_cons_self ..)
        have h2 := (h b).2 (List.mem_cons_self ..)
        rw [List.mem_cons] at h1 h2
        rcases h1 with h1 | h1
        · exact h1
        · rcases h2 with h2 | h2
          · exact h2.symm
          · have := hm.1 a h1; have := hl.1 b h2; omega
      subst hab
      congr 1
      refine ih hl.2 hm.2 fun x => ?_
      have hx := h x
      rw [List.mem_cons, List.mem_cons] at hx
      constructor
      · intro hxl
        rcases hx.1 (.inr hxl) with h1 | h1
        · subst h1; exact absurd (hl.1 x hxl) (Nat.lt_irrefl _)
        · exact h1
      · intro hxm
        rcases hx.2 (.inr hxm) with h1 | h1
        · subst h1; exact absurd (hm.1 x hxm) (Nat.lt_irrefl _)
        · exact h1
def divp (n d : Nat) : Bool := decide (1 ≤ d ∧ d ∣ n)
/-- The divisors of n, in order. -/
def divs (n : Nat) : List Nat := (List.range (n + 1)).filter (divp n)
theorem mem_divs {n d : Nat} (hn : 1 ≤ n) : d ∈ divs n ↔ 1 ≤ d ∧ d ∣ n := by
  simp only [divs, List.mem_filter, List.mem_range, divp, decide_eq_true_eq]
  constructor
  · exact fun h => h.2
  · exact fun h => ⟨by have := Nat.le_of_dvd (by omega) h.2; omega, h⟩
theorem range_sorted (k : Nat) : (List.range k).Pairwise (· < ·) := List.pairwise_lt_range
theorem divs_sorted (n : Nat) : (divs n).Pairwise (· < ·) := (range_sorted _).filter _
/-- The divisors below k. -/
def lows (n k : Nat) : List Nat := (List.range k).filter (divp n)
def highs (n k : Nat) : List Nat := ((lows n k).filter fun d => decide (d * d < n)).map fun d => n / d
theorem mem_lows {n k d : Nat} : d ∈ lows n k ↔ d < k ∧ 1 ≤ d ∧ d ∣ n := by simp [lows, divp]
theorem mem_highs {n k e : Nat} : e ∈ highs n k ↔ ∃ d, d < k ∧ 1 ≤ d ∧ d ∣ n ∧ d * d < n ∧ n / d = e := by
  simp only [highs, List.mem_map, List.mem_filter, mem_lows, decide_eq_true_eq]
  constructor
  · rintro ⟨d, ⟨⟨h1, h2, h3⟩, h4⟩, h5⟩; exact ⟨d, h1, h2, h3, h4, h5⟩
  · rintro ⟨d, h1, h2, h3, h4, h5⟩; exact ⟨d, ⟨⟨h1, h2, h3⟩, h4⟩, h5⟩
theorem lows_succ (n k : Nat) (h : divp n k = true) : lows n (k + 1) = lows n k ++ [k] := by
  unfold lows; rw [List.range_succ, List.filter_append]; simp [h]
theorem lows_skip (n k : Nat) (h : divp n k = false) : lows n (k + 1) = lows n k := by
  unfold lows; rw [List.range_succ, List.filter_append]; simp [h]
theorem highs_succ (n k : Nat) (h : divp n k = true) (h2 : k * k < n) : highs n (k + 1) = highs n k ++ [n / k] := by
  unfold highs; rw [lows_succ n k h, List.filter_append, List.map_append]; simp [h2]
theorem highs_same (n k : Nat) (h : divp n k = true) (h2 : ¬ k * k < n) : highs n (k + 1) = highs n k := by
  unfold highs; rw [lows_succ n k h, List.filter_append, List.map_append]; simp [h2]
theorem highs_skip (n k : Nat) (h : divp n k = false) : highs n (k + 1) = highs n k := by unfold highs; rw [lows_skip n k h]
theorem quo_lt {n d e : Nat} (hn : 1 ≤ n) (hd : 1 ≤ d) (h1 : d ∣ n) (h2 : e ∣ n) (h : d < e) : n / e < n / d := by
  obtain ⟨c, rfl⟩ := h1
  obtain ⟨b, hb⟩ := h2
  have he : 0 < e := by omega
  have hc : 0 < c := by rcases Nat.eq_zero_or_pos c with h0 | h0; · subst h0; omega
                        · exact h0
  rw [Nat.mul_div_cancel_left _ (by omega : 0 < d), hb, Nat.mul_div_cancel_left _ he]
  rcases Nat.lt_or_ge b c with h3 | h3
  · exact h3
  · have h4 : d * c < e * b := Nat.lt_of_lt_of_le ((Nat.mul_lt_mul_right hc).2 h) (Nat.mul_le_mul_left e h3)
    omega
theorem divs_eq {n k : Nat} (hn : 1 ≤ n) (h1 : ∀ d, d < k → d * d ≤ n) (h2 : n < k * k) : lows n k ++ (highs n k).reverse = divs n := by
  apply sorted_ext
  · rw [List.pairwise_append]
    refine ⟨(range_sorted _).filter _, ?_, ?_⟩
    · rw [List.pairwise_reverse]
      unfold highs
      rw [List.pairwise_map]
      refine List.Pairwise.imp_of_mem ?_ (((range_sorted k).filter (divp n)).filter _)
      intro a b ha hb hab
      have ha2 := (mem_lows.1 (List.mem_filter.1 ha).1)
      have hb2 := (mem_lows.1 (List.mem_filter.1 hb).1)
      exact quo_lt hn ha2.2.1 ha2.2.2 hb2.2.2 hab
    · intro a ha b hb
      rw [List.mem_reverse, mem_highs] at hb
      obtain ⟨d, hd1, hd2, hd3, hd4, rfl⟩ := hb
      obtain ⟨c, rfl⟩ := hd3
      rw [Nat.mul_div_cancel_left _ (by omega : 0 < d)]
      have haa := h1 a (mem_lows.1 ha).1
      have hdc : d < c := Nat.lt_of_mul_lt_mul_left hd4
      rcases Nat.lt_or_ge a c with h3 | h3
      · exact h3
      · have h4 : c * c ≤ a * a := Nat.mul_le_mul h3 h3
        have h5 : d * c < c * c := (Nat.mul_lt_mul_right (by omega)).2 hdc
        omega
  · exact divs_sorted n
  · intro x
    rw [mem_divs hn, List.mem_append, List.mem_reverse, mem_lows, mem_highs]
    constructor
    · rintro (⟨_, h3, h4⟩ | ⟨d, h3, h4, ⟨c, rfl⟩, h6, rfl⟩)
      · exact ⟨h3, h4⟩
      · rw [Nat.mul_div_cancel_left _ (by omega : 0 < d)]
        refine ⟨?_, ⟨d, by rw [Nat.mul_comm]⟩⟩
        rcases Nat.eq_zero_or_pos c with h0 | h0
        · subst h0; omega
        · exact h0
    · rintro ⟨h3, c, rfl⟩
      by_cases hxk : x < k
      · exact .inl ⟨hxk, h3, ⟨c, rfl⟩⟩
      · right
        have hc0 : 0 < c := by
          rcases Nat.eq_zero_or_pos c with h0 | h0
          · subst h0; omega
          · exact h0
        have hck : c < k := by
          rcases Nat.lt_or_ge c k with h4 | h4
          · exact h4
          · have := Nat.mul_le_mul (show k ≤ x by omega) h4; omega
        refine ⟨c, hck, hc0, ⟨x, by rw [Nat.mul_comm]⟩, ?_, by rw [Nat.mul_div_cancel _ hc0]⟩
        exact (Nat.mul_lt_mul_right hc0).2 (by omega)
end Go.Proofs.YtmgpohomgblkkaaDoor
