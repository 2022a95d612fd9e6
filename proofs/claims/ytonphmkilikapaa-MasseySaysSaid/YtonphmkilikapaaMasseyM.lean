/- The shortest rule of a bit sequence (BERLEKAMP, MASSEY) in plain logic. -/
namespace Go.Proofs.Ytonphmkilikapaa

/-- Sums modulo two. -/
def xs : Nat → (Nat → Bool) → Bool
  | 0, _ => false
  | n + 1, f => (xs n f).xor (f n)
theorem xs_congr {n : Nat} {f g : Nat → Bool} (h : ∀ k, k < n → f k = g k) : xs n f = xs n g := by
  induction n with
  | zero => rfl
  | succ n ih => simp only [xs]; rw [ih fun k hk => h k (by omega), h n (by omega)]
theorem xs_false (n : Nat) : xs n (fun _ => false) = false := by
  induction n with
  | zero => rfl
  | succ n ih => simp only [xs]; rw [ih]; rfl
theorem xs_xor (n : Nat) (f g : Nat → Bool) : xs n (fun k => (f k).xor (g k)) = (xs n f).xor (xs n g) := by
  induction n with
  | zero => rfl
  | succ n ih =>
    simp only [xs]; rw [ih]
    generalize xs n f = a
    generalize xs n g = b
    generalize f n = c
    generalize g n = d
    cases a <;> cases b <;> cases c <;> cases d <;> rfl
theorem xs_and (n : Nat) (a : Bool) (f : Nat → Bool) : xs n (fun k => a && f k) = (a && xs n f) := by
  cases a
  · simp only [Bool.false_and]; exact xs_false n
  · simp only [Bool.true_and]
theorem xs_swap (n m : Nat) (h : Nat → Nat → Bool) : xs n (fun a => xs m (fun b => h a b)) = xs m (fun b => xs n (fun a => h a b)) := by
  induction n with
  | zero => simp only [xs]; exact (xs_false m).symm
  | succ n ih => simp only [xs]; rw [ih, ← xs_xor]
theorem xs_more {n m : Nat} {f : Nat → Bool} (hnm : n ≤ m) (h : ∀ k, n ≤ k → k < m → f k = false) : xs m f = xs n f := by
  induction hnm with
  | refl => rfl
  | @step m hm ih =>
    simp only [xs]
    have hm2 : n ≤ m := hm
    rw [ih fun k h1 h2 => h k h1 (by omega), h m hm2 (by omega), Bool.xor_false]
theorem xs_shift (g m : Nat) (f : Nat → Bool) : xs (g + m) (fun k => if g ≤ k then f (k - g) else false) = xs m f := by
  induction m with
  | zero =>
    show xs (g + 0) _ = false
    rw [Nat.add_zero]
    exact (xs_congr fun k hk => if_neg (Nat.not_le.2 hk)).trans (xs_false g)
  | succ m ih =>
    rw [← Nat.add_assoc]
    simp only [xs]
    rw [ih, if_pos (Nat.le_add_right g m), Nat.add_sub_cancel_left]
theorem xs_first (n : Nat) (f : Nat → Bool) : xs (n + 1) f = (f 0).xor (xs n fun k => f (k + 1)) := by
  induction n with
  | zero => simp [xs]
  | succ n ih => rw [xs, ih]; simp only [xs]; rw [Bool.xor_assoc]

/-- A rule of n bits makes the first i bits. -/
def gens (s c : Nat → Bool) (n i : Nat) : Prop := ∀ j, n ≤ j → j < i → xs n (fun k => c k && s (j - 1 - k)) = s j
theorem gens.less {s c : Nat → Bool} {n i : Nat} (h : gens s c n (i + 1)) : gens s c n i := fun j h1 h2 => h j h1 (by omega)

structure BM (s : Nat → Bool) (i L gap : Nat) (C B : Nat → Bool) : Prop where
  c0 : C 0 = true
  cdeg : ∀ k, L < k → C k = false
  cgen : ∀ j, L ≤ j → j < i → xs (L + 1) (fun k => C k && s (j - k)) = false
  li : L ≤ i
  gap1 : 1 ≤ gap
  gapi : gap ≤ i + 1
  lq : L ≤ i + 1 - gap
  bdeg : ∀ k, i + 1 - gap - L < k → B k = false
  bgen : ∀ j, i + 1 - gap - L ≤ j → j + gap < i → xs (i + 1 - gap - L + 1) (fun k => B k && s (j - k)) = false
  bdis : gap ≤ i → xs (i + 1 - gap - L + 1) (fun k => B k && s (i - gap - k)) = true
  min : ∀ n c, n < L → ¬ gens s c n i
theorem BM.start (s : Nat → Bool) (B : Nat → Bool) (hB : B 0 = true) (hB2 : ∀ k, 0 < k → B k = false) : BM s 0 0 1 B B :=
  ⟨hB, hB2, fun j _ h => by omega, by omega, by omega, by omega, by omega, fun k hk => hB2 k (by omega), fun j _ h => by omega, fun h => by omega, fun n c h => by omega⟩
/-- The discrepancy. -/
def disc (s C : Nat → Bool) (L i : Nat) : Bool := xs (L + 1) (fun k => C k && s (i - k))
theorem disc_eq {s C : Nat → Bool} {L i : Nat} (hC : C 0 = true) : disc s C L i = (s i).xor (xs L fun k => C (k + 1) && s (i - 1 - k)) := by
  unfold disc
  rw [xs_first, hC, Nat.sub_zero, Bool.true_and]
  congr 1
  exact xs_congr fun k _ => by rw [show i - (k + 1) = i - 1 - k by omega]
theorem BM.skip {s : Nat → Bool} {i L gap : Nat} {C B : Nat → Bool} (h : BM s i L gap C B) (hd : disc s C L i = false) : BM s (i + 1) L (gap + 1) C B := by
  have e : i + 1 + 1 - (gap + 1) = i + 1 - gap := by omega
  refine ⟨h.c0, h.cdeg, fun j h1 h2 => ?_, by have := h.li; omega, by omega, by have := h.gapi; omega, by rw [e]; exact h.lq, by rw [e]; exact h.bdeg, ?_, ?_, fun n c hn hg => h.min n c hn hg.less⟩
  · by_cases hj : j = i
    · subst hj; exact hd
    · exact h.cgen j h1 (by omega)
  · rw [e]; exact fun j h1 h2 => h.bgen j h1 (by omega)
  · rw [e]
    intro hgi
    have := h.bdis (by omega)
    rw [show i + 1 - (gap + 1) = i - gap by omega]
    exact this
/-- MASSEY's lemma. -/
theorem massey {s C c : Nat → Bool} {L i n : Nat} (hC : C 0 = true) (hgen : ∀ j, L ≤ j → j < i → xs (L + 1) (fun k => C k && s (j - k)) = false) (hd : disc s C L i = true)
    (hn : n + L ≤ i) (hc : gens s c n (i + 1)) : False := by
  have h1 := hc i (by omega) (by omega)
  have hs : ∀ j, L ≤ j → j < i → s j = xs L fun k => C (k + 1) && s (j - 1 - k) := by
    intro j h2 h3
    have h4 : disc s C L j = false := hgen j h2 h3
    rw [disc_eq hC] at h4
    revert h4
    generalize s j = x
    generalize (xs L fun k => C (k + 1) && s (j - 1 - k)) = y
    cases x <;> cases y <;> simp
  have h2 : xs n (fun a => c a && s (i - 1 - a)) = xs n (fun a => xs L fun b => c a && (C (b + 1) && s (i - 1 - a - 1 - b))) := by
    refine xs_congr fun a ha => ?_
    rw [hs (i - 1 - a) (by omega) (by omega), xs_and]
  have h3 : xs L (fun b => C (b + 1) && s (i - 1 - b)) = xs L (fun b => xs n fun a => c a && (C (b + 1) && s (i - 1 - a - 1 - b))) := by
    refine xs_congr fun b hb => ?_
    have h4 := hc (i - 1 - b) (by omega) (by omega)
    rw [← h4, ← xs_and]
    refine xs_congr fun a _ => ?_
    rw [show i - 1 - b - 1 - a = i - 1 - a - 1 - b by omega]
    generalize C (b + 1) = x
    generalize c a = y
    generalize s (i - 1 - a - 1 - b) = z
    cases x <;> cases y <;> cases z <;> rfl
  rw [h2, xs_swap, ← h3] at h1
  rw [disc_eq hC, h1] at hd
  simp at hd
/-- The next polynomial. -/
def bmNext (C B : Nat → Bool) (gap : Nat) : Nat → Bool := fun k => (C k).xor (if gap ≤ k then B (k - gap) else false)
theorem BM.cgen' {s : Nat → Bool} {i L gap : Nat} {C B : Nat → Bool} (h : BM s i L gap C B) (hd : disc s C L i = true) {M : Nat} (hM1 : L ≤ M) (hM2 : i + 1 - L ≤ M) :
    ∀ j, M ≤ j → j < i + 1 → xs (M + 1) (fun k => bmNext C B gap k && s (j - k)) = false := by
  intro j h1 h2
  have hl := h.lq
  have hg := h.gapi
  have hli := h.li
  by_cases hgi : gap ≤ i
  · have e : xs (M + 1) (fun k => bmNext C B gap k && s (j - k)) = (xs (M + 1) (fun k => C k && s (j - k))).xor (xs (M + 1) (fun k => (if gap ≤ k then B (k - gap) else false) && s (j - k))) := by
      rw [← xs_xor]
      refine xs_congr fun k _ => ?_
      unfold bmNext
      generalize C k = x
      generalize (if gap ≤ k then B (k - gap) else false) = y
      generalize s (j - k) = z
      cases x <;> cases y <;> cases z <;> rfl
    have e1 : xs (M + 1) (fun k => C k && s (j - k)) = xs (L + 1) (fun k => C k && s (j - k)) :=
      xs_more (by omega) fun k h3 h4 => by rw [h.cdeg k (by omega), Bool.false_and]
    have e2 : xs (M + 1) (fun k => (if gap ≤ k then B (k - gap) else false) && s (j - k)) = xs (i + 1 - gap - L + 1) (fun k => B k && s (j - gap - k)) := by
      have e3 : xs (M + 1) (fun k => (if gap ≤ k then B (k - gap) else false) && s (j - k)) = xs (gap + (M + 1 - gap)) (fun k => if gap ≤ k then (fun q => B q && s (j - gap - q)) (k - gap) else false) := by
        rw [show gap + (M + 1 - gap) = M + 1 by omega]
        refine xs_congr fun k _ => ?_
        by_cases h5 : gap ≤ k
        · rw [if_pos h5, if_pos h5]
          simp only
          rw [show j - gap - (k - gap) = j - k by omega]
        · rw [if_neg h5, if_neg h5, Bool.false_and]
      rw [e3, xs_shift gap (M + 1 - gap) (fun q => B q && s (j - gap - q))]
      exact xs_more (by omega) fun k h3 h4 => by rw [h.bdeg k (by omega), Bool.false_and]
    rw [e, e1, e2]
    by_cases hj : j = i
    · subst hj
      have h3 := h.bdis hgi
      rw [h3]
      have h4 : xs (L + 1) (fun k => C k && s (j - k)) = true := hd
      rw [h4]; rfl
    · rw [h.cgen j (by omega) (by omega), h.bgen (j - gap) (by omega) (by omega)]; rfl
  · exfalso; omega
theorem BM.keep {s : Nat → Bool} {i L gap : Nat} {C B : Nat → Bool} (h : BM s i L gap C B) (hd : disc s C L i = true) (h2 : i < 2 * L) : BM s (i + 1) L (gap + 1) (bmNext C B gap) B := by
  have e : i + 1 + 1 - (gap + 1) = i + 1 - gap := by omega
  have hl := h.lq
  refine ⟨?_, fun k hk => ?_, h.cgen' hd (Nat.le_refl L) (by omega), by have := h.li; omega, by omega, by have := h.gapi; omega, by rw [e]; exact h.lq, by rw [e]; exact h.bdeg, ?_, ?_, fun n c hn hg => h.min n c hn hg.less⟩
  · unfold bmNext; rw [h.c0, if_neg (by have := h.gap1; omega)]; rfl
  · unfold bmNext
    rw [h.cdeg k hk]
    split
    · rw [h.bdeg _ (by omega)]; rfl
    · rfl
  · rw [e]; exact fun j h1 h2 => h.bgen j h1 (by omega)
  · rw [e]
    intro hgi
    have := h.bdis (by omega)
    rw [show i + 1 - (gap + 1) = i - gap by omega]
    exact this
theorem BM.turn {s : Nat → Bool} {i L gap : Nat} {C B : Nat → Bool} (h : BM s i L gap C B) (hd : disc s C L i = true) (h2 : 2 * L ≤ i) : BM s (i + 1) (i + 1 - L) 1 (bmNext C B gap) C := by
  have hl := h.lq
  have hg := h.gapi
  have e : i + 1 + 1 - 1 - (i + 1 - L) = L := by omega
  refine ⟨?_, fun k hk => ?_, h.cgen' hd (by omega) (Nat.le_refl _), by omega, by omega, by omega, by omega, by rw [e]; exact h.cdeg, ?_, ?_, fun n c hn hg => ?_⟩
  · unfold bmNext; rw [h.c0, if_neg (by have := h.gap1; omega)]; rfl
  · unfold bmNext
    rw [h.cdeg k (by omega)]
    split
    · rw [h.bdeg _ (by omega)]; rfl
    · rfl
  · rw [e]; exact fun j h1 h3 => h.cgen j h1 (by omega)
  · rw [e]
    intro _
    rw [show i + 1 - 1 = i by omega]
    exact hd
  · by_cases hnL : n < L
    · exact h.min n c hnL hg.less
    · exact massey h.c0 h.cgen hd (by omega) hg
/-- At the end: the rule makes the bits, and none that is shorter does. -/
theorem BM.last {s : Nat → Bool} {i L gap : Nat} {C B : Nat → Bool} (h : BM s i L gap C B) : gens s (fun k => C (k + 1)) L i ∧ ∀ n c, n < L → ¬ gens s c n i := by
  refine ⟨fun j h1 h2 => ?_, h.min⟩
  have h3 : disc s C L j = false := h.cgen j h1 h2
  rw [disc_eq h.c0] at h3
  revert h3
  generalize s j = x
  generalize (xs L fun k => C (k + 1) && s (j - 1 - k)) = y
  cases x <;> cases y <;> simp
end Go.Proofs.Ytonphmkilikapaa
