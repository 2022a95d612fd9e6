/- The factors of a number, in plain arithmetic. -/
import Derived.Test.YtmgpohomgblkkaaDoorPrimeM
namespace Go.Proofs.YtmgpohomgblkkaaDoor

def prodPow : List (Nat × Nat) → Nat
  | [] => 1
  | a :: l => a.1 ^ a.2 * prodPow l
theorem prodPow_append (l m : List (Nat × Nat)) : prodPow (l ++ m) = prodPow l * prodPow m := by
  induction l with
  | nil => simp [prodPow]
  | cons a l ih => simp [prodPow, ih, Nat.mul_assoc]
/-- The prime factors of n: primes that grow, each at least once, n multiplied. -/
structure Factors (n : Nat) (l : List (Nat × Nat)) : Prop where
  prod : prodPow l = n
  inc : l.Pairwise (fun a b => a.1 < b.1)
  pr : ∀ a ∈ l, IsPr a.1 ∧ 1 ≤ a.2
/-- What the rounds keep. -/
structure Fac (n m d : Nat) (l : List (Nat × Nat)) : Prop where
  prod : prodPow l * m = n
  inc : l.Pairwise (fun a b => a.1 < b.1)
  pr : ∀ a ∈ l, IsPr a.1 ∧ 1 ≤ a.2 ∧ a.1 < d
  nod : NoDiv m d
  m1 : 1 ≤ m
theorem Fac.start (n : Nat) (h : 1 ≤ n) : Fac n n 2 [] := ⟨by simp [prodPow], List.Pairwise.nil, by simp, NoDiv.start n, h⟩
theorem Fac.last {n d : Nat} {l : List (Nat × Nat)} (h : Fac n 1 d l) : Factors n l :=
  ⟨by have := h.prod; omega, h.inc, fun a ha => ⟨(h.pr a ha).1, (h.pr a ha).2.1⟩⟩
/-- Where no square is left, the number itself is the next one. -/
theorem Fac.jump {n m d : Nat} {l : List (Nat × Nat)} (h : Fac n m d l) (h2 : 2 ≤ m) (hs : m < d * d) : Fac n m m l := by
  have hp := h.nod.prime h2 hs
  have hd := h.nod.ge h2
  exact ⟨h.prod, h.inc, fun a ha => ⟨(h.pr a ha).1, (h.pr a ha).2.1, by have := (h.pr a ha).2.2; omega⟩, fun e h1 h3 h4 => hp.2 e h1 h3 h4, h.m1⟩
theorem Fac.skip {n m d : Nat} {l : List (Nat × Nat)} (h : Fac n m d l) (hd : ¬ d ∣ m) : Fac n m (d + 1) l :=
  ⟨h.prod, h.inc, fun a ha => ⟨(h.pr a ha).1, (h.pr a ha).2.1, by have := (h.pr a ha).2.2; omega⟩, h.nod.next hd, h.m1⟩
theorem Fac.take {n m d k m2 : Nat} {l : List (Nat × Nat)} (h : Fac n m d l) (h2 : 2 ≤ d) (hk : 1 ≤ k) (he : d ^ k * m2 = m) (hn : ¬ d ∣ m2) : Fac n m2 (d + 1) (l ++ [(d, k)]) := by
  have hdm : d ∣ m := by
    rw [← he]
    refine ⟨d ^ (k - 1) * m2, ?_⟩
    rw [← Nat.mul_assoc, Nat.mul_comm d, ← Nat.pow_succ]
    congr 2; omega
  have hpd := h.nod.divisor h2 hdm
  refine ⟨?_, ?_, ?_, (h.nod.of_dvd ⟨d ^ k, by rw [← he, Nat.mul_comm]⟩).next hn, ?_⟩
  · rw [prodPow_append]; simp only [prodPow, Nat.mul_one]; rw [Nat.mul_assoc, he]; exact h.prod
  · rw [List.pairwise_append]
    refine ⟨h.inc, by simp, fun a ha b hb => ?_⟩
    simp at hb; subst hb
    exact (h.pr a ha).2.2
  · intro a ha
    rw [List.mem_append] at ha
    rcases ha with ha | ha
    · exact ⟨(h.pr a ha).1, (h.pr a ha).2.1, by have := (h.pr a ha).2.2; omega⟩
    · simp at ha; subst ha
      exact ⟨hpd, hk, Nat.lt_succ_self _⟩
  · rcases Nat.eq_zero_or_pos m2 with h0 | h0
    · subst h0; simp at he; have := h.m1; omega
    · exact h0
theorem quo_step {d m m2 k : Nat} (h : d ^ k * m2 = m) (hd : d ∣ m2) : d ^ (k + 1) * (m2 / d) = m := by
  rw [Nat.pow_succ, Nat.mul_assoc, Nat.mul_div_cancel' hd, h]
end Go.Proofs.YtmgpohomgblkkaaDoor
