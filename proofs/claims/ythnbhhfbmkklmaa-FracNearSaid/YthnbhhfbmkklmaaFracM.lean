/- Continued fractions: the list of quotients. No program. -/
import Derived.Test.YthnbhhfbmkklmaaBase
namespace Go.Proofs.Ythnbhhfbmkklmaa

def cfF : Nat → Nat → Nat → List Int
  | 0, _, _ => []
  | n + 1, p, q => if q = 0 then [] else ((p / q : Nat) : Int) :: cfF n q (p % q)
theorem cfF_zero (n p : Nat) : cfF n p 0 = [] := by cases n <;> rfl
theorem cfF_step (n p q : Nat) (h : 0 < q) : cfF (n + 1) p q = ((p / q : Nat) : Int) :: cfF n q (p % q) := by
  rw [cfF, if_neg (by omega)]
theorem cfF_len : ∀ n p q, (cfF n p q).length ≤ n
  | 0, _, _ => Nat.le_refl _
  | n + 1, p, q => by
    unfold cfF
    split
    · simp
    · simp only [List.length_cons]
      have := cfF_len n q (p % q)
      omega
/-- What a loop that has made `out` still has to make. -/
def CfAt (P Q : Nat) (out : List Int) (p q : Nat) : Prop := ∃ n, q < n ∧ out ++ cfF n p q = cfF (Q + 1) P Q ∧ out.length + n = Q + 1
theorem CfAt.start (P Q : Nat) : CfAt P Q [] P Q := ⟨Q + 1, by omega, rfl, by simp⟩
theorem CfAt.step {P Q : Nat} {out : List Int} {p q : Nat} (h : CfAt P Q out p q) (hq : 0 < q) : CfAt P Q (out ++ [((p / q : Nat) : Int)]) q (p % q) := by
  obtain ⟨n, hn, he, hl⟩ := h
  obtain ⟨m, rfl⟩ : ∃ m, n = m + 1 := ⟨n - 1, by omega⟩
  have hlt := Nat.mod_lt p hq
  refine ⟨m, by omega, ?_, by rw [List.length_append, List.length_singleton]; omega⟩
  rw [cfF_step m p q hq] at he
  rw [List.append_assoc, List.singleton_append]
  exact he
theorem CfAt.done {P Q : Nat} {out : List Int} {p : Nat} (h : CfAt P Q out p 0) : out = cfF (Q + 1) P Q := by
  obtain ⟨n, _, he, _⟩ := h
  rw [cfF_zero, List.append_nil] at he
  exact he
theorem CfAt.len {P Q : Nat} {out : List Int} {p q : Nat} (h : CfAt P Q out p q) : out.length ≤ Q := by
  obtain ⟨n, hn, _, hl⟩ := h
  omega
theorem low_quot (p q : Nat) (hq : 0 < q) : ((p : Int) - ((p % q : Nat) : Int)).tdiv q = ((p / q : Nat) : Int) := by
  have h := Nat.div_add_mod p q
  have e : (p : Int) - ((p % q : Nat) : Int) = (q : Int) * ((p / q : Nat) : Int) := by
    have : (p : Int) = (q : Int) * ((p / q : Nat) : Int) + ((p % q : Nat) : Int) := by exact_mod_cast h.symm
    omega
  rw [e]
  exact Int.mul_tdiv_cancel_left _ (by omega)
end Go.Proofs.Ythnbhhfbmkklmaa
