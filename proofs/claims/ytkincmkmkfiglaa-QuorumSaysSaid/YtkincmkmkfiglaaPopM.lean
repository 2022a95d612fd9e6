/- The ones of a word below 4096, summed side by side. Plain. -/
import Derived.Test.YtkincmkmkfiglaaQuorumM
import Derived.Test.YtkincmkmkfiglaaU64
namespace Go.Proofs.Ytkincmkmkfiglaa
def pop1 (x : Nat) : Nat := (x / 2 &&& 6148914691236517205) + (x &&& 6148914691236517205)
def pop2 (x : Nat) : Nat := (x / 4 &&& 3689348814741910323) + (x &&& 3689348814741910323)
def pop3 (x : Nat) : Nat := (x / 16 + x) &&& 1085102592571150095
def pop4 (x : Nat) : Nat := x + x / 256
def pop5 (x : Nat) : Nat := x + x / 65536
def pop6 (x : Nat) : Nat := x + x / 4294967296
def popOk (x : Nat) : Bool :=
  decide (pop1 x < 1000000000) && decide (pop2 (pop1 x) < 1000000000) && decide (pop3 (pop2 (pop1 x)) < 1000000000) && decide (pop4 (pop3 (pop2 (pop1 x))) < 1000000000) &&
  decide (pop5 (pop4 (pop3 (pop2 (pop1 x)))) < 1000000000) && decide (pop6 (pop5 (pop4 (pop3 (pop2 (pop1 x))))) < 1000000000) && decide (pop6 (pop5 (pop4 (pop3 (pop2 (pop1 x))))) &&& 127 = ones16 x)
theorem pop_all : ∀ x : Fin 64, ∀ y : Fin 64, popOk (64 * x.val + y.val) = true := by decide +kernel
theorem pop_ok {x : Nat} (h : x < 4096) : popOk x = true := by
  have h1 := pop_all ⟨x / 64, by omega⟩ ⟨x % 64, by omega⟩
  have e : 64 * (x / 64) + x % 64 = x := by omega
  simp only [e] at h1
  exact h1
end Go.Proofs.Ytkincmkmkfiglaa
