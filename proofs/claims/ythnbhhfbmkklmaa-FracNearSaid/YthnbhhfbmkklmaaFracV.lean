/- frac.Value where the list is empty or wrong. -/
import Derived.Test.YthnbhhfbmkklmaaRows
import Derived.Test.YthnbhhfbmkklmaaMem
import Derived.Handy
namespace Go.Proofs.Ythnbhhfbmkklmaa
open Go.RowKit

def fBadAt (x : Int) (i : Nat) : Prop := x < 0 ∨ 1000000 < x ∨ (x = 0 ∧ 0 < i)
def fBad (zs : List Int) : Prop := ∃ i x, zs[i]? = some x ∧ fBadAt x i
def ValRet (p q c : Int) (w : World) (e : Ending) (w' : World) : Prop := e = .returned (.tuple #[.agg #[.int .i64 p, .int .i64 q], .int .i64 c]) ∧ Below w.heap.size w w'
theorem below_two {w : World} (a b : Obj) : Below w.heap.size w ((w.alloc a).alloc b) := ((Below.refl _ w).alloc (Nat.le_refl _) _).alloc (by simp) _
end Go.Proofs.Ythnbhhfbmkklmaa
