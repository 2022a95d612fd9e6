/-
  No cell of these rows narrows 'for every input' (looked for: loops, veiled, ifaces, maps, wideKeys, modest, calm, conditions, laid).
  DERIVED. THE GIVEN ROWS OF THIS SEAT. 9 by the template 'for every input the law returns true; each argument reads behind the call as it read before'; 0 by the template 'total and deterministic' (their statements: YtgdcmebhopjfaaaTotals.lean).
  GIVEN WITH THE SEED: the statements are not yours to turn. If you find one false, say at which input.
  Laid BY PROGRAM, IN A SANDBOX (cutbox-rows.mjs): the forced cells as the released guide's own fill.sh prints them over the translation e25765999a2ef08e… (all of the seat's roots in one cut). By AI agents, Wed Nov 11 2026. No macro, syntax, notation, axiom, sorry.
-/
import Derived.Test.YtgdcmebhopjfaaaChecked
import GoSem.Claim
import GoSem.ClaimJoined
import GoSem.ClaimMapViews
import Derived.JoinedTies
import Derived.KernelRfl
namespace Go.Proofs.Ytgdcmebhopjfaaa
/- THE CELL 'sum', in the pinned program and in every row, IS THE sha256 OF THE DUMP (.gsa) THAT YtgdcmebhopjfaaaProg.lean LOADS. Nothing in Lean hashes anything: it is a label: what it is worth is what the hold of that sum in a sandbox is worth. -/
noncomputable def Try.pinned : Pinned := { name := "ytgdcmebhopjfaaa", sum := "e25765999a2ef08e14085c946622add0fbfd9aa223f014c20c922b09d098fe76", checked := Try.checked }
namespace Rows
def none {H : Type} : Left H := { results := [], args := [] }

/-- 'wholetop.TopShares': WHATEVER THE INPUT: true; the input reads as it did. -/
def topSharesSpec : ChangeSpec := { name := "topShares", fn := fun _ => fun
  | [d1, d2, d3, d4] => { results := [.lit (.bool true)], args := [d1, d2, d3, d4] }
  | _ => none }
def topSharesRow : OpenClaim := { program := "ytgdcmebhopjfaaa", sum := "e25765999a2ef08e14085c946622add0fbfd9aa223f014c20c922b09d098fe76", func := "wholemend/wholetop.TopShares", spec := "topShares", unfollowed := true, recurses := true, apart := false }
def TopSharesSaid : Prop := topSharesRow.holds Try.pinned (OpenSpec.ofChange topSharesSpec)

/-- ITS FALSE NEIGHBOUR: 'it returns false'. Refute it at one input. -/
def topSharesWrong : ChangeSpec := { name := "topShares", fn := fun _ => fun
  | [d1, d2, d3, d4] => { results := [.lit (.bool false)], args := [d1, d2, d3, d4] }
  | _ => none }
def TopSharesWrongFalsely : Prop := topSharesRow.holds Try.pinned (OpenSpec.ofChange topSharesWrong)

/-- 'wholelaw.DivideSays': WHATEVER THE INPUT: true; the input reads as it did. -/
def divideSaysSpec : ChangeSpec := { name := "divideSays", fn := fun _ => fun
  | [d] => { results := [.lit (.bool true)], args := [d] }
  | _ => none }
def divideSaysRow : OpenClaim := { program := "ytgdcmebhopjfaaa", sum := "e25765999a2ef08e14085c946622add0fbfd9aa223f014c20c922b09d098fe76", func := "wholemend/wholelaw.DivideSays", spec := "divideSays", recurses := true, apart := false }
def DivideSaysSaid : Prop := divideSaysRow.holds Try.pinned (OpenSpec.ofChange divideSaysSpec)

/-- ITS FALSE NEIGHBOUR: 'it returns false'. Refute it at one input. -/
def divideSaysWrong : ChangeSpec := { name := "divideSays", fn := fun _ => fun
  | [d] => { results := [.lit (.bool false)], args := [d] }
  | _ => none }
def DivideSaysWrongFalsely : Prop := divideSaysRow.holds Try.pinned (OpenSpec.ofChange divideSaysWrong)

/-- 'wholelaw.PairSays': WHATEVER THE INPUT: true; the input reads as it did. -/
def pairSaysSpec : ChangeSpec := { name := "pairSays", fn := fun _ => fun
  | [d1, d2, d3, d4] => { results := [.lit (.bool true)], args := [d1, d2, d3, d4] }
  | _ => none }
def pairSaysRow : OpenClaim := { program := "ytgdcmebhopjfaaa", sum := "e25765999a2ef08e14085c946622add0fbfd9aa223f014c20c922b09d098fe76", func := "wholemend/wholelaw.PairSays", spec := "pairSays", apart := false }
def PairSaysSaid : Prop := pairSaysRow.holds Try.pinned (OpenSpec.ofChange pairSaysSpec)

/-- ITS FALSE NEIGHBOUR: 'it returns false'. Refute it at one input. -/
def pairSaysWrong : ChangeSpec := { name := "pairSays", fn := fun _ => fun
  | [d1, d2, d3, d4] => { results := [.lit (.bool false)], args := [d1, d2, d3, d4] }
  | _ => none }
def PairSaysWrongFalsely : Prop := pairSaysRow.holds Try.pinned (OpenSpec.ofChange pairSaysWrong)

/-- 'wholelaw.MatrixSays': WHATEVER THE INPUT: true; the input reads as it did. -/
def matrixSaysSpec : ChangeSpec := { name := "matrixSays", fn := fun _ => fun
  | [d1, d2] => { results := [.lit (.bool true)], args := [d1, d2] }
  | _ => none }
def matrixSaysRow : OpenClaim := { program := "ytgdcmebhopjfaaa", sum := "e25765999a2ef08e14085c946622add0fbfd9aa223f014c20c922b09d098fe76", func := "wholemend/wholelaw.MatrixSays", spec := "matrixSays", unfollowed := true, recurses := true, apart := false }
def MatrixSaysSaid : Prop := matrixSaysRow.holds Try.pinned (OpenSpec.ofChange matrixSaysSpec)

/-- ITS FALSE NEIGHBOUR: 'it returns false'. Refute it at one input. -/
def matrixSaysWrong : ChangeSpec := { name := "matrixSays", fn := fun _ => fun
  | [d1, d2] => { results := [.lit (.bool false)], args := [d1, d2] }
  | _ => none }
def MatrixSaysWrongFalsely : Prop := matrixSaysRow.holds Try.pinned (OpenSpec.ofChange matrixSaysWrong)

/-- 'wholelaw.MatrixSolves': WHATEVER THE INPUT: true; the input reads as it did. -/
def matrixSolvesSpec : ChangeSpec := { name := "matrixSolves", fn := fun _ => fun
  | [d1, d2] => { results := [.lit (.bool true)], args := [d1, d2] }
  | _ => none }
def matrixSolvesRow : OpenClaim := { program := "ytgdcmebhopjfaaa", sum := "e25765999a2ef08e14085c946622add0fbfd9aa223f014c20c922b09d098fe76", func := "wholemend/wholelaw.MatrixSolves", spec := "matrixSolves", unfollowed := true, recurses := true, apart := false }
def MatrixSolvesSaid : Prop := matrixSolvesRow.holds Try.pinned (OpenSpec.ofChange matrixSolvesSpec)

/-- ITS FALSE NEIGHBOUR: 'it returns false'. Refute it at one input. -/
def matrixSolvesWrong : ChangeSpec := { name := "matrixSolves", fn := fun _ => fun
  | [d1, d2] => { results := [.lit (.bool false)], args := [d1, d2] }
  | _ => none }
def MatrixSolvesWrongFalsely : Prop := matrixSolvesRow.holds Try.pinned (OpenSpec.ofChange matrixSolvesWrong)

/-- 'wholelaw.GridSays': WHATEVER THE INPUT: true; the input reads as it did. -/
def gridSaysSpec : ChangeSpec := { name := "gridSays", fn := fun _ => fun
  | [d1, d2, d3] => { results := [.lit (.bool true)], args := [d1, d2, d3] }
  | _ => none }
def gridSaysRow : OpenClaim := { program := "ytgdcmebhopjfaaa", sum := "e25765999a2ef08e14085c946622add0fbfd9aa223f014c20c922b09d098fe76", func := "wholemend/wholelaw.GridSays", spec := "gridSays", unfollowed := true, recurses := true, apart := false }
def GridSaysSaid : Prop := gridSaysRow.holds Try.pinned (OpenSpec.ofChange gridSaysSpec)

/-- ITS FALSE NEIGHBOUR: 'it returns false'. Refute it at one input. -/
def gridSaysWrong : ChangeSpec := { name := "gridSays", fn := fun _ => fun
  | [d1, d2, d3] => { results := [.lit (.bool false)], args := [d1, d2, d3] }
  | _ => none }
def GridSaysWrongFalsely : Prop := gridSaysRow.holds Try.pinned (OpenSpec.ofChange gridSaysWrong)

/-- 'wholetop.TopRows': WHATEVER THE INPUT: true; the input reads as it did. -/
def topRowsSpec : ChangeSpec := { name := "topRows", fn := fun _ => fun
  | [d1, d2, d3, d4, d5] => { results := [.lit (.bool true)], args := [d1, d2, d3, d4, d5] }
  | _ => none }
def topRowsRow : OpenClaim := { program := "ytgdcmebhopjfaaa", sum := "e25765999a2ef08e14085c946622add0fbfd9aa223f014c20c922b09d098fe76", func := "wholemend/wholetop.TopRows", spec := "topRows", unfollowed := true, recurses := true, apart := false }
def TopRowsSaid : Prop := topRowsRow.holds Try.pinned (OpenSpec.ofChange topRowsSpec)

/-- ITS FALSE NEIGHBOUR: 'it returns false'. Refute it at one input. -/
def topRowsWrong : ChangeSpec := { name := "topRows", fn := fun _ => fun
  | [d1, d2, d3, d4, d5] => { results := [.lit (.bool false)], args := [d1, d2, d3, d4, d5] }
  | _ => none }
def TopRowsWrongFalsely : Prop := topRowsRow.holds Try.pinned (OpenSpec.ofChange topRowsWrong)

/-- 'wholelaw.FracNear': WHATEVER THE INPUT: true; the input reads as it did. -/
def fracNearSpec : ChangeSpec := { name := "fracNear", fn := fun _ => fun
  | [d1, d2, d3] => { results := [.lit (.bool true)], args := [d1, d2, d3] }
  | _ => none }
def fracNearRow : OpenClaim := { program := "ytgdcmebhopjfaaa", sum := "e25765999a2ef08e14085c946622add0fbfd9aa223f014c20c922b09d098fe76", func := "wholemend/wholelaw.FracNear", spec := "fracNear", unfollowed := true, recurses := true, apart := false }
def FracNearSaid : Prop := fracNearRow.holds Try.pinned (OpenSpec.ofChange fracNearSpec)

/-- ITS FALSE NEIGHBOUR: 'it returns false'. Refute it at one input. -/
def fracNearWrong : ChangeSpec := { name := "fracNear", fn := fun _ => fun
  | [d1, d2, d3] => { results := [.lit (.bool false)], args := [d1, d2, d3] }
  | _ => none }
def FracNearWrongFalsely : Prop := fracNearRow.holds Try.pinned (OpenSpec.ofChange fracNearWrong)

/-- 'wholelaw.PieceSays': WHATEVER THE INPUT: true; the input reads as it did. -/
def pieceSaysSpec : ChangeSpec := { name := "pieceSays", fn := fun _ => fun
  | [d1, d2, d3, d4] => { results := [.lit (.bool true)], args := [d1, d2, d3, d4] }
  | _ => none }
def pieceSaysRow : OpenClaim := { program := "ytgdcmebhopjfaaa", sum := "e25765999a2ef08e14085c946622add0fbfd9aa223f014c20c922b09d098fe76", func := "wholemend/wholelaw.PieceSays", spec := "pieceSays", inPlace := ["internal/abi.NoEscape", "internal/bytealg.MakeNoZero"], apart := false }
def PieceSaysSaid : Prop := pieceSaysRow.holds Try.pinned (OpenSpec.ofChange pieceSaysSpec)

/-- ITS FALSE NEIGHBOUR: 'it returns false'. Refute it at one input. -/
def pieceSaysWrong : ChangeSpec := { name := "pieceSays", fn := fun _ => fun
  | [d1, d2, d3, d4] => { results := [.lit (.bool false)], args := [d1, d2, d3, d4] }
  | _ => none }
def PieceSaysWrongFalsely : Prop := pieceSaysRow.holds Try.pinned (OpenSpec.ofChange pieceSaysWrong)

/- THE SECOND FORM. 'bulk': how many values and letters a reading holds, each counted each time it is reached (what is shared counts as often as it is met; a slice's spare places count too). A statement '..UptoSaid' is the law's where the arguments, and the package variables that the reading takes, are together of bulk at most 1048576: NARROWER than '..Said'. Prove '..Said' where nothing that the law and all that it calls make is longer than what came in: it says more and counts as full. Else prove '..UptoSaid'. A law counts once. -/
mutual
def uptoBulk {H : Type} : DataW H → Nat
  | .lit (.string bytes) => bytes.length + 1
  | .lit _ => 1
  | .nil => 1
  | .ptr d => uptoBulk d + 1
  | .slice elems spare => uptoBulkAll elems + uptoBulkAll spare + 1
  | .agg parts => uptoBulkAll parts + 1
  | .iface _ d => uptoBulk d + 1
  | .map entries => uptoBulkEntries entries + 1
  | .held _ => 1
def uptoBulkAll {H : Type} : List (DataW H) → Nat
  | [] => 0
  | d :: r => uptoBulk d + uptoBulkAll r
def uptoBulkEntries {H : Type} : List (Lit × DataW H) → Nat
  | [] => 0
  | x :: r => uptoBulkEntry x + uptoBulkEntries r
def uptoBulkEntry {H : Type} : Lit × DataW H → Nat
  | (.string bytes, d) => bytes.length + uptoBulk d + 1
  | (_, d) => uptoBulk d + 1
 end
def uptoSmall : (H : Type) → List (DataW H) → Bool := fun _ ds => decide (uptoBulkAll ds ≤ 1048576)
def OpenSpec.upto (s : _root_.Go.ChangeSpec) : _root_.Go.OpenSpec := { _root_.Go.OpenSpec.ofChange s with cond := some uptoSmall }

/-- 'wholetop.TopShares', WHERE WHAT IT READS IS OF BULK AT MOST 1048576: true; the input reads as it did. -/
def topSharesUptoRow : OpenClaim := { program := "ytgdcmebhopjfaaa", sum := "e25765999a2ef08e14085c946622add0fbfd9aa223f014c20c922b09d098fe76", func := "wholemend/wholetop.TopShares", spec := "topShares", unfollowed := true, recurses := true, apart := false, narrowed := true }
def TopSharesUptoSaid : Prop := topSharesUptoRow.holds Try.pinned (OpenSpec.upto topSharesSpec)

/-- 'wholelaw.DivideSays', WHERE WHAT IT READS IS OF BULK AT MOST 1048576: true; the input reads as it did. -/
def divideSaysUptoRow : OpenClaim := { program := "ytgdcmebhopjfaaa", sum := "e25765999a2ef08e14085c946622add0fbfd9aa223f014c20c922b09d098fe76", func := "wholemend/wholelaw.DivideSays", spec := "divideSays", recurses := true, apart := false, narrowed := true }
def DivideSaysUptoSaid : Prop := divideSaysUptoRow.holds Try.pinned (OpenSpec.upto divideSaysSpec)

/-- 'wholelaw.PairSays', WHERE WHAT IT READS IS OF BULK AT MOST 1048576: true; the input reads as it did. -/
def pairSaysUptoRow : OpenClaim := { program := "ytgdcmebhopjfaaa", sum := "e25765999a2ef08e14085c946622add0fbfd9aa223f014c20c922b09d098fe76", func := "wholemend/wholelaw.PairSays", spec := "pairSays", apart := false, narrowed := true }
def PairSaysUptoSaid : Prop := pairSaysUptoRow.holds Try.pinned (OpenSpec.upto pairSaysSpec)

/-- 'wholelaw.MatrixSays', WHERE WHAT IT READS IS OF BULK AT MOST 1048576: true; the input reads as it did. -/
def matrixSaysUptoRow : OpenClaim := { program := "ytgdcmebhopjfaaa", sum := "e25765999a2ef08e14085c946622add0fbfd9aa223f014c20c922b09d098fe76", func := "wholemend/wholelaw.MatrixSays", spec := "matrixSays", unfollowed := true, recurses := true, apart := false, narrowed := true }
def MatrixSaysUptoSaid : Prop := matrixSaysUptoRow.holds Try.pinned (OpenSpec.upto matrixSaysSpec)

/-- 'wholelaw.MatrixSolves', WHERE WHAT IT READS IS OF BULK AT MOST 1048576: true; the input reads as it did. -/
def matrixSolvesUptoRow : OpenClaim := { program := "ytgdcmebhopjfaaa", sum := "e25765999a2ef08e14085c946622add0fbfd9aa223f014c20c922b09d098fe76", func := "wholemend/wholelaw.MatrixSolves", spec := "matrixSolves", unfollowed := true, recurses := true, apart := false, narrowed := true }
def MatrixSolvesUptoSaid : Prop := matrixSolvesUptoRow.holds Try.pinned (OpenSpec.upto matrixSolvesSpec)

/-- 'wholelaw.GridSays', WHERE WHAT IT READS IS OF BULK AT MOST 1048576: true; the input reads as it did. -/
def gridSaysUptoRow : OpenClaim := { program := "ytgdcmebhopjfaaa", sum := "e25765999a2ef08e14085c946622add0fbfd9aa223f014c20c922b09d098fe76", func := "wholemend/wholelaw.GridSays", spec := "gridSays", unfollowed := true, recurses := true, apart := false, narrowed := true }
def GridSaysUptoSaid : Prop := gridSaysUptoRow.holds Try.pinned (OpenSpec.upto gridSaysSpec)

/-- 'wholetop.TopRows', WHERE WHAT IT READS IS OF BULK AT MOST 1048576: true; the input reads as it did. -/
def topRowsUptoRow : OpenClaim := { program := "ytgdcmebhopjfaaa", sum := "e25765999a2ef08e14085c946622add0fbfd9aa223f014c20c922b09d098fe76", func := "wholemend/wholetop.TopRows", spec := "topRows", unfollowed := true, recurses := true, apart := false, narrowed := true }
def TopRowsUptoSaid : Prop := topRowsUptoRow.holds Try.pinned (OpenSpec.upto topRowsSpec)

/-- 'wholelaw.FracNear', WHERE WHAT IT READS IS OF BULK AT MOST 1048576: true; the input reads as it did. -/
def fracNearUptoRow : OpenClaim := { program := "ytgdcmebhopjfaaa", sum := "e25765999a2ef08e14085c946622add0fbfd9aa223f014c20c922b09d098fe76", func := "wholemend/wholelaw.FracNear", spec := "fracNear", unfollowed := true, recurses := true, apart := false, narrowed := true }
def FracNearUptoSaid : Prop := fracNearUptoRow.holds Try.pinned (OpenSpec.upto fracNearSpec)

/-- 'wholelaw.PieceSays', WHERE WHAT IT READS IS OF BULK AT MOST 1048576: true; the input reads as it did. -/
def pieceSaysUptoRow : OpenClaim := { program := "ytgdcmebhopjfaaa", sum := "e25765999a2ef08e14085c946622add0fbfd9aa223f014c20c922b09d098fe76", func := "wholemend/wholelaw.PieceSays", spec := "pieceSays", inPlace := ["internal/abi.NoEscape", "internal/bytealg.MakeNoZero"], apart := false, narrowed := true }
def PieceSaysUptoSaid : Prop := pieceSaysUptoRow.holds Try.pinned (OpenSpec.upto pieceSaysSpec)

end Rows
end Go.Proofs.Ytgdcmebhopjfaaa
