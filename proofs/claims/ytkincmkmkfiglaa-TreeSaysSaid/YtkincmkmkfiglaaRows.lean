/-
  No cell of these rows narrows 'for every input' (looked for: loops, veiled, ifaces, maps, wideKeys, modest, calm, conditions, laid).
  DERIVED. THE GIVEN ROWS OF THIS SEAT. 12 by the template 'for every input the law returns true; each argument reads behind the call as it read before'; 0 by the template 'total and deterministic' (their statements: YtkincmkmkfiglaaTotals.lean).
  GIVEN WITH THE SEED: the statements are not yours to turn. If you find one false, say at which input.
  Laid BY PROGRAM, IN A SANDBOX (cutbox-rows.mjs): the forced cells as the released guide's own fill.sh prints them over the translation bc9b80b687f88a1f… (all of the seat's roots in one cut). By AI agents, Wed Nov 11 2026. No macro, syntax, notation, axiom, sorry.
-/
import Derived.Test.YtkincmkmkfiglaaChecked
import GoSem.Claim
import GoSem.ClaimJoined
import GoSem.ClaimMapViews
import Derived.JoinedTies
import Derived.KernelRfl
namespace Go.Proofs.Ytkincmkmkfiglaa
/- THE CELL 'sum', in the pinned program and in every row, IS THE sha256 OF THE DUMP (.gsa) THAT YtkincmkmkfiglaaProg.lean LOADS. Nothing in Lean hashes anything: it is a label: what it is worth is what the hold of that sum in a sandbox is worth. -/
noncomputable def Try.pinned : Pinned := { name := "ytkincmkmkfiglaa", sum := "bc9b80b687f88a1f78052ab3fda5ca5e2f8f99a587f65f0892c0f3ac32b7e721", checked := Try.checked }
namespace Rows
def none {H : Type} : Left H := { results := [], args := [] }

/-- 'wholelaw.QuorumSays': WHATEVER THE INPUT: true; the input reads as it did. -/
def quorumSaysSpec : ChangeSpec := { name := "quorumSays", fn := fun _ => fun
  | [d1, d2, d3, d4, d5] => { results := [.lit (.bool true)], args := [d1, d2, d3, d4, d5] }
  | _ => none }
def quorumSaysRow : OpenClaim := { program := "ytkincmkmkfiglaa", sum := "bc9b80b687f88a1f78052ab3fda5ca5e2f8f99a587f65f0892c0f3ac32b7e721", func := "wholemend/wholelaw.QuorumSays", spec := "quorumSays", unfollowed := true, recurses := true, apart := false }
def QuorumSaysSaid : Prop := quorumSaysRow.holds Try.pinned (OpenSpec.ofChange quorumSaysSpec)

/-- ITS FALSE NEIGHBOUR: 'it returns false'. Refute it at one input. -/
def quorumSaysWrong : ChangeSpec := { name := "quorumSays", fn := fun _ => fun
  | [d1, d2, d3, d4, d5] => { results := [.lit (.bool false)], args := [d1, d2, d3, d4, d5] }
  | _ => none }
def QuorumSaysWrongFalsely : Prop := quorumSaysRow.holds Try.pinned (OpenSpec.ofChange quorumSaysWrong)

/-- 'wholelaw.FracSays': WHATEVER THE INPUT: true; the input reads as it did. -/
def fracSaysSpec : ChangeSpec := { name := "fracSays", fn := fun _ => fun
  | [d1, d2] => { results := [.lit (.bool true)], args := [d1, d2] }
  | _ => none }
def fracSaysRow : OpenClaim := { program := "ytkincmkmkfiglaa", sum := "bc9b80b687f88a1f78052ab3fda5ca5e2f8f99a587f65f0892c0f3ac32b7e721", func := "wholemend/wholelaw.FracSays", spec := "fracSays", unfollowed := true, recurses := true, apart := false }
def FracSaysSaid : Prop := fracSaysRow.holds Try.pinned (OpenSpec.ofChange fracSaysSpec)

/-- ITS FALSE NEIGHBOUR: 'it returns false'. Refute it at one input. -/
def fracSaysWrong : ChangeSpec := { name := "fracSays", fn := fun _ => fun
  | [d1, d2] => { results := [.lit (.bool false)], args := [d1, d2] }
  | _ => none }
def FracSaysWrongFalsely : Prop := fracSaysRow.holds Try.pinned (OpenSpec.ofChange fracSaysWrong)

/-- 'wholelaw.ChineseSays': WHATEVER THE INPUT: true; the input reads as it did. -/
def chineseSaysSpec : ChangeSpec := { name := "chineseSays", fn := fun _ => fun
  | [d1, d2, d3] => { results := [.lit (.bool true)], args := [d1, d2, d3] }
  | _ => none }
def chineseSaysRow : OpenClaim := { program := "ytkincmkmkfiglaa", sum := "bc9b80b687f88a1f78052ab3fda5ca5e2f8f99a587f65f0892c0f3ac32b7e721", func := "wholemend/wholelaw.ChineseSays", spec := "chineseSays", unfollowed := true, recurses := true, apart := false }
def ChineseSaysSaid : Prop := chineseSaysRow.holds Try.pinned (OpenSpec.ofChange chineseSaysSpec)

/-- ITS FALSE NEIGHBOUR: 'it returns false'. Refute it at one input. -/
def chineseSaysWrong : ChangeSpec := { name := "chineseSays", fn := fun _ => fun
  | [d1, d2, d3] => { results := [.lit (.bool false)], args := [d1, d2, d3] }
  | _ => none }
def ChineseSaysWrongFalsely : Prop := chineseSaysRow.holds Try.pinned (OpenSpec.ofChange chineseSaysWrong)

/-- 'wholetop.TopUnits': WHATEVER THE INPUT: true; the input reads as it did. -/
def topUnitsSpec : ChangeSpec := { name := "topUnits", fn := fun _ => fun
  | [d1, d2, d3] => { results := [.lit (.bool true)], args := [d1, d2, d3] }
  | _ => none }
def topUnitsRow : OpenClaim := { program := "ytkincmkmkfiglaa", sum := "bc9b80b687f88a1f78052ab3fda5ca5e2f8f99a587f65f0892c0f3ac32b7e721", func := "wholemend/wholetop.TopUnits", spec := "topUnits", unfollowed := true, recurses := true, apart := false }
def TopUnitsSaid : Prop := topUnitsRow.holds Try.pinned (OpenSpec.ofChange topUnitsSpec)

/-- ITS FALSE NEIGHBOUR: 'it returns false'. Refute it at one input. -/
def topUnitsWrong : ChangeSpec := { name := "topUnits", fn := fun _ => fun
  | [d1, d2, d3] => { results := [.lit (.bool false)], args := [d1, d2, d3] }
  | _ => none }
def TopUnitsWrongFalsely : Prop := topUnitsRow.holds Try.pinned (OpenSpec.ofChange topUnitsWrong)

/-- 'wholelaw.TreeSays': WHATEVER THE INPUT: true; the input reads as it did. -/
def treeSaysSpec : ChangeSpec := { name := "treeSays", fn := fun _ => fun
  | [d1, d2, d3, d4, d5, d6, d7] => { results := [.lit (.bool true)], args := [d1, d2, d3, d4, d5, d6, d7] }
  | _ => none }
def treeSaysRow : OpenClaim := { program := "ytkincmkmkfiglaa", sum := "bc9b80b687f88a1f78052ab3fda5ca5e2f8f99a587f65f0892c0f3ac32b7e721", func := "wholemend/wholelaw.TreeSays", spec := "treeSays", recurses := true, apart := false }
def TreeSaysSaid : Prop := treeSaysRow.holds Try.pinned (OpenSpec.ofChange treeSaysSpec)

/-- ITS FALSE NEIGHBOUR: 'it returns false'. Refute it at one input. -/
def treeSaysWrong : ChangeSpec := { name := "treeSays", fn := fun _ => fun
  | [d1, d2, d3, d4, d5, d6, d7] => { results := [.lit (.bool false)], args := [d1, d2, d3, d4, d5, d6, d7] }
  | _ => none }
def TreeSaysWrongFalsely : Prop := treeSaysRow.holds Try.pinned (OpenSpec.ofChange treeSaysWrong)

/-- 'wholetop.TopShares': WHATEVER THE INPUT: true; the input reads as it did. -/
def topSharesSpec : ChangeSpec := { name := "topShares", fn := fun _ => fun
  | [d1, d2, d3, d4] => { results := [.lit (.bool true)], args := [d1, d2, d3, d4] }
  | _ => none }
def topSharesRow : OpenClaim := { program := "ytkincmkmkfiglaa", sum := "bc9b80b687f88a1f78052ab3fda5ca5e2f8f99a587f65f0892c0f3ac32b7e721", func := "wholemend/wholetop.TopShares", spec := "topShares", unfollowed := true, recurses := true, apart := false }
def TopSharesSaid : Prop := topSharesRow.holds Try.pinned (OpenSpec.ofChange topSharesSpec)

/-- ITS FALSE NEIGHBOUR: 'it returns false'. Refute it at one input. -/
def topSharesWrong : ChangeSpec := { name := "topShares", fn := fun _ => fun
  | [d1, d2, d3, d4] => { results := [.lit (.bool false)], args := [d1, d2, d3, d4] }
  | _ => none }
def TopSharesWrongFalsely : Prop := topSharesRow.holds Try.pinned (OpenSpec.ofChange topSharesWrong)

/-- 'wholelaw.SquareSays': WHATEVER THE INPUT: true; the input reads as it did. -/
def squareSaysSpec : ChangeSpec := { name := "squareSays", fn := fun _ => fun
  | [d1, d2, d3] => { results := [.lit (.bool true)], args := [d1, d2, d3] }
  | _ => none }
def squareSaysRow : OpenClaim := { program := "ytkincmkmkfiglaa", sum := "bc9b80b687f88a1f78052ab3fda5ca5e2f8f99a587f65f0892c0f3ac32b7e721", func := "wholemend/wholelaw.SquareSays", spec := "squareSays", unfollowed := true, recurses := true, apart := false }
def SquareSaysSaid : Prop := squareSaysRow.holds Try.pinned (OpenSpec.ofChange squareSaysSpec)

/-- ITS FALSE NEIGHBOUR: 'it returns false'. Refute it at one input. -/
def squareSaysWrong : ChangeSpec := { name := "squareSays", fn := fun _ => fun
  | [d1, d2, d3] => { results := [.lit (.bool false)], args := [d1, d2, d3] }
  | _ => none }
def SquareSaysWrongFalsely : Prop := squareSaysRow.holds Try.pinned (OpenSpec.ofChange squareSaysWrong)

/-- 'wholelaw.ReedSays': WHATEVER THE INPUT: true; the input reads as it did. -/
def reedSaysSpec : ChangeSpec := { name := "reedSays", fn := fun _ => fun
  | [d1, d2, d3, d4] => { results := [.lit (.bool true)], args := [d1, d2, d3, d4] }
  | _ => none }
def reedSaysRow : OpenClaim := { program := "ytkincmkmkfiglaa", sum := "bc9b80b687f88a1f78052ab3fda5ca5e2f8f99a587f65f0892c0f3ac32b7e721", func := "wholemend/wholelaw.ReedSays", spec := "reedSays", apart := false }
def ReedSaysSaid : Prop := reedSaysRow.holds Try.pinned (OpenSpec.ofChange reedSaysSpec)

/-- ITS FALSE NEIGHBOUR: 'it returns false'. Refute it at one input. -/
def reedSaysWrong : ChangeSpec := { name := "reedSays", fn := fun _ => fun
  | [d1, d2, d3, d4] => { results := [.lit (.bool false)], args := [d1, d2, d3, d4] }
  | _ => none }
def ReedSaysWrongFalsely : Prop := reedSaysRow.holds Try.pinned (OpenSpec.ofChange reedSaysWrong)

/-- 'wholelaw.WelchSays': WHATEVER THE INPUT: true; the input reads as it did. -/
def welchSaysSpec : ChangeSpec := { name := "welchSays", fn := fun _ => fun
  | [d1, d2] => { results := [.lit (.bool true)], args := [d1, d2] }
  | _ => none }
def welchSaysRow : OpenClaim := { program := "ytkincmkmkfiglaa", sum := "bc9b80b687f88a1f78052ab3fda5ca5e2f8f99a587f65f0892c0f3ac32b7e721", func := "wholemend/wholelaw.WelchSays", spec := "welchSays", apart := false }
def WelchSaysSaid : Prop := welchSaysRow.holds Try.pinned (OpenSpec.ofChange welchSaysSpec)

/-- ITS FALSE NEIGHBOUR: 'it returns false'. Refute it at one input. -/
def welchSaysWrong : ChangeSpec := { name := "welchSays", fn := fun _ => fun
  | [d1, d2] => { results := [.lit (.bool false)], args := [d1, d2] }
  | _ => none }
def WelchSaysWrongFalsely : Prop := welchSaysRow.holds Try.pinned (OpenSpec.ofChange welchSaysWrong)

/-- 'wholetop.TopRows': WHATEVER THE INPUT: true; the input reads as it did. -/
def topRowsSpec : ChangeSpec := { name := "topRows", fn := fun _ => fun
  | [d1, d2, d3, d4, d5] => { results := [.lit (.bool true)], args := [d1, d2, d3, d4, d5] }
  | _ => none }
def topRowsRow : OpenClaim := { program := "ytkincmkmkfiglaa", sum := "bc9b80b687f88a1f78052ab3fda5ca5e2f8f99a587f65f0892c0f3ac32b7e721", func := "wholemend/wholetop.TopRows", spec := "topRows", unfollowed := true, recurses := true, apart := false }
def TopRowsSaid : Prop := topRowsRow.holds Try.pinned (OpenSpec.ofChange topRowsSpec)

/-- ITS FALSE NEIGHBOUR: 'it returns false'. Refute it at one input. -/
def topRowsWrong : ChangeSpec := { name := "topRows", fn := fun _ => fun
  | [d1, d2, d3, d4, d5] => { results := [.lit (.bool false)], args := [d1, d2, d3, d4, d5] }
  | _ => none }
def TopRowsWrongFalsely : Prop := topRowsRow.holds Try.pinned (OpenSpec.ofChange topRowsWrong)

/-- 'wholelaw.PairSays': WHATEVER THE INPUT: true; the input reads as it did. -/
def pairSaysSpec : ChangeSpec := { name := "pairSays", fn := fun _ => fun
  | [d1, d2, d3, d4] => { results := [.lit (.bool true)], args := [d1, d2, d3, d4] }
  | _ => none }
def pairSaysRow : OpenClaim := { program := "ytkincmkmkfiglaa", sum := "bc9b80b687f88a1f78052ab3fda5ca5e2f8f99a587f65f0892c0f3ac32b7e721", func := "wholemend/wholelaw.PairSays", spec := "pairSays", apart := false }
def PairSaysSaid : Prop := pairSaysRow.holds Try.pinned (OpenSpec.ofChange pairSaysSpec)

/-- ITS FALSE NEIGHBOUR: 'it returns false'. Refute it at one input. -/
def pairSaysWrong : ChangeSpec := { name := "pairSays", fn := fun _ => fun
  | [d1, d2, d3, d4] => { results := [.lit (.bool false)], args := [d1, d2, d3, d4] }
  | _ => none }
def PairSaysWrongFalsely : Prop := pairSaysRow.holds Try.pinned (OpenSpec.ofChange pairSaysWrong)

/-- 'wholelaw.MatrixSays': WHATEVER THE INPUT: true; the input reads as it did. -/
def matrixSaysSpec : ChangeSpec := { name := "matrixSays", fn := fun _ => fun
  | [d1, d2] => { results := [.lit (.bool true)], args := [d1, d2] }
  | _ => none }
def matrixSaysRow : OpenClaim := { program := "ytkincmkmkfiglaa", sum := "bc9b80b687f88a1f78052ab3fda5ca5e2f8f99a587f65f0892c0f3ac32b7e721", func := "wholemend/wholelaw.MatrixSays", spec := "matrixSays", unfollowed := true, recurses := true, apart := false }
def MatrixSaysSaid : Prop := matrixSaysRow.holds Try.pinned (OpenSpec.ofChange matrixSaysSpec)

/-- ITS FALSE NEIGHBOUR: 'it returns false'. Refute it at one input. -/
def matrixSaysWrong : ChangeSpec := { name := "matrixSays", fn := fun _ => fun
  | [d1, d2] => { results := [.lit (.bool false)], args := [d1, d2] }
  | _ => none }
def MatrixSaysWrongFalsely : Prop := matrixSaysRow.holds Try.pinned (OpenSpec.ofChange matrixSaysWrong)

/- THE SECOND FORM. 'bulk': how many values and letters a reading holds, each counted each time it is reached (what is shared counts as often as it is met; a slice's spare places count too). A statement '..UptoSaid' is the law's where the arguments, and the package variables that the reading takes, are together of bulk at most 1048576: NARROWER than '..Said'. Prove '..Said' where nothing that the law and all that it calls make is longer than what came in: it says more and counts as full. Else prove '..UptoSaid'. A law counts once. -/
mutual
def uptoBulk {H : Type} : DataW H → Nat
  | .lit (.string bytes) => bytes.length + 1
  | .lit _ => 1
  | .nil => 1
  | .ptr d => uptoBulk d + 1
  | .slice elems spare => uptoBulkAll elems + uptoBulkAll spare + 1
  | .agg parts => uptoBulkAll parts + 1
  | .iface _ d => uptoBulk d + 1
  | .map entries => uptoBulkEntries entries + 1
  | .held _ => 1
def uptoBulkAll {H : Type} : List (DataW H) → Nat
  | [] => 0
  | d :: r => uptoBulk d + uptoBulkAll r
def uptoBulkEntries {H : Type} : List (Lit × DataW H) → Nat
  | [] => 0
  | x :: r => uptoBulkEntry x + uptoBulkEntries r
def uptoBulkEntry {H : Type} : Lit × DataW H → Nat
  | (.string bytes, d) => bytes.length + uptoBulk d + 1
  | (_, d) => uptoBulk d + 1
 end
def uptoSmall : (H : Type) → List (DataW H) → Bool := fun _ ds => decide (uptoBulkAll ds ≤ 1048576)
def OpenSpec.upto (s : _root_.Go.ChangeSpec) : _root_.Go.OpenSpec := { _root_.Go.OpenSpec.ofChange s with cond := some uptoSmall }

/-- 'wholelaw.QuorumSays', WHERE WHAT IT READS IS OF BULK AT MOST 1048576: true; the input reads as it did. -/
def quorumSaysUptoRow : OpenClaim := { program := "ytkincmkmkfiglaa", sum := "bc9b80b687f88a1f78052ab3fda5ca5e2f8f99a587f65f0892c0f3ac32b7e721", func := "wholemend/wholelaw.QuorumSays", spec := "quorumSays", unfollowed := true, recurses := true, apart := false, narrowed := true }
def QuorumSaysUptoSaid : Prop := quorumSaysUptoRow.holds Try.pinned (OpenSpec.upto quorumSaysSpec)

/-- 'wholelaw.FracSays', WHERE WHAT IT READS IS OF BULK AT MOST 1048576: true; the input reads as it did. -/
def fracSaysUptoRow : OpenClaim := { program := "ytkincmkmkfiglaa", sum := "bc9b80b687f88a1f78052ab3fda5ca5e2f8f99a587f65f0892c0f3ac32b7e721", func := "wholemend/wholelaw.FracSays", spec := "fracSays", unfollowed := true, recurses := true, apart := false, narrowed := true }
def FracSaysUptoSaid : Prop := fracSaysUptoRow.holds Try.pinned (OpenSpec.upto fracSaysSpec)

/-- 'wholelaw.ChineseSays', WHERE WHAT IT READS IS OF BULK AT MOST 1048576: true; the input reads as it did. -/
def chineseSaysUptoRow : OpenClaim := { program := "ytkincmkmkfiglaa", sum := "bc9b80b687f88a1f78052ab3fda5ca5e2f8f99a587f65f0892c0f3ac32b7e721", func := "wholemend/wholelaw.ChineseSays", spec := "chineseSays", unfollowed := true, recurses := true, apart := false, narrowed := true }
def ChineseSaysUptoSaid : Prop := chineseSaysUptoRow.holds Try.pinned (OpenSpec.upto chineseSaysSpec)

/-- 'wholetop.TopUnits', WHERE WHAT IT READS IS OF BULK AT MOST 1048576: true; the input reads as it did. -/
def topUnitsUptoRow : OpenClaim := { program := "ytkincmkmkfiglaa", sum := "bc9b80b687f88a1f78052ab3fda5ca5e2f8f99a587f65f0892c0f3ac32b7e721", func := "wholemend/wholetop.TopUnits", spec := "topUnits", unfollowed := true, recurses := true, apart := false, narrowed := true }
def TopUnitsUptoSaid : Prop := topUnitsUptoRow.holds Try.pinned (OpenSpec.upto topUnitsSpec)

/-- 'wholelaw.TreeSays', WHERE WHAT IT READS IS OF BULK AT MOST 1048576: true; the input reads as it did. -/
def treeSaysUptoRow : OpenClaim := { program := "ytkincmkmkfiglaa", sum := "bc9b80b687f88a1f78052ab3fda5ca5e2f8f99a587f65f0892c0f3ac32b7e721", func := "wholemend/wholelaw.TreeSays", spec := "treeSays", recurses := true, apart := false, narrowed := true }
def TreeSaysUptoSaid : Prop := treeSaysUptoRow.holds Try.pinned (OpenSpec.upto treeSaysSpec)

/-- 'wholetop.TopShares', WHERE WHAT IT READS IS OF BULK AT MOST 1048576: true; the input reads as it did. -/
def topSharesUptoRow : OpenClaim := { program := "ytkincmkmkfiglaa", sum := "bc9b80b687f88a1f78052ab3fda5ca5e2f8f99a587f65f0892c0f3ac32b7e721", func := "wholemend/wholetop.TopShares", spec := "topShares", unfollowed := true, recurses := true, apart := false, narrowed := true }
def TopSharesUptoSaid : Prop := topSharesUptoRow.holds Try.pinned (OpenSpec.upto topSharesSpec)

/-- 'wholelaw.SquareSays', WHERE WHAT IT READS IS OF BULK AT MOST 1048576: true; the input reads as it did. -/
def squareSaysUptoRow : OpenClaim := { program := "ytkincmkmkfiglaa", sum := "bc9b80b687f88a1f78052ab3fda5ca5e2f8f99a587f65f0892c0f3ac32b7e721", func := "wholemend/wholelaw.SquareSays", spec := "squareSays", unfollowed := true, recurses := true, apart := false, narrowed := true }
def SquareSaysUptoSaid : Prop := squareSaysUptoRow.holds Try.pinned (OpenSpec.upto squareSaysSpec)

/-- 'wholelaw.ReedSays', WHERE WHAT IT READS IS OF BULK AT MOST 1048576: true; the input reads as it did. -/
def reedSaysUptoRow : OpenClaim := { program := "ytkincmkmkfiglaa", sum := "bc9b80b687f88a1f78052ab3fda5ca5e2f8f99a587f65f0892c0f3ac32b7e721", func := "wholemend/wholelaw.ReedSays", spec := "reedSays", apart := false, narrowed := true }
def ReedSaysUptoSaid : Prop := reedSaysUptoRow.holds Try.pinned (OpenSpec.upto reedSaysSpec)

/-- 'wholelaw.WelchSays', WHERE WHAT IT READS IS OF BULK AT MOST 1048576: true; the input reads as it did. -/
def welchSaysUptoRow : OpenClaim := { program := "ytkincmkmkfiglaa", sum := "bc9b80b687f88a1f78052ab3fda5ca5e2f8f99a587f65f0892c0f3ac32b7e721", func := "wholemend/wholelaw.WelchSays", spec := "welchSays", apart := false, narrowed := true }
def WelchSaysUptoSaid : Prop := welchSaysUptoRow.holds Try.pinned (OpenSpec.upto welchSaysSpec)

/-- 'wholetop.TopRows', WHERE WHAT IT READS IS OF BULK AT MOST 1048576: true; the input reads as it did. -/
def topRowsUptoRow : OpenClaim := { program := "ytkincmkmkfiglaa", sum := "bc9b80b687f88a1f78052ab3fda5ca5e2f8f99a587f65f0892c0f3ac32b7e721", func := "wholemend/wholetop.TopRows", spec := "topRows", unfollowed := true, recurses := true, apart := false, narrowed := true }
def TopRowsUptoSaid : Prop := topRowsUptoRow.holds Try.pinned (OpenSpec.upto topRowsSpec)

/-- 'wholelaw.PairSays', WHERE WHAT IT READS IS OF BULK AT MOST 1048576: true; the input reads as it did. -/
def pairSaysUptoRow : OpenClaim := { program := "ytkincmkmkfiglaa", sum := "bc9b80b687f88a1f78052ab3fda5ca5e2f8f99a587f65f0892c0f3ac32b7e721", func := "wholemend/wholelaw.PairSays", spec := "pairSays", apart := false, narrowed := true }
def PairSaysUptoSaid : Prop := pairSaysUptoRow.holds Try.pinned (OpenSpec.upto pairSaysSpec)

/-- 'wholelaw.MatrixSays', WHERE WHAT IT READS IS OF BULK AT MOST 1048576: true; the input reads as it did. -/
def matrixSaysUptoRow : OpenClaim := { program := "ytkincmkmkfiglaa", sum := "bc9b80b687f88a1f78052ab3fda5ca5e2f8f99a587f65f0892c0f3ac32b7e721", func := "wholemend/wholelaw.MatrixSays", spec := "matrixSays", unfollowed := true, recurses := true, apart := false, narrowed := true }
def MatrixSaysUptoSaid : Prop := matrixSaysUptoRow.holds Try.pinned (OpenSpec.upto matrixSaysSpec)

end Rows
end Go.Proofs.Ytkincmkmkfiglaa
