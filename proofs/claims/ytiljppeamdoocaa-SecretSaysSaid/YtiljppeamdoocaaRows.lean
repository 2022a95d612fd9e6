/-
  No cell of these rows narrows 'for every input' (looked for: loops, veiled, ifaces, maps, wideKeys, modest, calm, conditions, laid).
  DERIVED. THE GIVEN ROWS OF THIS SEAT. 9 by the template 'for every input the law returns true; each argument reads behind the call as it read before'; 0 by the template 'total and deterministic' (their statements: YtiljppeamdoocaaTotals.lean).
  GIVEN WITH THE SEED: the statements are not yours to turn. If you find one false, say at which input.
  Laid BY PROGRAM, IN A SANDBOX (cutbox-rows.mjs): the forced cells as the released guide's own fill.sh prints them over the translation 03ce4bb8de370711… (all of the seat's roots in one cut). By AI agents, Wed Nov 11 2026. No macro, syntax, notation, axiom, sorry.
-/
import Derived.Test.YtiljppeamdoocaaChecked
import GoSem.Claim
import GoSem.ClaimJoined
import GoSem.ClaimMapViews
import Derived.JoinedTies
import Derived.KernelRfl
namespace Go.Proofs.Ytiljppeamdoocaa
/- THE CELL 'sum', in the pinned program and in every row, IS THE sha256 OF THE DUMP (.gsa) THAT YtiljppeamdoocaaProg.lean LOADS. Nothing in Lean hashes anything: it is a label: what it is worth is what the hold of that sum in a sandbox is worth. -/
noncomputable def Try.pinned : Pinned := { name := "ytiljppeamdoocaa", sum := "03ce4bb8de37071102ea33ca85fe28726ace072f913fa2ed50b2874ffa13aeea", checked := Try.checked }
namespace Rows
def none {H : Type} : Left H := { results := [], args := [] }

/-- 'wholelaw.FracSays': WHATEVER THE INPUT: true; the input reads as it did. -/
def fracSaysSpec : ChangeSpec := { name := "fracSays", fn := fun _ => fun
  | [d1, d2] => { results := [.lit (.bool true)], args := [d1, d2] }
  | _ => none }
def fracSaysRow : OpenClaim := { program := "ytiljppeamdoocaa", sum := "03ce4bb8de37071102ea33ca85fe28726ace072f913fa2ed50b2874ffa13aeea", func := "wholemend/wholelaw.FracSays", spec := "fracSays", unfollowed := true, recurses := true, apart := false }
def FracSaysSaid : Prop := fracSaysRow.holds Try.pinned (OpenSpec.ofChange fracSaysSpec)

/-- ITS FALSE NEIGHBOUR: 'it returns false'. Refute it at one input. -/
def fracSaysWrong : ChangeSpec := { name := "fracSays", fn := fun _ => fun
  | [d1, d2] => { results := [.lit (.bool false)], args := [d1, d2] }
  | _ => none }
def FracSaysWrongFalsely : Prop := fracSaysRow.holds Try.pinned (OpenSpec.ofChange fracSaysWrong)

/-- 'wholetop.TopShares': WHATEVER THE INPUT: true; the input reads as it did. -/
def topSharesSpec : ChangeSpec := { name := "topShares", fn := fun _ => fun
  | [d1, d2, d3, d4] => { results := [.lit (.bool true)], args := [d1, d2, d3, d4] }
  | _ => none }
def topSharesRow : OpenClaim := { program := "ytiljppeamdoocaa", sum := "03ce4bb8de37071102ea33ca85fe28726ace072f913fa2ed50b2874ffa13aeea", func := "wholemend/wholetop.TopShares", spec := "topShares", unfollowed := true, recurses := true, apart := false }
def TopSharesSaid : Prop := topSharesRow.holds Try.pinned (OpenSpec.ofChange topSharesSpec)

/-- ITS FALSE NEIGHBOUR: 'it returns false'. Refute it at one input. -/
def topSharesWrong : ChangeSpec := { name := "topShares", fn := fun _ => fun
  | [d1, d2, d3, d4] => { results := [.lit (.bool false)], args := [d1, d2, d3, d4] }
  | _ => none }
def TopSharesWrongFalsely : Prop := topSharesRow.holds Try.pinned (OpenSpec.ofChange topSharesWrong)

/-- 'wholelaw.MatrixSays': WHATEVER THE INPUT: true; the input reads as it did. -/
def matrixSaysSpec : ChangeSpec := { name := "matrixSays", fn := fun _ => fun
  | [d1, d2] => { results := [.lit (.bool true)], args := [d1, d2] }
  | _ => none }
def matrixSaysRow : OpenClaim := { program := "ytiljppeamdoocaa", sum := "03ce4bb8de37071102ea33ca85fe28726ace072f913fa2ed50b2874ffa13aeea", func := "wholemend/wholelaw.MatrixSays", spec := "matrixSays", unfollowed := true, recurses := true, apart := false }
def MatrixSaysSaid : Prop := matrixSaysRow.holds Try.pinned (OpenSpec.ofChange matrixSaysSpec)

/-- ITS FALSE NEIGHBOUR: 'it returns false'. Refute it at one input. -/
def matrixSaysWrong : ChangeSpec := { name := "matrixSays", fn := fun _ => fun
  | [d1, d2] => { results := [.lit (.bool false)], args := [d1, d2] }
  | _ => none }
def MatrixSaysWrongFalsely : Prop := matrixSaysRow.holds Try.pinned (OpenSpec.ofChange matrixSaysWrong)

/-- 'wholelaw.PolySays': WHATEVER THE INPUT: true; the input reads as it did. -/
def polySaysSpec : ChangeSpec := { name := "polySays", fn := fun _ => fun
  | [d1, d2, d3] => { results := [.lit (.bool true)], args := [d1, d2, d3] }
  | _ => none }
def polySaysRow : OpenClaim := { program := "ytiljppeamdoocaa", sum := "03ce4bb8de37071102ea33ca85fe28726ace072f913fa2ed50b2874ffa13aeea", func := "wholemend/wholelaw.PolySays", spec := "polySays", unfollowed := true, recurses := true, apart := false }
def PolySaysSaid : Prop := polySaysRow.holds Try.pinned (OpenSpec.ofChange polySaysSpec)

/-- ITS FALSE NEIGHBOUR: 'it returns false'. Refute it at one input. -/
def polySaysWrong : ChangeSpec := { name := "polySays", fn := fun _ => fun
  | [d1, d2, d3] => { results := [.lit (.bool false)], args := [d1, d2, d3] }
  | _ => none }
def PolySaysWrongFalsely : Prop := polySaysRow.holds Try.pinned (OpenSpec.ofChange polySaysWrong)

/-- 'wholelaw.PolyMore': WHATEVER THE INPUT: true; the input reads as it did. -/
def polyMoreSpec : ChangeSpec := { name := "polyMore", fn := fun _ => fun
  | [d1, d2, d3, d4] => { results := [.lit (.bool true)], args := [d1, d2, d3, d4] }
  | _ => none }
def polyMoreRow : OpenClaim := { program := "ytiljppeamdoocaa", sum := "03ce4bb8de37071102ea33ca85fe28726ace072f913fa2ed50b2874ffa13aeea", func := "wholemend/wholelaw.PolyMore", spec := "polyMore", unfollowed := true, recurses := true, apart := false }
def PolyMoreSaid : Prop := polyMoreRow.holds Try.pinned (OpenSpec.ofChange polyMoreSpec)

/-- ITS FALSE NEIGHBOUR: 'it returns false'. Refute it at one input. -/
def polyMoreWrong : ChangeSpec := { name := "polyMore", fn := fun _ => fun
  | [d1, d2, d3, d4] => { results := [.lit (.bool false)], args := [d1, d2, d3, d4] }
  | _ => none }
def PolyMoreWrongFalsely : Prop := polyMoreRow.holds Try.pinned (OpenSpec.ofChange polyMoreWrong)

/-- 'wholelaw.PointsSays': WHATEVER THE INPUT: true; the input reads as it did. -/
def pointsSaysSpec : ChangeSpec := { name := "pointsSays", fn := fun _ => fun
  | [d1, d2, d3] => { results := [.lit (.bool true)], args := [d1, d2, d3] }
  | _ => none }
def pointsSaysRow : OpenClaim := { program := "ytiljppeamdoocaa", sum := "03ce4bb8de37071102ea33ca85fe28726ace072f913fa2ed50b2874ffa13aeea", func := "wholemend/wholelaw.PointsSays", spec := "pointsSays", unfollowed := true, recurses := true, apart := false }
def PointsSaysSaid : Prop := pointsSaysRow.holds Try.pinned (OpenSpec.ofChange pointsSaysSpec)

/-- ITS FALSE NEIGHBOUR: 'it returns false'. Refute it at one input. -/
def pointsSaysWrong : ChangeSpec := { name := "pointsSays", fn := fun _ => fun
  | [d1, d2, d3] => { results := [.lit (.bool false)], args := [d1, d2, d3] }
  | _ => none }
def PointsSaysWrongFalsely : Prop := pointsSaysRow.holds Try.pinned (OpenSpec.ofChange pointsSaysWrong)

/-- 'wholelaw.SecretSays': WHATEVER THE INPUT: true; the input reads as it did. -/
def secretSaysSpec : ChangeSpec := { name := "secretSays", fn := fun _ => fun
  | [d1, d2, d3, d4, d5] => { results := [.lit (.bool true)], args := [d1, d2, d3, d4, d5] }
  | _ => none }
def secretSaysRow : OpenClaim := { program := "ytiljppeamdoocaa", sum := "03ce4bb8de37071102ea33ca85fe28726ace072f913fa2ed50b2874ffa13aeea", func := "wholemend/wholelaw.SecretSays", spec := "secretSays", unfollowed := true, recurses := true, apart := false }
def SecretSaysSaid : Prop := secretSaysRow.holds Try.pinned (OpenSpec.ofChange secretSaysSpec)

/-- ITS FALSE NEIGHBOUR: 'it returns false'. Refute it at one input. -/
def secretSaysWrong : ChangeSpec := { name := "secretSays", fn := fun _ => fun
  | [d1, d2, d3, d4, d5] => { results := [.lit (.bool false)], args := [d1, d2, d3, d4, d5] }
  | _ => none }
def SecretSaysWrongFalsely : Prop := secretSaysRow.holds Try.pinned (OpenSpec.ofChange secretSaysWrong)

/-- 'wholelaw.DivideSays': WHATEVER THE INPUT: true; the input reads as it did. -/
def divideSaysSpec : ChangeSpec := { name := "divideSays", fn := fun _ => fun
  | [d] => { results := [.lit (.bool true)], args := [d] }
  | _ => none }
def divideSaysRow : OpenClaim := { program := "ytiljppeamdoocaa", sum := "03ce4bb8de37071102ea33ca85fe28726ace072f913fa2ed50b2874ffa13aeea", func := "wholemend/wholelaw.DivideSays", spec := "divideSays", recurses := true, apart := false }
def DivideSaysSaid : Prop := divideSaysRow.holds Try.pinned (OpenSpec.ofChange divideSaysSpec)

/-- ITS FALSE NEIGHBOUR: 'it returns false'. Refute it at one input. -/
def divideSaysWrong : ChangeSpec := { name := "divideSays", fn := fun _ => fun
  | [d] => { results := [.lit (.bool false)], args := [d] }
  | _ => none }
def DivideSaysWrongFalsely : Prop := divideSaysRow.holds Try.pinned (OpenSpec.ofChange divideSaysWrong)

/-- 'wholelaw.GridSays': WHATEVER THE INPUT: true; the input reads as it did. -/
def gridSaysSpec : ChangeSpec := { name := "gridSays", fn := fun _ => fun
  | [d1, d2, d3] => { results := [.lit (.bool true)], args := [d1, d2, d3] }
  | _ => none }
def gridSaysRow : OpenClaim := { program := "ytiljppeamdoocaa", sum := "03ce4bb8de37071102ea33ca85fe28726ace072f913fa2ed50b2874ffa13aeea", func := "wholemend/wholelaw.GridSays", spec := "gridSays", unfollowed := true, recurses := true, apart := false }
def GridSaysSaid : Prop := gridSaysRow.holds Try.pinned (OpenSpec.ofChange gridSaysSpec)

/-- ITS FALSE NEIGHBOUR: 'it returns false'. Refute it at one input. -/
def gridSaysWrong : ChangeSpec := { name := "gridSays", fn := fun _ => fun
  | [d1, d2, d3] => { results := [.lit (.bool false)], args := [d1, d2, d3] }
  | _ => none }
def GridSaysWrongFalsely : Prop := gridSaysRow.holds Try.pinned (OpenSpec.ofChange gridSaysWrong)

/- THE SECOND FORM. 'bulk': how many values and letters a reading holds, each counted each time it is reached (what is shared counts as often as it is met; a slice's spare places count too). A statement '..UptoSaid' is the law's where the arguments, and the package variables that the reading takes, are together of bulk at most 1048576: NARROWER than '..Said'. Prove '..Said' where nothing that the law and all that it calls make is longer than what came in: it says more and counts as full. Else prove '..UptoSaid'. A law counts once. -/
mutual
def uptoBulk {H : Type} : DataW H → Nat
  | .lit (.string bytes) => bytes.length + 1
  | .lit _ => 1
  | .nil => 1
  | .ptr d => uptoBulk d + 1
  | .slice elems spare => uptoBulkAll elems + uptoBulkAll spare + 1
  | .agg parts => uptoBulkAll parts + 1
  | .iface _ d => uptoBulk d + 1
  | .map entries => uptoBulkEntries entries + 1
  | .held _ => 1
def uptoBulkAll {H : Type} : List (DataW H) → Nat
  | [] => 0
  | d :: r => uptoBulk d + uptoBulkAll r
def uptoBulkEntries {H : Type} : List (Lit × DataW H) → Nat
  | [] => 0
  | x :: r => uptoBulkEntry x + uptoBulkEntries r
def uptoBulkEntry {H : Type} : Lit × DataW H → Nat
  | (.string bytes, d) => bytes.length + uptoBulk d + 1
  | (_, d) => uptoBulk d + 1
 end
def uptoSmall : (H : Type) → List (DataW H) → Bool := fun _ ds => decide (uptoBulkAll ds ≤ 1048576)
def OpenSpec.upto (s : _root_.Go.ChangeSpec) : _root_.Go.OpenSpec := { _root_.Go.OpenSpec.ofChange s with cond := some uptoSmall }

/-- 'wholelaw.FracSays', WHERE WHAT IT READS IS OF BULK AT MOST 1048576: true; the input reads as it did. -/
def fracSaysUptoRow : OpenClaim := { program := "ytiljppeamdoocaa", sum := "03ce4bb8de37071102ea33ca85fe28726ace072f913fa2ed50b2874ffa13aeea", func := "wholemend/wholelaw.FracSays", spec := "fracSays", unfollowed := true, recurses := true, apart := false, narrowed := true }
def FracSaysUptoSaid : Prop := fracSaysUptoRow.holds Try.pinned (OpenSpec.upto fracSaysSpec)

/-- 'wholetop.TopShares', WHERE WHAT IT READS IS OF BULK AT MOST 1048576: true; the input reads as it did. -/
def topSharesUptoRow : OpenClaim := { program := "ytiljppeamdoocaa", sum := "03ce4bb8de37071102ea33ca85fe28726ace072f913fa2ed50b2874ffa13aeea", func := "wholemend/wholetop.TopShares", spec := "topShares", unfollowed := true, recurses := true, apart := false, narrowed := true }
def TopSharesUptoSaid : Prop := topSharesUptoRow.holds Try.pinned (OpenSpec.upto topSharesSpec)

/-- 'wholelaw.MatrixSays', WHERE WHAT IT READS IS OF BULK AT MOST 1048576: true; the input reads as it did. -/
def matrixSaysUptoRow : OpenClaim := { program := "ytiljppeamdoocaa", sum := "03ce4bb8de37071102ea33ca85fe28726ace072f913fa2ed50b2874ffa13aeea", func := "wholemend/wholelaw.MatrixSays", spec := "matrixSays", unfollowed := true, recurses := true, apart := false, narrowed := true }
def MatrixSaysUptoSaid : Prop := matrixSaysUptoRow.holds Try.pinned (OpenSpec.upto matrixSaysSpec)

/-- 'wholelaw.PolySays', WHERE WHAT IT READS IS OF BULK AT MOST 1048576: true; the input reads as it did. -/
def polySaysUptoRow : OpenClaim := { program := "ytiljppeamdoocaa", sum := "03ce4bb8de37071102ea33ca85fe28726ace072f913fa2ed50b2874ffa13aeea", func := "wholemend/wholelaw.PolySays", spec := "polySays", unfollowed := true, recurses := true, apart := false, narrowed := true }
def PolySaysUptoSaid : Prop := polySaysUptoRow.holds Try.pinned (OpenSpec.upto polySaysSpec)

/-- 'wholelaw.PolyMore', WHERE WHAT IT READS IS OF BULK AT MOST 1048576: true; the input reads as it did. -/
def polyMoreUptoRow : OpenClaim := { program := "ytiljppeamdoocaa", sum := "03ce4bb8de37071102ea33ca85fe28726ace072f913fa2ed50b2874ffa13aeea", func := "wholemend/wholelaw.PolyMore", spec := "polyMore", unfollowed := true, recurses := true, apart := false, narrowed := true }
def PolyMoreUptoSaid : Prop := polyMoreUptoRow.holds Try.pinned (OpenSpec.upto polyMoreSpec)

/-- 'wholelaw.PointsSays', WHERE WHAT IT READS IS OF BULK AT MOST 1048576: true; the input reads as it did. -/
def pointsSaysUptoRow : OpenClaim := { program := "ytiljppeamdoocaa", sum := "03ce4bb8de37071102ea33ca85fe28726ace072f913fa2ed50b2874ffa13aeea", func := "wholemend/wholelaw.PointsSays", spec := "pointsSays", unfollowed := true, recurses := true, apart := false, narrowed := true }
def PointsSaysUptoSaid : Prop := pointsSaysUptoRow.holds Try.pinned (OpenSpec.upto pointsSaysSpec)

/-- 'wholelaw.SecretSays', WHERE WHAT IT READS IS OF BULK AT MOST 1048576: true; the input reads as it did. -/
def secretSaysUptoRow : OpenClaim := { program := "ytiljppeamdoocaa", sum := "03ce4bb8de37071102ea33ca85fe28726ace072f913fa2ed50b2874ffa13aeea", func := "wholemend/wholelaw.SecretSays", spec := "secretSays", unfollowed := true, recurses := true, apart := false, narrowed := true }
def SecretSaysUptoSaid : Prop := secretSaysUptoRow.holds Try.pinned (OpenSpec.upto secretSaysSpec)

/-- 'wholelaw.DivideSays', WHERE WHAT IT READS IS OF BULK AT MOST 1048576: true; the input reads as it did. -/
def divideSaysUptoRow : OpenClaim := { program := "ytiljppeamdoocaa", sum := "03ce4bb8de37071102ea33ca85fe28726ace072f913fa2ed50b2874ffa13aeea", func := "wholemend/wholelaw.DivideSays", spec := "divideSays", recurses := true, apart := false, narrowed := true }
def DivideSaysUptoSaid : Prop := divideSaysUptoRow.holds Try.pinned (OpenSpec.upto divideSaysSpec)

/-- 'wholelaw.GridSays', WHERE WHAT IT READS IS OF BULK AT MOST 1048576: true; the input reads as it did. -/
def gridSaysUptoRow : OpenClaim := { program := "ytiljppeamdoocaa", sum := "03ce4bb8de37071102ea33ca85fe28726ace072f913fa2ed50b2874ffa13aeea", func := "wholemend/wholelaw.GridSays", spec := "gridSays", unfollowed := true, recurses := true, apart := false, narrowed := true }
def GridSaysUptoSaid : Prop := gridSaysUptoRow.holds Try.pinned (OpenSpec.upto gridSaysSpec)

end Rows
end Go.Proofs.Ytiljppeamdoocaa
