/-
  No cell of these rows narrows 'for every input' (looked for: loops, veiled, ifaces, maps, wideKeys, modest, calm, conditions, laid).
  DERIVED. THE GIVEN ROWS OF THIS SEAT. 4 by the template 'for every input the law returns true; each argument reads behind the call as it read before'; 0 by the template 'total and deterministic' (their statements: YtmeffbooabionaaTotals.lean).
  GIVEN WITH THE SEED: the statements are not yours to turn. If you find one false, say at which input.
  Laid BY PROGRAM, IN A SANDBOX (cutbox-rows.mjs): the forced cells as the released guide's own fill.sh prints them over the translation 729c0b819d98ad8f… (all of the seat's roots in one cut). By AI agents, Wed Nov 11 2026. No macro, syntax, notation, axiom, sorry.
-/
import Derived.Test.YtmeffbooabionaaChecked
import GoSem.Claim
import GoSem.ClaimJoined
import GoSem.ClaimMapViews
import Derived.JoinedTies
import Derived.KernelRfl
namespace Go.Proofs.Ytmeffbooabionaa
/- THE CELL 'sum', in the pinned program and in every row, IS THE sha256 OF THE DUMP (.gsa) THAT YtmeffbooabionaaProg.lean LOADS. Nothing in Lean hashes anything: it is a label: what it is worth is what the hold of that sum in a sandbox is worth. -/
noncomputable def Try.pinned : Pinned := { name := "ytmeffbooabionaa", sum := "729c0b819d98ad8ffed7761762e99607d6d334ba61f7888d957c02fbecb1bd46", checked := Try.checked }
namespace Rows
def none {H : Type} : Left H := { results := [], args := [] }

/-- 'wholelaw.LinearDual': WHATEVER THE INPUT: true; the input reads as it did. -/
def linearDualSpec : ChangeSpec := { name := "linearDual", fn := fun _ => fun
  | [d1, d2] => { results := [.lit (.bool true)], args := [d1, d2] }
  | _ => none }
def linearDualRow : OpenClaim := { program := "ytmeffbooabionaa", sum := "729c0b819d98ad8ffed7761762e99607d6d334ba61f7888d957c02fbecb1bd46", func := "wholemend/wholelaw.LinearDual", spec := "linearDual", unfollowed := true, recurses := true, apart := false }
def LinearDualSaid : Prop := linearDualRow.holds Try.pinned (OpenSpec.ofChange linearDualSpec)

/-- ITS FALSE NEIGHBOUR: 'it returns false'. Refute it at one input. -/
def linearDualWrong : ChangeSpec := { name := "linearDual", fn := fun _ => fun
  | [d1, d2] => { results := [.lit (.bool false)], args := [d1, d2] }
  | _ => none }
def LinearDualWrongFalsely : Prop := linearDualRow.holds Try.pinned (OpenSpec.ofChange linearDualWrong)

/-- 'wholelaw.LinearSays': WHATEVER THE INPUT: true; the input reads as it did. -/
def linearSaysSpec : ChangeSpec := { name := "linearSays", fn := fun _ => fun
  | [d1, d2] => { results := [.lit (.bool true)], args := [d1, d2] }
  | _ => none }
def linearSaysRow : OpenClaim := { program := "ytmeffbooabionaa", sum := "729c0b819d98ad8ffed7761762e99607d6d334ba61f7888d957c02fbecb1bd46", func := "wholemend/wholelaw.LinearSays", spec := "linearSays", unfollowed := true, recurses := true, apart := false }
def LinearSaysSaid : Prop := linearSaysRow.holds Try.pinned (OpenSpec.ofChange linearSaysSpec)

/-- ITS FALSE NEIGHBOUR: 'it returns false'. Refute it at one input. -/
def linearSaysWrong : ChangeSpec := { name := "linearSays", fn := fun _ => fun
  | [d1, d2] => { results := [.lit (.bool false)], args := [d1, d2] }
  | _ => none }
def LinearSaysWrongFalsely : Prop := linearSaysRow.holds Try.pinned (OpenSpec.ofChange linearSaysWrong)

/-- 'wholelaw.IrredSays': WHATEVER THE INPUT: true; the input reads as it did. -/
def irredSaysSpec : ChangeSpec := { name := "irredSays", fn := fun _ => fun
  | [d1, d2, d3] => { results := [.lit (.bool true)], args := [d1, d2, d3] }
  | _ => none }
def irredSaysRow : OpenClaim := { program := "ytmeffbooabionaa", sum := "729c0b819d98ad8ffed7761762e99607d6d334ba61f7888d957c02fbecb1bd46", func := "wholemend/wholelaw.IrredSays", spec := "irredSays", unfollowed := true, recurses := true, apart := false }
def IrredSaysSaid : Prop := irredSaysRow.holds Try.pinned (OpenSpec.ofChange irredSaysSpec)

/-- ITS FALSE NEIGHBOUR: 'it returns false'. Refute it at one input. -/
def irredSaysWrong : ChangeSpec := { name := "irredSays", fn := fun _ => fun
  | [d1, d2, d3] => { results := [.lit (.bool false)], args := [d1, d2, d3] }
  | _ => none }
def IrredSaysWrongFalsely : Prop := irredSaysRow.holds Try.pinned (OpenSpec.ofChange irredSaysWrong)

/-- 'wholetop.TopHamming': WHATEVER THE INPUT: true; the input reads as it did. -/
def topHammingSpec : ChangeSpec := { name := "topHamming", fn := fun _ => fun
  | [d] => { results := [.lit (.bool true)], args := [d] }
  | _ => none }
def topHammingRow : OpenClaim := { program := "ytmeffbooabionaa", sum := "729c0b819d98ad8ffed7761762e99607d6d334ba61f7888d957c02fbecb1bd46", func := "wholemend/wholetop.TopHamming", spec := "topHamming", unfollowed := true, recurses := true, apart := false }
def TopHammingSaid : Prop := topHammingRow.holds Try.pinned (OpenSpec.ofChange topHammingSpec)

/-- ITS FALSE NEIGHBOUR: 'it returns false'. Refute it at one input. -/
def topHammingWrong : ChangeSpec := { name := "topHamming", fn := fun _ => fun
  | [d] => { results := [.lit (.bool false)], args := [d] }
  | _ => none }
def TopHammingWrongFalsely : Prop := topHammingRow.holds Try.pinned (OpenSpec.ofChange topHammingWrong)

/- THE SECOND FORM. 'bulk': how many values and letters a reading holds, each counted each time it is reached (what is shared counts as often as it is met; a slice's spare places count too). A statement '..UptoSaid' is the law's where the arguments, and the package variables that the reading takes, are together of bulk at most 1048576: NARROWER than '..Said'. Prove '..Said' where nothing that the law and all that it calls make is longer than what came in: it says more and counts as full. Else prove '..UptoSaid'. A law counts once. -/
mutual
def uptoBulk {H : Type} : DataW H → Nat
  | .lit (.string bytes) => bytes.length + 1
  | .lit _ => 1
  | .nil => 1
  | .ptr d => uptoBulk d + 1
  | .slice elems spare => uptoBulkAll elems + uptoBulkAll spare + 1
  | .agg parts => uptoBulkAll parts + 1
  | .iface _ d => uptoBulk d + 1
  | .map entries => uptoBulkEntries entries + 1
  | .held _ => 1
def uptoBulkAll {H : Type} : List (DataW H) → Nat
  | [] => 0
  | d :: r => uptoBulk d + uptoBulkAll r
def uptoBulkEntries {H : Type} : List (Lit × DataW H) → Nat
  | [] => 0
  | x :: r => uptoBulkEntry x + uptoBulkEntries r
def uptoBulkEntry {H : Type} : Lit × DataW H → Nat
  | (.string bytes, d) => bytes.length + uptoBulk d + 1
  | (_, d) => uptoBulk d + 1
 end
def uptoSmall : (H : Type) → List (DataW H) → Bool := fun _ ds => decide (uptoBulkAll ds ≤ 1048576)
def OpenSpec.upto (s : _root_.Go.ChangeSpec) : _root_.Go.OpenSpec := { _root_.Go.OpenSpec.ofChange s with cond := some uptoSmall }

/-- 'wholelaw.LinearDual', WHERE WHAT IT READS IS OF BULK AT MOST 1048576: true; the input reads as it did. -/
def linearDualUptoRow : OpenClaim := { program := "ytmeffbooabionaa", sum := "729c0b819d98ad8ffed7761762e99607d6d334ba61f7888d957c02fbecb1bd46", func := "wholemend/wholelaw.LinearDual", spec := "linearDual", unfollowed := true, recurses := true, apart := false, narrowed := true }
def LinearDualUptoSaid : Prop := linearDualUptoRow.holds Try.pinned (OpenSpec.upto linearDualSpec)

/-- 'wholelaw.LinearSays', WHERE WHAT IT READS IS OF BULK AT MOST 1048576: true; the input reads as it did. -/
def linearSaysUptoRow : OpenClaim := { program := "ytmeffbooabionaa", sum := "729c0b819d98ad8ffed7761762e99607d6d334ba61f7888d957c02fbecb1bd46", func := "wholemend/wholelaw.LinearSays", spec := "linearSays", unfollowed := true, recurses := true, apart := false, narrowed := true }
def LinearSaysUptoSaid : Prop := linearSaysUptoRow.holds Try.pinned (OpenSpec.upto linearSaysSpec)

/-- 'wholelaw.IrredSays', WHERE WHAT IT READS IS OF BULK AT MOST 1048576: true; the input reads as it did. -/
def irredSaysUptoRow : OpenClaim := { program := "ytmeffbooabionaa", sum := "729c0b819d98ad8ffed7761762e99607d6d334ba61f7888d957c02fbecb1bd46", func := "wholemend/wholelaw.IrredSays", spec := "irredSays", unfollowed := true, recurses := true, apart := false, narrowed := true }
def IrredSaysUptoSaid : Prop := irredSaysUptoRow.holds Try.pinned (OpenSpec.upto irredSaysSpec)

/-- 'wholetop.TopHamming', WHERE WHAT IT READS IS OF BULK AT MOST 1048576: true; the input reads as it did. -/
def topHammingUptoRow : OpenClaim := { program := "ytmeffbooabionaa", sum := "729c0b819d98ad8ffed7761762e99607d6d334ba61f7888d957c02fbecb1bd46", func := "wholemend/wholetop.TopHamming", spec := "topHamming", unfollowed := true, recurses := true, apart := false, narrowed := true }
def TopHammingUptoSaid : Prop := topHammingUptoRow.holds Try.pinned (OpenSpec.upto topHammingSpec)

end Rows
end Go.Proofs.Ytmeffbooabionaa
