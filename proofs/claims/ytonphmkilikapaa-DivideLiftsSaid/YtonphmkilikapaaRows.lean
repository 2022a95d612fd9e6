/-
  No cell of these rows narrows 'for every input' (looked for: loops, veiled, ifaces, maps, wideKeys, modest, calm, conditions, laid).
  DERIVED. THE GIVEN ROWS OF THIS SEAT. 12 by the template 'for every input the law returns true; each argument reads behind the call as it read before'; 0 by the template 'total and deterministic' (their statements: YtonphmkilikapaaTotals.lean).
  GIVEN WITH THE SEED: the statements are not yours to turn. If you find one false, say at which input.
  Laid BY PROGRAM, IN A SANDBOX (cutbox-rows.mjs): the forced cells as the released guide's own fill.sh prints them over the translation 13eb185421561686… (all of the seat's roots in one cut). By AI agents, Wed Nov 11 2026. No macro, syntax, notation, axiom, sorry.
-/
import Derived.Test.YtonphmkilikapaaChecked
import GoSem.Claim
import GoSem.ClaimJoined
import GoSem.ClaimMapViews
import Derived.JoinedTies
import Derived.KernelRfl
namespace Go.Proofs.Ytonphmkilikapaa
/- THE CELL 'sum', in the pinned program and in every row, IS THE sha256 OF THE DUMP (.gsa) THAT YtonphmkilikapaaProg.lean LOADS. Nothing in Lean hashes anything: it is a label: what it is worth is what the hold of that sum in a sandbox is worth. -/
noncomputable def Try.pinned : Pinned := { name := "ytonphmkilikapaa", sum := "13eb1854215616869197ebf4c17e2aee78dc928b03de45316c1c4c16011186ec", checked := Try.checked }
namespace Rows
def none {H : Type} : Left H := { results := [], args := [] }

/-- 'wholelaw.Names': WHATEVER THE INPUT: true; the input reads as it did. -/
def namesSpec : ChangeSpec := { name := "names", fn := fun _ => fun
  | [] => { results := [.lit (.bool true)], args := [] }
  | _ => none }
def namesRow : OpenClaim := { program := "ytonphmkilikapaa", sum := "13eb1854215616869197ebf4c17e2aee78dc928b03de45316c1c4c16011186ec", func := "wholemend/wholelaw.Names", spec := "names", apart := false }
def NamesSaid : Prop := namesRow.holds Try.pinned (OpenSpec.ofChange namesSpec)

/-- ITS FALSE NEIGHBOUR: 'it returns false'. Refute it at one input. -/
def namesWrong : ChangeSpec := { name := "names", fn := fun _ => fun
  | [] => { results := [.lit (.bool false)], args := [] }
  | _ => none }
def NamesWrongFalsely : Prop := namesRow.holds Try.pinned (OpenSpec.ofChange namesWrong)

/-- 'wholelaw.QuorumSays': WHATEVER THE INPUT: true; the input reads as it did. -/
def quorumSaysSpec : ChangeSpec := { name := "quorumSays", fn := fun _ => fun
  | [d1, d2, d3, d4, d5] => { results := [.lit (.bool true)], args := [d1, d2, d3, d4, d5] }
  | _ => none }
def quorumSaysRow : OpenClaim := { program := "ytonphmkilikapaa", sum := "13eb1854215616869197ebf4c17e2aee78dc928b03de45316c1c4c16011186ec", func := "wholemend/wholelaw.QuorumSays", spec := "quorumSays", unfollowed := true, recurses := true, apart := false }
def QuorumSaysSaid : Prop := quorumSaysRow.holds Try.pinned (OpenSpec.ofChange quorumSaysSpec)

/-- ITS FALSE NEIGHBOUR: 'it returns false'. Refute it at one input. -/
def quorumSaysWrong : ChangeSpec := { name := "quorumSays", fn := fun _ => fun
  | [d1, d2, d3, d4, d5] => { results := [.lit (.bool false)], args := [d1, d2, d3, d4, d5] }
  | _ => none }
def QuorumSaysWrongFalsely : Prop := quorumSaysRow.holds Try.pinned (OpenSpec.ofChange quorumSaysWrong)

/-- 'wholelaw.FieldSays': WHATEVER THE INPUT: true; the input reads as it did. -/
def fieldSaysSpec : ChangeSpec := { name := "fieldSays", fn := fun _ => fun
  | [d1, d2, d3] => { results := [.lit (.bool true)], args := [d1, d2, d3] }
  | _ => none }
def fieldSaysRow : OpenClaim := { program := "ytonphmkilikapaa", sum := "13eb1854215616869197ebf4c17e2aee78dc928b03de45316c1c4c16011186ec", func := "wholemend/wholelaw.FieldSays", spec := "fieldSays", apart := false }
def FieldSaysSaid : Prop := fieldSaysRow.holds Try.pinned (OpenSpec.ofChange fieldSaysSpec)

/-- ITS FALSE NEIGHBOUR: 'it returns false'. Refute it at one input. -/
def fieldSaysWrong : ChangeSpec := { name := "fieldSays", fn := fun _ => fun
  | [d1, d2, d3] => { results := [.lit (.bool false)], args := [d1, d2, d3] }
  | _ => none }
def FieldSaysWrongFalsely : Prop := fieldSaysRow.holds Try.pinned (OpenSpec.ofChange fieldSaysWrong)

/-- 'wholelaw.PrimeSays': WHATEVER THE INPUT: true; the input reads as it did. -/
def primeSaysSpec : ChangeSpec := { name := "primeSays", fn := fun _ => fun
  | [d] => { results := [.lit (.bool true)], args := [d] }
  | _ => none }
def primeSaysRow : OpenClaim := { program := "ytonphmkilikapaa", sum := "13eb1854215616869197ebf4c17e2aee78dc928b03de45316c1c4c16011186ec", func := "wholemend/wholelaw.PrimeSays", spec := "primeSays", apart := false }
def PrimeSaysSaid : Prop := primeSaysRow.holds Try.pinned (OpenSpec.ofChange primeSaysSpec)

/-- ITS FALSE NEIGHBOUR: 'it returns false'. Refute it at one input. -/
def primeSaysWrong : ChangeSpec := { name := "primeSays", fn := fun _ => fun
  | [d] => { results := [.lit (.bool false)], args := [d] }
  | _ => none }
def PrimeSaysWrongFalsely : Prop := primeSaysRow.holds Try.pinned (OpenSpec.ofChange primeSaysWrong)

/-- 'wholelaw.HammingSays': WHATEVER THE INPUT: true; the input reads as it did. -/
def hammingSaysSpec : ChangeSpec := { name := "hammingSays", fn := fun _ => fun
  | [d1, d2] => { results := [.lit (.bool true)], args := [d1, d2] }
  | _ => none }
def hammingSaysRow : OpenClaim := { program := "ytonphmkilikapaa", sum := "13eb1854215616869197ebf4c17e2aee78dc928b03de45316c1c4c16011186ec", func := "wholemend/wholelaw.HammingSays", spec := "hammingSays", apart := false }
def HammingSaysSaid : Prop := hammingSaysRow.holds Try.pinned (OpenSpec.ofChange hammingSaysSpec)

/-- ITS FALSE NEIGHBOUR: 'it returns false'. Refute it at one input. -/
def hammingSaysWrong : ChangeSpec := { name := "hammingSays", fn := fun _ => fun
  | [d1, d2] => { results := [.lit (.bool false)], args := [d1, d2] }
  | _ => none }
def HammingSaysWrongFalsely : Prop := hammingSaysRow.holds Try.pinned (OpenSpec.ofChange hammingSaysWrong)

/-- 'wholelaw.FracSays': WHATEVER THE INPUT: true; the input reads as it did. -/
def fracSaysSpec : ChangeSpec := { name := "fracSays", fn := fun _ => fun
  | [d1, d2] => { results := [.lit (.bool true)], args := [d1, d2] }
  | _ => none }
def fracSaysRow : OpenClaim := { program := "ytonphmkilikapaa", sum := "13eb1854215616869197ebf4c17e2aee78dc928b03de45316c1c4c16011186ec", func := "wholemend/wholelaw.FracSays", spec := "fracSays", unfollowed := true, recurses := true, apart := false }
def FracSaysSaid : Prop := fracSaysRow.holds Try.pinned (OpenSpec.ofChange fracSaysSpec)

/-- ITS FALSE NEIGHBOUR: 'it returns false'. Refute it at one input. -/
def fracSaysWrong : ChangeSpec := { name := "fracSays", fn := fun _ => fun
  | [d1, d2] => { results := [.lit (.bool false)], args := [d1, d2] }
  | _ => none }
def FracSaysWrongFalsely : Prop := fracSaysRow.holds Try.pinned (OpenSpec.ofChange fracSaysWrong)

/-- 'wholelaw.EuclidSays': WHATEVER THE INPUT: true; the input reads as it did. -/
def euclidSaysSpec : ChangeSpec := { name := "euclidSays", fn := fun _ => fun
  | [d1, d2] => { results := [.lit (.bool true)], args := [d1, d2] }
  | _ => none }
def euclidSaysRow : OpenClaim := { program := "ytonphmkilikapaa", sum := "13eb1854215616869197ebf4c17e2aee78dc928b03de45316c1c4c16011186ec", func := "wholemend/wholelaw.EuclidSays", spec := "euclidSays", unfollowed := true, recurses := true, apart := false }
def EuclidSaysSaid : Prop := euclidSaysRow.holds Try.pinned (OpenSpec.ofChange euclidSaysSpec)

/-- ITS FALSE NEIGHBOUR: 'it returns false'. Refute it at one input. -/
def euclidSaysWrong : ChangeSpec := { name := "euclidSays", fn := fun _ => fun
  | [d1, d2] => { results := [.lit (.bool false)], args := [d1, d2] }
  | _ => none }
def EuclidSaysWrongFalsely : Prop := euclidSaysRow.holds Try.pinned (OpenSpec.ofChange euclidSaysWrong)

/-- 'wholelaw.ChineseSays': WHATEVER THE INPUT: true; the input reads as it did. -/
def chineseSaysSpec : ChangeSpec := { name := "chineseSays", fn := fun _ => fun
  | [d1, d2, d3] => { results := [.lit (.bool true)], args := [d1, d2, d3] }
  | _ => none }
def chineseSaysRow : OpenClaim := { program := "ytonphmkilikapaa", sum := "13eb1854215616869197ebf4c17e2aee78dc928b03de45316c1c4c16011186ec", func := "wholemend/wholelaw.ChineseSays", spec := "chineseSays", unfollowed := true, recurses := true, apart := false }
def ChineseSaysSaid : Prop := chineseSaysRow.holds Try.pinned (OpenSpec.ofChange chineseSaysSpec)

/-- ITS FALSE NEIGHBOUR: 'it returns false'. Refute it at one input. -/
def chineseSaysWrong : ChangeSpec := { name := "chineseSays", fn := fun _ => fun
  | [d1, d2, d3] => { results := [.lit (.bool false)], args := [d1, d2, d3] }
  | _ => none }
def ChineseSaysWrongFalsely : Prop := chineseSaysRow.holds Try.pinned (OpenSpec.ofChange chineseSaysWrong)

/-- 'wholelaw.DivideLifts': WHATEVER THE INPUT: true; the input reads as it did. -/
def divideLiftsSpec : ChangeSpec := { name := "divideLifts", fn := fun _ => fun
  | [d] => { results := [.lit (.bool true)], args := [d] }
  | _ => none }
def divideLiftsRow : OpenClaim := { program := "ytonphmkilikapaa", sum := "13eb1854215616869197ebf4c17e2aee78dc928b03de45316c1c4c16011186ec", func := "wholemend/wholelaw.DivideLifts", spec := "divideLifts", unfollowed := true, recurses := true, apart := false }
def DivideLiftsSaid : Prop := divideLiftsRow.holds Try.pinned (OpenSpec.ofChange divideLiftsSpec)

/-- ITS FALSE NEIGHBOUR: 'it returns false'. Refute it at one input. -/
def divideLiftsWrong : ChangeSpec := { name := "divideLifts", fn := fun _ => fun
  | [d] => { results := [.lit (.bool false)], args := [d] }
  | _ => none }
def DivideLiftsWrongFalsely : Prop := divideLiftsRow.holds Try.pinned (OpenSpec.ofChange divideLiftsWrong)

/-- 'wholetop.TopUnits': WHATEVER THE INPUT: true; the input reads as it did. -/
def topUnitsSpec : ChangeSpec := { name := "topUnits", fn := fun _ => fun
  | [d1, d2, d3] => { results := [.lit (.bool true)], args := [d1, d2, d3] }
  | _ => none }
def topUnitsRow : OpenClaim := { program := "ytonphmkilikapaa", sum := "13eb1854215616869197ebf4c17e2aee78dc928b03de45316c1c4c16011186ec", func := "wholemend/wholetop.TopUnits", spec := "topUnits", unfollowed := true, recurses := true, apart := false }
def TopUnitsSaid : Prop := topUnitsRow.holds Try.pinned (OpenSpec.ofChange topUnitsSpec)

/-- ITS FALSE NEIGHBOUR: 'it returns false'. Refute it at one input. -/
def topUnitsWrong : ChangeSpec := { name := "topUnits", fn := fun _ => fun
  | [d1, d2, d3] => { results := [.lit (.bool false)], args := [d1, d2, d3] }
  | _ => none }
def TopUnitsWrongFalsely : Prop := topUnitsRow.holds Try.pinned (OpenSpec.ofChange topUnitsWrong)

/-- 'wholelaw.MasseySays': WHATEVER THE INPUT: true; the input reads as it did. -/
def masseySaysSpec : ChangeSpec := { name := "masseySays", fn := fun _ => fun
  | [d1, d2] => { results := [.lit (.bool true)], args := [d1, d2] }
  | _ => none }
def masseySaysRow : OpenClaim := { program := "ytonphmkilikapaa", sum := "13eb1854215616869197ebf4c17e2aee78dc928b03de45316c1c4c16011186ec", func := "wholemend/wholelaw.MasseySays", spec := "masseySays", unfollowed := true, recurses := true, apart := false }
def MasseySaysSaid : Prop := masseySaysRow.holds Try.pinned (OpenSpec.ofChange masseySaysSpec)

/-- ITS FALSE NEIGHBOUR: 'it returns false'. Refute it at one input. -/
def masseySaysWrong : ChangeSpec := { name := "masseySays", fn := fun _ => fun
  | [d1, d2] => { results := [.lit (.bool false)], args := [d1, d2] }
  | _ => none }
def MasseySaysWrongFalsely : Prop := masseySaysRow.holds Try.pinned (OpenSpec.ofChange masseySaysWrong)

/-- 'wholelaw.RestSays': WHATEVER THE INPUT: true; the input reads as it did. -/
def restSaysSpec : ChangeSpec := { name := "restSays", fn := fun _ => fun
  | [d1, d2, d3] => { results := [.lit (.bool true)], args := [d1, d2, d3] }
  | _ => none }
def restSaysRow : OpenClaim := { program := "ytonphmkilikapaa", sum := "13eb1854215616869197ebf4c17e2aee78dc928b03de45316c1c4c16011186ec", func := "wholemend/wholelaw.RestSays", spec := "restSays", recurses := true, apart := false }
def RestSaysSaid : Prop := restSaysRow.holds Try.pinned (OpenSpec.ofChange restSaysSpec)

/-- ITS FALSE NEIGHBOUR: 'it returns false'. Refute it at one input. -/
def restSaysWrong : ChangeSpec := { name := "restSays", fn := fun _ => fun
  | [d1, d2, d3] => { results := [.lit (.bool false)], args := [d1, d2, d3] }
  | _ => none }
def RestSaysWrongFalsely : Prop := restSaysRow.holds Try.pinned (OpenSpec.ofChange restSaysWrong)

/- THE SECOND FORM. 'bulk': how many values and letters a reading holds, each counted each time it is reached (what is shared counts as often as it is met; a slice's spare places count too). A statement '..UptoSaid' is the law's where the arguments, and the package variables that the reading takes, are together of bulk at most 1048576: NARROWER than '..Said'. Prove '..Said' where nothing that the law and all that it calls make is longer than what came in: it says more and counts as full. Else prove '..UptoSaid'. A law counts once. -/
mutual
def uptoBulk {H : Type} : DataW H → Nat
  | .lit (.string bytes) => bytes.length + 1
  | .lit _ => 1
  | .nil => 1
  | .ptr d => uptoBulk d + 1
  | .slice elems spare => uptoBulkAll elems + uptoBulkAll spare + 1
  | .agg parts => uptoBulkAll parts + 1
  | .iface _ d => uptoBulk d + 1
  | .map entries => uptoBulkEntries entries + 1
  | .held _ => 1
def uptoBulkAll {H : Type} : List (DataW H) → Nat
  | [] => 0
  | d :: r => uptoBulk d + uptoBulkAll r
def uptoBulkEntries {H : Type} : List (Lit × DataW H) → Nat
  | [] => 0
  | x :: r => uptoBulkEntry x + uptoBulkEntries r
def uptoBulkEntry {H : Type} : Lit × DataW H → Nat
  | (.string bytes, d) => bytes.length + uptoBulk d + 1
  | (_, d) => uptoBulk d + 1
 end
def uptoSmall : (H : Type) → List (DataW H) → Bool := fun _ ds => decide (uptoBulkAll ds ≤ 1048576)
def OpenSpec.upto (s : _root_.Go.ChangeSpec) : _root_.Go.OpenSpec := { _root_.Go.OpenSpec.ofChange s with cond := some uptoSmall }

/-- 'wholelaw.Names', WHERE WHAT IT READS IS OF BULK AT MOST 1048576: true; the input reads as it did. -/
def namesUptoRow : OpenClaim := { program := "ytonphmkilikapaa", sum := "13eb1854215616869197ebf4c17e2aee78dc928b03de45316c1c4c16011186ec", func := "wholemend/wholelaw.Names", spec := "names", apart := false, narrowed := true }
def NamesUptoSaid : Prop := namesUptoRow.holds Try.pinned (OpenSpec.upto namesSpec)

/-- 'wholelaw.QuorumSays', WHERE WHAT IT READS IS OF BULK AT MOST 1048576: true; the input reads as it did. -/
def quorumSaysUptoRow : OpenClaim := { program := "ytonphmkilikapaa", sum := "13eb1854215616869197ebf4c17e2aee78dc928b03de45316c1c4c16011186ec", func := "wholemend/wholelaw.QuorumSays", spec := "quorumSays", unfollowed := true, recurses := true, apart := false, narrowed := true }
def QuorumSaysUptoSaid : Prop := quorumSaysUptoRow.holds Try.pinned (OpenSpec.upto quorumSaysSpec)

/-- 'wholelaw.FieldSays', WHERE WHAT IT READS IS OF BULK AT MOST 1048576: true; the input reads as it did. -/
def fieldSaysUptoRow : OpenClaim := { program := "ytonphmkilikapaa", sum := "13eb1854215616869197ebf4c17e2aee78dc928b03de45316c1c4c16011186ec", func := "wholemend/wholelaw.FieldSays", spec := "fieldSays", apart := false, narrowed := true }
def FieldSaysUptoSaid : Prop := fieldSaysUptoRow.holds Try.pinned (OpenSpec.upto fieldSaysSpec)

/-- 'wholelaw.PrimeSays', WHERE WHAT IT READS IS OF BULK AT MOST 1048576: true; the input reads as it did. -/
def primeSaysUptoRow : OpenClaim := { program := "ytonphmkilikapaa", sum := "13eb1854215616869197ebf4c17e2aee78dc928b03de45316c1c4c16011186ec", func := "wholemend/wholelaw.PrimeSays", spec := "primeSays", apart := false, narrowed := true }
def PrimeSaysUptoSaid : Prop := primeSaysUptoRow.holds Try.pinned (OpenSpec.upto primeSaysSpec)

/-- 'wholelaw.HammingSays', WHERE WHAT IT READS IS OF BULK AT MOST 1048576: true; the input reads as it did. -/
def hammingSaysUptoRow : OpenClaim := { program := "ytonphmkilikapaa", sum := "13eb1854215616869197ebf4c17e2aee78dc928b03de45316c1c4c16011186ec", func := "wholemend/wholelaw.HammingSays", spec := "hammingSays", apart := false, narrowed := true }
def HammingSaysUptoSaid : Prop := hammingSaysUptoRow.holds Try.pinned (OpenSpec.upto hammingSaysSpec)

/-- 'wholelaw.FracSays', WHERE WHAT IT READS IS OF BULK AT MOST 1048576: true; the input reads as it did. -/
def fracSaysUptoRow : OpenClaim := { program := "ytonphmkilikapaa", sum := "13eb1854215616869197ebf4c17e2aee78dc928b03de45316c1c4c16011186ec", func := "wholemend/wholelaw.FracSays", spec := "fracSays", unfollowed := true, recurses := true, apart := false, narrowed := true }
def FracSaysUptoSaid : Prop := fracSaysUptoRow.holds Try.pinned (OpenSpec.upto fracSaysSpec)

/-- 'wholelaw.EuclidSays', WHERE WHAT IT READS IS OF BULK AT MOST 1048576: true; the input reads as it did. -/
def euclidSaysUptoRow : OpenClaim := { program := "ytonphmkilikapaa", sum := "13eb1854215616869197ebf4c17e2aee78dc928b03de45316c1c4c16011186ec", func := "wholemend/wholelaw.EuclidSays", spec := "euclidSays", unfollowed := true, recurses := true, apart := false, narrowed := true }
def EuclidSaysUptoSaid : Prop := euclidSaysUptoRow.holds Try.pinned (OpenSpec.upto euclidSaysSpec)

/-- 'wholelaw.ChineseSays', WHERE WHAT IT READS IS OF BULK AT MOST 1048576: true; the input reads as it did. -/
def chineseSaysUptoRow : OpenClaim := { program := "ytonphmkilikapaa", sum := "13eb1854215616869197ebf4c17e2aee78dc928b03de45316c1c4c16011186ec", func := "wholemend/wholelaw.ChineseSays", spec := "chineseSays", unfollowed := true, recurses := true, apart := false, narrowed := true }
def ChineseSaysUptoSaid : Prop := chineseSaysUptoRow.holds Try.pinned (OpenSpec.upto chineseSaysSpec)

/-- 'wholelaw.DivideLifts', WHERE WHAT IT READS IS OF BULK AT MOST 1048576: true; the input reads as it did. -/
def divideLiftsUptoRow : OpenClaim := { program := "ytonphmkilikapaa", sum := "13eb1854215616869197ebf4c17e2aee78dc928b03de45316c1c4c16011186ec", func := "wholemend/wholelaw.DivideLifts", spec := "divideLifts", unfollowed := true, recurses := true, apart := false, narrowed := true }
def DivideLiftsUptoSaid : Prop := divideLiftsUptoRow.holds Try.pinned (OpenSpec.upto divideLiftsSpec)

/-- 'wholetop.TopUnits', WHERE WHAT IT READS IS OF BULK AT MOST 1048576: true; the input reads as it did. -/
def topUnitsUptoRow : OpenClaim := { program := "ytonphmkilikapaa", sum := "13eb1854215616869197ebf4c17e2aee78dc928b03de45316c1c4c16011186ec", func := "wholemend/wholetop.TopUnits", spec := "topUnits", unfollowed := true, recurses := true, apart := false, narrowed := true }
def TopUnitsUptoSaid : Prop := topUnitsUptoRow.holds Try.pinned (OpenSpec.upto topUnitsSpec)

/-- 'wholelaw.MasseySays', WHERE WHAT IT READS IS OF BULK AT MOST 1048576: true; the input reads as it did. -/
def masseySaysUptoRow : OpenClaim := { program := "ytonphmkilikapaa", sum := "13eb1854215616869197ebf4c17e2aee78dc928b03de45316c1c4c16011186ec", func := "wholemend/wholelaw.MasseySays", spec := "masseySays", unfollowed := true, recurses := true, apart := false, narrowed := true }
def MasseySaysUptoSaid : Prop := masseySaysUptoRow.holds Try.pinned (OpenSpec.upto masseySaysSpec)

/-- 'wholelaw.RestSays', WHERE WHAT IT READS IS OF BULK AT MOST 1048576: true; the input reads as it did. -/
def restSaysUptoRow : OpenClaim := { program := "ytonphmkilikapaa", sum := "13eb1854215616869197ebf4c17e2aee78dc928b03de45316c1c4c16011186ec", func := "wholemend/wholelaw.RestSays", spec := "restSays", recurses := true, apart := false, narrowed := true }
def RestSaysUptoSaid : Prop := restSaysUptoRow.holds Try.pinned (OpenSpec.upto restSaysSpec)

end Rows
end Go.Proofs.Ytonphmkilikapaa
