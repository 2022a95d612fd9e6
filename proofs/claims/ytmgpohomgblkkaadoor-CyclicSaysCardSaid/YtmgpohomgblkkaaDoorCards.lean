/-
  DERIVED. GIVEN WITH THE SEED: THE CARDS: each row of YtmgpohomgblkkaaDoorRows.lean that lists a variable, with what it lists TIED to the program's text (the seventh form; the later family's looks); each row that meets fmt, with fmt's text TOLD by the authors' own Lean function (tested against real Go, not proved from fmt's source: count such statements apart). THE CARD IS WHAT COUNTS. Prove the row's statement (the work); the ties are given (YtmgpohomgblkkaaDoorTie.lean); close each card by the builder's one call (the guide's Derived/Test/ToyasCard.lean, 'card_holds'). Laid BY PROGRAM, IN A SANDBOX (cutbox-door.mjs). By AI agents, Wed Nov 11 2026. No macro, syntax, notation, axiom, sorry.
-/
import Derived.Test.YtmgpohomgblkkaaDoorRows
import GoSem.ClaimSeven
namespace Go.Proofs.YtmgpohomgblkkaaDoor
namespace Rows

/-- THE TIED CARD OF 'wholelaw.CyclicSays'. -/
def cyclicSaysCard : Claim7 := { stood := { row := cyclicSaysRow, standIns := [], harness := (true, "2064d521c8a6d15ae36aa88572026ea92b1669fe524a4c6643e8277fcf4f9bf4"), looks := false }, kinds := [], alts := [], laidByText := true, laidKinds := [.data, .pinned], laidTests := true, laidLooks := .later }
def CyclicSaysCardSaid : Prop := Claim7.holds Tryd.pinned (.plain (OpenSpec.ofChange cyclicSaysSpec)) cyclicSaysCard

/-- THE SECOND FORM's CARD OF 'wholelaw.CyclicSays'. -/
def cyclicSaysUptoCard : Claim7 := { stood := { row := cyclicSaysUptoRow, standIns := [], harness := (true, "2064d521c8a6d15ae36aa88572026ea92b1669fe524a4c6643e8277fcf4f9bf4"), looks := false }, kinds := [], alts := [], laidByText := true, laidKinds := [.data, .pinned], laidTests := true, laidLooks := .later }
def CyclicSaysUptoCardSaid : Prop := Claim7.holds Tryd.pinned (.plain (OpenSpec.upto cyclicSaysSpec)) cyclicSaysUptoCard
end Rows
end Go.Proofs.YtmgpohomgblkkaaDoor
