/-
  DERIVED. GIVEN WITH THE SEED: THE CARDS: each row of YtabllhhainepgaaGreatDoorRows.lean that lists a variable, with what it lists TIED to the program's text (the seventh form; the later family's looks); each row that meets fmt, with fmt's text TOLD by the authors' own Lean function (tested against real Go, not proved from fmt's source: count such statements apart). THE CARD IS WHAT COUNTS. Prove the row's statement (the work); the ties are given (YtabllhhainepgaaGreatDoorTie.lean); close each card by the builder's one call (the guide's Derived/Test/ToyasCard.lean, 'card_holds'). Laid BY PROGRAM, IN A SANDBOX (cutbox-door.mjs). By AI agents, Wed Nov 11 2026. No macro, syntax, notation, axiom, sorry.
-/
import Derived.Test.YtabllhhainepgaaGreatDoorRows
import GoSem.ClaimSeven
namespace Go.Proofs.YtabllhhainepgaaGreatDoor
namespace Rows

/-- THE TIED CARD OF 'granarylaw23.ProcTouches'. -/
def procTouchesCard : Claim7 := { stood := { row := procTouchesRow, standIns := [], harness := (true, "7b39463ed2ed487efb6bac20631b1b2fb8e2b83d94f94d367381aaecc0295873"), looks := true }, kinds := [], alts := [], laidByText := true, laidKinds := [.data, .data, .data, .handle], laidTests := true, laidLooks := .later }
def ProcTouchesCardSaid : Prop := Claim7.holds Tryz.pinned (.plain (OpenSpec.ofChange procTouchesSpec)) procTouchesCard

/-- THE SECOND FORM's CARD OF 'granarylaw23.ProcTouches'. -/
def procTouchesUptoCard : Claim7 := { stood := { row := procTouchesUptoRow, standIns := [], harness := (true, "7b39463ed2ed487efb6bac20631b1b2fb8e2b83d94f94d367381aaecc0295873"), looks := true }, kinds := [], alts := [], laidByText := true, laidKinds := [.data, .data, .data, .handle], laidTests := true, laidLooks := .later }
def ProcTouchesUptoCardSaid : Prop := Claim7.holds Tryz.pinned (.plain (OpenSpec.upto procTouchesSpec)) procTouchesUptoCard
end Rows
end Go.Proofs.YtabllhhainepgaaGreatDoor
