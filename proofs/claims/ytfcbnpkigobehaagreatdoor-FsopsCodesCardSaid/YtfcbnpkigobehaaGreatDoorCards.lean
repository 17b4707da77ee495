/-
  DERIVED. GIVEN WITH THE SEED: THE CARDS: each row of YtfcbnpkigobehaaGreatDoorRows.lean that lists a variable, with what it lists TIED to the program's text (the seventh form; the later family's looks); each row that meets fmt, with fmt's text TOLD by the authors' own Lean function (tested against real Go, not proved from fmt's source: count such statements apart). THE CARD IS WHAT COUNTS. Prove the row's statement (the work); the ties are given (YtfcbnpkigobehaaGreatDoorTie.lean); close each card by the builder's one call (the guide's Derived/Test/ToyasCard.lean, 'card_holds'). Laid BY PROGRAM, IN A SANDBOX (cutbox-door.mjs). By AI agents, Wed Nov 11 2026. No macro, syntax, notation, axiom, sorry.
-/
import Derived.Test.YtfcbnpkigobehaaGreatDoorRows
import GoSem.ClaimSeven
namespace Go.Proofs.YtfcbnpkigobehaaGreatDoor
namespace Rows

/-- THE TIED CARD OF 'granarylaw15.FsopsCodes'. -/
def fsopsCodesCard : Claim7 := { stood := { row := fsopsCodesRow, standIns := [], harness := (true, "96c9caa4ceff4a75551f73061bd6d6de46f5a9f76344e1eff383502e19b28d8d"), looks := true }, kinds := [], alts := [], laidByText := true, laidKinds := [.handle], laidTests := true, laidLooks := .later }
def FsopsCodesCardSaid : Prop := Claim7.holds Tryz.pinned (.plain (OpenSpec.ofChange fsopsCodesSpec)) fsopsCodesCard

/-- THE SECOND FORM's CARD OF 'granarylaw15.FsopsCodes'. -/
def fsopsCodesUptoCard : Claim7 := { stood := { row := fsopsCodesUptoRow, standIns := [], harness := (true, "96c9caa4ceff4a75551f73061bd6d6de46f5a9f76344e1eff383502e19b28d8d"), looks := true }, kinds := [], alts := [], laidByText := true, laidKinds := [.handle], laidTests := true, laidLooks := .later }
def FsopsCodesUptoCardSaid : Prop := Claim7.holds Tryz.pinned (.plain (OpenSpec.upto fsopsCodesSpec)) fsopsCodesUptoCard
end Rows
end Go.Proofs.YtfcbnpkigobehaaGreatDoor
