/-
  DERIVED. GIVEN WITH THE SEED: THE CARDS: each row of YtkbibkkaobfilaaGreatDoorRows.lean that lists a variable, with what it lists TIED to the program's text (the seventh form; the later family's looks); each row that meets fmt, with fmt's text TOLD by the authors' own Lean function (tested against real Go, not proved from fmt's source: count such statements apart). THE CARD IS WHAT COUNTS. Prove the row's statement (the work); the ties are given (YtkbibkkaobfilaaGreatDoorTie.lean); close each card by the builder's one call (the guide's Derived/Test/ToyasCard.lean, 'card_holds'). Laid BY PROGRAM, IN A SANDBOX (cutbox-door.mjs). By AI agents, Wed Nov 11 2026. No macro, syntax, notation, axiom, sorry.
-/
import Derived.Test.YtkbibkkaobfilaaGreatDoorRows
import GoSem.ClaimSeven
namespace Go.Proofs.YtkbibkkaobfilaaGreatDoor
namespace Rows

/-- THE TIED CARD OF 'granarylaw26.ModelNil'. -/
def modelNilCard : Claim7 := { stood := { row := modelNilRow, standIns := [], harness := (true, "076545e5e1d894af1a04f3842ab14c5f698c6422fe3082e0f6cdd915c8e736e7"), looks := true }, kinds := [], alts := [], laidByText := true, laidKinds := [.data, .data, .data, .handle], laidTests := true, laidLooks := .later }
def ModelNilCardSaid : Prop := Claim7.holds Tryz.pinned (.plain (OpenSpec.ofChange modelNilSpec)) modelNilCard

/-- THE SECOND FORM's CARD OF 'granarylaw26.ModelNil'. -/
def modelNilUptoCard : Claim7 := { stood := { row := modelNilUptoRow, standIns := [], harness := (true, "076545e5e1d894af1a04f3842ab14c5f698c6422fe3082e0f6cdd915c8e736e7"), looks := true }, kinds := [], alts := [], laidByText := true, laidKinds := [.data, .data, .data, .handle], laidTests := true, laidLooks := .later }
def ModelNilUptoCardSaid : Prop := Claim7.holds Tryz.pinned (.plain (OpenSpec.upto modelNilSpec)) modelNilUptoCard
end Rows
end Go.Proofs.YtkbibkkaobfilaaGreatDoor
