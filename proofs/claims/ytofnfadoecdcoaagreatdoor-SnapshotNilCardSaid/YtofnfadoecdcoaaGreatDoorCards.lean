/-
  DERIVED. GIVEN WITH THE SEED: THE CARDS: each row of YtofnfadoecdcoaaGreatDoorRows.lean that lists a variable, with what it lists TIED to the program's text (the seventh form; the later family's looks); each row that meets fmt, with fmt's text TOLD by the authors' own Lean function (tested against real Go, not proved from fmt's source: count such statements apart). THE CARD IS WHAT COUNTS. Prove the row's statement (the work); the ties are given (YtofnfadoecdcoaaGreatDoorTie.lean); close each card by the builder's one call (the guide's Derived/Test/ToyasCard.lean, 'card_holds'). Laid BY PROGRAM, IN A SANDBOX (cutbox-door.mjs). By AI agents, Wed Nov 11 2026. No macro, syntax, notation, axiom, sorry.
-/
import Derived.Test.YtofnfadoecdcoaaGreatDoorRows
import GoSem.ClaimSeven
namespace Go.Proofs.YtofnfadoecdcoaaGreatDoor
namespace Rows

/-- THE TIED CARD OF 'granarylaw19.SnapshotNil'. -/
def snapshotNilCard : Claim7 := { stood := { row := snapshotNilRow, standIns := [], harness := (true, "89038dd21d8ccbfba1b8b5b5ecc8d50688946b58d00e5671df127ed226fb7799"), looks := true }, kinds := [], alts := [], laidByText := true, laidKinds := [.handle], laidTests := true, laidLooks := .later }
def SnapshotNilCardSaid : Prop := Claim7.holds Tryz.pinned (.plain (OpenSpec.ofChange snapshotNilSpec)) snapshotNilCard

/-- THE SECOND FORM's CARD OF 'granarylaw19.SnapshotNil'. -/
def snapshotNilUptoCard : Claim7 := { stood := { row := snapshotNilUptoRow, standIns := [], harness := (true, "89038dd21d8ccbfba1b8b5b5ecc8d50688946b58d00e5671df127ed226fb7799"), looks := true }, kinds := [], alts := [], laidByText := true, laidKinds := [.handle], laidTests := true, laidLooks := .later }
def SnapshotNilUptoCardSaid : Prop := Claim7.holds Tryz.pinned (.plain (OpenSpec.upto snapshotNilSpec)) snapshotNilUptoCard
end Rows
end Go.Proofs.YtofnfadoecdcoaaGreatDoor
