/-
  DERIVED. GIVEN WITH THE SEED: THE CARDS: each row of YtjcpkckbjhknfaaGreatDoorRows.lean that lists a variable, with what it lists TIED to the program's text (the seventh form; the later family's looks); each row that meets fmt, with fmt's text TOLD by the authors' own Lean function (tested against real Go, not proved from fmt's source: count such statements apart). THE CARD IS WHAT COUNTS. Prove the row's statement (the work); the ties are given (YtjcpkckbjhknfaaGreatDoorTie.lean); close each card by the builder's one call (the guide's Derived/Test/ToyasCard.lean, 'card_holds'). Laid BY PROGRAM, IN A SANDBOX (cutbox-door.mjs). By AI agents, Wed Nov 11 2026. No macro, syntax, notation, axiom, sorry.
-/
import Derived.Test.YtjcpkckbjhknfaaGreatDoorRows
import GoSem.ClaimSeven
namespace Go.Proofs.YtjcpkckbjhknfaaGreatDoor
namespace Rows

/-- THE TIED CARD OF 'granarylaw15.FsopsNil'. -/
def fsopsNilCard : Claim7 := { stood := { row := fsopsNilRow, standIns := [], harness := (true, "0d514f5941feaadf3d072d4f975b5a5729d371bf51109a678cdab9ab084dd6d3"), looks := true }, kinds := [], alts := [], laidByText := true, laidKinds := [.handle], laidTests := true, laidLooks := .later }
def FsopsNilCardSaid : Prop := Claim7.holds Tryz.pinned (.plain (OpenSpec.ofChange fsopsNilSpec)) fsopsNilCard

/-- THE SECOND FORM's CARD OF 'granarylaw15.FsopsNil'. -/
def fsopsNilUptoCard : Claim7 := { stood := { row := fsopsNilUptoRow, standIns := [], harness := (true, "0d514f5941feaadf3d072d4f975b5a5729d371bf51109a678cdab9ab084dd6d3"), looks := true }, kinds := [], alts := [], laidByText := true, laidKinds := [.handle], laidTests := true, laidLooks := .later }
def FsopsNilUptoCardSaid : Prop := Claim7.holds Tryz.pinned (.plain (OpenSpec.upto fsopsNilSpec)) fsopsNilUptoCard
end Rows
end Go.Proofs.YtjcpkckbjhknfaaGreatDoor
