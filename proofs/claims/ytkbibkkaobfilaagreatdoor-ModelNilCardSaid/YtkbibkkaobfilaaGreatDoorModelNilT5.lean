/-
  ModelNil: pieces (5) of the run of its closed call.
-/
import Derived.Test.YtkbibkkaobfilaaGreatDoorModelNilS2
set_option maxRecDepth 100000
namespace Go.Proofs.YtkbibkkaobfilaaGreatDoor
open Go.RowKit Ab
theorem motSp : pathsX (runF 10 Tryz.prog asK 0 motF2 motC2 motH2) = [[true], [false]] := by kernel_rfl
theorem motSl0 : leafX [true] (killX [] (runF 10 Tryz.prog asK 0 motF2 motC2 motH2)) = .next mottF0 mottC0 mottH0 := by kernel_rfl
theorem motSl1 : leafX [false] (killX [] (runF 10 Tryz.prog asK 0 motF2 motC2 motH2)) = .next motfF0 motfC0 motfH0 := by kernel_rfl
end Go.Proofs.YtkbibkkaobfilaaGreatDoor
