/-
  ModelNil: pieces (12) of the run of its closed call.
-/
import Derived.Test.YtkbibkkaobfilaaGreatDoorModelNilS2
set_option maxRecDepth 100000
namespace Go.Proofs.YtkbibkkaobfilaaGreatDoor
open Go.RowKit Ab
theorem moftSp : pathsX (runF 10 Tryz.prog asK 0 moftF1 moftC1 moftH1) = [[true], [false]] := by kernel_rfl
theorem moftSl0 : leafX [true] (killX [] (runF 10 Tryz.prog asK 0 moftF1 moftC1 moftH1)) = .next mofttF0 mofttC0 mofttH0 := by kernel_rfl
theorem moftSl1 : leafX [false] (killX [] (runF 10 Tryz.prog asK 0 moftF1 moftC1 moftH1)) = .next moftfF0 moftfC0 moftfH0 := by kernel_rfl
end Go.Proofs.YtkbibkkaobfilaaGreatDoor
