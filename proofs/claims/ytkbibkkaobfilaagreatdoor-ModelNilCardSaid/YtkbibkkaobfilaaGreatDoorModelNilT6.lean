/-
  ModelNil: pieces (6) of the run of its closed call.
-/
import Derived.Test.YtkbibkkaobfilaaGreatDoorModelNilS2
set_option maxRecDepth 100000
namespace Go.Proofs.YtkbibkkaobfilaaGreatDoor
open Go.RowKit Ab
theorem mott1 : killX [2027, 2017, 2025, 2041, 2037, 2045, 2032, 2024, 2020, 2036, 2028, 2026] (runF 788 Tryz.prog asK 0 mottF0 mottC0 mottH0) = .next mottF1 mottC1 mottH1 := by kernel_rfl
theorem mottSp : pathsX (runF 10 Tryz.prog asK 0 mottF1 mottC1 mottH1) = [[true], [false]] := by kernel_rfl
theorem mottSl0 : leafX [true] (killX [] (runF 10 Tryz.prog asK 0 mottF1 mottC1 mottH1)) = .next motttF0 motttC0 motttH0 := by kernel_rfl
end Go.Proofs.YtkbibkkaobfilaaGreatDoor
