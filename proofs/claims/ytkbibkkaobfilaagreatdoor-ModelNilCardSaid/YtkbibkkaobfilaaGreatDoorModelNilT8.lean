/-
  ModelNil: pieces (8) of the run of its closed call.
-/
import Derived.Test.YtkbibkkaobfilaaGreatDoorModelNilS2
set_option maxRecDepth 100000
namespace Go.Proofs.YtkbibkkaobfilaaGreatDoor
open Go.RowKit Ab
theorem motf1 : killX [2027, 2017, 2025, 2041, 2037, 2045, 2032, 2024, 2020, 2036, 2028, 2026] (runF 788 Tryz.prog asK 0 motfF0 motfC0 motfH0) = .next motfF1 motfC1 motfH1 := by kernel_rfl
theorem motfSp : pathsX (runF 10 Tryz.prog asK 0 motfF1 motfC1 motfH1) = [[true], [false]] := by kernel_rfl
theorem motfSl0 : leafX [true] (killX [] (runF 10 Tryz.prog asK 0 motfF1 motfC1 motfH1)) = .next motftF0 motftC0 motftH0 := by kernel_rfl
end Go.Proofs.YtkbibkkaobfilaaGreatDoor
