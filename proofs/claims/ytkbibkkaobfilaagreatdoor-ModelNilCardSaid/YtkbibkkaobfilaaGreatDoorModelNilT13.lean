/-
  ModelNil: pieces (13) of the run of its closed call.
-/
import Derived.Test.YtkbibkkaobfilaaGreatDoorModelNilS2
set_option maxRecDepth 100000
namespace Go.Proofs.YtkbibkkaobfilaaGreatDoor
open Go.RowKit Ab
theorem moftte : isDoneV (runF 16000 Tryz.prog asK 0 mofttF0 mofttC0 mofttH0) (.bool true) = true := by kernel_rfl
theorem moftfe : isDoneV (runF 16000 Tryz.prog asK 0 moftfF0 moftfC0 moftfH0) (.bool true) = true := by kernel_rfl
theorem moff1 : killX [2027, 2017, 2025, 2041, 2037, 2045, 2032, 2024, 2020, 2036, 2028, 2026] (runF 788 Tryz.prog asK 0 moffF0 moffC0 moffH0) = .next moffF1 moffC1 moffH1 := by kernel_rfl
end Go.Proofs.YtkbibkkaobfilaaGreatDoor
