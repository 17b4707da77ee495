/-
  ModelNil: pieces (11) of the run of its closed call.
-/
import Derived.Test.YtkbibkkaobfilaaGreatDoorModelNilS2
set_option maxRecDepth 100000
namespace Go.Proofs.YtkbibkkaobfilaaGreatDoor
open Go.RowKit Ab
theorem mofSl0 : leafX [true] (killX [] (runF 10 Tryz.prog asK 0 mofF2 mofC2 mofH2)) = .next moftF0 moftC0 moftH0 := by kernel_rfl
theorem mofSl1 : leafX [false] (killX [] (runF 10 Tryz.prog asK 0 mofF2 mofC2 mofH2)) = .next moffF0 moffC0 moffH0 := by kernel_rfl
theorem moft1 : killX [2027, 2017, 2025, 2041, 2037, 2045, 2032, 2024, 2020, 2036, 2028, 2026] (runF 788 Tryz.prog asK 0 moftF0 moftC0 moftH0) = .next moftF1 moftC1 moftH1 := by kernel_rfl
end Go.Proofs.YtkbibkkaobfilaaGreatDoor
