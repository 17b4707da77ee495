/-
  ModelNil: pieces (2) of the run of its closed call.
-/
import Derived.Test.YtkbibkkaobfilaaGreatDoorModelNilS2
set_option maxRecDepth 100000
namespace Go.Proofs.YtkbibkkaobfilaaGreatDoor
open Go.RowKit Ab
theorem mo6p : pathsX (runF 30 Tryz.prog asK 0 moF5 moC5 moH5) = [[true], [false]] := by kernel_rfl
theorem mo6l0 : leafX [true] (killX [1495, 1493, 1492, 1494] (runF 30 Tryz.prog asK 0 moF5 moC5 moH5)) = .next moF6 moC6 moH6 := by kernel_rfl
theorem mo6l1 : leafX [false] (killX [1495, 1493, 1492, 1494] (runF 30 Tryz.prog asK 0 moF5 moC5 moH5)) = .next moF6 moC6 moH6 := by kernel_rfl
end Go.Proofs.YtkbibkkaobfilaaGreatDoor
