/-
  ModelNil: pieces (14) of the run of its closed call.
-/
import Derived.Test.YtkbibkkaobfilaaGreatDoorModelNilS2
set_option maxRecDepth 100000
namespace Go.Proofs.YtkbibkkaobfilaaGreatDoor
open Go.RowKit Ab
theorem moffSp : pathsX (runF 10 Tryz.prog asK 0 moffF1 moffC1 moffH1) = [[true], [false]] := by kernel_rfl
theorem moffSl0 : leafX [true] (killX [] (runF 10 Tryz.prog asK 0 moffF1 moffC1 moffH1)) = .next mofftF0 mofftC0 mofftH0 := by kernel_rfl
theorem moffSl1 : leafX [false] (killX [] (runF 10 Tryz.prog asK 0 moffF1 moffC1 moffH1)) = .next mofffF0 mofffC0 mofffH0 := by kernel_rfl
end Go.Proofs.YtkbibkkaobfilaaGreatDoor
