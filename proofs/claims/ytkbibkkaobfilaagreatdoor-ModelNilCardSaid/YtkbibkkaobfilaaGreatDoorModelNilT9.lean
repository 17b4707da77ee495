/-
  ModelNil: pieces (9) of the run of its closed call.
-/
import Derived.Test.YtkbibkkaobfilaaGreatDoorModelNilS2
set_option maxRecDepth 100000
namespace Go.Proofs.YtkbibkkaobfilaaGreatDoor
open Go.RowKit Ab
theorem motfSl1 : leafX [false] (killX [] (runF 10 Tryz.prog asK 0 motfF1 motfC1 motfH1)) = .next motffF0 motffC0 motffH0 := by kernel_rfl
theorem motfte : isDoneV (runF 16000 Tryz.prog asK 0 motftF0 motftC0 motftH0) (.bool true) = true := by kernel_rfl
theorem motffe : isDoneV (runF 16000 Tryz.prog asK 0 motffF0 motffC0 motffH0) (.bool true) = true := by kernel_rfl
end Go.Proofs.YtkbibkkaobfilaaGreatDoor
