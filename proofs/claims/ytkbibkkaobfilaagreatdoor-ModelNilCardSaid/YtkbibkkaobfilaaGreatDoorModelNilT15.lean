/-
  ModelNil: pieces (15) of the run of its closed call.
-/
import Derived.Test.YtkbibkkaobfilaaGreatDoorModelNilS2
set_option maxRecDepth 100000
namespace Go.Proofs.YtkbibkkaobfilaaGreatDoor
open Go.RowKit Ab
theorem moffte : isDoneV (runF 16000 Tryz.prog asK 0 mofftF0 mofftC0 mofftH0) (.bool true) = true := by kernel_rfl
theorem mofffe : isDoneV (runF 16000 Tryz.prog asK 0 mofffF0 mofffC0 mofffH0) (.bool true) = true := by kernel_rfl
end Go.Proofs.YtkbibkkaobfilaaGreatDoor
