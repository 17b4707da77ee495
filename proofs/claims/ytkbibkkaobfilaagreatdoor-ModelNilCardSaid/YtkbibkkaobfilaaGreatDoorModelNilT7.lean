/-
  ModelNil: pieces (7) of the run of its closed call.
-/
import Derived.Test.YtkbibkkaobfilaaGreatDoorModelNilS2
set_option maxRecDepth 100000
namespace Go.Proofs.YtkbibkkaobfilaaGreatDoor
open Go.RowKit Ab
theorem mottSl1 : leafX [false] (killX [] (runF 10 Tryz.prog asK 0 mottF1 mottC1 mottH1)) = .next mottfF0 mottfC0 mottfH0 := by kernel_rfl
theorem mottte : isDoneV (runF 16000 Tryz.prog asK 0 motttF0 motttC0 motttH0) (.bool true) = true := by kernel_rfl
theorem mottfe : isDoneV (runF 16000 Tryz.prog asK 0 mottfF0 mottfC0 mottfH0) (.bool true) = true := by kernel_rfl
end Go.Proofs.YtkbibkkaobfilaaGreatDoor
