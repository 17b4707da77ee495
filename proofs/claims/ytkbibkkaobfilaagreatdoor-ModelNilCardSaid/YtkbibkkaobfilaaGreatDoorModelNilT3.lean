/-
  ModelNil: pieces (3) of the run of its closed call.
-/
import Derived.Test.YtkbibkkaobfilaaGreatDoorModelNilS2
set_option maxRecDepth 100000
namespace Go.Proofs.YtkbibkkaobfilaaGreatDoor
open Go.RowKit Ab
theorem mo7 : killX [1496] (runF 17 Tryz.prog asK 0 moF6 moC6 moH6) = .next moF7 moC7 moH7 := by kernel_rfl
theorem moSp : pathsX (runF 10 Tryz.prog asK 0 moF7 moC7 moH7) = [[true], [false]] := by kernel_rfl
theorem moSl0 : leafX [true] (killX [] (runF 10 Tryz.prog asK 0 moF7 moC7 moH7)) = .next motF0 motC0 motH0 := by kernel_rfl
end Go.Proofs.YtkbibkkaobfilaaGreatDoor
