/-
  SnapshotNil: pieces (1) of the run of its closed call.
-/
import Derived.Test.YtofnfadoecdcoaaGreatDoorSnapshotNilS0
set_option maxRecDepth 100000
namespace Go.Proofs.YtofnfadoecdcoaaGreatDoor
open Go.RowKit Ab
theorem sn1l1 : leafX [true, false] (killX [483, 485, 484, 482] (runF 25 Tryz.prog lawK 0 snF0 snC0 snH0)) = .next snF1 snC1 snH1 := by kernel_rfl
theorem sn1l2 : leafX [false, true, true] (killX [483, 485, 484, 482] (runF 25 Tryz.prog lawK 0 snF0 snC0 snH0)) = .next snF1 snC1 snH1 := by kernel_rfl
theorem sn1l3 : leafX [false, true, false] (killX [483, 485, 484, 482] (runF 25 Tryz.prog lawK 0 snF0 snC0 snH0)) = .next snF1 snC1 snH1 := by kernel_rfl
end Go.Proofs.YtofnfadoecdcoaaGreatDoor
