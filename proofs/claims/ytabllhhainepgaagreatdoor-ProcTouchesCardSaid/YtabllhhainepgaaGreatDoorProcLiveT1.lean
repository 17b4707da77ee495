/-
  ProcLive: pieces (1) of the run of its closed call.
-/
import Derived.Test.YtabllhhainepgaaGreatDoorProcLiveS0
set_option maxRecDepth 100000
namespace Go.Proofs.YtabllhhainepgaaGreatDoor
open Go.RowKit Ab
theorem pt2p : pathsX (runF 25 Tryz.prog ptK 0 ptF1 ptC1 ptH1) = [[true, true], [true, false], [false, true, true], [false, true, false], [false, false, true], [false, false, false]] := by kernel_rfl
theorem pt2l0 : leafX [true, true] (killX [571, 569, 568, 570] (runF 25 Tryz.prog ptK 0 ptF1 ptC1 ptH1)) = .next ptF2 ptC2 ptH2 := by kernel_rfl
end Go.Proofs.YtabllhhainepgaaGreatDoor
