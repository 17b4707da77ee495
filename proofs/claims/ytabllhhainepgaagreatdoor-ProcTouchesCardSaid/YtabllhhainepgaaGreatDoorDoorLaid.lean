/-
  What the condition on the listed variables gives: errors.errorType holds the handle of the type error.
-/
import Derived.Test.YtabllhhainepgaaGreatDoorRows
import Derived.Test.YtabllhhainepgaaGreatDoorCards
import Derived.Test.YtabllhhainepgaaGreatDoorTie
import Derived.Test.YtabllhhainepgaaGreatDoorErrAll
import Derived.ProofKit
import Derived.ChangeVars
import Derived.JoinedOf
import Derived.LaidLaws
import Derived.LaidHandle
import Derived.LaidMore
import Derived.Stop.Joined
set_option maxRecDepth 100000
set_option linter.unusedVariables false
namespace Go.Proofs.YtabllhhainepgaaGreatDoor
open Go.ChangeShapes Go.WideShapes Go.ChangeAt Go.RowKit
theorem door_et : Tryz.prog.globalNamed "errors.errorType" = some 0 := by kernel_rfl
theorem door_rt : (Tryz.prog.cutTypes.find? (·.1 == "internal/reflectlite.rtype")).map (·.2) = some 268 := by kernel_rfl
theorem door_oneRow : ((List.range 514).filter fun t => Tryz.prog.rowNamed t [101, 114, 114, 111, 114]) = [75] := by kernel_rfl
theorem door_size : Tryz.prog.types.size = 514 := by kernel_rfl
theorem handle_of {W : World} (h : handlesMet Tryz.prog [("errors.errorType", Rows.laid_errors_errorType)] W) : ErrT W := by
  obtain ⟨name, u, ty, e1, e2, e3, e4, e5⟩ := h _ (List.mem_singleton.2 rfl)
  have en : name = [101, 114, 114, 111, 114] := (Option.some.inj e1).symm
  subst en
  obtain rfl := Option.some.inj (door_rt.symm.trans e2)
  have hm : ty ∈ (List.range 514).filter fun t => Tryz.prog.rowNamed t [101, 114, 114, 111, 114] := List.mem_filter.2 ⟨List.mem_range.2 (by rw [← door_size]; exact e3), e4⟩
  rw [door_oneRow] at hm
  obtain rfl := List.mem_singleton.1 hm
  have hh : typeHandle Tryz.prog 75 = .pointer (some ⟨5, 75, none⟩) := by kernel_rfl
  rw [hh] at e5
  have := World.var?_cell door_et e5 0
  unfold ErrT
  simpa using this
end Go.Proofs.YtabllhhainepgaaGreatDoor
