/-
  errors.As at a target of type **api.FsError, asked of an api.Errno: there is none.
-/
import Derived.Test.YtabllhhainepgaaGreatDoorInsK
set_option maxRecDepth 100000
set_option linter.unusedVariables false
set_option linter.unusedSimpArgs false
set_option linter.constructorNameAsVariable false
namespace Go.Proofs.YtabllhhainepgaaGreatDoor
open Go.RowKit Ab

noncomputable def asHookF : Hook := fun args H =>
  match args with
  | [.iface te (.int .i64 _), .iface t (.ptr _ _)] =>
    bif Nat.beq t 163 then (bif Nat.beq te 68 then some (.bool false, H) else none) else none
  | _ => none
noncomputable def asHook2 : Hook := fun args H =>
  match asHook args H with
  | some r => some r
  | none => asHookF args H
noncomputable def ptK : Hooks := fun f => bif Nat.beq f 51 then some asHook2 else
  bif Nat.beq f 128 then some (insHook 23) else none
end Go.Proofs.YtabllhhainepgaaGreatDoor
