/-
  errors.As at a target of type *api.Errno: what the abstract machine takes it to answer.
-/
import Derived.Test.YtabllhhainepgaaGreatDoorAbG9
import Derived.Test.YtabllhhainepgaaGreatDoorProg
set_option maxRecDepth 100000
set_option linter.unusedVariables false
set_option linter.unusedSimpArgs false
set_option linter.constructorNameAsVariable false
namespace Go.Proofs.YtabllhhainepgaaGreatDoor
open Go.RowKit Ab

/-- The first api.Errno of a chain of errors: none: it can't be told; some none: there is none. -/
noncomputable def chainA (H : AH) : Nat → AV → Option (Option AV)
  | 0, _ => none
  | n + 1, .iface t v =>
    bif Nat.beq t 68 then (match v with | .int .i64 m => some (some (.int .i64 m)) | _ => none)
    else bif Nat.beq t 161 then
      match v with
      | .ptr b off => match cellAt (H.get b) (Nat.add off 2) with
        | .nili => some none
        | .iface t' v' => chainA H n (.iface t' v')
        | _ => none
      | _ => none
    else none
  | _, _ => none
noncomputable def asHook : Hook := fun args H =>
  match args with
  | [e, .iface t (.ptr b off)] =>
    bif Nat.beq t 220 then
      match H.get b with
      | .rows n s _ _ _ =>
        bif Nat.blt off (Nat.mul n s) then
          match e with
          | .nili => some (.bool false, H)
          | e => match chainA H 60 e with
            | some (some v) => match storeX Tryz.prog 0 68 b off v H with
              | .val _ H' => some (.bool true, H')
              | _ => none
            | some none => some (.bool false, H)
            | none => none
        else none
      | _ => none
    else none
  | _ => none
noncomputable def asK : Hooks := fun f => bif Nat.beq f 51 then some asHook else none
end Go.Proofs.YtabllhhainepgaaGreatDoor
