/-
  slices.Insert of one element into the middle of a grown row: what the abstract machine takes it to do.
-/
import Derived.Test.YtabllhhainepgaaGreatDoorErrK
set_option maxRecDepth 100000
set_option linter.unusedVariables false
set_option linter.unusedSimpArgs false
set_option linter.constructorNameAsVariable false
namespace Go.Proofs.YtabllhhainepgaaGreatDoor
open Go.RowKit Ab

noncomputable def insHook (elem : TypeId) : Hook := fun args H =>
  match args with
  | [.slice b off len cap true, .int .i64 (.ofNat i), .slice vb voff 1 _ _] =>
    bif Nat.blt i len && (Nat.beq off 0 && (Nat.ble len cap && !(Nat.beq b vb))) then
      match H.get b, H.get vb with
      | .rows n 1 c z e, .rows n' 1 c' z' e' =>
        bif (Nat.beq n cap && Nat.beq e elem) && (Nat.blt voff n' && Nat.blt len 1000000) then
          match setRowsK z (rowsFrom c z i 0 ++ getR c' (path voff) z' :: rowsFrom c z (Nat.sub len i) i) .nil 0 fun d =>
              H.setK b .dead fun H1 => fNat (Nat.succ len) fun tot => H1.pushK (.rows tot 1 d z e) fun H' => .val (.slice H.size 0 tot tot true) H' with
          | .val v H' => some (v, H')
          | _ => none
        else none
      | _, _ => none
    else none
  | _ => none
noncomputable def lawK : Hooks := fun f => bif Nat.beq f 51 then some asHook else
  bif Nat.beq f 128 then some (insHook 23) else none
end Go.Proofs.YtabllhhainepgaaGreatDoor
