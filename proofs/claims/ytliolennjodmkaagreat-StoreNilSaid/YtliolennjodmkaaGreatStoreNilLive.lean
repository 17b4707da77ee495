/-
  StoreNil: live() returns true.
-/
import Derived.Test.YtliolennjodmkaaGreatAbCall
import Derived.Test.YtliolennjodmkaaGreatProg
namespace Go.Proofs.YtliolennjodmkaaGreat
open Go.RowKit Ab
theorem live_c (w : World) : Calls Tryz.prog 4 #[] w fun e w' => e = .returned (.bool true) ∧ Fr Non w w' :=
  closed_calls (s := 100000) (u := .bool true) (by decide +kernel) rfl .nil rfl w
end Go.Proofs.YtliolennjodmkaaGreat
