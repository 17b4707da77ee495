/-
  The law DrcNil: what a nil Cache answers.
-/
import Derived.Test.YtidmlkedebjbgaaDrcL
namespace Go.Proofs.Ytidmlkedebjbgaa
open Go.RowKit

set_option maxRecDepth 100000 in
set_option maxHeartbeats 2000000 in
theorem drcNil_walk (w : World) : Calls Try.prog 7 #[] w fun e w' => e = .returned (.bool true) ∧ Fr Non w w' := by
  go_enter Try.func7, Try.ntmps7
  go_wp2_with (first
    | (go_at_call 21; refine (oldest_nil _).mono ?_; rintro e w' ⟨rfl, rfl⟩)
    | (go_at_call 19; refine (clear_nil _).mono ?_; rintro e w' ⟨rfl, rfl⟩)
    | (go_at_call 8; refine (live_calls _).mono ?_; rintro e w1 ⟨rfl, hf1⟩)
    | (go_at_call 11; refine (arrive_nil _ _ _).mono ?_; rintro e w2 ⟨rfl, hf2⟩; unfold arr emp)
    | (go_at_call 13; refine (done_nil _ _ _).mono ?_; rintro e w' ⟨rfl, rfl⟩)
    | (go_at_call 10; refine (num_calls _ _).mono ?_; rintro e w' ⟨rfl, rfl⟩)
    | (go_at_call 18; refine (forget_nil _ _).mono ?_; rintro e w' ⟨rfl, rfl⟩)
    | (go_at_call 12; refine (len_nil _).mono ?_; rintro e w' ⟨rfl, rfl⟩)
    | (go_at_call 20; refine (busyN_nil _).mono ?_; rintro e w3 ⟨rfl, hf3⟩)
    | (go_at_call 15; refine (entries_nil _).mono ?_; rintro e w' ⟨rfl, rfl⟩)
    | (go_at_call 25; refine (copy_nil _).mono ?_; rintro e w' ⟨rfl, rfl⟩))
  go_ret
  exact ⟨rfl, (hf1.trans hf2 (fun _ _ h => h)).trans hf3 (fun _ _ h => h)⟩
end Go.Proofs.Ytidmlkedebjbgaa
