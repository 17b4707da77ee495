/-
  The law StoreNil: what a nil Store answers, and no device.
-/
import Derived.Test.YtliolennjodmkaaGreatStoreNilCon
import Derived.Test.YtliolennjodmkaaGreatStoreNilLive
namespace Go.Proofs.YtliolennjodmkaaGreat
open Go.RowKit Ab

set_option maxRecDepth 100000 in
set_option maxHeartbeats 4000000 in
theorem storeNil_walk (b : Value) (sp : Option Addr) (n c : Nat) (w : World) : Calls Tryz.prog 3 #[b, .slice sp n c] w fun e w' => e = .returned (.bool true) ∧ Fr Non w w' := by
  have hacc : Fr Non w w := Fr.refl _ _
  by_cases hl : (n : Int) > 40000
  · go_enter Tryz.func3, Tryz.ntmps3
    go_wp2_with (go_at_call 4; refine (live_c _).mono ?_; rintro e w' ⟨rfl, hf⟩; replace hacc := Fr.step hacc hf)
    go_ret
    exact ⟨rfl, hacc⟩
  · go_enter Tryz.func3, Tryz.ntmps3
    go_wp2_with (first
      | (go_at_call 12; refine (num_calls _ _).mono ?_; rintro e w' ⟨rfl, rfl⟩)
      | (go_at_call 5; refine (open_c _).mono ?_; rintro e w' ⟨rfl, hf⟩; replace hacc := Fr.step hacc hf; clear hf)
      | (go_at_call 6; refine (read_c _ _).mono ?_; rintro e w' ⟨rfl, hf⟩; replace hacc := Fr.step hacc hf; clear hf)
      | (go_at_call 7; refine (take_c _).mono ?_; rintro e w' ⟨rfl, hf⟩; replace hacc := Fr.step hacc hf; clear hf)
      | (go_at_call 8; refine (turn_c _).mono ?_; rintro e w' ⟨rfl, hf⟩; replace hacc := Fr.step hacc hf; clear hf)
      | (go_at_call 9; refine (abort_c _).mono ?_; rintro e w' ⟨rfl, hf⟩; replace hacc := Fr.step hacc hf; clear hf)
      | (go_at_call 10; refine (hold_c _).mono ?_; rintro e w' ⟨rfl, hf⟩; replace hacc := Fr.step hacc hf; clear hf)
      | (go_at_call 11; refine (letGo_c _).mono ?_; rintro e w' ⟨rfl, hf⟩; replace hacc := Fr.step hacc hf; clear hf)
      | (go_at_call 13; refine (format_c _).mono ?_; rintro e w' ⟨rfl, hf⟩; replace hacc := Fr.step hacc hf; clear hf)
      | (go_at_call 14; refine (write_c _ _ _).mono ?_; rintro e w' ⟨rfl, hf⟩; replace hacc := Fr.step hacc hf; clear hf)
      | (go_at_call 15; refine (give_c _ _).mono ?_; rintro e w' ⟨rfl, hf⟩; replace hacc := Fr.step hacc hf; clear hf)
      | (go_at_call 16; refine (slot_c _).mono ?_; rintro e w' ⟨rfl, hf⟩; replace hacc := Fr.step hacc hf; clear hf)
      | (go_at_call 17; refine (setSlot_c _ _).mono ?_; rintro e w' ⟨rfl, hf⟩; replace hacc := Fr.step hacc hf; clear hf)
      | (go_at_call 18; refine (commit_c _).mono ?_; rintro e w' ⟨rfl, hf⟩; replace hacc := Fr.step hacc hf; clear hf)
      | (go_at_call 19; refine (blocks_c _).mono ?_; rintro e w' ⟨rfl, hf⟩; replace hacc := Fr.step hacc hf; clear hf)
      | (go_at_call 20; refine (free_c _).mono ?_; rintro e w' ⟨rfl, hf⟩; replace hacc := Fr.step hacc hf; clear hf)
      | (go_at_call 21; refine (used_c _).mono ?_; rintro e w' ⟨rfl, hf⟩; replace hacc := Fr.step hacc hf; clear hf)
      | (go_at_call 22; refine (commits_c _).mono ?_; rintro e w' ⟨rfl, hf⟩; replace hacc := Fr.step hacc hf; clear hf)
      | (go_at_call 23; refine (stopped_c _).mono ?_; rintro e w' ⟨rfl, hf⟩; replace hacc := Fr.step hacc hf; clear hf)
      | (go_at_call 4; refine (live_c _).mono ?_; rintro e w' ⟨rfl, hf⟩; replace hacc := Fr.step hacc hf; clear hf))
    go_ret
    exact ⟨rfl, hacc⟩
end Go.Proofs.YtliolennjodmkaaGreat
