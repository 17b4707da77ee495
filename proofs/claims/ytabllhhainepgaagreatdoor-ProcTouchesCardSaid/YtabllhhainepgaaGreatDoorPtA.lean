/-
  ProcTouches: the small functions.
-/
import Derived.Test.YtabllhhainepgaaGreatDoorNumA
import Derived.Deep.RegionLaw
import Derived.Laws.ResultCell
set_option maxRecDepth 100000
set_option linter.unusedVariables false
set_option linter.unusedSimpArgs false
set_option linter.constructorNameAsVariable false
namespace Go.Proofs.YtabllhhainepgaaGreatDoor
open Go.RowKit Abk

def known (p : Nat) : Bool := decide (p ≤ 21 ∧ p ≠ 11 ∧ p ≠ 17)
def twoH (p : Nat) : Bool := decide (p = 14 ∨ p = 15)
def chg (p : Nat) : Bool := decide (p ∈ [2, 7, 8, 9, 10, 12, 13, 14, 15])
theorem knownP_calls (p : Nat) (w : World) : Calls Tryz.prog 13 #[.int .u32 (p : Nat)] w fun e w' => e = .returned (.bool (known p)) ∧ w' = w := by
  go_enter Tryz.func13, Tryz.ntmps13
  by_cases h1 : 21 < p
  · have e : known p = false := by simp [known]; omega
    have h1b : decide ((p : Int) ≤ 21) = false := by simp; omega
    rw [e]
    go_wp2_with fail
    go_ret
    exact ⟨by first | rfl | simp, rfl⟩
  by_cases h2 : p = 11
  · subst h2
    go_wp2_with fail
    go_ret
    exact ⟨rfl, rfl⟩
  by_cases h3 : p = 17
  · subst h3
    go_wp2_with fail
    go_ret
    exact ⟨rfl, rfl⟩
  have e : known p = true := by simp [known]; omega
  have h1b : decide ((p : Int) ≤ 21) = true := by simp; omega
  have h2b : ((p : Int) != 11) = true := by simp; omega
  have h3b : ((p : Int) != 17) = true := by simp; omega
  rw [e]
  go_wp2_with fail
  go_ret
  exact ⟨by first | rfl | simp, rfl⟩
theorem two_calls (p : Nat) (w : World) : Calls Tryz.prog 14 #[.int .u32 (p : Nat)] w fun e w' => e = .returned (.bool (twoH p)) ∧ w' = w := by
  go_enter Tryz.func14, Tryz.ntmps14
  by_cases h2 : p = 14
  · subst h2
    go_wp2_with fail
    go_ret
    exact ⟨rfl, rfl⟩
  by_cases h3 : p = 15
  · subst h3
    go_wp2_with fail
    go_ret
    exact ⟨rfl, rfl⟩
  have e : twoH p = false := by simp [twoH]; omega
  have h2b : ((p : Int) == 14) = false := by simp; omega
  have h3b : ((p : Int) == 15) = false := by simp; omega
  rw [e]
  go_wp2_with fail
  go_ret
  exact ⟨by first | rfl | simp, rfl⟩
theorem twoR_calls (p : Nat) (w : World) : Calls Tryz.prog 17 #[.int .u32 (p : Nat)] w fun e w' => e = .returned (.bool (twoH p)) ∧ w' = w := by
  go_enter Tryz.func17, Tryz.ntmps17
  by_cases h2 : p = 14
  · subst h2
    go_wp2_with fail
    go_ret
    exact ⟨rfl, rfl⟩
  by_cases h3 : p = 15
  · subst h3
    go_wp2_with fail
    go_ret
    exact ⟨rfl, rfl⟩
  have e : twoH p = false := by simp [twoH]; omega
  have h2b : ((p : Int) == 14) = false := by simp; omega
  have h3b : ((p : Int) == 15) = false := by simp; omega
  rw [e]
  go_wp2_with fail
  go_ret
  exact ⟨by first | rfl | simp, rfl⟩
theorem chgP_calls (p : Nat) (w : World) : Calls Tryz.prog 7 #[.int .u32 (p : Nat)] w fun e w' => e = .returned (.bool (chg p)) ∧ w' = w := by
  go_enter Tryz.func7, Tryz.ntmps7
  by_cases h : p = 2 ∨ p = 7 ∨ p = 8 ∨ p = 9 ∨ p = 10 ∨ p = 12 ∨ p = 13 ∨ p = 14 ∨ p = 15
  · rcases h with rfl | rfl | rfl | rfl | rfl | rfl | rfl | rfl | rfl
    all_goals
      go_wp2_with fail
      go_ret
      exact ⟨rfl, rfl⟩
  · have e : chg p = false := by simp [chg]; omega
    have b1 : ((p : Int) == 2) = false := by simp; omega
    have b2 : ((p : Int) == 7) = false := by simp; omega
    have b3 : ((p : Int) == 8) = false := by simp; omega
    have b4 : ((p : Int) == 9) = false := by simp; omega
    have b5 : ((p : Int) == 10) = false := by simp; omega
    have b6 : ((p : Int) == 12) = false := by simp; omega
    have b7 : ((p : Int) == 13) = false := by simp; omega
    have b8 : ((p : Int) == 14) = false := by simp; omega
    have b9 : ((p : Int) == 15) = false := by simp; omega
    rw [e]
    clear h e
    go_wp2_with fail
    go_ret
    exact ⟨by first | rfl | simp, rfl⟩
theorem chgR_calls (p : Nat) (w : World) : Calls Tryz.prog 8 #[.int .u32 (p : Nat)] w fun e w' => e = .returned (.bool (chg p)) ∧ w' = w := by
  go_enter Tryz.func8, Tryz.ntmps8
  by_cases h : p = 2 ∨ p = 7 ∨ p = 8 ∨ p = 9 ∨ p = 10 ∨ p = 12 ∨ p = 13 ∨ p = 14 ∨ p = 15
  · rcases h with rfl | rfl | rfl | rfl | rfl | rfl | rfl | rfl | rfl
    all_goals
      go_wp2_with fail
      go_ret
      exact ⟨rfl, rfl⟩
  · have e : chg p = false := by simp [chg]; omega
    have b1 : ((p : Int) == 2) = false := by simp; omega
    have b2 : ((p : Int) == 7) = false := by simp; omega
    have b3 : ((p : Int) == 8) = false := by simp; omega
    have b4 : ((p : Int) == 9) = false := by simp; omega
    have b5 : ((p : Int) == 10) = false := by simp; omega
    have b6 : ((p : Int) == 12) = false := by simp; omega
    have b7 : ((p : Int) == 13) = false := by simp; omega
    have b8 : ((p : Int) == 14) = false := by simp; omega
    have b9 : ((p : Int) == 15) = false := by simp; omega
    rw [e]
    clear h e
    go_wp2_with fail
    go_ret
    exact ⟨by first | rfl | simp, rfl⟩
set_option maxHeartbeats 4000000 in
theorem args_calls (p : Nat) (hp : p < 4294967296) (w : World) : Calls Tryz.prog 33 #[.int .u32 (p : Nat)] w fun e w' => ∃ s, e = .returned (.string s) ∧ (!s.toList == [45]) = known p ∧ Fr Non w w' := by
  go_enter Tryz.func33, Tryz.ntmps33
  by_cases h : p < 22
  · have hc : p = 0 ∨ p = 1 ∨ p = 2 ∨ p = 3 ∨ p = 4 ∨ p = 5 ∨ p = 6 ∨ p = 7 ∨ p = 8 ∨ p = 9 ∨ p = 10 ∨ p = 11 ∨ p = 12 ∨ p = 13 ∨ p = 14 ∨ p = 15 ∨ p = 16 ∨ p = 17 ∨ p = 18 ∨ p = 19 ∨ p = 20 ∨ p = 21 := by omega
    clear h hp
    rcases hc with rfl | rfl | rfl | rfl | rfl | rfl | rfl | rfl | rfl | rfl | rfl | rfl | rfl | rfl | rfl | rfl | rfl | rfl | rfl | rfl | rfl | rfl
    all_goals
      go_wp2_with fail
      go_ret
      exact ⟨_, rfl, by decide +kernel, (Fr.refl _ _).alloc _⟩
  · have e : known p = false := by simp [known]; omega
    have hb : decide (22 ≤ (p : Int)) = true := by simp; omega
    rw [e]
    go_wp2_with fail
    go_ret
    exact ⟨_, rfl, by decide +kernel, (Fr.refl _ _).alloc _⟩
theorem knownR_calls (p : Nat) (hp : p < 4294967296) (w : World) : Calls Tryz.prog 16 #[.int .u32 (p : Nat)] w fun e w' => e = .returned (.bool (known p)) ∧ Fr Non w w' := by
  go_enter Tryz.func16, Tryz.ntmps16
  go_wp2_with fail
  refine (args_calls p hp w).mono ?_
  rintro e w' ⟨s, rfl, hs, hf⟩
  go_wp2_with fail
  go_ret
  exact ⟨by first | rfl | simp, hf⟩
end Go.Proofs.YtabllhhainepgaaGreatDoor
