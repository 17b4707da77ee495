/-
  StoreNil: what the functions of a nil Store return.
-/
import Derived.Test.YtliolennjodmkaaGreatAbCall
import Derived.Test.YtliolennjodmkaaGreatProg
namespace Go.Proofs.YtliolennjodmkaaGreat
open Go.RowKit Ab

theorem num_calls (a : Int) (w : World) : Calls Tryz.prog 12 #[.int .i64 a] w fun e w' => e = .returned (.int .i64 a) ∧ w = w' := by
  go_enter Tryz.func12, Tryz.ntmps12
  go_wp2
  go_ret
  exact ⟨rfl, rfl⟩
theorem LR1 {a : AV} {v : Value} (h : VR (fun _ => none) a v) : LR (fun _ => none) [a] (#[v] : Array Value).toList := .cons _ _ _ _ h .nil
theorem LR2 {a b : AV} {v u : Value} (h : VR (fun _ => none) a v) (k : VR (fun _ => none) b u) : LR (fun _ => none) [a, b] (#[v, u] : Array Value).toList := .cons _ _ _ _ h (.cons _ _ _ _ k .nil)
theorem LR3 {a b c : AV} {v u x : Value} (h : VR (fun _ => none) a v) (k : VR (fun _ => none) b u) (l : VR (fun _ => none) c x) : LR (fun _ => none) [a, b, c] (#[v, u, x] : Array Value).toList := .cons _ _ _ _ h (.cons _ _ _ _ k (.cons _ _ _ _ l .nil))
abbrev i7 : Value := .int .i64 7
theorem open_c (w : World) : Calls Tryz.prog 5 #[.nilIface, .int .i64 12] w fun e w' => e = .returned (.tuple #[.pointer none, i7]) ∧ Fr Non w w' :=
  closed_calls (s := 1000) (u := .tuple [.nilp, .int .i64 7]) (by decide +kernel) rfl (LR2 .nili (.int _ _)) rfl w
theorem read_c (b : Value) (w : World) : Calls Tryz.prog 6 #[.pointer none, b] w fun e w' => e = .returned (.tuple #[.slice none 0 0, i7]) ∧ Fr Non w w' :=
  closed_calls (s := 1000) (u := .tuple [.nils, .int .i64 7]) (by decide +kernel) rfl (LR2 .nilp (.junk _)) rfl w
theorem take_c (w : World) : Calls Tryz.prog 7 #[.pointer none] w fun e w' => e = .returned (.tuple #[.int .i64 0, i7]) ∧ Fr Non w w' :=
  closed_calls (s := 1000) (u := .tuple [.int .i64 0, .int .i64 7]) (by decide +kernel) rfl (LR1 .nilp) rfl w
theorem turn_c (w : World) : Calls Tryz.prog 8 #[.pointer none] w fun e w' => e = .returned (.tuple #[.bool false, i7]) ∧ Fr Non w w' :=
  closed_calls (s := 1000) (u := .tuple [.bool false, .int .i64 7]) (by decide +kernel) rfl (LR1 .nilp) rfl w
theorem abort_c (w : World) : Calls Tryz.prog 9 #[.pointer none] w fun e w' => e = .returned (.tuple #[]) ∧ Fr Non w w' :=
  closed_calls (s := 1000) (u := .tuple []) (by decide +kernel) rfl (LR1 .nilp) rfl w
theorem hold_c (w : World) : Calls Tryz.prog 10 #[.pointer none] w fun e w' => e = .returned (.tuple #[]) ∧ Fr Non w w' :=
  closed_calls (s := 1000) (u := .tuple []) (by decide +kernel) rfl (LR1 .nilp) rfl w
theorem letGo_c (w : World) : Calls Tryz.prog 11 #[.pointer none] w fun e w' => e = .returned (.tuple #[]) ∧ Fr Non w w' :=
  closed_calls (s := 1000) (u := .tuple []) (by decide +kernel) rfl (LR1 .nilp) rfl w
theorem format_c (w : World) : Calls Tryz.prog 13 #[.nilIface, .int .i64 12] w fun e w' => e = .returned i7 ∧ Fr Non w w' :=
  closed_calls (s := 1000) (u := .int .i64 7) (by decide +kernel) rfl (LR2 .nili (.int _ _)) rfl w
theorem write_c (b p : Value) (w : World) : Calls Tryz.prog 14 #[.pointer none, b, p] w fun e w' => e = .returned i7 ∧ Fr Non w w' :=
  closed_calls (s := 1000) (u := .int .i64 7) (by decide +kernel) rfl (LR3 .nilp (.junk _) (.junk _)) rfl w
theorem give_c (b : Value) (w : World) : Calls Tryz.prog 15 #[.pointer none, b] w fun e w' => e = .returned i7 ∧ Fr Non w w' :=
  closed_calls (s := 1000) (u := .int .i64 7) (by decide +kernel) rfl (LR2 .nilp (.junk _)) rfl w
theorem slot_c (w : World) : Calls Tryz.prog 16 #[.pointer none, .int .i64 0] w fun e w' => e = .returned (.slice none 0 0) ∧ Fr Non w w' :=
  closed_calls (s := 1000) (u := .nils) (by decide +kernel) rfl (LR2 .nilp (.int _ _)) rfl w
theorem setSlot_c (p : Value) (w : World) : Calls Tryz.prog 17 #[.pointer none, .int .i64 0, p] w fun e w' => e = .returned i7 ∧ Fr Non w w' :=
  closed_calls (s := 1000) (u := .int .i64 7) (by decide +kernel) rfl (LR3 .nilp (.int _ _) (.junk _)) rfl w
theorem commit_c (w : World) : Calls Tryz.prog 18 #[.pointer none] w fun e w' => e = .returned i7 ∧ Fr Non w w' :=
  closed_calls (s := 1000) (u := .int .i64 7) (by decide +kernel) rfl (LR1 .nilp) rfl w
theorem blocks_c (w : World) : Calls Tryz.prog 19 #[.pointer none] w fun e w' => e = .returned (.int .i64 0) ∧ Fr Non w w' :=
  closed_calls (s := 1000) (u := .int .i64 0) (by decide +kernel) rfl (LR1 .nilp) rfl w
theorem free_c (w : World) : Calls Tryz.prog 20 #[.pointer none] w fun e w' => e = .returned (.int .i64 0) ∧ Fr Non w w' :=
  closed_calls (s := 1000) (u := .int .i64 0) (by decide +kernel) rfl (LR1 .nilp) rfl w
theorem used_c (w : World) : Calls Tryz.prog 21 #[.pointer none] w fun e w' => e = .returned (.slice none 0 0) ∧ Fr Non w w' :=
  closed_calls (s := 1000) (u := .nils) (by decide +kernel) rfl (LR1 .nilp) rfl w
theorem commits_c (w : World) : Calls Tryz.prog 22 #[.pointer none] w fun e w' => e = .returned (.int .u64 0) ∧ Fr Non w w' :=
  closed_calls (s := 1000) (u := .int .u64 0) (by decide +kernel) rfl (LR1 .nilp) rfl w
theorem stopped_c (w : World) : Calls Tryz.prog 23 #[.pointer none] w fun e w' => e = .returned (.bool false) ∧ Fr Non w w' :=
  closed_calls (s := 1000) (u := .bool false) (by decide +kernel) rfl (LR1 .nilp) rfl w
theorem Fr.step {a b c : World} (h : Fr Non a b) (k : Fr Non b c) : Fr Non a c := h.trans k (fun _ _ h => h)

end Go.Proofs.YtliolennjodmkaaGreat
