/-
  MerkleNil: what the functions return where there is no store.
-/
import Derived.Test.YtgmodeaeglnagaaGreatAbCall
import Derived.Test.YtgmodeaeglnagaaGreatProg
namespace Go.Proofs.YtgmodeaeglnagaaGreat
open Go.RowKit Ab

theorem num_calls (a : Int) (w : World) : Calls Tryz.prog 13 #[.int .i64 a] w fun e w' => e = .returned (.int .i64 a) ∧ w = w' := by
  go_enter Tryz.func13, Tryz.ntmps13
  go_wp2
  go_ret
  exact ⟨rfl, rfl⟩
theorem LR1 {a : AV} {v : Value} (h : VR (fun _ => none) a v) : LR (fun _ => none) [a] (#[v] : Array Value).toList := .cons _ _ _ _ h .nil
theorem LR2 {a b : AV} {v u : Value} (h : VR (fun _ => none) a v) (k : VR (fun _ => none) b u) : LR (fun _ => none) [a, b] (#[v, u] : Array Value).toList := .cons _ _ _ _ h (LR1 k)
theorem LR3 {a b c : AV} {v u x : Value} (h : VR (fun _ => none) a v) (k : VR (fun _ => none) b u) (l : VR (fun _ => none) c x) : LR (fun _ => none) [a, b, c] (#[v, u, x] : Array Value).toList := .cons _ _ _ _ h (LR2 k l)
theorem Fr.step {a b c : World} (h : Fr Non a b) (k : Fr Non b c) : Fr Non a c := h.trans k (fun _ _ h => h)
/-- A row of so many cells. -/
def Dg (d : Value) : Prop := ∃ x : Array Value, d = .agg x ∧ x.size = 32 ∧ ∀ v ∈ x.toList, v.oneCell' = true
theorem Dg.VR {d : Value} (h : Dg d) : VR (fun _ => none) (.agg (List.replicate 32 .any)) d := by
  obtain ⟨x, rfl, h1, h2⟩ := h
  refine .agg _ x (LR.of_get (by simp [h1]) fun i a v ha hv => ?_)
  rw [List.getElem?_replicate] at ha
  split at ha
  · cases ha; exact .any v (h2 v (List.mem_of_getElem? hv))
  · cases ha
abbrev i2 : Value := .int .i64 2
def z32 : Value := .agg (Array.replicate 32 (.int .u8 0))
theorem put_c (p : Value) (w : World) : Calls Tryz.prog 5 #[.nilIface, .int .u8 70, p] w fun e w' => e = .returned (.tuple #[z32, i2]) ∧ Fr Non w w' :=
  closed_calls (s := 1000) (u := .tuple [.agg (List.replicate 32 (.int .u8 0)), .int .i64 2]) (by decide +kernel) rfl (LR3 .nili (.int _ _) (.junk _)) rfl w
theorem size_c {d : Value} (hd : Dg d) (w : World) : Calls Tryz.prog 6 #[.nilIface, d] w fun e w' => e = .returned (.tuple #[.int .u8 0, .int .u64 0, i2]) ∧ Fr Non w w' :=
  closed_calls (s := 1000) (u := .tuple [.int .u8 0, .int .u64 0, .int .i64 2]) (by decide +kernel) rfl (LR2 .nili hd.VR) rfl w
theorem putDir_c (w : World) : Calls Tryz.prog 8 #[.nilIface, .slice none 0 0] w fun e w' => e = .returned (.tuple #[z32, i2]) ∧ Fr Non w w' :=
  closed_calls (s := 1000) (u := .tuple [.agg (List.replicate 32 (.int .u8 0)), .int .i64 2]) (by decide +kernel) rfl (LR2 .nili .nils) rfl w
theorem getDir_c {d : Value} (hd : Dg d) (w : World) : Calls Tryz.prog 9 #[.nilIface, d] w fun e w' => e = .returned (.tuple #[.slice none 0 0, i2]) ∧ Fr Non w w' :=
  closed_calls (s := 1000) (u := .tuple [.nils, .int .i64 2]) (by decide +kernel) rfl (LR2 .nili hd.VR) rfl w
theorem children_c {d : Value} (hd : Dg d) (w : World) : Calls Tryz.prog 10 #[.nilIface, d] w fun e w' => e = .returned (.tuple #[.slice none 0 0, i2]) ∧ Fr Non w w' :=
  closed_calls (s := 1000) (u := .tuple [.nils, .int .i64 2]) (by decide +kernel) rfl (LR2 .nili hd.VR) rfl w
theorem reach_c {d : Value} (hd : Dg d) (w : World) : Calls Tryz.prog 11 #[.nilIface, d] w fun e w' => e = .returned (.tuple #[.slice none 0 0, i2]) ∧ Fr Non w w' :=
  closed_calls (s := 1000) (u := .tuple [.nils, .int .i64 2]) (by decide +kernel) rfl (LR2 .nili hd.VR) rfl w
theorem diff_c {d : Value} (hd : Dg d) (w : World) : Calls Tryz.prog 12 #[.nilIface, d, d] w fun e w' => e = .returned (.tuple #[.slice none 0 0, i2]) ∧ Fr Non w w' :=
  closed_calls (s := 1000) (u := .tuple [.nils, .int .i64 2]) (by decide +kernel) rfl (LR3 .nili hd.VR hd.VR) rfl w
def head0 : Value := .agg (#[.int .u8 0, .int .u64 0] ++ Array.replicate 32 (.int .u8 0))
theorem load_c {d : Value} (hd : Dg d) (w : World) : Calls Tryz.prog 18 #[.nilIface, d] w fun e w' => e = .returned (.tuple #[head0, i2]) ∧ Fr Non w w' :=
  closed_calls (s := 1000) (u := .tuple [.agg ([.int .u8 0, .int .u64 0] ++ List.replicate 32 (.int .u8 0)), .int .i64 2]) (by decide +kernel) rfl (LR2 .nili hd.VR) rfl w
end Go.Proofs.YtgmodeaeglnagaaGreat
