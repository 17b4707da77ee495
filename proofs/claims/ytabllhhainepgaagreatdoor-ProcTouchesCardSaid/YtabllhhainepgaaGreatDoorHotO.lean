/-
  octet.Get and octet.Lay: the walks.
-/
import Derived.Test.YtabllhhainepgaaGreatDoorHotB
import Derived.Test.YtabllhhainepgaaGreatDoorProg
import Derived.Test.YtabllhhainepgaaGreatDoorArr
import Derived.Laws.BitsAllLaws
import Derived.Laws.MakeOwn
import Derived.Below
set_option maxRecDepth 100000
set_option linter.unusedVariables false
set_option linter.unusedSimpArgs false
set_option linter.constructorNameAsVariable false
namespace Go.Proofs.YtabllhhainepgaaGreatDoor
open Go.RowKit Ab

/-! ### octet.Get -/
def getS : Nat → Nat → Nat → Nat
  | 0, _, x => x
  | n + 1, M, x => getS n (M / 256) (x * 256 % 18446744073709551616 + M % 256)
theorem getS_eq (n M x : Nat) : getS n M x = foldS (fun x c => x * 256 % 18446744073709551616 + c) n M x := by
  induction n generalizing M x with
  | zero => rfl
  | succ n ih => rw [getS, foldS, ih]
theorem get_calls (b o n c M : Nat) (w : World) (hn : n < 2 ^ 62) (hx : ∀ j, j < n → w.cell? ⟨b, o + j, none⟩ = some (.int .u8 (.ofNat (byteAt M j)))) :
    Calls Tryz.prog 32 #[.slice (some ⟨b, o, none⟩) n c] w fun e w' => e = .returned (.int .u64 (foldS (fun x c => x * 256 % 18446744073709551616 + c) n M 0 : Nat)) ∧ w' = w := by
  have Hx := Lib.hid hx
  clear hx
  go_enter Tryz.func32, Tryz.ntmps32
  go_wp2_with fail
  go_loopw [3, 8] (fun s i wr => ∃ (j x : Nat), j ≤ n ∧ i = .int .i64 (j : Nat) ∧ s = .int .u64 (x : Nat) ∧ x < 18446744073709551616 ∧ wr = w ∧ x = foldS (fun x c => x * 256 % 18446744073709551616 + c) j M 0) (fun _ i _ => n - (intOf i).toNat)
  case atStart => exact ⟨0, 0, Nat.zero_le _, rfl, rfl, by decide, rfl, rfl⟩
  case round =>
    obtain ⟨j, x, hj, rfl, rfl, hx, rfl, hs⟩ := hrel
    by_cases hlt : j < n
    · have hcj := Hx.out j hlt
      have hb := byteAt_lt M j
      generalize hc : byteAt M j = v at hcj hb
      have hq : x * 256 % 18446744073709551616 + v < 18446744073709551616 := by omega
      have e1 : bits .or .u64 ((x : Int) * 256 % 18446744073709551616) (v : Int) = ((x * 256 % 18446744073709551616 + v : Nat) : Int) := by
        rw [show (x : Int) * 256 % 18446744073709551616 = ((x * 256 % 18446744073709551616 : Nat) : Int) by omega, u64_or_nat _ _ (by omega) (by omega), nat_join 8 _ _ (by omega) (by omega)]
      have Hs := Lib.hid hs
      have Hc := Lib.hid hc
      clear hs hc
      go_wp2_with fail
      go_roundw
      case rel =>
        refine ⟨j + 1, x * 256 % 18446744073709551616 + v, by omega, by simp, congrArg (Value.int .u64) ?_, hq, trivial, by rw [foldS_succ, ← Hs.out, Hc.out]⟩
        first
          | exact e1
          | (show bits .or .u64 (IntKind.u64.wrap ((x : Int) * 256)) (v : Int) = _
             rw [IntKind.wrap_u64]
             exact e1)
      case measure => simp [intOf]; omega
    · have ej : j = n := by omega
      have Hs := Lib.hid hs
      clear hs
      go_wp2_with fail
      go_ret
      refine ⟨?_, rfl⟩
      show Ending.returned (.int .u64 (x : Nat)) = _
      rw [Hs.out, ej]

/-! ### octet.Lay -/
theorem lay_calls (b o n c x : Nat) (w : World) (arr : Array Value) (t : TypeId) (h0 : 0 < n) (hn : n ≤ 64) (hx : x < 18446744073709551616) (ho : w.heap[b]? = some (.cells arr t (0, 0))) (hle : o + n ≤ arr.size) :
    Calls Tryz.prog 107 #[.slice (some ⟨b, o, none⟩) n c, .int .u64 (x : Nat)] w fun e w' => ∃ arr' : Array Value, e = .returned (.tuple #[]) ∧ arr'.size = arr.size ∧ (∀ j, j < n → arr'[o + j]? = some (.int .u8 (.ofNat (byteAt x (n - 1 - j))))) ∧
      (∀ j, j < o ∨ o + n ≤ j → arr'[j]? = arr[j]?) ∧ Apart b w w' ∧ w'.heap[b]? = some (.cells arr' t (0, 0)) := by
  have Ho := Lib.hid ho
  clear ho
  go_enter Tryz.func107, Tryz.ntmps107
  go_wp2_with fail
  go_loopw [4, 1] (fun i v wr => ∃ (k : Nat) (ar : Array Value), k ≤ n ∧ i = .int .i64 ((k : Int) - 1) ∧ v = .int .u64 (x / 256 ^ (n - k) : Nat) ∧ ar.size = arr.size ∧ (∀ j, k ≤ j → j < n → ar[o + j]? = some (.int .u8 (.ofNat (byteAt x (n - 1 - j))))) ∧
      (∀ j, j < o + k ∨ o + n ≤ j → ar[j]? = arr[j]?) ∧ Apart b w wr ∧ wr.heap[b]? = some (.cells ar t (0, 0))) (fun i _ _ => (intOf i + 1).toNat)
  case atStart => exact ⟨n, arr, Nat.le_refl _, rfl, by simp, rfl, fun j h1 h2 => by omega, fun j _ => rfl, ⟨rfl, rfl, rfl, rfl, fun _ _ => rfl⟩, Ho.out⟩
  case round =>
    obtain ⟨k, ar, hk, rfl, rfl, hs, hin, hout, hap, har⟩ := hrel
    rcases Nat.eq_zero_or_pos k with rfl | hpos
    · go_wp2_with fail
      go_end0
      exact ⟨ar, rfl, hs, fun j hj => hin j (Nat.zero_le _) hj, fun j hj => hout j (by omega), hap, har⟩
    · obtain ⟨q, rfl⟩ : ∃ q, k = q + 1 := ⟨k - 1, by omega⟩
      rw [show ((q + 1 : Nat) : Int) - 1 = (q : Int) by omega]
      obtain ⟨y, hy⟩ : ∃ y, y = x / 256 ^ (n - (q + 1)) := ⟨_, rfl⟩
      rw [← hy]
      have hyl : y < 18446744073709551616 := by rw [hy]; exact Nat.lt_of_le_of_lt (Nat.div_le_self _ _) hx
      have hcell := blk_cell har (o + q)
      rw [Array.getElem?_eq_getElem (by omega)] at hcell
      have hfree := blk_free har (o + q)
      have Hin := Lib.hid hin
      have Hout := Lib.hid hout
      have Hy := Lib.hid hy
      have Har := Lib.hid har
      clear hin hout hy har
      go_wp2_with fail
      go_roundw
      case rel =>
        refine ⟨q, ar.setIfInBounds (o + q) (.int .u8 ((y : Int) % 256)), by omega, rfl, ?_, by simp [hs], fun j h1 h2 => ?_, fun j hj => ?_, ?_, blk_set Har.out _⟩
        · have hyy : x / 256 ^ (n - q) = y / 256 := by
            rw [Hy.out, Nat.div_div_eq_div_mul, ← Nat.pow_succ]
            congr 2
            omega
          rw [hyy]
          first | rfl | simp
        · rcases Nat.eq_or_lt_of_le h1 with rfl | h
          · rw [Array.getElem?_setIfInBounds_self_of_lt (by omega), byteAt_eq, show n - 1 - q = n - (q + 1) by omega, ← Hy.out]
            first | rfl | simp
          · rw [Array.getElem?_setIfInBounds_ne (by omega)]
            exact Hin.out j (by omega) h2
        · rw [Array.getElem?_setIfInBounds_ne (by omega)]
          exact Hout.out j (by omega)
        · exact ⟨hap.os, hap.tape, hap.output, by rw [← hap.size]; simp [World.setCell], fun k hk => (blk_set_other hk _).trans (hap.block k hk)⟩
      case measure => first | (simp [intOf]; done) | (simp [intOf]; omega)

end Go.Proofs.YtabllhhainepgaaGreatDoor
