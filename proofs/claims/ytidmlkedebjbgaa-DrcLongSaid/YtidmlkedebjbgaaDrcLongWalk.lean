/-
  The law DrcLong: records and replies of the greatest length, and longer.
-/
import Derived.Test.YtidmlkedebjbgaaDrcL
namespace Go.Proofs.Ytidmlkedebjbgaa
open Go.RowKit

def zeros (n : Nat) : List UInt8 := List.replicate n 0
theorem zeros_len (n : Nat) : (zeros n).length = n := by simp [zeros]
theorem str_size (bs : List UInt8) : (str bs).size = bs.length := by simp [str, ByteArray.size]
theorem Bts_made {w : World} {n : Nat} {g : Nat} (h : w.ownsRow 0 5 1 (.slice (some ⟨g, 0, none⟩) n n) n (madeCells (Value.cells (.int .u8 0)) (n * 1)).toList) (hn : n ≤ maxLen) : Bts w (.slice (some ⟨g, 0, none⟩) n n) (zeros n) := by
  refine ⟨some ⟨g, 0, none⟩, n, by rw [zeros_len], by rw [zeros_len]; exact Nat.le_refl _, hn, .inr ⟨g, 0, rfl, fun i hi => ?_⟩⟩
  rw [zeros_len] at hi
  have := h.cells (g := g) rfl i (.int .u8 0) (by simp [madeCells, Value.cells, hi, Nat.mod_one])
  have hadd : (⟨g, 0, none⟩ : Addr).add i = ⟨g, 0 + i, none⟩ := by unfold Addr.add; split <;> simp_all
  rw [hadd] at this
  rw [this, getElem!_pos _ _ (by simpa [zeros] using hi)]
  simp [zeros]
def oneE (s : ByteArray) : Ent := ⟨0, s, 1, emp, false⟩
theorem long1 (bs : List UInt8) (h : bs.length ≤ 4096) : (RS.new 1).arrive (0, str bs) bs.length = (arr 0 1 emp, ⟨1, 1, [oneE (str bs)], []⟩) := by
  unfold RS.arrive
  rw [if_neg (by omega)]
  simp [RS.hit, RS.new, RS.push, oneE]
theorem long1' (bs : List UInt8) (h : 4096 < bs.length) : (RS.new 1).arrive (0, str bs) bs.length = (arr 4 0 emp, RS.new 1) := by
  unfold RS.arrive
  rw [if_pos h]
theorem long2 (s : ByteArray) (bs : List UInt8) (h : bs.length ≤ 4096) : (⟨1, 1, [oneE s], []⟩ : RS).finish 1 (str bs) bs.length = (0, ⟨1, 1, [{ oneE s with done := true, reply := str bs }], [1]⟩) := by
  unfold RS.finish
  have : ([oneE s].findIdx? fun e => decide (e.ticket = 1) && !e.done) = some 0 := by simp [oneE, List.findIdx?_cons]
  simp only [this]
  rw [if_neg (by omega)]
  simp [RS.fin]
theorem long2' (s : ByteArray) (bs : List UInt8) (h : 4096 < bs.length) : (⟨1, 1, [oneE s], []⟩ : RS).finish 1 (str bs) bs.length = (1, ⟨1, 1, [oneE s], []⟩) := by
  unfold RS.finish
  have : ([oneE s].findIdx? fun e => decide (e.ticket = 1) && !e.done) = some 0 := by simp [oneE, List.findIdx?_cons]
  simp only [this]
  rw [if_pos h]
theorem long3 (bs : List UInt8) (r : ByteArray) (h : bs.length ≤ 4096) : (⟨1, 1, [{ oneE (str bs) with done := true, reply := r }], [1]⟩ : RS).arrive (0, str bs) bs.length = (arr 2 1 r, ⟨1, 1, [{ oneE (str bs) with done := true, reply := r }], [1]⟩) := by
  unfold RS.arrive
  rw [if_neg (by omega)]
  simp [RS.hit, oneE, Ent.key]
theorem long3' (bs : List UInt8) (h : bs.length ≤ 4096) : (⟨1, 1, [oneE (str bs)], []⟩ : RS).arrive (0, str bs) bs.length = (arr 1 1 emp, ⟨1, 1, [oneE (str bs)], []⟩) := by
  unfold RS.arrive
  rw [if_neg (by omega)]
  simp [RS.hit, oneE, Ent.key]
theorem Try.inf5 : (Try.prog.info? 5).map (fun i => (i.zero, i.size, i.bytes)) = some (some (.int .u8 0), 1, 1) := by kernel_rfl

def LongPost (w : World) (e : Ending) (w' : World) : Prop := e = .returned (.bool true) ∧ Fr Non w w'

set_option maxRecDepth 100000 in
set_option maxHeartbeats 1000000 in
theorem long_out (n m : Int) (w : World) (h : n < 0 ∨ 12288 < n ∨ m < 0 ∨ 12288 < m) : Calls Try.prog 3 #[.int .i64 n, .int .i64 m] w (LongPost w) := by
  by_cases a : n < 0
  · go_enter Try.func3, Try.ntmps3
    go_wp2_with (go_at_call 8; refine (live_calls _).mono ?_; rintro e w1 ⟨rfl, hf1⟩)
    go_ret
    exact ⟨rfl, hf1⟩
  · by_cases b : 12288 < n
    · go_enter Try.func3, Try.ntmps3
      go_wp2_with (go_at_call 8; refine (live_calls _).mono ?_; rintro e w1 ⟨rfl, hf1⟩)
      go_ret
      exact ⟨rfl, hf1⟩
    · by_cases c : m < 0
      · go_enter Try.func3, Try.ntmps3
        go_wp2_with (go_at_call 8; refine (live_calls _).mono ?_; rintro e w1 ⟨rfl, hf1⟩)
        go_ret
        exact ⟨rfl, hf1⟩
      · have d : 12288 < m := by omega
        go_enter Try.func3, Try.ntmps3
        go_wp2_with (go_at_call 8; refine (live_calls _).mono ?_; rintro e w1 ⟨rfl, hf1⟩)
        go_ret
        exact ⟨rfl, hf1⟩

set_option maxRecDepth 100000 in
set_option maxHeartbeats 1000000 in
theorem long_in (n m : Nat) (w : World) (hn : n ≤ 12288) (hm : m ≤ 12288) : Calls Try.prog 3 #[.int .i64 n, .int .i64 m] w (LongPost w) := by
  have n0 : ¬ (n : Int) < 0 := by omega
  have n1 : ¬ (12288 < (n : Int)) := by omega
  have m0 : ¬ (m : Int) < 0 := by omega
  have m1 : ¬ (12288 < (m : Int)) := by omega
  obtain ⟨i0, hi, hz0, hz1, hz2⟩ := info_parts Try.inf5
  go_enter Try.func3, Try.ntmps3
  go_wp2_with fail
  refine (newP 1 _ (by omega) (by omega)).mono ?_
  rintro e w1 ⟨b, rfl, hf1, hp1⟩
  have E1 : Env w (New w w1) w1 := ⟨fun k hk => hk.1, hf1⟩
  generalize New w w1 = X1 at *
  clear hf1
  unfold ptr
  go_wp2_with (first | (go_at_call 10; refine (num_calls _ _).mono ?_; rintro e w' ⟨rfl, rfl⟩) | (at_make; refine wpList_make_full _ rfl _ _ 32 rfl 0 5 i0 (.int .u8 0) 1 (by kernel_rfl) hi hz0 hz1 _ _ _ _ n rfl rfl rfl rfl (by rw [hz2]; omega) (by unfold maxLen; omega) (Nat.zero_le _) ?_; intro w2 hown hgrow))
  have hf2 : Fr Non w1 w2 := (Fr.refl _ _).grown hgrow (fun k h => by cases h)
  have hp2 := hp1.fr hf2 (fun _ _ h => h)
  have E2 : Env w X1 w2 := ⟨E1.up, E1.fr.trans hf2 (fun _ _ h => h)⟩
  have hb2 := Bts_made hown (by unfold maxLen; omega)
  have hcall := arriveP X1 w2 b _ 0 _ (zeros n) hp2 hb2 (by simp [RS.new])
  clear hown hgrow hf2 hp1 E1 hb2
  by_cases hn4 : 4096 < n
  · rw [long1' (zeros n) (by rw [zeros_len]; exact hn4)] at hcall
    refine hcall.mono ?_
    clear hcall
    rintro e w3 ⟨rfl, hf, hp3⟩
    have E3 := E2.step hf
    generalize Nw X1 w2 w3 = X3 at *
    clear hf E2
    unfold arr emp
    go_wp2_with (first | (go_at_call 12; refine (lenP _ _ _ _ (hp3.alloc _)).mono ?_; rintro e w' ⟨rfl, rfl⟩) | (go_at_call 8; refine (live_calls _).mono ?_; rintro e w4 ⟨rfl, hf4⟩))
    go_ret
    exact ⟨rfl, (E3.fr.alloc _).trans hf4 (fun _ _ h => h)⟩
  · have hnz : (zeros n).length ≤ 4096 := by rw [zeros_len]; omega
    rw [long1 (zeros n) hnz] at hcall
    refine hcall.mono ?_
    clear hcall
    rintro e w3 ⟨rfl, hf, hp3⟩
    have E3 := E2.step hf
    generalize Nw X1 w2 w3 = X3 at *
    clear hf E2
    unfold arr emp
    go_wp2_with (at_make; refine wpList_make_full _ rfl _ _ 32 rfl 0 5 i0 (.int .u8 0) 1 (by kernel_rfl) hi hz0 hz1 _ _ _ _ m rfl rfl rfl rfl (by rw [hz2]; omega) (by unfold maxLen; omega) (Nat.zero_le _) ?_; intro w4 hown hgrow)
    have oA := Own.new hp3 (arrC 0 1 emp)
    have hf4 : Fr Non (w3.alloc (arrC 0 1 emp)) w4 := (Fr.refl _ _).grown hgrow (fun k h => by cases h)
    have hp4 := (hp3.alloc (arrC 0 1 emp)).fr hf4 (fun _ _ h => h)
    have E4 : Env w X3 w4 := ⟨E3.up, (E3.fr.alloc _).trans hf4 (fun _ _ h => h)⟩
    have oA : Own X3 w4 w3.heap.size (arrC 0 1 emp) := ⟨oA.nx, hf4.keep oA.is (fun h => h)⟩
    have hb4 := Bts_made hown (by unfold maxLen; omega)
    have hcall := doneP X3 w4 b _ 1 _ (zeros m) hp4 hb4
    clear hown hgrow hf4 hp3 E3 hb4
    simp only [World.size_alloc] at hcall
    by_cases hm4 : 4096 < m
    · rw [long2' _ (zeros m) (by rw [zeros_len]; exact hm4)] at hcall
      refine hcall.mono ?_
      clear hcall
      rintro e w5 ⟨rfl, hf, hp5⟩
      have E5 := E4.step hf
      have oA := oA.step hf
      generalize Nw X3 w4 w5 = X5 at *
      generalize w3.heap.size = A at *
      clear hf E4
      go_wp2_with (at_make; refine wpList_make_full _ rfl _ _ 32 rfl 0 5 i0 (.int .u8 0) 1 (by kernel_rfl) hi hz0 hz1 _ _ _ _ n rfl rfl rfl rfl (by rw [hz2]; omega) (by unfold maxLen; omega) (Nat.zero_le _) ?_; intro w6 hown hgrow)
      have hf6 : Fr Non w5 w6 := (Fr.refl _ _).grown hgrow (fun k h => by cases h)
      have hp6 := hp5.fr hf6 (fun _ _ h => h)
      have E6 : Env w X5 w6 := ⟨E5.up, E5.fr.trans hf6 (fun _ _ h => h)⟩
      have oA : Own X5 w6 A (arrC 0 1 emp) := ⟨oA.nx, hf6.keep oA.is (fun h => h)⟩
      have hb6 := Bts_made hown (by unfold maxLen; omega)
      have hcall := arriveP X5 w6 b _ 0 _ (zeros n) hp6 hb6 (by simp)
      rw [long3' (zeros n) hnz] at hcall
      clear hown hgrow hf6 hp5 E5 hb6
      refine hcall.mono ?_
      clear hcall
      rintro e w7 ⟨rfl, hf, hp7⟩
      have E7 := E6.step hf
      have oA := (oA.step hf).alloc (arrC 1 1 emp)
      have oB := Own.new hp7 (arrC 1 1 emp)
      have cA := blk_cell oA.is
      have cB := blk_cell oB.is
      clear hf E6
      unfold arrC at cA cB
      unfold arr emp at *
      go_wp2_with (first | (go_at_call 10; refine (num_calls _ _).mono ?_; rintro e w' ⟨rfl, rfl⟩) | (go_at_call 8; refine (live_calls _).mono ?_; rintro e w9 ⟨rfl, hf9⟩))
      go_ret
      exact ⟨rfl, (E7.fr.alloc _).trans hf9 (fun _ _ h => h)⟩
    · rw [long2 _ (zeros m) (by rw [zeros_len]; omega)] at hcall
      refine hcall.mono ?_
      clear hcall
      rintro e w5 ⟨rfl, hf, hp5⟩
      have E5 := E4.step hf
      have oA := oA.step hf
      generalize Nw X3 w4 w5 = X5 at *
      generalize w3.heap.size = A at *
      clear hf E4
      go_wp2_with (at_make; refine wpList_make_full _ rfl _ _ 32 rfl 0 5 i0 (.int .u8 0) 1 (by kernel_rfl) hi hz0 hz1 _ _ _ _ n rfl rfl rfl rfl (by rw [hz2]; omega) (by unfold maxLen; omega) (Nat.zero_le _) ?_; intro w6 hown hgrow)
      have hf6 : Fr Non w5 w6 := (Fr.refl _ _).grown hgrow (fun k h => by cases h)
      have hp6 := hp5.fr hf6 (fun _ _ h => h)
      have E6 : Env w X5 w6 := ⟨E5.up, E5.fr.trans hf6 (fun _ _ h => h)⟩
      have oA : Own X5 w6 A (arrC 0 1 emp) := ⟨oA.nx, hf6.keep oA.is (fun h => h)⟩
      have hb6 := Bts_made hown (by unfold maxLen; omega)
      have hcall := arriveP X5 w6 b _ 0 _ (zeros n) hp6 hb6 (by simp)
      rw [long3 (zeros n) _ hnz] at hcall
      clear hown hgrow hf6 hp5 E5 hb6
      have hsz : (str (zeros m)).size = m := by rw [str_size, zeros_len]
      generalize str (zeros m) = sm at *
      refine hcall.mono ?_
      clear hcall
      rintro e w7 ⟨rfl, hf, hp7⟩
      have E7 := E6.step hf
      have oA := (oA.step hf).alloc (arrC 2 1 sm)
      have oB := Own.new hp7 (arrC 2 1 sm)
      have cA := blk_cell oA.is
      have cB := blk_cell oB.is
      clear hf E6
      unfold arrC at cA cB
      unfold arr emp at *
      go_wp2_with (first | (go_at_call 10; refine (num_calls _ _).mono ?_; rintro e w' ⟨rfl, rfl⟩) | (go_at_call 8; refine (live_calls _).mono ?_; rintro e w9 ⟨rfl, hf9⟩))
      go_ret
      exact ⟨rfl, (E7.fr.alloc _).trans hf9 (fun _ _ h => h)⟩
end Go.Proofs.Ytidmlkedebjbgaa
