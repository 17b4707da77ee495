/-
  The law MerkleNil: no store.
-/
import Derived.Test.YtgmodeaeglnagaaGreatMerkleNilRead
import Derived.Test.YtgmodeaeglnagaaGreatMerkleNilR4
namespace Go.Proofs.YtgmodeaeglnagaaGreat
open Go.RowKit Ab

theorem live_c (w : World) : Calls Tryz.prog 4 #[] w fun e w' => e = .returned (.bool true) ∧ Fr Non w w' := mk_calls w noK_ok
def zrow : Array Value := Array.replicate 32 (.int .u8 0)
theorem zz24 : (Tryz.prog.info? 24).map (·.zero) = some (some (.agg zrow)) := by kernel_rfl
theorem zs24 : (Tryz.prog.info? 24).map (·.size) = some zrow.size := by kernel_rfl
theorem zone : zrow.all (·.oneCell') = true := by kernel_rfl
theorem put_d (p : Value) (w : World) : Calls Tryz.prog 5 #[.nilIface, .int .u8 70, p] w fun e w' => e = .returned (.tuple #[.agg zrow, .int .i64 2]) ∧ Fr Non w w' := put_c p w
theorem putDir_d (w : World) : Calls Tryz.prog 8 #[.nilIface, .slice none 0 0] w fun e w' => e = .returned (.tuple #[.agg zrow, .int .i64 2]) ∧ Fr Non w w' := putDir_c w
theorem after_new {w0 w' : World} {b : Nat} {o : Obj} (h : Fr Non w0 w') (hb : w'.heap[b]? = some o) (z : Array Value) (t : TypeId) :
    Fr Non w0 ((w'.alloc (.cells z t)).setRow w'.heap.size z) ∧ ((w'.alloc (.cells z t)).setRow w'.heap.size z).heap[b]? = some o := by
  refine ⟨(h.alloc _).setRow (fun k => absurd k (by have := h.size; omega)) _, ?_⟩
  have hf : Fr Non w' ((w'.alloc (.cells z t)).setRow w'.heap.size z) := ((Fr.refl _ _).alloc _).setRow (fun k => absurd k (by omega)) _
  exact hf.keep hb (fun h => h)
set_option maxRecDepth 100000 in
set_option maxHeartbeats 4000000 in
theorem merkleNil_long {d : Value} (hd : Dg d) (sp : Option Addr) (n c : Nat) (hl : (n : Int) > 20000) (k : Int) (w : World) : Calls Tryz.prog 3 #[.slice sp n c, d, .int .i64 k] w fun e w' => e = .returned (.bool true) ∧ Fr Non w w' := by
  obtain ⟨x, rfl, hx1, hx2⟩ := id hd
  have HD := Lib.hid hd
  have H32 := Lib.hid hx1
  clear hd hx1 hx2
  go_enter Tryz.func3, Tryz.ntmps3
  go_upto_region 1 with (refine wpList_box_row rfl _ _ rfl x rfl ?_)
  have Hb := Lib.hid (blk_new w (.cells x 24) rfl)
  have hacc : Fr Non w (w.alloc (.cells x 24)) := (Fr.refl _ _).alloc _
  generalize w.alloc (.cells x 24) = wz at *
  go_wp2_with (first
      | (refine wpList_alloc_row rfl _ rfl _ zz24 ?_)
      | (refine wpList_store_row rfl _ _ _ rfl _ _ _ zrow rfl rfl (blk_new _ _ rfl) zs24 rfl zone ?_; have hq := after_new hacc Hb.out zrow 24; replace hacc := hq.1; replace Hb := Lib.hid hq.2; clear hq)
      | (refine wpList_load_row rfl _ _ rfl _ _ x _ _ rfl Hb.out u24 rfl (by rw [H32.out]; exact s24) ?_)
      | (go_at_call 13; refine (num_calls _ _).mono ?_; rintro e w' ⟨rfl, rfl⟩)
      | (go_at_call 5; refine (put_d _ _).mono ?_; rintro e w' ⟨rfl, hf⟩; replace hacc := Fr.step hacc hf; replace Hb := Lib.hid (hf.keep Hb.out (fun h => h)); clear hf)
      | (go_at_call 6; refine (size_c HD.out _).mono ?_; rintro e w' ⟨rfl, hf⟩; replace hacc := Fr.step hacc hf; replace Hb := Lib.hid (hf.keep Hb.out (fun h => h)); clear hf)
      | (go_at_call 7; refine (read_c HD.out _ _).mono ?_; rintro e w' ⟨rfl, hf⟩; replace hacc := Fr.step hacc hf; replace Hb := Lib.hid (hf.keep Hb.out (fun h => h)); clear hf)
      | (go_at_call 8; refine (putDir_d _).mono ?_; rintro e w' ⟨rfl, hf⟩; replace hacc := Fr.step hacc hf; replace Hb := Lib.hid (hf.keep Hb.out (fun h => h)); clear hf)
      | (go_at_call 9; refine (getDir_c HD.out _).mono ?_; rintro e w' ⟨rfl, hf⟩; replace hacc := Fr.step hacc hf; replace Hb := Lib.hid (hf.keep Hb.out (fun h => h)); clear hf)
      | (go_at_call 10; refine (children_c HD.out _).mono ?_; rintro e w' ⟨rfl, hf⟩; replace hacc := Fr.step hacc hf; replace Hb := Lib.hid (hf.keep Hb.out (fun h => h)); clear hf)
      | (go_at_call 11; refine (reach_c HD.out _).mono ?_; rintro e w' ⟨rfl, hf⟩; replace hacc := Fr.step hacc hf; replace Hb := Lib.hid (hf.keep Hb.out (fun h => h)); clear hf)
      | (go_at_call 12; refine (diff_c HD.out _).mono ?_; rintro e w' ⟨rfl, hf⟩; replace hacc := Fr.step hacc hf; replace Hb := Lib.hid (hf.keep Hb.out (fun h => h)); clear hf)
      | (go_at_call 4; refine (live_c _).mono ?_; rintro e w' ⟨rfl, hf⟩; replace hacc := Fr.step hacc hf; replace Hb := Lib.hid (hf.keep Hb.out (fun h => h)); clear hf))
  go_ret
  exact ⟨rfl, hacc⟩
set_option maxRecDepth 100000 in
set_option maxHeartbeats 4000000 in
theorem merkleNil_short {d : Value} (hd : Dg d) (sp : Option Addr) (n c : Nat) (hl : ¬ (n : Int) > 20000) (k : Int) (w : World) : Calls Tryz.prog 3 #[.slice sp n c, d, .int .i64 k] w fun e w' => e = .returned (.bool true) ∧ Fr Non w w' := by
  obtain ⟨x, rfl, hx1, hx2⟩ := id hd
  have HD := Lib.hid hd
  have H32 := Lib.hid hx1
  clear hd hx1 hx2
  go_enter Tryz.func3, Tryz.ntmps3
  go_upto_region 1 with (refine wpList_box_row rfl _ _ rfl x rfl ?_)
  have Hb := Lib.hid (blk_new w (.cells x 24) rfl)
  have hacc : Fr Non w (w.alloc (.cells x 24)) := (Fr.refl _ _).alloc _
  generalize w.alloc (.cells x 24) = wz at *
  go_wp2_with (first
      | (refine wpList_alloc_row rfl _ rfl _ zz24 ?_)
      | (refine wpList_store_row rfl _ _ _ rfl _ _ _ zrow rfl rfl (blk_new _ _ rfl) zs24 rfl zone ?_; have hq := after_new hacc Hb.out zrow 24; replace hacc := hq.1; replace Hb := Lib.hid hq.2; clear hq)
      | (refine wpList_load_row rfl _ _ rfl _ _ x _ _ rfl Hb.out u24 rfl (by rw [H32.out]; exact s24) ?_)
      | (go_at_call 13; refine (num_calls _ _).mono ?_; rintro e w' ⟨rfl, rfl⟩)
      | (go_at_call 5; refine (put_d _ _).mono ?_; rintro e w' ⟨rfl, hf⟩; replace hacc := Fr.step hacc hf; replace Hb := Lib.hid (hf.keep Hb.out (fun h => h)); clear hf)
      | (go_at_call 6; refine (size_c HD.out _).mono ?_; rintro e w' ⟨rfl, hf⟩; replace hacc := Fr.step hacc hf; replace Hb := Lib.hid (hf.keep Hb.out (fun h => h)); clear hf)
      | (go_at_call 7; refine (read_c HD.out _ _).mono ?_; rintro e w' ⟨rfl, hf⟩; replace hacc := Fr.step hacc hf; replace Hb := Lib.hid (hf.keep Hb.out (fun h => h)); clear hf)
      | (go_at_call 8; refine (putDir_d _).mono ?_; rintro e w' ⟨rfl, hf⟩; replace hacc := Fr.step hacc hf; replace Hb := Lib.hid (hf.keep Hb.out (fun h => h)); clear hf)
      | (go_at_call 9; refine (getDir_c HD.out _).mono ?_; rintro e w' ⟨rfl, hf⟩; replace hacc := Fr.step hacc hf; replace Hb := Lib.hid (hf.keep Hb.out (fun h => h)); clear hf)
      | (go_at_call 10; refine (children_c HD.out _).mono ?_; rintro e w' ⟨rfl, hf⟩; replace hacc := Fr.step hacc hf; replace Hb := Lib.hid (hf.keep Hb.out (fun h => h)); clear hf)
      | (go_at_call 11; refine (reach_c HD.out _).mono ?_; rintro e w' ⟨rfl, hf⟩; replace hacc := Fr.step hacc hf; replace Hb := Lib.hid (hf.keep Hb.out (fun h => h)); clear hf)
      | (go_at_call 12; refine (diff_c HD.out _).mono ?_; rintro e w' ⟨rfl, hf⟩; replace hacc := Fr.step hacc hf; replace Hb := Lib.hid (hf.keep Hb.out (fun h => h)); clear hf)
      | (go_at_call 4; refine (live_c _).mono ?_; rintro e w' ⟨rfl, hf⟩; replace hacc := Fr.step hacc hf; replace Hb := Lib.hid (hf.keep Hb.out (fun h => h)); clear hf))
  go_ret
  exact ⟨rfl, hacc⟩
theorem merkleNil_walk {d : Value} (hd : Dg d) (sp : Option Addr) (n c : Nat) (k : Int) (w : World) : Calls Tryz.prog 3 #[.slice sp n c, d, .int .i64 k] w fun e w' => e = .returned (.bool true) ∧ Fr Non w w' :=
  if hl : (n : Int) > 20000 then merkleNil_long hd sp n c hl k w else merkleNil_short hd sp n c hl k w
end Go.Proofs.YtgmodeaeglnagaaGreat
