/-
  MerkleNil: reading where there is no store.
-/
import Derived.Test.YtgmodeaeglnagaaGreatMerkleNilCon
import Derived.Test.YtgmodeaeglnagaaGreatArr
import Derived.Deep.CutBlock
namespace Go.Proofs.YtgmodeaeglnagaaGreat
open Go.RowKit Ab
theorem u24 : Tryz.prog.underlying 24 = some (.array 32 5) := by kernel_rfl
theorem s24 : (Tryz.prog.info? 24).map (·.size) = some 32 := by kernel_rfl
theorem z24 : (Tryz.prog.info? 24).map (·.zero) = some (some (.agg (Array.replicate 32 (.int .u8 0)))) := by kernel_rfl
def hrow : Array Value := #[.int .u8 0, .int .u64 0] ++ Array.replicate 32 (.int .u8 0)
theorem z58 : (Tryz.prog.info? 58).map (·.zero) = some (some (.agg hrow)) := by kernel_rfl
theorem s58 : (Tryz.prog.info? 58).map (·.size) = some hrow.size := by kernel_rfl
theorem hone : hrow.all (·.oneCell') = true := by kernel_rfl
theorem load_d {d : Value} (hd : Dg d) (w : World) : Calls Tryz.prog 18 #[.nilIface, d] w fun e w' => e = .returned (.tuple #[.agg hrow, .int .i64 2]) ∧ Fr Non w w' := load_c hd w
set_option maxRecDepth 100000 in
set_option maxHeartbeats 2000000 in
theorem read_pos {d : Value} (hd : Dg d) (n : Int) (hn : ¬ n < 0) (w : World) : Calls Tryz.prog 7 #[.nilIface, d, .int .u64 0, .int .i64 n] w fun e w' => e = .returned (.tuple #[.slice none 0 0, i2]) ∧ Fr Non w w' := by
  obtain ⟨x, rfl, hx1, hx2⟩ := id hd
  have HD := Lib.hid hd
  have H32 := Lib.hid hx1
  clear hd hx1 hx2
  have hacc : Fr Non w w := Fr.refl _ _
  go_enter Tryz.func7, Tryz.ntmps7
  go_upto_region 3 with (refine wpList_box_row rfl _ _ rfl x rfl ?_)
  go_wp2_with (first
    | (refine wpList_load_row rfl _ _ rfl _ _ x _ _ rfl (blk_new _ _ rfl) u24 rfl (by rw [H32.out]; exact s24) ?_)
    | (refine wpList_alloc_row rfl _ rfl _ z58 ?_)
    | (refine wpList_store_row rfl _ _ _ rfl _ _ _ hrow rfl rfl (blk_new _ _ rfl) s58 rfl hone ?_)
    | (go_at_call 18; refine (load_d HD.out _).mono ?_; rintro e w' ⟨rfl, hf⟩; replace hacc := Fr.step (hacc.alloc _) hf; clear hf))
  go_ret2
  exact ⟨rfl, (hacc.alloc _).setRow (fun h => absurd h (by have := hacc.size; omega)) _⟩
set_option maxRecDepth 100000 in
set_option maxHeartbeats 2000000 in
theorem read_neg {d : Value} (hd : Dg d) (n : Int) (hn : n < 0) (w : World) : Calls Tryz.prog 7 #[.nilIface, d, .int .u64 0, .int .i64 n] w fun e w' => e = .returned (.tuple #[.slice none 0 0, i2]) ∧ Fr Non w w' := by
  obtain ⟨x, rfl, hx1, hx2⟩ := id hd
  have HD := Lib.hid hd
  have H32 := Lib.hid hx1
  clear hd hx1 hx2
  have hacc : Fr Non w w := Fr.refl _ _
  go_enter Tryz.func7, Tryz.ntmps7
  go_wp2_with (refine wpList_box_row rfl _ _ rfl x rfl ?_)
  go_ret2
  exact ⟨rfl, hacc.alloc _⟩

theorem read_c {d : Value} (hd : Dg d) (n : Int) (w : World) : Calls Tryz.prog 7 #[.nilIface, d, .int .u64 0, .int .i64 n] w fun e w' => e = .returned (.tuple #[.slice none 0 0, i2]) ∧ Fr Non w w' :=
  if hn : n < 0 then read_neg hd n hn w else read_pos hd n hn w
end Go.Proofs.YtgmodeaeglnagaaGreat
