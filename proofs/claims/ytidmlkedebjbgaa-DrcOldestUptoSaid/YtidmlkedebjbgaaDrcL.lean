/-
  The law's 'live': new, busy, replayed, taken out.
-/
import Derived.Test.YtidmlkedebjbgaaDrcN
import Derived.Lib.SlBytesConst
namespace Go.Proofs.Ytidmlkedebjbgaa
open Go.RowKit

theorem Bts_new (w : World) (bs : List UInt8) (t : TypeId) (fr : Nat × Nat) (h : bs.length ≤ maxLen) : Bts (w.alloc (.cells (bs.map (fun x => Value.int .u8 x.toNat)).toArray t fr)) (.slice (some ⟨w.heap.size, 0, none⟩) bs.length bs.length) bs := by
  refine ⟨_, _, rfl, Nat.le_refl _, h, .inr ⟨w.heap.size, 0, rfl, fun i hi => ?_⟩⟩
  rw [blk_cell (blk_new w _ rfl)]
  simp only [Nat.zero_add, List.getElem?_toArray, List.getElem?_map, List.getElem?_eq_getElem hi, Option.map_some]
  rw [getElem!_pos _ _ (by simpa using hi)]
  simp
theorem Bts_one (w : World) (x : UInt8) (n : Int) (t : TypeId) (fr : Nat × Nat) (h : n = x.toNat) : Bts (w.alloc (.cells #[.int .u8 n] t fr)) (.slice (some ⟨w.heap.size, 0, none⟩) 1 1) [x] := by
  subst h
  exact Bts_new w [x] t fr (by simp [maxLen])
theorem Bts_nil (w : World) : Bts w (.slice none 0 0) [] := ⟨none, 0, rfl, Nat.le_refl _, Nat.zero_le _, .inl rfl⟩

def ent (c : Int) (b : UInt8) (t : Int) : Ent := ⟨c, str [b], t, emp, false⟩
def entR (c : Int) (b : UInt8) (t : Int) : Ent := ⟨c, str [b], t, str [114], true⟩
theorem live1 : (RS.new 2).arrive (1, str [97]) 1 = (arr 0 1 emp, ⟨2, 1, [ent 1 97 1], []⟩) := by kernel_rfl
theorem live2 : (⟨2, 1, [ent 1 97 1], []⟩ : RS).arrive (1, str [97]) 1 = (arr 1 1 emp, ⟨2, 1, [ent 1 97 1], []⟩) := by kernel_rfl
theorem live3 : (⟨2, 1, [ent 1 97 1], []⟩ : RS).finish 1 (str [114]) 1 = (0, ⟨2, 1, [entR 1 97 1], [1]⟩) := by kernel_rfl
theorem live4 : (⟨2, 1, [entR 1 97 1], [1]⟩ : RS).arrive (1, str [97]) 1 = (arr 2 1 (str [114]), ⟨2, 1, [entR 1 97 1], [1]⟩) := by kernel_rfl
theorem live5 : (⟨2, 1, [entR 1 97 1], [1]⟩ : RS).arrive (2, str [97]) 1 = (arr 0 2 emp, ⟨2, 2, [entR 1 97 1, ent 2 97 2], [1]⟩) := by kernel_rfl
theorem live6 : (⟨2, 2, [entR 1 97 1, ent 2 97 2], [1]⟩ : RS).arrive (1, str [98]) 1 = (arr 0 3 emp, ⟨2, 3, [ent 2 97 2, ent 1 98 3], []⟩) := by kernel_rfl
theorem live7 : (⟨2, 3, [ent 2 97 2, ent 1 98 3], []⟩ : RS).arrive (1, str [99]) 1 = (arr 3 0 emp, ⟨2, 3, [ent 2 97 2, ent 1 98 3], []⟩) := by kernel_rfl
theorem live8 : (⟨2, 3, [ent 2 97 2, ent 1 98 3], []⟩ : RS).finish 1 (str []) 0 = (240, ⟨2, 3, [ent 2 97 2, ent 1 98 3], []⟩) := by kernel_rfl

theorem convC (w : World) (C : Array Value) (n c m : Nat) (hm : m = w.heap.size) : (convert 32 32 (.slice (some ⟨m, 0, none⟩) n c)).run Try.prog (w.alloc (.cells C 5)) = .ok (.slice (some ⟨m, 0, none⟩) n c) (w.alloc (.cells C 5 (C.size, C.size + 1))) := by
  subst hm
  exact Lib.run_convert_bytes_const (P := Try.prog) w 32 5 C n c (by kernel_rfl) (by kernel_rfl)
theorem IsP.nx {X : Nat → Prop} {w : World} {b : Nat} {r : RS} (h : IsP X w b r) : ¬ X w.heap.size := fun hx => by have := h.lt _ hx; omega
theorem Nw_not {X : Nat → Prop} {w w' : World} {a : Nat} (h : ¬ X a) (ha : a < w.heap.size) : ¬ Nw X w w' a := fun hx => hx.elim h (fun hx => by have := hx.1; omega)
theorem arrive1 (X : Nat → Prop) (w : World) (b : Nat) (r r' : RS) (client : Int) (x : UInt8) (n : Int) (fr : Nat × Nat) (v : Value) (h : IsP X w b r) (hn : n = x.toNat) (hc : r.arrive (client, str [x]) 1 = (v, r')) (hbig : r.last + 1 < 18446744073709551616) :
    Calls Try.prog 11 #[ptr b, .int .i64 client, .slice (some ⟨w.heap.size, 0, none⟩) 1 1] (w.alloc (.cells #[.int .u8 n] 5 fr)) fun e w' => e = .returned v ∧ Fr X w w' ∧ IsP (Nw X w w') w' b r' := by
  have hX := h.lt
  refine (arriveP X _ b r client _ [x] (h.fr ((Fr.refl Non _).alloc _) (fun _ _ h => h)) (Bts_one w x n 5 fr hn) hbig).mono ?_
  rintro e w' ⟨he, hf, hp⟩
  rw [show ([x] : List UInt8).length = 1 from rfl, hc] at he hp
  have hf' : Fr X w w' := ((Fr.refl X w).alloc _).trans hf (fun _ _ h => h)
  refine ⟨he, hf', hp.mono (fun k hk => hk.imp id (fun hk => ⟨by have := hk.1; simp at this; omega, hk.2⟩)) (fun k hk => hk.elim (fun hk => Nat.lt_of_lt_of_le (hX k hk) hf'.size) (fun hk => hk.2))⟩
theorem done1 (X : Nat → Prop) (w : World) (b : Nat) (r r' : RS) (t : Int) (x : UInt8) (n : Int) (fr : Nat × Nat) (v : Int) (h : IsP X w b r) (hn : n = x.toNat) (hc : r.finish t (str [x]) 1 = (v, r')) :
    Calls Try.prog 13 #[ptr b, .int .u64 t, .slice (some ⟨w.heap.size, 0, none⟩) 1 1] (w.alloc (.cells #[.int .u8 n] 5 fr)) fun e w' => e = .returned (.int .i64 v) ∧ Fr X w w' ∧ IsP (Nw X w w') w' b r' := by
  have hX := h.lt
  refine (doneP X _ b r t _ [x] (h.fr ((Fr.refl Non _).alloc _) (fun _ _ h => h)) (Bts_one w x n 5 fr hn)).mono ?_
  rintro e w' ⟨he, hf, hp⟩
  rw [show ([x] : List UInt8).length = 1 from rfl, hc] at he hp
  have hf' : Fr X w w' := ((Fr.refl X w).alloc _).trans hf (fun _ _ h => h)
  refine ⟨he, hf', hp.mono (fun k hk => hk.imp id (fun hk => ⟨by have := hk.1; simp at this; omega, hk.2⟩)) (fun k hk => hk.elim (fun hk => Nat.lt_of_lt_of_le (hX k hk) hf'.size) (fun hk => hk.2))⟩

/-- The caller's own world: it began at w0; the cache lies in X, in memory that was made since. -/
structure Env (w0 : World) (X : Nat → Prop) (w : World) : Prop where
  up : ∀ k, X k → w0.heap.size ≤ k
  fr : Fr Non w0 w
theorem Env.step {w0 w w' : World} {X : Nat → Prop} (h : Env w0 X w) (hf : Fr X w w') : Env w0 (Nw X w w') w' :=
  ⟨fun k hk => hk.elim (h.up k) (fun hk => Nat.le_trans h.fr.size hk.1), h.fr.trans hf (fun i hi hx => by have := h.up i hx; omega)⟩
theorem Env.alloc {w0 w : World} {X : Nat → Prop} (h : Env w0 X w) (o : Obj) : Env w0 X (w.alloc o) := ⟨h.up, h.fr.alloc o⟩
/-- A block of the caller's that the cache does not touch. -/
structure Own (X : Nat → Prop) (w : World) (a : Nat) (o : Obj) : Prop where
  nx : ¬ X a
  is : w.heap[a]? = some o
theorem Own.step {w w' : World} {X : Nat → Prop} {a : Nat} {o : Obj} (h : Own X w a o) (hf : Fr X w w') : Own (Nw X w w') w' a o := ⟨Nw_not h.nx (lt_of_block h.is), hf.keep h.is h.nx⟩
theorem Own.alloc {w : World} {X : Nat → Prop} {a : Nat} {o : Obj} (h : Own X w a o) (o' : Obj) : Own X (w.alloc o') a o := ⟨h.nx, blk_old_some h.is o'⟩
theorem Own.new {w : World} {X : Nat → Prop} {b : Nat} {r : RS} (h : IsP X w b r) (o : Obj) : Own X (w.alloc o) w.heap.size o := ⟨h.nx, blk_new w o rfl⟩
theorem IsP.alloc {w : World} {X : Nat → Prop} {b : Nat} {r : RS} (h : IsP X w b r) (o : Obj) : IsP X (w.alloc o) b r := h.fr ((Fr.refl Non w).alloc o) (fun _ _ h => h)

def arrC (kind ticket : Int) (reply : ByteArray) : Obj := .cells #[.int .i64 kind, .int .u64 ticket, .string reply] 30

set_option maxRecDepth 100000 in
set_option maxHeartbeats 2000000 in
theorem live_calls (w : World) : Calls Try.prog 8 #[] w fun e w' => e = .returned (.bool true) ∧ Fr Non w w' := by
  have kc := convC
  go_enter Try.func8, Try.ntmps8
  go_wp2_with fail
  refine (newP 2 _ (by omega) (by omega)).mono ?_
  rintro e w1 ⟨b, rfl, hf1, hp1⟩
  have E1 : Env w (New w w1) w1 := ⟨fun k hk => hk.1, hf1⟩
  generalize New w w1 = X1 at *
  unfold ptr
  go_wp2_with (go_at_call 10; refine (num_calls _ _).mono ?_; rintro e w' ⟨rfl, rfl⟩)
  refine (arrive1 X1 w1 b _ _ 1 97 97 _ _ hp1 rfl live1 (by simp [RS.new])).mono ?_
  rintro e w2 ⟨rfl, hf, hp2⟩
  have E2 := E1.step hf
  generalize Nw X1 w1 w2 = X2 at *
  clear hf E1
  go_wp2_with fail
  refine (arrive1 X2 w2 b _ _ 1 97 97 _ _ hp2 rfl live2 (by simp)).mono ?_
  rintro e w3 ⟨rfl, hf, hp3⟩
  have E3 := E2.step hf
  generalize Nw X2 w2 w3 = X3 at *
  clear hf E2
  unfold arr emp
  go_wp2_with fail
  -- the locals a, b
  have oA := (Own.new hp3 (arrC 0 1 emp)).alloc (arrC 1 1 emp)
  have oB := Own.new (hp3.alloc (arrC 0 1 emp)) (arrC 1 1 emp)
  have E3' := (E3.alloc (arrC 0 1 emp)).alloc (arrC 1 1 emp)
  have hd := done1 X3 _ b _ _ 1 114 114 (1, 2) _ ((hp3.alloc (arrC 0 1 emp)).alloc (arrC 1 1 emp)) rfl live3
  simp only [World.size_alloc] at hd oB
  refine hd.mono ?_
  clear hd
  generalize (w3.alloc (arrC 0 1 emp)).alloc (arrC 1 1 emp) = w3' at *
  generalize w3.heap.size = A at *
  rintro e w4 ⟨rfl, hf, hp4⟩
  have E4 := E3'.step hf
  have oA := oA.step hf
  have oB := oB.step hf
  generalize Nw X3 w3' w4 = X4 at *
  clear hf E3' E3
  go_wp2_with fail
  refine (arrive1 X4 w4 b _ _ 1 97 97 _ _ hp4 rfl live4 (by simp)).mono ?_
  rintro e w5 ⟨rfl, hf, hp5⟩
  have E5 := E4.step hf
  have oA := oA.step hf
  have oB := oB.step hf
  generalize Nw X4 w4 w5 = X5 at *
  clear hf E4
  unfold arr
  go_wp2_with fail
  -- the local g
  have oG := Own.new hp5 (arrC 2 1 (str [114]))
  have oA := oA.alloc (arrC 2 1 (str [114]))
  have oB := oB.alloc (arrC 2 1 (str [114]))
  have E5' := E5.alloc (arrC 2 1 (str [114]))
  have hd := arrive1 X5 _ b _ _ 2 97 97 (1, 2) _ (hp5.alloc (arrC 2 1 (str [114]))) rfl live5 (by simp)
  simp only [World.size_alloc] at hd
  refine hd.mono ?_
  clear hd
  generalize w5.alloc (arrC 2 1 (str [114])) = w5' at *
  generalize w5.heap.size = G at *
  rintro e w6 ⟨rfl, hf, hp6⟩
  have E6 := E5'.step hf
  have oA := oA.step hf
  have oB := oB.step hf
  have oG := oG.step hf
  generalize Nw X5 w5' w6 = X6 at *
  clear hf E5' E5
  go_wp2_with fail
  refine (arrive1 X6 w6 b _ _ 1 98 98 _ _ hp6 rfl live6 (by simp)).mono ?_
  rintro e w7 ⟨rfl, hf, hp7⟩
  have E7 := E6.step hf
  have oA := oA.step hf
  have oB := oB.step hf
  have oG := oG.step hf
  generalize Nw X6 w6 w7 = X7 at *
  clear hf E6
  go_wp2_with fail
  refine (arrive1 X7 w7 b _ _ 1 99 99 _ _ hp7 rfl live7 (by simp)).mono ?_
  rintro e w8 ⟨rfl, hf, hp8⟩
  have E8 := E7.step hf
  have oA := oA.step hf
  have oB := oB.step hf
  have oG := oG.step hf
  generalize Nw X7 w7 w8 = X8 at *
  clear hf E7
  unfold arr emp
  go_wp2_with fail
  -- the locals h, i, j
  have oH := ((Own.new hp8 (arrC 0 2 emp)).alloc (arrC 0 3 emp)).alloc (arrC 3 0 emp)
  have oI := (Own.new (hp8.alloc (arrC 0 2 emp)) (arrC 0 3 emp)).alloc (arrC 3 0 emp)
  have oJ := Own.new ((hp8.alloc (arrC 0 2 emp)).alloc (arrC 0 3 emp)) (arrC 3 0 emp)
  have oA := ((oA.alloc (arrC 0 2 emp)).alloc (arrC 0 3 emp)).alloc (arrC 3 0 emp)
  have oB := ((oB.alloc (arrC 0 2 emp)).alloc (arrC 0 3 emp)).alloc (arrC 3 0 emp)
  have oG := ((oG.alloc (arrC 0 2 emp)).alloc (arrC 0 3 emp)).alloc (arrC 3 0 emp)
  have E8' := ((E8.alloc (arrC 0 2 emp)).alloc (arrC 0 3 emp)).alloc (arrC 3 0 emp)
  simp only [World.size_alloc] at oI oJ
  have hd := doneP X8 _ b _ 1 _ [] (((hp8.alloc (arrC 0 2 emp)).alloc (arrC 0 3 emp)).alloc (arrC 3 0 emp)) (Bts_nil _)
  rw [show ([] : List UInt8).length = 0 from rfl, live8] at hd
  refine hd.mono ?_
  clear hd
  generalize ((w8.alloc (arrC 0 2 emp)).alloc (arrC 0 3 emp)).alloc (arrC 3 0 emp) = w8' at *
  generalize w8.heap.size = H at *
  rintro e w9 ⟨rfl, hf, hp9⟩
  have E9 := E8'.step hf
  have oA := oA.step hf
  have oB := oB.step hf
  have oG := oG.step hf
  have oH := oH.step hf
  have oI := oI.step hf
  have oJ := oJ.step hf
  have cA := blk_cell oA.is
  have cB := blk_cell oB.is
  have cG := blk_cell oG.is
  have cH := blk_cell oH.is
  have cI := blk_cell oI.is
  have cJ := blk_cell oJ.is
  unfold emp str at *
  clear hf kc
  go_wp2_with (first | (go_at_call 10; refine (num_calls _ _).mono ?_; rintro e w' ⟨rfl, rfl⟩) | (go_at_call 12; refine (lenP _ _ _ _ hp9).mono ?_; rintro e w' ⟨rfl, rfl⟩) | (go_at_call 20; refine (busyNP _ _ _ _ hp9).mono ?_; rintro e w' ⟨rfl, hf⟩))
  go_ret
  exact ⟨rfl, E9.fr.trans hf (fun _ _ h => h)⟩
end Go.Proofs.Ytidmlkedebjbgaa
