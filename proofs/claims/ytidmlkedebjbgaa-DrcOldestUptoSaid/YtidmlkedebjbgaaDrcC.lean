/-
  drc: the methods of a Cache.
-/
import Derived.Test.YtidmlkedebjbgaaDrcB
import Derived.Laws.BytesArg
import Derived.Deep.DeepCutAuto
namespace Go.Proofs.Ytidmlkedebjbgaa
open Go.RowKit

/-! ### bytes -/
/-- The slice value v reads as these bytes. -/
def Bts (w : World) (v : Value) (bs : List UInt8) : Prop :=
  ∃ a c, v = .slice a bs.length c ∧ bs.length ≤ c ∧ c ≤ maxLen ∧ (bs = [] ∨ ∃ g o, a = some ⟨g, o, none⟩ ∧ ∀ i, i < bs.length → w.cell? ⟨g, o + i, none⟩ = some (.int .u8 (bs.map fun x => (x.toNat : Int))[i]!))
theorem Bts.fr {X : Nat → Prop} {w w' : World} {v : Value} {bs : List UInt8} (h : Bts w v bs) (hf : Fr X w w') (hx : ∀ k, v.ownBlock = some k → ¬ X k) : Bts w' v bs := by
  obtain ⟨a, c, rfl, h1, h2, h3⟩ := h
  refine ⟨a, c, rfl, h1, h2, h3.imp id ?_⟩
  rintro ⟨g, o, rfl, hc⟩
  exact ⟨g, o, rfl, fun i hi => hf.cell (hc i hi) (hx g rfl)⟩
def str (bs : List UInt8) : ByteArray := ⟨bs.toArray⟩
theorem conv_bytes {P : Program} {src e dst : TypeId} (hs : P.underlying src = some (.slice e)) (he : P.underlying e = some (.int .u8)) (hd : P.underlying dst = some .string) {w : World} {v : Value} {bs : List UInt8} (h : Bts w v bs) :
    (convert src dst v).run P w = .ok (.string (str bs)) w := by
  obtain ⟨a, c, rfl, h1, h2, h3⟩ := h
  rcases h3 with rfl | ⟨g, o, rfl, hc⟩
  · cases a with
    | none => exact run_convert_bytes_nil w src e hs he _ _ dst hd
    | some a =>
      rw [run_convert_bytes_string w src dst e _ _ c hs he hd]
      rw [run_bytesToString w a _ c [] (by simp [loadCells, loadCellsFrom])]
      rfl
  · rw [run_convert_bytes_arg w src e hs he g o bs.length c (bs.map fun x => (x.toNat : Int)) (by simp) (fun i hi => by
      rw [hc i hi, List.getD_eq_getElem?_getD, getElem!_pos _ _ (by simpa using hi), List.getElem?_eq_getElem (by simpa using hi)]; rfl) dst hd]
    unfold strOfNums str
    simp [Function.comp_def]

/-! ### what Arrive answers -/
def arr (kind ticket : Int) (reply : ByteArray) : Value := .agg #[.int .i64 kind, .int .u64 ticket, .string reply]
def emp : ByteArray := ⟨#[]⟩
def PS.find (s : PS) (k : Int × ByteArray) : Option (Nat × Ent) := s.l.find? fun p => decide (k = p.2.key)
theorem PS.find_get (s : PS) (k : Int × ByteArray) : mget k s.ents = (s.find k).map fun p => ptr p.1 := by
  unfold PS.ents PS.find
  induction s.l with
  | nil => rfl
  | cons p t ih =>
    simp only [List.map_cons, mget, List.find?_cons]
    by_cases h : k = p.2.key
    · simp [h]
    · simp [h, ih]
def PS.push (s : PS) (q : Nat) (k : Int × ByteArray) : PS := { s with last := s.last + 1, l := s.l ++ [(q, ⟨k.1, k.2, s.last + 1, emp, false⟩)] }

set_option maxHeartbeats 400000 in
theorem arrive_nil (w : World) (client : Int) (v : Value) :
    Calls Try.prog 11 #[.pointer none, .int .i64 client, v] w fun e w' => e = .returned (arr 3 0 emp) ∧ Fr Non w w' := by
  go_enter Try.func11, Try.ntmps11
  go_wp2
  exact bodyPost_ret (v := arr 3 0 emp) (by simp [results, Try.results11, go_sem, arr, emp]) rfl ⟨rfl, (Fr.refl _ _).alloc _⟩

set_option maxHeartbeats 400000 in
theorem arrive_long (w : World) (b : Nat) (client : Int) (v : Value) (bs : List UInt8) (hv : Bts w v bs) (hl : 4096 < bs.length) :
    Calls Try.prog 11 #[ptr b, .int .i64 client, v] w fun e w' => e = .returned (arr 4 0 emp) ∧ Fr Non w w' := by
  obtain ⟨a, c, rfl, h1, h2, _⟩ := hv
  unfold ptr
  go_enter Try.func11, Try.ntmps11
  go_wp2
  exact bodyPost_ret (v := arr 4 0 emp) (by simp [results, Try.results11, go_sem, arr, emp]) rfl ⟨rfl, (Fr.refl _ _).alloc _⟩

set_option maxHeartbeats 400000 in
theorem arrive_found (X : Nat → Prop) (w : World) (b : Nat) (s : PS) (client : Int) (v : Value) (bs : List UInt8) (h : IsC X w b s) (hv : Bts w v bs) (hl : bs.length ≤ 4096) (p : Nat × Ent) (hp : s.find (client, str bs) = some p) :
    Calls Try.prog 11 #[ptr b, .int .i64 client, v] w fun e w' => e = .returned (if p.2.done then arr 2 p.2.ticket p.2.reply else arr 1 p.2.ticket p.2.reply) ∧ Fr Non w w' := by
  obtain ⟨mb, lv, ov, h⟩ := h
  have hm : p ∈ s.l := List.mem_of_find?_eq_some hp
  have hpe := h.ents p hm
  have hpc := blk_cell hpe.2
  have hpl := lt_of_block hpe.2
  have hc := blk_cell h.top
  have hb := lt_of_block h.top
  have hconv := conv_bytes (P := Try.prog) (src := 32) (e := 5) (dst := 9) (by kernel_rfl) (by kernel_rfl) (by kernel_rfl) (hv.fr (((Fr.refl Non w).alloc (.cells #[.int .i64 0, .int .u64 0, .string emp] 30))) (fun _ _ h => h))
  have hlook : ∀ w', Fr Non w w' → (Instr.lookup 60 (.map (some mb)) (kf (client, str bs)) false).run Try.prog w' = .ok (ptr p.1) w' := fun w' hf => by
    have := run_lookup_key keyLaw w' (h.map.fr hf (fun h => h)) Try.und60 (Try.zero66 w') (client, str bs) trivial (fun _ _ => trivial)
    rw [this, PS.find_get, hp]; rfl
  obtain ⟨a, c, rfl, h1, h2, _⟩ := hv
  unfold kf ptr at hlook
  unfold Ent.cells at hpc
  unfold emp at hconv
  unfold ptr
  have Hl := Lib.hid hlook
  clear hlook hp
  go_enter Try.func11, Try.ntmps11
  go_wp2
  have hl := fun n => Hl.out _ ((((Fr.refl Non w).alloc (.cells #[.int .i64 0, .int .u64 0, .string ⟨#[]⟩] 30)).alloc (.cells #[.int .i64 client, .string (str bs)] 65)).drewN n)
  go_quiet (fail)
  clear hl
  by_cases hd : p.2.done = true
  all_goals
    go_wp2
    refine region_tail 10 (by kernel_rfl) (by kernel_rfl) ?_
    simp only [List.take_succ_cons, List.take_zero, List.drop_succ_cons, List.drop_zero]
    repeat still_step
    refine wpStill_nil ?_
    go_wp2
  · exact bodyPost_ret (v := arr 2 p.2.ticket p.2.reply) (by simp [results, Try.results11, go_sem, arr]) rfl ⟨rfl, (by repeat (first | exact Fr.refl _ _ | refine Fr.drewN ?_ _ | refine Fr.drew ?_ | refine Fr.alloc ?_ _ | refine Fr.setCell ?_ (fun h => absurd h (by simp)) _))⟩
  · exact bodyPost_ret (v := arr 1 p.2.ticket p.2.reply) (by simp [results, Try.results11, go_sem, arr]) rfl ⟨rfl, (by repeat (first | exact Fr.refl _ _ | refine Fr.drewN ?_ _ | refine Fr.drew ?_ | refine Fr.alloc ?_ _ | refine Fr.setCell ?_ (fun h => absurd h (by simp)) _))⟩

def Nw (X : Nat → Prop) (w w' : World) : Nat → Prop := fun k => X k ∨ (w.heap.size ≤ k ∧ k < w'.heap.size)

theorem IsC.fr {X Y : Nat → Prop} {w w' : World} {b : Nat} {s : PS} (h : IsC X w b s) (hf : Fr Y w w') (hXY : ∀ k, X k → ¬ Y k) : IsC X w' b s := by
  obtain ⟨mb, lv, ov, h⟩ := h
  exact ⟨mb, lv, ov, hf.keep h.top (hXY _ h.xb), h.xb, h.xm, h.map.fr hf (hXY _ h.xm), h.l.fr hf hXY, h.old.fr hf hXY, h.apart, fun p hp => ⟨(h.ents p hp).1, hf.keep (h.ents p hp).2 (hXY _ (h.ents p hp).1)⟩, fun k hk => Nat.lt_of_lt_of_le (h.lt k hk) hf.size⟩
theorem IsC.mono {X Y : Nat → Prop} {w : World} {b : Nat} {s : PS} (h : IsC X w b s) (hXY : ∀ k, X k → Y k) (hlt : ∀ k, Y k → k < w.heap.size) : IsC Y w b s := by
  obtain ⟨mb, lv, ov, h⟩ := h
  exact ⟨mb, lv, ov, h.top, hXY _ h.xb, hXY _ h.xm, h.map, h.l.mono hXY, h.old.mono hXY, h.apart, fun p hp => ⟨hXY _ (h.ents p hp).1, (h.ents p hp).2⟩, hlt⟩

theorem find_push {s : PS} {k : Int × ByteArray} (h : s.find k = none) (v : Value) : mput k v s.ents = s.ents ++ [(k, v)] := by
  unfold PS.find at h
  unfold PS.ents
  generalize s.l = l at *
  induction l with
  | nil => rfl
  | cons p t ih =>
    rw [List.find?_cons] at h
    by_cases e : k = p.2.key
    · simp [e] at h
    · simp only [decide_eq_false e] at h
      simp [mput, e, ih h]

/-- The state into which the new entry is laid. -/
def Room (s s' : PS) : Prop := ((s.l.length : Int) < s.most ∧ s' = s) ∨ (s.most ≤ (s.l.length : Int) ∧ ∃ o t, s.old = o :: t ∧ s' = s.out o)

theorem Try.inf66 : (Try.prog.info? 66).map (fun i => (i.zero, i.size, i.bytes)) = some (some (.pointer none), 1, 8) := by kernel_rfl

end Go.Proofs.Ytidmlkedebjbgaa
