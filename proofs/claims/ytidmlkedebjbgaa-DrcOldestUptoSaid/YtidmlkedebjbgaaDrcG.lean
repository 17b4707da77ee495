/-
  drc: Forget, Entries; an Arrive for which there is no room.
-/
import Derived.Test.YtidmlkedebjbgaaDrcF
namespace Go.Proofs.Ytidmlkedebjbgaa
open Go.RowKit

theorem forget_nil (w : World) (t : Int) : Calls Try.prog 18 #[.pointer none, .int .u64 t] w fun e w' => e = .returned (.int .i64 7) ∧ w = w' := by
  go_enter Try.func18, Try.ntmps18
  go_wp2
  go_ret
  exact ⟨rfl, rfl⟩
theorem forget_none (X : Nat → Prop) (w : World) (b : Nat) (s : PS) (t : Int) (h : IsC X w b s) (hg : Good s) (hb : s.busyAt t = none) : Calls Try.prog 18 #[ptr b, .int .u64 t] w fun e w' => e = .returned (.int .i64 240) ∧ w = w' := by
  have hc := busy_calls X w b s t h hg
  rw [hb] at hc
  have Hc := Lib.hid hc
  clear hc hb h hg
  unfold ptr
  go_enter Try.func18, Try.ntmps18
  go_wp2_with (go_at_call 27; refine (Hc.out).mono ?_; rintro e w' ⟨rfl, rfl⟩; unfold optPtr)
  go_ret
  exact ⟨rfl, rfl⟩
theorem forget_calls (X : Nat → Prop) (w : World) (b : Nat) (s : PS) (t : Int) (h : IsC X w b s) (hg : Good s) (p : Nat × Ent) (hb : s.busyAt t = some p) :
    Calls Try.prog 18 #[ptr b, .int .u64 t] w fun e w' => e = .returned (.int .i64 0) ∧ Fr X w w' ∧ IsC X w' b (s.out p.1) := by
  have hc := busy_calls X w b s t h hg
  rw [hb] at hc
  have Hc := Lib.hid hc
  have Ho := Lib.hid (out_calls X w b s p h hg (List.mem_of_find?_eq_some hb))
  clear hc hb h hg
  unfold ptr
  go_enter Try.func18, Try.ntmps18
  go_wp2_with (first | (go_at_call 27; refine (Hc.out).mono ?_; rintro e w' ⟨rfl, rfl⟩; unfold optPtr ptr) | (go_at_call 26; refine (Ho.out).mono ?_; rintro e w' ⟨rfl, hfr, hi⟩))
  go_ret
  exact ⟨rfl, hfr, hi⟩

def e24 (e : Ent) : List Value := [.int .u64 e.ticket, .int .i64 e.client, .string e.rcd, .string e.reply, .bool e.done]
def rows24 (l : List (Nat × Ent)) : List Value := l.flatMap fun p => e24 p.2
theorem rows24_len (l : List (Nat × Ent)) : (rows24 l).length = l.length * 5 := by
  unfold rows24; induction l with
  | nil => rfl
  | cons p t ih => simp [List.flatMap_cons, e24] at ih ⊢; omega
theorem rows24_snoc (l : List (Nat × Ent)) (p : Nat × Ent) : rows24 (l ++ [p]) = rows24 l ++ e24 p.2 := by simp [rows24]
theorem Try.inf52 : (Try.prog.info? 52).map (fun i => (i.zero, i.size, i.bytes)) = some (some (.agg #[.int .u64 0, .int .i64 0, .string ⟨#[]⟩, .string ⟨#[]⟩, .bool false]), 5, 56) := by kernel_rfl

theorem entries_nil (w : World) : Calls Try.prog 15 #[.pointer none] w fun e w' => e = .returned (.slice none 0 0) ∧ w = w' := by
  go_enter Try.func15, Try.ntmps15
  go_wp2
  go_ret
  exact ⟨rfl, rfl⟩

def New (w w' : World) : Nat → Prop := fun k => w.heap.size ≤ k ∧ k < w'.heap.size

set_option maxHeartbeats 1000000 in
theorem entries_calls (X : Nat → Prop) (w : World) (b : Nat) (s : PS) (h : IsC X w b s) (hg : Good s) : Calls Try.prog 15 #[ptr b] w fun e w' =>
    ∃ v, e = .returned v ∧ Fr Non w w' ∧ Sl (New w w') w' 52 5 v s.l.length (rows24 s.l) := by
  obtain ⟨mb, lv, ov, h⟩ := h
  have hll := hg.few
  have hl2 := hg.most2
  have hlen : s.l.length ≤ 1024 := by omega
  obtain ⟨la, lc, rfl, _, _, _, hrow⟩ := h.l.open
  have hc := blk_cell h.top
  have hpl : s.ptrs.length = s.l.length := by simp [PS.ptrs]
  rw [hpl] at hc hrow
  have Hents := Lib.hid h.ents
  clear hpl hg hll hl2 h
  unfold ptr
  go_enter Try.func15, Try.ntmps15
  go_wp2
  go_loopw [12, 2] (fun i v wr => ∃ (k : Nat) (va : Option Addr) (vc : Nat), k ≤ s.l.length ∧ i = .int .i64 k ∧ v = .slice va k vc ∧ Fr Non w wr ∧ Sl (New w wr) wr 52 5 (.slice va k vc) k (rows24 (s.l.take k))) (fun i _ _ => s.l.length - (intOf i).toNat)
  case atStart => exact ⟨0, none, 0, Nat.zero_le _, rfl, rfl, Fr.refl _ _, Sl.nil _ _ _ _⟩
  case round =>
    obtain ⟨k, va, vc, hk, rfl, rfl, hfr, hsl⟩ := hrel
    have Hsl := Lib.hid hsl
    by_cases hlt : k < s.l.length
    · obtain ⟨g, rfl, _, _, hcl⟩ : ∃ g, la = some ⟨g, 0, none⟩ ∧ _ := hrow.resolve_left (by omega)
      have hcell : wr.cell? ⟨g, k, none⟩ = some (ptr s.l[k].1) := hfr.cell (hcl k _ (by simp [PS.ptrs, hlt])) (fun h => h)
      have hec := blk_cell (hfr.keep (Hents.out s.l[k] (by simp)).2 (fun h => h))
      have Hsn : Hid (rows24 (s.l.take (k + 1)) = rows24 (s.l.take k) ++ e24 s.l[k].2) := by rw [take_snoc' hlt]; exact rows24_snoc _ _
      have hqw : s.l[k].1 < w.heap.size := lt_of_block (Hents.out s.l[k] (by simp)).2
      unfold Ent.cells at hec
      unfold ptr at hcell
      clear hcl hrow hsl
      generalize s.l[k] = q at *
      go_wp2
      have hq0 := hec 0
      have hq1 := hec 1
      have hq2 := hec 2
      have hq3 := hec 3
      have hq4 := hec 4
      simp only [List.getElem?_toArray, List.getElem?_cons_zero, List.getElem?_cons_succ] at hq0 hq1 hq2 hq3 hq4
      have hqlt : q.1 < wr.heap.size := World.block_lt_of_cell? wr _ hq0
      have hqX : ¬ (Value.slice va k vc).ownBlock = some q.1 := fun hk => by have := (Hsl.out.2 _ hk).1; omega
      clear hec
      go_region_held3 (fun w' => w'.cell? ⟨q.1, 0, none⟩ = some (.int .i64 q.2.client) ∧ w'.cell? ⟨q.1, 1, none⟩ = some (.string q.2.rcd) ∧ w'.cell? ⟨q.1, 2, none⟩ = some (.int .u64 q.2.ticket) ∧ w'.cell? ⟨q.1, 3, none⟩ = some (.string q.2.reply) ∧ w'.cell? ⟨q.1, 4, none⟩ = some (.bool q.2.done))
        (first
          | go_keep
          | (go_split_ands
             refine ⟨?_, ?_, ?_, ?_, ?_⟩ <;> (rw [happ.fr.cell_eq (by simp; omega) hqX]; assumption)))
        ((refine step_append_sl (by rfl) _ _ _ (by rfl) 52 (by kernel_rfl) Try.inf52 rfl (by decide) (by rfl) ((Hsl.out.alloc _).drew) ⟨wr.heap.size, 0, none⟩ 1 1 (e24 q.2) (by rfl) (by rfl) (news_at _ _ _ (by simp)) (by simp [e24, Value.oneCell']) (by unfold maxLen; omega) (by omega) ?_; intro a5 c5 w5 happ))
      have Happ := Lib.hid happ
      clear happ
      go_wp2
      go_roundw
      case rel =>
        have hs := Happ.out.sl
        have hf : Fr Non w w5 := ((hfr.alloc _).drew).trans Happ.out.fr (fun i hi hk => by have := (Hsl.out.2 _ hk).1; omega)
        refine ⟨k + 1, a5, c5, by omega, by go_num, rfl, hf, ?_⟩
        rw [Hsn.out]
        have h1 := hf.size
        have h2 := Happ.out.fr.size
        have h3 := hfr.size
        exact hs.mono (fun i hi => hi.elim (fun h => ⟨h.1, by simp at h2; have := h.2; omega⟩) (fun h => ⟨by have := h.1; simp at this; omega, h.2⟩))
      case measure => simp [intOf]; omega
    · obtain rfl : k = s.l.length := by omega
      rw [List.take_length] at Hsl
      clear hrow hsl
      go_wp2
      go_ret
      exact ⟨_, rfl, hfr, Hsl.out⟩
end Go.Proofs.Ytidmlkedebjbgaa
