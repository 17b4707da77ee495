/-
  drc: Done, Forget; an Arrive for which there is no room.
-/
import Derived.Test.YtidmlkedebjbgaaDrcE
namespace Go.Proofs.Ytidmlkedebjbgaa
open Go.RowKit

def finish (x : Nat) (r : ByteArray) (q : Nat × Ent) : Nat × Ent := if q.1 = x then (q.1, { q.2 with done := true, reply := r }) else q
def PS.done (s : PS) (x : Nat) (r : ByteArray) : PS := { s with l := s.l.map (finish x r), old := s.old ++ [x] }
theorem finish_fst (x : Nat) (r : ByteArray) (q : Nat × Ent) : (finish x r q).1 = q.1 := by unfold finish; split <;> rfl
theorem finish_key (x : Nat) (r : ByteArray) (q : Nat × Ent) : (finish x r q).2.key = q.2.key := by unfold finish; split <;> rfl
theorem finish_ticket (x : Nat) (r : ByteArray) (q : Nat × Ent) : (finish x r q).2.ticket = q.2.ticket := by unfold finish; split <;> rfl
theorem PS.done_ptrs (s : PS) (x : Nat) (r : ByteArray) : (s.done x r).ptrs = s.ptrs := by
  unfold PS.ptrs PS.done; simp [Function.comp_def, finish_fst]
theorem PS.done_ents (s : PS) (x : Nat) (r : ByteArray) : (s.done x r).ents = s.ents := by
  unfold PS.ents PS.done; simp [Function.comp_def, finish_fst, finish_key]

theorem done_nil (w : World) (t : Int) (v : Value) : Calls Try.prog 13 #[.pointer none, .int .u64 t, v] w fun e w' => e = .returned (.int .i64 7) ∧ w = w' := by
  go_enter Try.func13, Try.ntmps13
  go_wp2
  go_ret
  exact ⟨rfl, rfl⟩
theorem done_none (X : Nat → Prop) (w : World) (b : Nat) (s : PS) (t : Int) (v : Value) (h : IsC X w b s) (hg : Good s) (hb : s.busyAt t = none) : Calls Try.prog 13 #[ptr b, .int .u64 t, v] w fun e w' => e = .returned (.int .i64 240) ∧ w = w' := by
  have hc := busy_calls X w b s t h hg
  rw [hb] at hc
  have Hc := Lib.hid hc
  clear hc hb h hg
  unfold ptr
  go_enter Try.func13, Try.ntmps13
  go_wp2_with (go_at_call 27; refine (Hc.out).mono ?_; rintro e w' ⟨rfl, rfl⟩; unfold optPtr)
  go_ret
  exact ⟨rfl, rfl⟩
theorem done_long (X : Nat → Prop) (w : World) (b : Nat) (s : PS) (t : Int) (v : Value) (h : IsC X w b s) (hg : Good s) (p : Nat × Ent) (hb : s.busyAt t = some p) (bs : List UInt8) (hv : Bts w v bs) (hl : 4096 < bs.length) :
    Calls Try.prog 13 #[ptr b, .int .u64 t, v] w fun e w' => e = .returned (.int .i64 1) ∧ w = w' := by
  have hc := busy_calls X w b s t h hg
  rw [hb] at hc
  have Hc := Lib.hid hc
  obtain ⟨a, c, rfl, h1, h2, _⟩ := hv
  clear hc hb h hg
  unfold ptr
  go_enter Try.func13, Try.ntmps13
  go_wp2_with (go_at_call 27; refine (Hc.out).mono ?_; rintro e w' ⟨rfl, rfl⟩; unfold optPtr ptr)
  go_ret
  exact ⟨rfl, rfl⟩

set_option maxHeartbeats 400000 in
theorem done_calls (X : Nat → Prop) (w : World) (b : Nat) (s : PS) (t : Int) (v : Value) (h : IsC X w b s) (hg : Good s) (p : Nat × Ent) (hb : s.busyAt t = some p) (bs : List UInt8) (hv : Bts w v bs) (hl : bs.length ≤ 4096) :
    Calls Try.prog 13 #[ptr b, .int .u64 t, v] w fun e w' => e = .returned (.int .i64 0) ∧ Fr X w w' ∧ IsC (Nw X w w') w' b (s.done p.1 (str bs)) := by
  have hc := busy_calls X w b s t h hg
  rw [hb] at hc
  have Hc := Lib.hid hc
  have hconv := conv_bytes (P := Try.prog) (src := 32) (e := 5) (dst := 9) (by kernel_rfl) (by kernel_rfl) (by kernel_rfl) hv
  obtain ⟨a, c, rfl, h1, h2, _⟩ := hv
  have hm : p ∈ s.l := List.mem_of_find?_eq_some hb
  have hol := hg.oldLen
  have Hg := Lib.hid hg
  have hfew := hg.few
  have hmost := hg.most2
  have hol2 : s.old.length ≤ 1024 := by omega
  obtain ⟨mb, lv, ov, h⟩ := h
  have hd := h.dis
  have hpe := (h.ents p hm).2
  have hpc := blk_cell hpe
  have hpf := blk_free hpe
  have hbl := lt_of_block h.top
  have htop := h.top
  have hnb := (hd.e p hm).1
  have hnb' : b ≠ p.1 := Ne.symm hnb
  obtain ⟨oa, oc, rfl, _, _, _, _⟩ := h.old.open
  have hcb := blk_cell htop
  have hfb := blk_free htop
  have hent2 := blk_set (i := 3) (blk_set (i := 4) hpe (.bool true)) (.string (str bs))
  have hfr2 : Fr (· = p.1) w ((w.setCell ⟨p.1, 4, none⟩ (.bool true)).setCell ⟨p.1, 3, none⟩ (.string (str bs))) := (Fr.one _ _ _ _).setCell (p := ⟨p.1, 3, none⟩) (fun _ => rfl) _
  have ho2 := ownsRow_fr hfr2 h.old.1 (fun k hk e => (hd.e p hm).2.2.2 (e ▸ hk))
  have ho2' : Sl X ((w.setCell ⟨p.1, 4, none⟩ (.bool true)).setCell ⟨p.1, 3, none⟩ (.string (str bs))) 66 1 _ s.old.length (s.old.map ptr) := ⟨ho2, h.old.2⟩
  have H := Lib.hid h
  have Hd := Lib.hid hd
  have Hent2 := Lib.hid hent2
  have Hpe := Lib.hid hpe
  unfold Ent.cells at hpc
  clear hc hb h hg hd hent2 hpe htop ho2
  unfold ptr
  go_enter Try.func13, Try.ntmps13
  go_wp2_with (first | (go_at_call 27; refine (Hc.out).mono ?_; rintro e w' ⟨rfl, rfl⟩; unfold optPtr ptr) | (at_builtin; refine wpList_append_sl _ rfl _ _ _ rfl 66 (by kernel_rfl) Try.inf66 rfl (by decide) rfl (ho2'.alloc _) ⟨w.heap.size, 0, none⟩ 1 1 [ptr p.1] rfl rfl (news_at _ _ _ (by simp)) (by simp [ptr, Value.oneCell']) (by unfold maxLen; omega) (by omega) ?_))
  intro a5 c5 w5 happ
  obtain ⟨hsl5, hfr5, hown5, _, _⟩ := happ
  generalize hW2 : (w.setCell ⟨p.1, 4, none⟩ (.bool true)).setCell ⟨p.1, 3, none⟩ (.string (str bs)) = w2 at *
  have hsz2 : w2.heap.size = w.heap.size := by rw [← hW2]; simp
  have hfr25 : Fr (fun k => (Value.slice oa s.old.length oc).ownBlock = some k) w2 w5 := ((Fr.refl _ _).alloc _).trans hfr5 (fun _ _ h => h)
  have htop5 := hfr25.keep (hfr2.keep H.out.top (fun e => hnb' e)) (fun e => (Hd.out.bo _ e).1 rfl)
  have hc5 := blk_cell htop5
  have hf5 := blk_free htop5
  have Htop5 := Lib.hid htop5
  have Hown5 := Lib.hid hown5
  have Hsz2 := Lib.hid hsz2
  clear htop5 hown5 hcb hfb hpc hpf hW2 hsz2
  go_wp2
  go_ret
  have h := H.out
  have hd := Hd.out
  have hfr5E := Fr.one w5 b 3 (.slice a5 (s.old.length + 1) c5)
  have htopE := blk_set (i := 3) Htop5.out (.slice a5 (s.old.length + 1) c5)
  generalize w5.setCell ⟨b, 3, none⟩ (.slice a5 (s.old.length + 1) c5) = wE at *
  have hfr2E : Fr (fun k => (Value.slice oa s.old.length oc).ownBlock = some k ∨ k = b) w2 wE := (hfr25.mono (fun _ _ h => .inl h)).trans hfr5E (fun _ _ h => .inr h)
  have hfrE : Fr (fun k => (Value.slice oa s.old.length oc).ownBlock = some k ∨ k = b ∨ k = p.1) w wE := (hfr2.mono (fun _ _ h => .inr (.inr h))).trans hfr2E (fun _ _ h => h.imp id .inl)
  have hown : ∀ k, (Value.slice a5 (s.old.length + 1) c5).ownBlock = some k → (Value.slice oa s.old.length oc).ownBlock = some k ∨ w.heap.size ≤ k := fun k hk => (Hown5.out k hk).imp id (fun h => by have := Hsz2.out; simp at h; omega)
  refine ⟨rfl, hfrE.mono (fun k _ hk => hk.elim (fun hk => h.old.2 k hk) (fun hk => hk.elim (fun e => e ▸ h.xb) (fun e => e ▸ (h.ents p hm).1))), mb, lv, .slice a5 (s.old.length + 1) c5, ?_⟩
  exact {
    top := htopE
    xb := .inl h.xb
    xm := .inl h.xm
    map := by
      rw [PS.done_ents]
      exact h.map.fr hfrE (fun hk => hk.elim (fun hk => (hd.bo _ hk).2 rfl) (fun hk => hk.elim (fun e => hd.bm e.symm) (fun e => (hd.e p hm).2.1 e.symm)))
    l := by
      rw [PS.done_ptrs]
      exact ⟨ownsRow_fr hfrE h.l.1 (fun k hk hx => hx.elim (fun hx => hd.lo k hk hx) (fun hx => hx.elim (fun e => (hd.bl k hk).1 e) (fun e => (hd.e p hm).2.2.1 (e ▸ hk)))), fun k hk => .inl (h.l.2 k hk)⟩
    old := by
      have h1 : (s.done p.1 (str bs)).old = s.old ++ [p.1] := rfl
      rw [h1, List.map_append, List.length_append]
      refine ⟨ownsRow_fr hfr5E hsl5.1 (fun k hk e => (hown k hk).elim (fun hk => (hd.bo k hk).1 e) (fun hk => by omega)), fun k hk => (hown k hk).elim (fun hk => .inl (h.old.2 k hk)) (fun hk' => .inr ⟨hk', Nat.lt_of_lt_of_le (hsl5.lt k hk) hfr5E.size⟩)⟩
    apart := fun k hk hk' => (hown k hk').elim (fun hk' => hd.lo k hk hk') (fun hk' => by have := h.l.lt k hk; omega)
    ents := by
      intro q hq
      obtain ⟨q0, hq0, rfl⟩ := List.mem_map.1 hq
      rw [finish_fst]
      refine ⟨.inl (h.ents q0 hq0).1, ?_⟩
      unfold finish
      split
      · rename_i e
        have h1 := hfr2E.keep Hent2.out (fun hk => hk.elim (fun hk => (hd.e p hm).2.2.2 hk) (fun hk => hnb hk))
        obtain rfl := Hg.out.inj hq0 hm e
        exact h1
      · rename_i e
        exact hfrE.keep (h.ents q0 hq0).2 (fun hk => hk.elim (fun hk => (hd.e q0 hq0).2.2.2 hk) (fun hk => hk.elim (fun e => (hd.e q0 hq0).1 e) e))
    lt := fun k hk => hk.elim (fun hk => Nat.lt_of_lt_of_le (h.lt k hk) hfrE.size) (fun hk => hk.2) }
end Go.Proofs.Ytidmlkedebjbgaa
