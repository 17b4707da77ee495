/-
  drc: New, Len, Busy, Oldest, Clear, Done, Forget; an Arrive for which there is no room.
-/
import Derived.Test.YtidmlkedebjbgaaDrcD
namespace Go.Proofs.Ytidmlkedebjbgaa
open Go.RowKit

theorem num_calls (a : Int) (w : World) : Calls Try.prog 10 #[.int .i64 a] w fun e w' => e = .returned (.int .i64 a) ∧ w = w' := by
  go_enter Try.func10, Try.ntmps10
  go_wp2
  go_ret
  exact ⟨rfl, rfl⟩

theorem len_nil (w : World) : Calls Try.prog 12 #[.pointer none] w fun e w' => e = .returned (.int .i64 0) ∧ w = w' := by
  go_enter Try.func12, Try.ntmps12
  go_wp2
  go_ret
  exact ⟨rfl, rfl⟩
theorem len_calls (X : Nat → Prop) (w : World) (b : Nat) (s : PS) (h : IsC X w b s) : Calls Try.prog 12 #[ptr b] w fun e w' => e = .returned (.int .i64 s.l.length) ∧ w = w' := by
  obtain ⟨mb, lv, ov, h⟩ := h
  obtain ⟨la, lc, rfl, _, _, _, _⟩ := h.l.open
  have hc := blk_cell h.top
  rw [show s.ptrs.length = s.l.length by simp [PS.ptrs]] at hc
  unfold ptr
  go_enter Try.func12, Try.ntmps12
  go_wp2
  go_ret
  exact ⟨rfl, rfl⟩
theorem busyN_nil (w : World) : Calls Try.prog 20 #[.pointer none] w fun e w' => e = .returned (.int .i64 0) ∧ Fr Non w w' := by
  go_enter Try.func20, Try.ntmps20
  go_wp2
  go_ret
  exact ⟨rfl, Fr.refl _ _⟩
theorem busyN_calls (X : Nat → Prop) (w : World) (b : Nat) (s : PS) (h : IsC X w b s) (hg : Good s) : Calls Try.prog 20 #[ptr b] w fun e w' => e = .returned (.int .i64 (s.l.length - s.old.length)) ∧ Fr Non w w' := by
  obtain ⟨mb, lv, ov, h⟩ := h
  obtain ⟨la, lc, rfl, _, _, _, _⟩ := h.l.open
  obtain ⟨oa, oc, rfl, _, _, _, _⟩ := h.old.open
  have hc := blk_cell h.top
  have h1 := hg.oldLen
  have h2 := hg.few
  have h3 := hg.most2
  have h4 : s.l.length ≤ 1024 := by omega
  rw [show s.ptrs.length = s.l.length by simp [PS.ptrs]] at hc
  clear hg
  unfold ptr
  go_enter Try.func20, Try.ntmps20
  go_wp2
  go_quiet (fail)
  go_wp2
  go_ret
  exact ⟨rfl, (Fr.refl _ _).drewN _⟩

theorem oldest_nil (w : World) : Calls Try.prog 21 #[.pointer none] w fun e w' => e = .returned (.tuple #[.int .u64 0, .bool false]) ∧ w = w' := by
  go_enter Try.func21, Try.ntmps21
  go_wp2
  go_ret2
  exact ⟨rfl, rfl⟩
theorem oldest_none (X : Nat → Prop) (w : World) (b : Nat) (s : PS) (h : IsC X w b s) (ho : s.old = []) : Calls Try.prog 21 #[ptr b] w fun e w' => e = .returned (.tuple #[.int .u64 0, .bool false]) ∧ w = w' := by
  obtain ⟨mb, lv, ov, h⟩ := h
  obtain ⟨oa, oc, rfl, _, _, _, _⟩ := h.old.open
  have hc := blk_cell h.top
  rw [show s.old.length = 0 by rw [ho]; rfl] at hc
  clear ho
  unfold ptr
  go_enter Try.func21, Try.ntmps21
  go_wp2
  go_ret2
  exact ⟨rfl, rfl⟩
theorem oldest_some (X : Nat → Prop) (w : World) (b : Nat) (s : PS) (h : IsC X w b s) (o : Nat) (t : List Nat) (ho : s.old = o :: t) (e : Ent) (he : (o, e) ∈ s.l) : Calls Try.prog 21 #[ptr b] w fun e' w' => e' = .returned (.tuple #[.int .u64 e.ticket, .bool true]) ∧ w = w' := by
  obtain ⟨mb, lv, ov, h⟩ := h
  obtain ⟨oa, oc, rfl, _, _, _, hro⟩ := h.old.open
  have hlen : s.old.length = t.length + 1 := by rw [ho]; rfl
  obtain ⟨g, rfl, _, _, hcell⟩ := hro.resolve_left (by omega)
  have hcell0 : w.cell? ⟨g, 0, none⟩ = some (ptr o) := hcell 0 _ (by rw [ho]; rfl)
  have hc := blk_cell h.top
  have hec := blk_cell (h.ents _ he).2
  unfold Ent.cells at hec
  have hn0 : (((s.old.length : Nat) : Int) == 0) = false := beq_eq_false_iff_ne.2 (by omega)
  have hpos : 0 < s.old.length := by omega
  clear ho hcell hro hlen
  unfold ptr at *
  go_enter Try.func21, Try.ntmps21
  go_wp2
  go_ret2
  exact ⟨rfl, rfl⟩

theorem new_bad (most : Int) (w : World) (hm : most < 1 ∨ 1024 < most) : Calls Try.prog 9 #[.int .i64 most] w fun e w' => e = .returned (.tuple #[.pointer none, .int .i64 2]) ∧ w = w' := by
  rcases hm with hm | hm
  · go_enter Try.func9, Try.ntmps9
    go_wp2
    go_ret2
    exact ⟨rfl, rfl⟩
  · have : ¬ most < 1 := by omega
    go_enter Try.func9, Try.ntmps9
    go_wp2
    go_ret2
    exact ⟨rfl, rfl⟩
def PS.new (most : Int) : PS := ⟨most, 0, [], []⟩
theorem PS.new_good {most : Int} (h1 : 1 ≤ most) (h2 : most ≤ 1024) : Good (PS.new most) :=
  ⟨h1, h2, by simp [PS.new]; omega, by simp [PS.new], by simp [PS.new, PS.ptrs], by simp [PS.new], by simp [PS.new], by simp [PS.new], by simp [PS.new], by simp [PS.new], by simp [PS.new], by simp [PS.new]⟩
theorem new_calls (most : Int) (w : World) (h1 : 1 ≤ most) (h2 : most ≤ 1024) : Calls Try.prog 9 #[.int .i64 most] w fun e w' => ∃ b, e = .returned (.tuple #[ptr b, .int .i64 0]) ∧ Fr Non w w' ∧ IsC (fun k => w.heap.size ≤ k ∧ k < w'.heap.size) w' b (PS.new most) := by
  have hmk := @run_makeMap Try.prog
  have g1 : ¬ most < 1 := by omega
  have g2 : ¬ 1024 < most := by omega
  go_enter Try.func9, Try.ntmps9
  go_wp2
  go_ret2
  refine ⟨w.heap.size + 1, rfl, ((Fr.refl _ _).alloc _).alloc _, w.heap.size, .slice none 0 0, .slice none 0 0, ?_⟩
  exact {
    top := blk_new _ _ (by simp)
    xb := by simp
    xm := by simp; omega
    map := ⟨#[], 0, blk_old_some (blk_new w _ rfl) _, rfl⟩
    l := Sl.nil _ _ _ _
    old := Sl.nil _ _ _ _
    apart := fun k hk => by cases hk
    ents := fun p hp => by cases hp
    lt := fun k hk => hk.2 }

theorem clear_nil (w : World) : Calls Try.prog 19 #[.pointer none] w fun e w' => e = .returned (.tuple #[]) ∧ w = w' := by
  go_enter Try.func19, Try.ntmps19
  go_wp2
  go_end0
  exact ⟨rfl, rfl⟩
def PS.clear (s : PS) : PS := { s with l := [], old := [] }
theorem PS.clear_good {s : PS} (h : Good s) : Good s.clear :=
  ⟨h.most1, h.most2, by have := h.most1; simp [PS.clear]; omega, by simp [PS.clear], by simp [PS.clear, PS.ptrs], by simp [PS.clear], by simp [PS.clear], by simp [PS.clear], by simp [PS.clear], by simp [PS.clear], h.last, by simp [PS.clear]⟩
theorem clear_calls (X : Nat → Prop) (w : World) (b : Nat) (s : PS) (h : IsC X w b s) : Calls Try.prog 19 #[ptr b] w fun e w' => e = .returned (.tuple #[]) ∧ Fr X w w' ∧ IsC X w' b s.clear := by
  obtain ⟨mb, lv, ov, h⟩ := h
  obtain ⟨o, hclr, hm⟩ := run_clear_map (P := Try.prog) (ty := 0) w h.map Try.und60
  have hd := h.dis
  have hc := blk_cell h.top
  have htop2 := (putObj_other w mb b o hd.bm).trans h.top
  have hc2 := blk_cell htop2
  have hf2 := blk_free htop2
  have hfr2 : Fr X w (putObj w mb o) := (Fr.refl _ _).putObj (fun _ => h.xm) o
  have Htop2 := Lib.hid htop2
  have H := Lib.hid h
  have Hd := Lib.hid hd
  generalize putObj w mb o = w2 at *
  clear h hd htop2
  unfold ptr
  go_enter Try.func19, Try.ntmps19
  go_wp2
  go_end0
  have h := H.out
  have htop3 := blk_set (i := 3) (blk_set (i := 2) Htop2.out (.slice none 0 0)) (.slice none 0 0)
  have hfr3 : Fr (· = b) w2 ((w2.setCell ⟨b, 2, none⟩ (.slice none 0 0)).setCell ⟨b, 3, none⟩ (.slice none 0 0)) := (Fr.one _ _ _ _).setCell (p := ⟨b, 3, none⟩) (fun _ => rfl) _
  refine ⟨rfl, hfr2.trans hfr3 (fun _ _ e => e ▸ h.xb), mb, .slice none 0 0, .slice none 0 0, ?_⟩
  exact {
    top := htop3
    xb := h.xb
    xm := h.xm
    map := hm.fr hfr3 (fun e => Hd.out.bm e.symm)
    l := Sl.nil _ _ _ _
    old := Sl.nil _ _ _ _
    apart := fun k hk => by cases hk
    ents := fun p hp => by cases hp
    lt := fun k hk => Nat.lt_of_lt_of_le (h.lt k hk) (Nat.le_trans hfr2.size hfr3.size) }

/-- The entry of a ticket that is being executed. -/
def PS.busyAt (s : PS) (t : Int) : Option (Nat × Ent) := s.l.find? fun p => decide (p.2.ticket = t) && !p.2.done
def optPtr : Option (Nat × Ent) → Value
  | none => .pointer none
  | some p => ptr p.1
theorem find_take_none {α : Type} {p : α → Bool} {l : List α} {k : Nat} (hk : k < l.length) (hn : ∀ x ∈ l.take k, p x = false) (h : p l[k] = true) : l.find? p = some l[k] := by
  rw [List.find?_eq_some_iff_getElem]
  refine ⟨h, k, hk, rfl, fun j hj => ?_⟩
  have := hn l[j] (by rw [List.mem_take_iff_getElem]; exact ⟨j, by omega, rfl⟩)
  simp [this]

set_option maxHeartbeats 400000 in
theorem busy_calls (X : Nat → Prop) (w : World) (b : Nat) (s : PS) (t : Int) (h : IsC X w b s) (hg : Good s) : Calls Try.prog 27 #[ptr b, .int .u64 t] w fun e w' => e = .returned (optPtr (s.busyAt t)) ∧ w = w' := by
  obtain ⟨mb, lv, ov, h⟩ := h
  have hll := hg.few
  have hl2 := hg.most2
  have hlen : s.l.length ≤ 1024 := by omega
  obtain ⟨la, lc, rfl, _, _, _, hrow⟩ := h.l.open
  have hc := blk_cell h.top
  have hpl : s.ptrs.length = s.l.length := by simp [PS.ptrs]
  rw [hpl] at hc hrow
  have Hents := Lib.hid h.ents
  clear hpl hg hll hl2 h
  unfold ptr
  go_enter Try.func27, Try.ntmps27
  go_wp2
  go_loop [12, 6] (fun i _ => ∃ k : Nat, k ≤ s.l.length ∧ i = .int .i64 k ∧ ∀ x ∈ s.l.take k, (decide (x.2.ticket = t) && !x.2.done) = false) (fun i _ => s.l.length - (intOf i).toNat)
  case atStart => exact ⟨0, Nat.zero_le _, rfl, by simp⟩
  case round =>
    obtain ⟨k, hk, rfl, hnot⟩ := hrel
    have Hn := Lib.hid hnot
    clear hnot
    by_cases hlt : k < s.l.length
    · obtain ⟨g, rfl, _, _, hcl⟩ : ∃ g, la = some ⟨g, 0, none⟩ ∧ _ := hrow.resolve_left (by omega)
      have hcell : w.cell? ⟨g, k, none⟩ = some (ptr s.l[k].1) := hcl k _ (by simp [PS.ptrs, hlt])
      have hec := blk_cell (Hents.out s.l[k] (by simp)).2
      have Hf := Lib.hid (fun h => find_take_none hlt Hn.out h)
      have Hs : Hid ((decide (s.l[k].2.ticket = t) && !s.l[k].2.done) = false → ∀ x ∈ s.l.take (k + 1), (decide (x.2.ticket = t) && !x.2.done) = false) := by
        intro h x hx
        rw [take_snoc' hlt] at hx
        rcases List.mem_append.1 hx with hx | hx
        · exact Hn.out x hx
        · simp at hx; subst hx; exact h
      unfold Ent.cells at hec
      unfold ptr at hcell
      clear hcl hrow
      generalize s.l[k] = q at *
      by_cases ht : q.2.ticket = t
      · by_cases hd : q.2.done = true
        · have hs1 := Lib.hid (Hs.out (by simp [hd]))
          go_wp2
          go_round
          case rel => exact ⟨k + 1, by omega, by go_num, hs1.out⟩
          case measure => simp [intOf]; omega
        · have hf1 := Lib.hid (Hf.out (by simp [hd, ht]))
          simp only [Bool.not_eq_true] at hd
          go_wp2
          go_ret
          exact ⟨by unfold PS.busyAt; rw [hf1.out]; rfl, rfl⟩
      · have hs1 := Lib.hid (Hs.out (by simp [ht]))
        go_wp2
        go_round
        case rel => exact ⟨k + 1, by omega, by go_num, hs1.out⟩
        case measure => simp [intOf]; omega
    · obtain rfl : k = s.l.length := by omega
      have Hf : Hid (s.busyAt t = none) := by
        have := Hn.out
        rw [List.take_length] at this
        unfold PS.busyAt Hid
        rw [List.find?_eq_none]
        intro x hx; simp [this x hx]
      clear hrow
      go_wp2
      go_ret
      exact ⟨by rw [Hf.out]; rfl, rfl⟩
end Go.Proofs.Ytidmlkedebjbgaa
