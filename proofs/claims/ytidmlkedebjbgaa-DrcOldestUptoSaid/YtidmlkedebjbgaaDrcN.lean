/-
  Each method by one contract, for the program's cache ('IsP') and the document's ('IsR'), in the words of what is held.
-/
import Derived.Test.YtidmlkedebjbgaaDrcM
namespace Go.Proofs.Ytidmlkedebjbgaa
open Go.RowKit

/-- The program's cache holds what the document says. -/
def IsP (X : Nat → Prop) (w : World) (b : Nat) (r : RS) : Prop := ∃ s, IsC X w b s ∧ Good s ∧ Sim s r
structure Fair (r : RS) : Prop where
  most1 : 1 ≤ r.most
  most2 : r.most ≤ 1024
  len : (r.L.length : Int) ≤ r.most
  dlen : r.D.length ≤ r.L.length
  last : 0 ≤ r.last
  done : (r.L.filter (fun e => e.done)).length = r.D.length
theorem Good.doneLen {s : PS} (h : Good s) : (s.l.filter (fun p => p.2.done)).length = s.old.length := by
  have hn : ((s.l.filter (fun p => p.2.done)).map (·.1)).Nodup := h.ptrs.sublist (List.filter_sublist.map _)
  have h1 : ((s.l.filter (fun p => p.2.done)).map (·.1)) ⊆ s.old := fun x hx => by
    obtain ⟨p, hp, rfl⟩ := List.mem_map.1 hx
    have := List.mem_filter.1 hp
    exact h.inOld p this.1 this.2
  have h2 : s.old ⊆ ((s.l.filter (fun p => p.2.done)).map (·.1)) := fun o ho => by
    obtain ⟨e, he, hd⟩ := h.oldIn o ho
    exact List.mem_map.2 ⟨(o, e), List.mem_filter.2 ⟨he, hd⟩, rfl⟩
  have a := hn.length_le_of_subset h1
  have b := h.old.length_le_of_subset h2
  rw [List.length_map] at a b
  omega
theorem IsP.fair {X : Nat → Prop} {w : World} {b : Nat} {r : RS} (h : IsP X w b r) : Fair r := by
  obtain ⟨s, _, hg, hs⟩ := h
  exact ⟨by rw [hs.most]; exact hg.most1, by rw [hs.most]; exact hg.most2, by rw [hs.most, hs.L, List.length_map]; exact hg.few, by rw [hs.D, hs.L, List.length_map, List.length_map]; exact hg.oldLen, by rw [hs.last]; exact hg.last, by rw [hs.L, hs.D, List.length_map, List.filter_map, List.length_map, ← hg.doneLen]; rfl⟩
theorem Fair.l1024 {r : RS} (h : Fair r) : r.L.length ≤ 1024 := by have := h.len; have := h.most2; omega
theorem Fair.d1024 {r : RS} (h : Fair r) : r.D.length ≤ 1024 := by have := h.l1024; have := h.dlen; omega
theorem IsP.fr {X Y : Nat → Prop} {w w' : World} {b : Nat} {r : RS} (h : IsP X w b r) (hf : Fr Y w w') (hXY : ∀ k, X k → ¬ Y k) : IsP X w' b r := by
  obtain ⟨s, h, hg, hs⟩ := h; exact ⟨s, h.fr hf hXY, hg, hs⟩
theorem IsP.mono {X Y : Nat → Prop} {w : World} {b : Nat} {r : RS} (h : IsP X w b r) (hXY : ∀ k, X k → Y k) (hlt : ∀ k, Y k → k < w.heap.size) : IsP Y w b r := by
  obtain ⟨s, h, hg, hs⟩ := h; exact ⟨s, h.mono hXY hlt, hg, hs⟩
theorem IsP.lt {X : Nat → Prop} {w : World} {b : Nat} {r : RS} (h : IsP X w b r) : ∀ k, X k → k < w.heap.size := by
  obtain ⟨s, ⟨_, _, _, h⟩, hg, hs⟩ := h; exact h.lt
theorem IsR.lt {X : Nat → Prop} {w : World} {b : Nat} {r : RS} (h : IsR X w b r) : ∀ k, X k → k < w.heap.size := by
  obtain ⟨_, _, h⟩ := h; exact h.lt

def RS.arrive (r : RS) (k : Int × ByteArray) (n : Nat) : Value × RS :=
  if 4096 < n then (arr 4 0 emp, r) else
  match r.hit k with
  | some e => (if e.done then arr 2 e.ticket e.reply else arr 1 e.ticket emp, r)
  | none =>
    if (r.L.length : Int) < r.most then (arr 0 (r.last + 1) emp, r.push k) else
    match r.D with
    | [] => (arr 3 0 emp, r)
    | d :: _ => (arr 0 (r.last + 1) emp, (r.take d).push k)
def RS.finish (r : RS) (t : Int) (s : ByteArray) (n : Nat) : Int × RS :=
  match r.L.findIdx? (fun e => decide (e.ticket = t) && !e.done) with
  | none => (240, r)
  | some i => if 4096 < n then (1, r) else (0, r.fin i t s)
def RS.forget (r : RS) (t : Int) : Int × RS :=
  match r.L.findIdx? (fun e => decide (e.ticket = t) && !e.done) with
  | none => (240, r)
  | some _ => (0, r.take t)

theorem PS.len1024 {s : PS} (h : Good s) : s.l.length ≤ 1024 := by have := h.few; have := h.most2; omega

theorem arriveP (X : Nat → Prop) (w : World) (b : Nat) (r : RS) (client : Int) (v : Value) (bs : List UInt8) (h : IsP X w b r) (hv : Bts w v bs) (hbig : r.last + 1 < 18446744073709551616) :
    Calls Try.prog 11 #[ptr b, .int .i64 client, v] w fun e w' => e = .returned (r.arrive (client, str bs) bs.length).1 ∧ Fr X w w' ∧ IsP (Nw X w w') w' b (r.arrive (client, str bs) bs.length).2 := by
  have hX := h.lt
  have keep : ∀ w', Fr Non w w' → Fr X w w' ∧ IsP (Nw X w w') w' b r := fun w' hf =>
    ⟨hf.mono (fun _ _ h => h.elim), (h.fr hf (fun _ _ h => h)).mono (fun _ hk => .inl hk) (fun k hk => hk.elim (fun hk => Nat.lt_of_lt_of_le (hX k hk) hf.size) (fun hk => hk.2))⟩
  obtain ⟨s, hi, hg, hs⟩ := h
  unfold RS.arrive
  by_cases hl : 4096 < bs.length
  · rw [if_pos hl]
    exact (arrive_long w b client v bs hv hl).mono fun e w' ⟨he, hf⟩ => ⟨he, keep w' hf⟩
  · rw [if_neg hl]
    have hl' : bs.length ≤ 4096 := by omega
    cases hf : s.find (client, str bs) with
    | some p =>
      rw [hs.hit, hf, Option.map_some]
      refine (arrive_found X w b s client v bs hi hv hl' p hf).mono fun e w' ⟨he, hfr⟩ => ⟨?_, keep w' hfr⟩
      rw [he]
      by_cases hd : p.2.done = true
      · simp only [if_pos hd]
      · simp only [if_neg hd]
        rw [hg.reply p (List.mem_of_find?_eq_some hf) (by simpa using hd)]; rfl
    | none =>
      rw [hs.hit, hf, Option.map_none]
      have hlen : r.L.length = s.l.length := by rw [hs.L, List.length_map]
      by_cases hroom : (s.l.length : Int) < s.most
      · simp only [hlen, hs.most, if_pos hroom]
        have hr : Room s s := .inl ⟨hroom, rfl⟩
        refine (arrive_new X w b s s client v bs hi hg hv hl' hf hr hf rfl (PS.len1024 hg) (by rw [← hs.last]; exact hbig)).mono fun e w' ⟨q, hq, he, hfr, hi'⟩ => ⟨by rw [he, hs.last], hfr, _, hi', ?_⟩
        have hqn : q ∉ s.ptrs := fun hm => by
          obtain ⟨p, hp, rfl⟩ := List.mem_map.1 hm
          obtain ⟨_, _, _, hc⟩ := hi
          have := hc.lt _ (hc.ents p hp).1; omega
        have hg' := hg.pushG hf hqn hroom
        exact ⟨hg', hs.push hg hg'⟩
      · simp only [hlen, hs.most, if_neg hroom]
        cases ho : s.old with
        | nil =>
          have hD : r.D = [] := by rw [hs.D, ho]; rfl
          rw [hD]
          exact (arrive_full X w b s client v bs hi hg hv hl' hf (by omega) ho).mono fun e w' ⟨he, hfr⟩ => ⟨he, keep w' hfr⟩
        | cons o t =>
          have hr : Room s (s.out o) := .inr ⟨by omega, o, t, ho, rfl⟩
          obtain ⟨hg1, hf1, hlt1, hla, hmo, hsub⟩ := hr.good hg hf
          obtain ⟨e0, he0, _, ht⟩ := ticketOf_mem hg (o := o) (by rw [ho]; simp)
          have hD : r.D = e0.ticket :: t.map (ticketOf s) := by rw [hs.D, ho, List.map_cons, ht]
          rw [hD]
          refine (arrive_new X w b s (s.out o) client v bs hi hg hv hl' hf hr hf1 hla (PS.len1024 hg1) (by rw [← hs.last]; exact hbig)).mono fun e w' ⟨q, hq, he, hfr, hi'⟩ => ⟨by rw [he, hs.last], hfr, _, hi', ?_⟩
          have hqn : q ∉ (s.out o).ptrs := fun hm => by
            obtain ⟨p, hp, rfl⟩ := List.mem_map.1 (hsub hm)
            obtain ⟨_, _, _, hc⟩ := hi
            have := hc.lt _ (hc.ents p hp).1; omega
          have hg' := hg1.pushG hf1 hqn hlt1
          exact ⟨hg', (hs.out hg he0).push hg1 hg'⟩

theorem arriveR (X : Nat → Prop) (w : World) (b : Nat) (r : RS) (client : Int) (s : ByteArray) (h : IsR X w b r) (hF : Fair r) (hbig : r.last + 1 < 18446744073709551616) :
    Calls Try.prog 28 #[ptr b, .int .i64 client, .string s] w fun e w' => e = .returned (r.arrive (client, s) s.size).1 ∧ Fr X w w' ∧ IsR (Nw X w w') w' b (r.arrive (client, s) s.size).2 := by
  have hX := h.lt
  have keep : ∀ w', Fr Non w w' → Fr X w w' ∧ IsR (Nw X w w') w' b r := fun w' hf =>
    ⟨hf.mono (fun _ _ h => h.elim), (h.fr hf (fun _ _ h => h)).mono (fun _ hk => .inl hk) (fun k hk => hk.elim (fun hk => Nat.lt_of_lt_of_le (hX k hk) hf.size) (fun hk => hk.2))⟩
  unfold RS.arrive
  by_cases hl : 4096 < s.size
  · rw [if_pos hl]
    exact (rarrive_long w b client s hl).mono fun e w' ⟨he, hf⟩ => ⟨he, keep w' hf⟩
  · rw [if_neg hl]
    have hl' : s.size ≤ 4096 := by omega
    cases hf : r.hit (client, s) with
    | some e0 =>
      exact (rarrive_found X w b r client s h hF.l1024 hl' e0 hf).mono fun e w' ⟨he, hfr⟩ => ⟨he, keep w' hfr⟩
    | none =>
      by_cases hroom : (r.L.length : Int) < r.most
      · simp only [if_pos hroom]
        exact rarrive_new X w b r r client s h hF.l1024 hF.d1024 hl' hf (.inl ⟨hroom, rfl⟩) hF.l1024 hF.last rfl hbig
      · simp only [if_neg hroom]
        cases hD : r.D with
        | nil => exact (rarrive_full X w b r client s h hF.l1024 hl' hf (by omega) hD).mono fun e w' ⟨he, hfr⟩ => ⟨he, keep w' hfr⟩
        | cons d t =>
          exact rarrive_new X w b r (r.take d) client s h hF.l1024 hF.d1024 hl' hf (.inr ⟨by omega, d, t, hD, rfl⟩) (Nat.le_trans (List.length_filter_le _ _) hF.l1024) hF.last rfl hbig

theorem find_of {r : RS} {t : Int} {i : Nat} (h : r.L.findIdx? (fun e => decide (e.ticket = t) && !e.done) = some i) : r.find t = (i : Int) := by
  unfold RS.find; simp only [h]
theorem find_of_none {r : RS} {t : Int} (h : r.L.findIdx? (fun e => decide (e.ticket = t) && !e.done) = none) : r.find t = -1 := by
  unfold RS.find; simp only [h]
theorem doneP (X : Nat → Prop) (w : World) (b : Nat) (r : RS) (t : Int) (v : Value) (bs : List UInt8) (h : IsP X w b r) (hv : Bts w v bs) :
    Calls Try.prog 13 #[ptr b, .int .u64 t, v] w fun e w' => e = .returned (.int .i64 (r.finish t (str bs) bs.length).1) ∧ Fr X w w' ∧ IsP (Nw X w w') w' b (r.finish t (str bs) bs.length).2 := by
  have hX := h.lt
  have keep : ∀ w', w = w' → Fr X w w' ∧ IsP (Nw X w w') w' b r := fun w' hf => by
    subst hf; exact ⟨Fr.refl _ _, h.mono (fun _ hk => .inl hk) (fun k hk => hk.elim (hX k) (fun hk => hk.2))⟩
  obtain ⟨s, hi, hg, hs⟩ := h
  unfold RS.finish
  cases hb : s.busyAt t with
  | none =>
    have hn : r.L.findIdx? (fun e => decide (e.ticket = t) && !e.done) = none := by
      have := hs.find_none hb
      unfold RS.find at this
      split at this
      · omega
      · assumption
    rw [hn]
    exact (done_none X w b s t v hi hg hb).mono fun e w' ⟨he, hf⟩ => ⟨he, keep w' hf⟩
  | some p =>
    obtain ⟨i, hi1, hi2, hsim⟩ := hs.done hg hb (str bs)
    have hn : r.L.findIdx? (fun e => decide (e.ticket = t) && !e.done) = some i := by
      unfold RS.find at hi2
      split at hi2
      · rename_i j hj; rw [hj]; congr 1; omega
      · omega
    rw [hn]
    by_cases hl : 4096 < bs.length
    · simp only [if_pos hl]
      exact (done_long X w b s t v hi hg p hb bs hv hl).mono fun e w' ⟨he, hf⟩ => ⟨he, keep w' hf⟩
    · simp only [if_neg hl]
      exact (done_calls X w b s t v hi hg p hb bs hv (by omega)).mono fun e w' ⟨he, hf, hi'⟩ => ⟨he, hf, _, hi', hg.doneG hb _, hsim⟩
theorem doneR (X : Nat → Prop) (w : World) (b : Nat) (r : RS) (t : Int) (s : ByteArray) (h : IsR X w b r) (hF : Fair r) :
    Calls Try.prog 29 #[ptr b, .int .u64 t, .string s] w fun e w' => e = .returned (.int .i64 (r.finish t s s.size).1) ∧ Fr X w w' ∧ IsR (Nw X w w') w' b (r.finish t s s.size).2 := by
  have hX := h.lt
  have keep : ∀ w', w = w' → Fr X w w' ∧ IsR (Nw X w w') w' b r := fun w' hf => by
    subst hf; exact ⟨Fr.refl _ _, h.mono (fun _ hk => .inl hk) (fun k hk => hk.elim (hX k) (fun hk => hk.2))⟩
  unfold RS.finish
  cases hn : r.L.findIdx? (fun e => decide (e.ticket = t) && !e.done) with
  | none => exact (rdone_none X w b r t s h hF.l1024 (find_of_none hn)).mono fun e w' ⟨he, hf⟩ => ⟨he, keep w' hf⟩
  | some i =>
    have hi : i < r.L.length := (List.findIdx?_eq_some_iff_getElem.1 hn).1
    by_cases hl : 4096 < s.size
    · simp only [if_pos hl]
      exact (rdone_long X w b r t s h hF.l1024 i (find_of hn) hl).mono fun e w' ⟨he, hf⟩ => ⟨he, keep w' hf⟩
    · simp only [if_neg hl]
      exact rdone_calls X w b r t s h hF.l1024 hF.d1024 i hi (find_of hn) (by omega)
theorem forgetP (X : Nat → Prop) (w : World) (b : Nat) (r : RS) (t : Int) (h : IsP X w b r) :
    Calls Try.prog 18 #[ptr b, .int .u64 t] w fun e w' => e = .returned (.int .i64 (r.forget t).1) ∧ Fr X w w' ∧ IsP (Nw X w w') w' b (r.forget t).2 := by
  have hX := h.lt
  have keep : ∀ w', w = w' → Fr X w w' ∧ IsP (Nw X w w') w' b r := fun w' hf => by
    subst hf; exact ⟨Fr.refl _ _, h.mono (fun _ hk => .inl hk) (fun k hk => hk.elim (hX k) (fun hk => hk.2))⟩
  obtain ⟨s, hi, hg, hs⟩ := h
  unfold RS.forget
  cases hb : s.busyAt t with
  | none =>
    have hn : r.L.findIdx? (fun e => decide (e.ticket = t) && !e.done) = none := by
      have := hs.find_none hb
      unfold RS.find at this
      split at this
      · omega
      · assumption
    rw [hn]
    exact (forget_none X w b s t hi hg hb).mono fun e w' ⟨he, hf⟩ => ⟨he, keep w' hf⟩
  | some p =>
    obtain ⟨i, hi1, hi2, _⟩ := hs.done hg hb emp
    have hn : r.L.findIdx? (fun e => decide (e.ticket = t) && !e.done) = some i := by
      unfold RS.find at hi2
      split at hi2
      · rename_i j hj; rw [hj]; congr 1; omega
      · omega
    obtain ⟨hm, ht, _⟩ := busyAt_some hb
    rw [hn]
    refine (forget_calls X w b s t hi hg p hb).mono fun e w' ⟨he, hf, hi'⟩ => ⟨he, hf, ?_⟩
    refine IsP.mono (X := X) ⟨_, hi', hg.outG _, ?_⟩ (fun _ hk => .inl hk) (fun k hk => hk.elim (fun hk => Nat.lt_of_lt_of_le (hX k hk) hf.size) (fun hk => hk.2))
    rw [← ht]; exact hs.out hg hm
theorem forgetR (X : Nat → Prop) (w : World) (b : Nat) (r : RS) (t : Int) (h : IsR X w b r) (hF : Fair r) :
    Calls Try.prog 30 #[ptr b, .int .u64 t] w fun e w' => e = .returned (.int .i64 (r.forget t).1) ∧ Fr X w w' ∧ IsR (Nw X w w') w' b (r.forget t).2 := by
  have hX := h.lt
  have keep : ∀ w', w = w' → Fr X w w' ∧ IsR (Nw X w w') w' b r := fun w' hf => by
    subst hf; exact ⟨Fr.refl _ _, h.mono (fun _ hk => .inl hk) (fun k hk => hk.elim (hX k) (fun hk => hk.2))⟩
  unfold RS.forget
  cases hn : r.L.findIdx? (fun e => decide (e.ticket = t) && !e.done) with
  | none => exact (rforget_none X w b r t h hF.l1024 (find_of_none hn)).mono fun e w' ⟨he, hf⟩ => ⟨he, keep w' hf⟩
  | some i => exact rforget_calls X w b r t h hF.l1024 hF.d1024 i (find_of hn)
theorem clearP (X : Nat → Prop) (w : World) (b : Nat) (r : RS) (h : IsP X w b r) : Calls Try.prog 19 #[ptr b] w fun e w' => e = .returned (.tuple #[]) ∧ Fr X w w' ∧ IsP X w' b r.clear := by
  obtain ⟨s, hi, hg, hs⟩ := h
  exact (clear_calls X w b s hi).mono fun e w' ⟨he, hf, hi'⟩ => ⟨he, hf, _, hi', PS.clear_good hg, hs.clear⟩
theorem newP (most : Int) (w : World) (h1 : 1 ≤ most) (h2 : most ≤ 1024) : Calls Try.prog 9 #[.int .i64 most] w fun e w' => ∃ b, e = .returned (.tuple #[ptr b, .int .i64 0]) ∧ Fr Non w w' ∧ IsP (New w w') w' b (RS.new most) :=
  (new_calls most w h1 h2).mono fun _ _ ⟨b, he, hf, hi⟩ => ⟨b, he, hf, _, hi, PS.new_good h1 h2, Sim.new most⟩
theorem lenP (X : Nat → Prop) (w : World) (b : Nat) (r : RS) (h : IsP X w b r) : Calls Try.prog 12 #[ptr b] w fun e w' => e = .returned (.int .i64 r.L.length) ∧ w = w' := by
  obtain ⟨s, hi, hg, hs⟩ := h
  exact (len_calls X w b s hi).mono fun e w' ⟨he, hf⟩ => ⟨by rw [he, hs.L, List.length_map], hf⟩
theorem busyNP (X : Nat → Prop) (w : World) (b : Nat) (r : RS) (h : IsP X w b r) : Calls Try.prog 20 #[ptr b] w fun e w' => e = .returned (.int .i64 (r.L.length - r.D.length)) ∧ Fr Non w w' := by
  obtain ⟨s, hi, hg, hs⟩ := h
  exact (busyN_calls X w b s hi hg).mono fun e w' ⟨he, hf⟩ => ⟨by rw [he, hs.L, hs.D, List.length_map, List.length_map], hf⟩
def RS.oldest (r : RS) : Int × Bool := match r.D with | [] => (0, false) | d :: _ => (d, true)
theorem oldestP (X : Nat → Prop) (w : World) (b : Nat) (r : RS) (h : IsP X w b r) : Calls Try.prog 21 #[ptr b] w fun e w' => e = .returned (.tuple #[.int .u64 r.oldest.1, .bool r.oldest.2]) ∧ w = w' := by
  obtain ⟨s, hi, hg, hs⟩ := h
  unfold RS.oldest
  cases ho : s.old with
  | nil =>
    have hD : r.D = [] := by rw [hs.D, ho]; rfl
    rw [hD]
    exact oldest_none X w b s hi ho
  | cons o t =>
    obtain ⟨e0, he0, _, ht⟩ := ticketOf_mem hg (o := o) (by rw [ho]; simp)
    have hD : r.D = e0.ticket :: t.map (ticketOf s) := by rw [hs.D, ho, List.map_cons, ht]
    rw [hD]
    exact oldest_some X w b s hi o t ho e0 he0
def EntPost (r : RS) (w : World) (e : Ending) (w' : World) : Prop := ∃ v, e = .returned v ∧ Fr Non w w' ∧ Sl (New w w') w' 52 5 v r.L.length (rowsE r.L)
theorem entriesP (X : Nat → Prop) (w : World) (b : Nat) (r : RS) (h : IsP X w b r) : Calls Try.prog 15 #[ptr b] w (EntPost r w) := by
  obtain ⟨s, hi, hg, hs⟩ := h
  refine (entries_calls X w b s hi hg).mono fun e w' ⟨v, he, hf, hsl⟩ => ⟨v, he, hf, ?_⟩
  have e1 : rows24 s.l = rowsE r.L := by rw [hs.L]; unfold rows24 rowsE; rw [List.flatMap_map]
  rw [hs.L, List.length_map, ← hs.L, ← e1]; exact hsl
def CopyPostP (r : RS) (w : World) (e : Ending) (w' : World) : Prop := ∃ b', e = .returned (ptr b') ∧ Fr Non w w' ∧ IsP (New w w') w' b' r
theorem copyP (X : Nat → Prop) (w : World) (b : Nat) (r : RS) (h : IsP X w b r) : Calls Try.prog 25 #[ptr b] w (CopyPostP r w) := by
  obtain ⟨s, hi, hg, hs⟩ := h
  refine (copy_calls X w b s hi hg).mono fun e w' ⟨b', f, he, hf, hi', hinj⟩ => ⟨b', he, hf, s.relay f, hi', hg.relayG hinj, hs.relay hg (hg.relayG hinj)⟩
end Go.Proofs.Ytidmlkedebjbgaa
