/-
  The plain law: what the program's cache holds goes with what the document's holds ('Sim'); what is good stays so.
-/
import Derived.Test.YtidmlkedebjbgaaDrcW
namespace Go.Proofs.Ytidmlkedebjbgaa

/-! ### what is good stays so -/
theorem Good.outG {s : PS} (h : Good s) (x : Nat) : Good (s.out x) := by
  have hsub : ∀ p ∈ (s.out x).l, p ∈ s.l ∧ p.1 ≠ x := fun p hp => by
    have := List.mem_filter.1 hp
    exact ⟨this.1, by simpa using this.2⟩
  have hsl : (s.out x).l.Sublist s.l := List.filter_sublist
  exact {
    most1 := h.most1
    most2 := h.most2
    few := by have := hsl.length_le; have := h.few; show ((s.out x).l.length : Int) ≤ s.most; omega
    keys := h.keys.sublist hsl
    ptrs := h.ptrs.sublist (hsl.map _)
    old := h.old.sublist List.filter_sublist
    oldIn := fun o ho => by
      have ho' := List.mem_filter.1 ho
      obtain ⟨e, he, hd⟩ := h.oldIn o ho'.1
      exact ⟨e, List.mem_filter.2 ⟨he, ho'.2⟩, hd⟩
    inOld := fun p hp hd => List.mem_filter.2 ⟨h.inOld p (hsub p hp).1 hd, by simpa using (hsub p hp).2⟩
    rising := h.rising.sublist hsl
    lo := fun p hp => h.lo p (hsub p hp).1
    last := h.last
    reply := fun p hp => h.reply p (hsub p hp).1 }
theorem find_none {s : PS} {k : Int × ByteArray} : s.find k = none ↔ ∀ p ∈ s.l, k ≠ p.2.key := by
  unfold PS.find; rw [List.find?_eq_none]; simp
theorem Good.pushG {s : PS} (h : Good s) {q : Nat} {k : Int × ByteArray} (hk : s.find k = none) (hq : q ∉ s.ptrs) (hroom : (s.l.length : Int) < s.most) : Good (s.push q k) := by
  rw [find_none] at hk
  exact {
    most1 := h.most1
    most2 := h.most2
    few := by show ((s.l ++ [_]).length : Int) ≤ s.most; simp; omega
    keys := by
      show (s.l ++ [_]).Pairwise _
      rw [List.pairwise_append]
      exact ⟨h.keys, by simp, fun p hp q hq => by simp at hq; subst hq; exact fun e => hk p hp e.symm⟩
    ptrs := by
      have e : (s.push q k).ptrs = s.ptrs ++ [q] := by simp [PS.push, PS.ptrs]
      rw [e, List.nodup_append]
      exact ⟨h.ptrs, by simp, fun a ha b hb => by simp at hb; subst hb; intro e; exact hq (e ▸ ha)⟩
    old := h.old
    oldIn := fun o ho => by
      obtain ⟨e, he, hd⟩ := h.oldIn o ho
      exact ⟨e, List.mem_append_left _ he, hd⟩
    inOld := fun p hp hd => by
      rcases List.mem_append.1 hp with hp | hp
      · exact h.inOld p hp hd
      · simp at hp; subst hp; cases hd
    rising := by
      show (s.l ++ [_]).Pairwise _
      rw [List.pairwise_append]
      exact ⟨h.rising, by simp, fun p hp q hq => by simp at hq; subst hq; have := (h.lo p hp).2; show p.2.ticket < s.last + 1; omega⟩
    lo := fun p hp => by
      show 1 ≤ p.2.ticket ∧ p.2.ticket ≤ s.last + 1
      have h0 := h.last
      rcases List.mem_append.1 hp with hp | hp
      · have := h.lo p hp; omega
      · simp at hp; subst hp; show 1 ≤ s.last + 1 ∧ s.last + 1 ≤ s.last + 1; omega
    last := by have := h.last; show 0 ≤ s.last + 1; omega
    reply := fun p hp hd => by
      rcases List.mem_append.1 hp with hp | hp
      · exact h.reply p hp hd
      · simp at hp; subst hp; rfl }
theorem busyAt_some {s : PS} {t : Int} {p : Nat × Ent} (h : s.busyAt t = some p) : p ∈ s.l ∧ p.2.ticket = t ∧ p.2.done = false := by
  have h1 := List.mem_of_find?_eq_some h
  have h2 := List.find?_some h
  simp at h2
  exact ⟨h1, h2.1, h2.2⟩
theorem Good.doneG {s : PS} (h : Good s) {t : Int} {p : Nat × Ent} (hp : s.busyAt t = some p) (r : ByteArray) : Good (s.done p.1 r) := by
  obtain ⟨hm, ht, hd⟩ := busyAt_some hp
  have hno : p.1 ∉ s.old := fun ho => by
    obtain ⟨e, he, hde⟩ := h.oldIn _ ho
    have := h.inj he hm rfl
    rw [← this] at hd
    rw [hd] at hde; cases hde
  have hfin : ∀ q ∈ (s.done p.1 r).l, ∃ q0 ∈ s.l, q = finish p.1 r q0 := fun q hq => by
    obtain ⟨q0, h0, rfl⟩ := List.mem_map.1 hq; exact ⟨q0, h0, rfl⟩
  exact {
    most1 := h.most1
    most2 := h.most2
    few := by show ((s.l.map _).length : Int) ≤ s.most; rw [List.length_map]; exact h.few
    keys := by
      show (s.l.map _).Pairwise _
      rw [List.pairwise_map]
      exact h.keys.imp (fun hab => by rw [finish_key, finish_key]; exact hab)
    ptrs := by rw [PS.done_ptrs]; exact h.ptrs
    old := by
      show (s.old ++ [p.1]).Nodup
      rw [List.nodup_append]
      exact ⟨h.old, by simp, fun a ha b hb => by simp at hb; subst hb; intro e; exact hno (e ▸ ha)⟩
    oldIn := fun o ho => by
      rcases List.mem_append.1 ho with ho | ho
      · obtain ⟨e, he, hde⟩ := h.oldIn o ho
        refine ⟨(finish p.1 r (o, e)).2, ?_, ?_⟩
        · have : finish p.1 r (o, e) ∈ s.l.map (finish p.1 r) := List.mem_map.2 ⟨(o, e), he, rfl⟩
          have e1 : finish p.1 r (o, e) = (o, (finish p.1 r (o, e)).2) := by unfold finish; split <;> rfl
          rw [e1] at this; exact this
        · unfold finish; split <;> simp_all
      · simp at ho; subst ho
        refine ⟨{ p.2 with done := true, reply := r }, List.mem_map.2 ⟨p, hm, by simp [finish]⟩, rfl⟩
    inOld := fun q hq hdq => by
      obtain ⟨q0, h0, rfl⟩ := hfin q hq
      rw [finish_fst]
      by_cases e : q0.1 = p.1
      · exact List.mem_append_right _ (by simp [e])
      · exact List.mem_append_left _ (h.inOld q0 h0 (by simpa [finish, e] using hdq))
    rising := by
      show (s.l.map _).Pairwise _
      rw [List.pairwise_map]
      exact h.rising.imp (fun hab => by rw [finish_ticket, finish_ticket]; exact hab)
    lo := fun q hq => by
      obtain ⟨q0, h0, rfl⟩ := hfin q hq
      rw [finish_ticket]; exact h.lo q0 h0
    last := h.last
    reply := fun q hq hdq => by
      obtain ⟨q0, h0, rfl⟩ := hfin q hq
      by_cases e : q0.1 = p.1
      · simp [finish, e] at hdq
      · simp only [finish, if_neg e] at hdq ⊢; exact h.reply q0 h0 hdq }
theorem Room.good {s s' : PS} (h : Room s s') (hg : Good s) {k : Int × ByteArray} (hk : s.find k = none) : Good s' ∧ s'.find k = none ∧ (s'.l.length : Int) < s'.most ∧ s'.last = s.last ∧ s'.most = s.most ∧ s'.ptrs ⊆ s.ptrs := by
  rcases h with ⟨hl, rfl⟩ | ⟨hl, o, t, ho, rfl⟩
  · exact ⟨hg, hk, hl, rfl, rfl, fun _ h => h⟩
  · refine ⟨hg.outG o, ?_, ?_, rfl, rfl, fun x hx => ?_⟩
    · rw [find_none] at hk ⊢
      exact fun p hp => hk p (List.mem_filter.1 hp).1
    · obtain ⟨e, he, _⟩ := hg.oldIn o (by rw [ho]; simp)
      have : (s.out o).l.length < s.l.length := by
        show (s.l.filter _).length < _
        rw [List.length_filter_lt_length_iff_exists]
        exact ⟨(o, e), he, by simp⟩
      have := hg.few
      show ((s.out o).l.length : Int) < s.most
      omega
    · rw [PS.out_ptrs] at hx
      exact keeps_sub _ _ _ hx

/-! ### it goes with the document's -/
def ticketOf (s : PS) (o : Nat) : Int := ((s.l.find? fun p => decide (p.1 = o)).map (·.2.ticket)).getD 0
structure Sim (s : PS) (r : RS) : Prop where
  most : r.most = s.most
  last : r.last = s.last
  L : r.L = s.l.map (·.2)
  D : r.D = s.old.map (ticketOf s)
theorem ticketOf_in {s : PS} (h : Good s) {o : Nat} {e : Ent} (he : (o, e) ∈ s.l) : ticketOf s o = e.ticket := by
  unfold ticketOf
  cases hf : s.l.find? (fun p => decide (p.1 = o)) with
  | none =>
    rw [List.find?_eq_none] at hf
    have := hf _ he
    simp at this
  | some p =>
    have h1 := List.mem_of_find?_eq_some hf
    have h2 : p.1 = o := by simpa using List.find?_some hf
    have := h.inj h1 he h2
    rw [this]; rfl
theorem ticketOf_mem {s : PS} (h : Good s) {o : Nat} (ho : o ∈ s.old) : ∃ e, (o, e) ∈ s.l ∧ e.done = true ∧ ticketOf s o = e.ticket := by
  obtain ⟨e, he, hd⟩ := h.oldIn o ho
  exact ⟨e, he, hd, ticketOf_in h he⟩
theorem Sim.new (most : Int) : Sim (PS.new most) (RS.new most) := ⟨rfl, rfl, rfl, rfl⟩
theorem Sim.clear {s : PS} {r : RS} (h : Sim s r) : Sim s.clear r.clear := ⟨h.most, h.last, rfl, rfl⟩
theorem Sim.hit {s : PS} {r : RS} (h : Sim s r) (k : Int × ByteArray) : r.hit k = (s.find k).map (·.2) := by
  unfold RS.hit PS.find
  rw [h.L, List.find?_map]; rfl
theorem ticket_inj {s : PS} (h : Good s) {p q : Nat × Ent} (hp : p ∈ s.l) (hq : q ∈ s.l) (e : p.2.ticket = q.2.ticket) : p = q := by
  have hr := h.rising
  rw [List.pairwise_iff_getElem] at hr
  obtain ⟨i, hi, rfl⟩ := List.getElem_of_mem hp
  obtain ⟨j, hj, rfl⟩ := List.getElem_of_mem hq
  rcases Nat.lt_trichotomy i j with hij | hij | hij
  · have := hr i j hi hj hij; omega
  · subst hij; rfl
  · have := hr j i hj hi hij; omega
theorem Sim.out {s : PS} {r : RS} (h : Sim s r) (hg : Good s) {p : Nat × Ent} (hp : p ∈ s.l) : Sim (s.out p.1) (r.take p.2.ticket) := by
  refine ⟨h.most, h.last, ?_, ?_⟩
  · show r.L.filter _ = List.map (fun x : Nat × Ent => x.2) (s.l.filter _)
    rw [h.L, List.filter_map]
    congr 1
    refine List.filter_congr fun q hq => ?_
    by_cases e : q.1 = p.1
    · have := hg.inj hq hp e
      subst this
      simp
    · have : q.2.ticket ≠ p.2.ticket := fun e' => e (by rw [ticket_inj hg hq hp e'])
      simp [e, this]
  · show r.D.filter _ = (keeps p.1 s.old).map (ticketOf (s.out p.1))
    rw [h.D, List.filter_map]
    unfold keeps
    have e1 : s.old.filter ((fun x => decide (x ≠ p.2.ticket)) ∘ ticketOf s) = s.old.filter (fun q => !decide (q = p.1)) := by
      refine List.filter_congr fun o ho => ?_
      obtain ⟨e, he, _, ht⟩ := ticketOf_mem hg ho
      simp only [Function.comp, ht]
      by_cases e' : o = p.1
      · have h2 : e.ticket = p.2.ticket := by rw [← hg.inj he hp e']
        simp [e', h2]
      · have : e.ticket ≠ p.2.ticket := fun e2 => e' (by rw [← ticket_inj hg he hp e2])
        simp [e', this]
    rw [e1]
    refine List.map_congr_left fun o ho => ?_
    have ho' := List.mem_filter.1 ho
    obtain ⟨e, he, _, ht⟩ := ticketOf_mem hg ho'.1
    rw [ht, ticketOf_in (hg.outG p.1) (o := o) (e := e) (List.mem_filter.2 ⟨he, ho'.2⟩)]
theorem Sim.push {s : PS} {r : RS} (h : Sim s r) (hg : Good s) {q : Nat} {k : Int × ByteArray} (hg' : Good (s.push q k)) : Sim (s.push q k) (r.push k) := by
  refine ⟨h.most, by show r.last + 1 = s.last + 1; rw [h.last], ?_, ?_⟩
  · show r.L ++ [_] = List.map (fun x : Nat × Ent => x.2) (s.l ++ [_])
    rw [h.L, h.last]; simp
  · show r.D = s.old.map (ticketOf (s.push q k))
    rw [h.D]
    refine List.map_congr_left fun o ho => ?_
    obtain ⟨e, he, _, ht⟩ := ticketOf_mem hg ho
    rw [ht, ticketOf_in hg' (o := o) (e := e) (List.mem_append_left _ he)]
theorem Sim.room {s s' : PS} {r : RS} (h : Sim s r) (hg : Good s) (hr : Room s s') : ∃ r', RRoom r r' ∧ Sim s' r' := by
  rcases hr with ⟨hl, rfl⟩ | ⟨hl, o, t, ho, rfl⟩
  · exact ⟨r, .inl ⟨by rw [h.L, h.most]; simpa using hl, rfl⟩, h⟩
  · obtain ⟨e, he, _, ht⟩ := ticketOf_mem hg (o := o) (by rw [ho]; simp)
    refine ⟨r.take e.ticket, .inr ⟨by rw [h.L, h.most]; simpa using hl, e.ticket, t.map (ticketOf s), by rw [h.D, ho, List.map_cons, ht], rfl⟩, h.out hg he⟩
theorem Sim.find_none {s : PS} {r : RS} (h : Sim s r) {t : Int} (hb : s.busyAt t = none) : r.find t = -1 := by
  unfold RS.find
  rw [List.findIdx?_eq_none_iff.2]
  intro e he
  rw [h.L] at he
  obtain ⟨p, hp, rfl⟩ := List.mem_map.1 he
  have := List.find?_eq_none.1 hb p hp
  simpa using this
theorem Sim.done {s : PS} {r : RS} (h : Sim s r) (hg : Good s) {t : Int} {p : Nat × Ent} (hb : s.busyAt t = some p) (x : ByteArray) : ∃ i, i < r.L.length ∧ r.find t = (i : Int) ∧ Sim (s.done p.1 x) (r.fin i t x) := by
  have hg' := hg.doneG hb x
  obtain ⟨hm, ht, hd⟩ := busyAt_some hb
  unfold PS.busyAt at hb
  rw [List.find?_eq_some_iff_getElem] at hb
  obtain ⟨hp1, i, hi, hpi, hlow⟩ := hb
  refine ⟨i, by rw [h.L]; simpa using hi, ?_, h.most, h.last, ?_, ?_⟩
  · unfold RS.find
    rw [List.findIdx?_eq_some_iff_getElem.2 ⟨by rw [h.L]; simpa using hi, by simp [h.L, hpi, ht, hd], fun j hj => ?_⟩]
    have := hlow j hj
    simp only [Bool.not_eq_true'] at this
    simpa [h.L] using this
  · show r.L.modify i _ = List.map (fun x : Nat × Ent => x.2) (s.l.map _)
    rw [h.L]
    apply List.ext_getElem
    · simp
    · intro j h1 h2
      have hj : j < s.l.length := by simpa using h2
      rw [List.getElem_modify]
      simp only [List.getElem_map]
      by_cases e : i = j
      · subst e
        simp [hpi, finish]
      · rw [if_neg e]
        have : s.l[j].1 ≠ p.1 := fun e' => by
          have := hg.ptrs
          unfold PS.ptrs at this
          rw [List.nodup_iff_pairwise_ne, List.pairwise_iff_getElem] at this
          rcases Nat.lt_trichotomy i j with hij | hij | hij
          · have := this i j (by simpa using hi) (by simpa using hj) hij; simp [hpi] at this; exact this e'.symm
          · exact e hij
          · have := this j i (by simpa using hj) (by simpa using hi) hij; simp [hpi] at this; exact this e'
        simp [finish, this]
  · show r.D ++ [t] = (s.old ++ [p.1]).map (ticketOf (s.done p.1 x))
    rw [h.D, List.map_append]
    congr 1
    · refine List.map_congr_left fun o ho => ?_
      obtain ⟨e, he, _, hto⟩ := ticketOf_mem hg ho
      have hin : (o, (finish p.1 x (o, e)).2) ∈ (s.done p.1 x).l := by
        have : finish p.1 x (o, e) ∈ s.l.map (finish p.1 x) := List.mem_map.2 ⟨(o, e), he, rfl⟩
        have e1 : finish p.1 x (o, e) = (o, (finish p.1 x (o, e)).2) := by unfold finish; split <;> rfl
        rw [e1] at this; exact this
      rw [hto, ticketOf_in hg' hin, finish_ticket]
    · have hin : (p.1, { p.2 with done := true, reply := x }) ∈ (s.done p.1 x).l := List.mem_map.2 ⟨p, hm, by simp [finish]⟩
      rw [List.map_singleton, ticketOf_in hg' hin, ht]
/-- A copy: other blocks, the same entries. -/
def PS.relay (s : PS) (f : Nat → Nat) : PS := { s with l := s.l.map (fun p => (f p.1, p.2)), old := s.old.map f }
theorem Good.relayG {s : PS} (h : Good s) {f : Nat → Nat} (hf : ∀ x ∈ s.ptrs, ∀ y ∈ s.ptrs, f x = f y → x = y) : Good (s.relay f) := by
  have hin : ∀ p ∈ s.l, p.1 ∈ s.ptrs := fun p hp => List.mem_map.2 ⟨p, hp, rfl⟩
  have hold : ∀ o ∈ s.old, o ∈ s.ptrs := fun o ho => by obtain ⟨e, he, _⟩ := h.oldIn o ho; exact hin _ he
  have hnd : ∀ l : List Nat, l.Nodup → (∀ x ∈ l, x ∈ s.ptrs) → (l.map f).Nodup := by
    intro l
    induction l with
    | nil => intro _ _; simp
    | cons a t ih =>
      intro hn hs
      rw [List.nodup_cons] at hn
      rw [List.map_cons, List.nodup_cons]
      refine ⟨fun hm => ?_, ih hn.2 (fun x hx => hs x (by simp [hx]))⟩
      obtain ⟨b, hb, e⟩ := List.mem_map.1 hm
      have := hf b (hs b (by simp [hb])) a (hs a (by simp)) e
      exact hn.1 (this ▸ hb)
  have hpt : (s.relay f).ptrs = s.ptrs.map f := by simp [PS.relay, PS.ptrs, Function.comp_def]
  exact {
    most1 := h.most1
    most2 := h.most2
    few := by show ((s.l.map _).length : Int) ≤ s.most; rw [List.length_map]; exact h.few
    keys := by show (s.l.map _).Pairwise _; rw [List.pairwise_map]; exact h.keys
    ptrs := by rw [hpt]; exact hnd _ h.ptrs (fun _ h => h)
    old := hnd _ h.old hold
    oldIn := fun o ho => by
      obtain ⟨o0, h0, rfl⟩ := List.mem_map.1 ho
      obtain ⟨e, he, hd⟩ := h.oldIn o0 h0
      exact ⟨e, List.mem_map.2 ⟨_, he, rfl⟩, hd⟩
    inOld := fun p hp hd => by
      obtain ⟨p0, h0, rfl⟩ := List.mem_map.1 hp
      exact List.mem_map.2 ⟨p0.1, h.inOld p0 h0 hd, rfl⟩
    rising := by show (s.l.map _).Pairwise _; rw [List.pairwise_map]; exact h.rising
    lo := fun p hp => by obtain ⟨p0, h0, rfl⟩ := List.mem_map.1 hp; exact h.lo p0 h0
    last := h.last
    reply := fun p hp hd => by obtain ⟨p0, h0, rfl⟩ := List.mem_map.1 hp; exact h.reply p0 h0 hd }
theorem Sim.relay {s : PS} {r : RS} (h : Sim s r) (hg : Good s) {f : Nat → Nat} (hg' : Good (s.relay f)) : Sim (s.relay f) r := by
  refine ⟨h.most, h.last, ?_, ?_⟩
  · show r.L = List.map (fun x : Nat × Ent => x.2) (s.l.map _)
    rw [h.L]; simp [Function.comp_def]
  · show r.D = (s.old.map f).map (ticketOf (s.relay f))
    rw [h.D, List.map_map]
    refine List.map_congr_left fun o ho => ?_
    obtain ⟨e, he, _, ht⟩ := ticketOf_mem hg ho
    rw [ht]
    exact (ticketOf_in hg' (o := f o) (e := e) (List.mem_map.2 ⟨_, he, rfl⟩)).symm
end Go.Proofs.Ytidmlkedebjbgaa
