/-
  DrcOnce's plain law: what the law keeps of the requests that came ('made'), beside what the cache holds.
-/
import Derived.Test.YtidmlkedebjbgaaDrcQ
namespace Go.Proofs.Ytidmlkedebjbgaa
open Go.RowKit

structure Inv (M : List Ent) (r : RS) : Prop where
  sub : ∀ e ∈ r.L, e ∈ M
  nd : (M.map (·.ticket)).Nodup
  ndL : (r.L.map (·.ticket)).Nodup
  le : ∀ m ∈ M, m.ticket ≤ r.last
  emp : ∀ e ∈ r.L, e.done = false → e.reply = emp
theorem nodup_inj {α β : Type} {f : α → β} {l : List α} (h : (l.map f).Nodup) {a b : α} (ha : a ∈ l) (hb : b ∈ l) (e : f a = f b) : a = b := by
  induction l with
  | nil => cases ha
  | cons x t ih =>
    rw [List.map_cons, List.nodup_cons] at h
    rcases List.mem_cons.1 ha with e1 | ha1 <;> rcases List.mem_cons.1 hb with e2 | hb1
    · rw [e1, e2]
    · exact absurd (by rw [← e1, e]; exact List.mem_map.2 ⟨b, hb1, rfl⟩) h.1
    · exact absurd (by rw [← e2, ← e]; exact List.mem_map.2 ⟨a, ha1, rfl⟩) h.1
    · exact ih h.2 ha1 hb1
theorem Inv.uniq {M : List Ent} {r : RS} (h : Inv M r) {a b : Ent} (ha : a ∈ M) (hb : b ∈ M) (e : a.ticket = b.ticket) : a = b := nodup_inj h.nd ha hb e
/-- What Arrive may do. -/
theorem RS.arrive_cases (r : RS) (k : Int × ByteArray) (n : Nat) :
    ((r.arrive k n).1 = arr 0 (r.last + 1) emp ∧ r.hit k = none ∧ (r.arrive k n).2.last = r.last + 1 ∧ ∃ L', L'.Sublist r.L ∧ (r.arrive k n).2.L = L' ++ [⟨k.1, k.2, r.last + 1, emp, false⟩]) ∨
    ((r.arrive k n).2 = r ∧ (((r.arrive k n).1 = arr 4 0 emp ∨ (r.arrive k n).1 = arr 3 0 emp) ∨ ∃ e ∈ r.L, k = e.key ∧ (r.arrive k n).1 = if e.done then arr 2 e.ticket e.reply else arr 1 e.ticket emp)) := by
  unfold RS.arrive
  split
  · exact .inr ⟨rfl, .inl (.inl rfl)⟩
  · cases hh : r.hit k with
    | some e =>
      have hm := List.mem_of_find?_eq_some hh
      have hk := List.find?_some hh
      exact .inr ⟨rfl, .inr ⟨e, hm, by simpa using hk, rfl⟩⟩
    | none =>
      dsimp only
      split
      · exact .inl ⟨rfl, rfl, rfl, r.L, List.Sublist.refl _, rfl⟩
      · cases hD : r.D with
        | nil => exact .inr ⟨rfl, .inl (.inr rfl)⟩
        | cons d t => exact .inl ⟨rfl, rfl, rfl, _, List.filter_sublist, rfl⟩
theorem Inv.arrive {M : List Ent} {r : RS} (h : Inv M r) {k : Int × ByteArray} {r' : RS} {L' : List Ent} (hl : r'.last = r.last + 1) (hs : L'.Sublist r.L) (hL : r'.L = L' ++ [⟨k.1, k.2, r.last + 1, _root_.Go.Proofs.Ytidmlkedebjbgaa.emp, false⟩]) :
    Inv (M ++ [⟨k.1, k.2, r.last + 1, _root_.Go.Proofs.Ytidmlkedebjbgaa.emp, false⟩]) r' where
  sub := by
    intro e he
    rw [hL, List.mem_append] at he
    exact List.mem_append.2 (he.imp (fun he => h.sub e (hs.subset he)) id)
  nd := by
    rw [List.map_append, List.nodup_append]
    refine ⟨h.nd, by simp, ?_⟩
    intro a ha b hb e
    obtain ⟨m, hm, rfl⟩ := List.mem_map.1 ha
    simp at hb
    have := h.le m hm
    omega
  ndL := by
    rw [hL, List.map_append, List.nodup_append]
    refine ⟨h.ndL.sublist (hs.map _), by simp, ?_⟩
    intro a ha b hb e
    obtain ⟨m, hm, rfl⟩ := List.mem_map.1 ha
    simp at hb
    have := h.le m (h.sub m (hs.subset hm))
    omega
  le := by
    intro m hm
    rw [hl]
    rcases List.mem_append.1 hm with hm | hm
    · have := h.le m hm; omega
    · simp at hm; subst hm; simp
  emp := by
    intro e he
    rw [hL, List.mem_append] at he
    rcases he with he | he
    · exact h.emp e (hs.subset he)
    · simp at he; subst he; simp
theorem Inv.fewer {M : List Ent} {r r' : RS} (h : Inv M r) (hl : r'.last = r.last) (hs : r'.L.Sublist r.L) : Inv M r' where
  sub := fun e he => h.sub e (hs.subset he)
  nd := h.nd
  ndL := h.ndL.sublist (hs.map _)
  le := fun m hm => by rw [hl]; exact h.le m hm
  emp := fun e he => h.emp e (hs.subset he)
def mark (t : Int) (s : ByteArray) (m : Ent) : Ent := if m.ticket = t then { m with done := true, reply := s } else m
theorem mark_ticket (t : Int) (s : ByteArray) (m : Ent) : (mark t s m).ticket = m.ticket := by unfold mark; split <;> rfl
theorem Inv.fin {M : List Ent} {r : RS} (h : Inv M r) {t : Int} {s : ByteArray} {i : Nat} (hi : i < r.L.length) (ht : r.L[i].ticket = t) : Inv (M.map (mark t s)) (r.fin i t s) := by
  have hL : (r.fin i t s).L = r.L.map (mark t s) := by
    unfold RS.fin
    dsimp only
    refine List.ext_getElem (by simp) fun j h1 h2 => ?_
    rw [List.getElem_modify, List.getElem_map]
    have hj : j < r.L.length := by simpa using h2
    unfold mark
    by_cases e : i = j
    · subst e; rw [if_pos rfl, if_pos ht]
    · rw [if_neg e, if_neg]
      intro hc
      have hn := h.ndL
      have hn := List.pairwise_iff_getElem.1 hn
      rcases Nat.lt_or_gt_of_ne e with h3 | h3
      · exact hn i j (by simpa using hi) (by simpa using hj) h3 (by simp [ht, hc])
      · exact hn j i (by simpa using hj) (by simpa using hi) h3 (by simp [ht, hc])
  have hmt : ∀ l : List Ent, (l.map (mark t s)).map (·.ticket) = l.map (·.ticket) := fun l => by
    rw [List.map_map]; exact List.map_congr_left (fun m _ => mark_ticket t s m)
  exact {
    sub := fun e he => by
      rw [hL] at he
      obtain ⟨m, hm, rfl⟩ := List.mem_map.1 he
      exact List.mem_map.2 ⟨m, h.sub m hm, rfl⟩
    nd := by rw [hmt]; exact h.nd
    ndL := by rw [hL, hmt]; exact h.ndL
    le := fun m hm => by
      obtain ⟨m', hm', rfl⟩ := List.mem_map.1 hm
      rw [mark_ticket]; exact h.le m' hm'
    emp := fun e he hd => by
      rw [hL] at he
      obtain ⟨m, hm, rfl⟩ := List.mem_map.1 he
      unfold mark at hd ⊢
      split at hd
      · cases hd
      · rename_i hne; rw [if_neg hne]; exact h.emp m hm hd }
theorem modify_mid (a : List Ent) (x : Ent) (b : List Ent) (f : Ent → Ent) : (a ++ x :: b).modify a.length f = a ++ f x :: b := by
  induction a with
  | nil => rfl
  | cons p t ih => simp [ih]
/-- The first k are marked. -/
def marks (t : Int) (s : ByteArray) (M : List Ent) (k : Nat) : List Ent := (M.take k).map (mark t s) ++ M.drop k
theorem marks_zero (t : Int) (s : ByteArray) (M : List Ent) : marks t s M 0 = M := by simp [marks]
theorem marks_all (t : Int) (s : ByteArray) (M : List Ent) : marks t s M M.length = M.map (mark t s) := by simp [marks]
theorem marks_len (t : Int) (s : ByteArray) (M : List Ent) (k : Nat) : (marks t s M k).length = M.length := by simp [marks]; omega
theorem marks_mid (t : Int) (s : ByteArray) {M : List Ent} {k : Nat} (h : k < M.length) : marks t s M k = (M.take k).map (mark t s) ++ M[k] :: M.drop (k + 1) := by
  unfold marks; rw [List.drop_eq_getElem_cons h]
theorem marks_at (t : Int) (s : ByteArray) {M : List Ent} {k : Nat} (h : k < M.length) : (marks t s M k)[k]'(by rw [marks_len]; exact h) = M[k] := by
  have e := marks_mid t s h
  have hl : ((M.take k).map (mark t s)).length = k := by simp; omega
  simp only [e]
  rw [List.getElem_append_right (by omega)]
  have h0 : k - ((M.take k).map (mark t s)).length = 0 := by omega
  simp only [h0, List.getElem_cons_zero]
theorem marks_next (t : Int) (s : ByteArray) {M : List Ent} {k : Nat} (h : k < M.length) : marks t s M (k + 1) = (M.take k).map (mark t s) ++ mark t s M[k] :: M.drop (k + 1) := by
  unfold marks; rw [take_snoc' h, List.map_append, List.append_assoc]; rfl
theorem marks_ne {t : Int} {s : ByteArray} {M : List Ent} {k : Nat} (h : k < M.length) (hn : M[k].ticket ≠ t) : marks t s M (k + 1) = marks t s M k := by
  rw [marks_next t s h, marks_mid t s h]; unfold mark; rw [if_neg hn]
theorem marks_eq {t : Int} {s : ByteArray} {M : List Ent} {k : Nat} (h : k < M.length) (hn : M[k].ticket = t) : marks t s M (k + 1) = (marks t s M k).modify k (fun e => { e with done := true, reply := s }) := by
  have hl : ((M.take k).map (mark t s)).length = k := by simp; omega
  have := modify_mid ((M.take k).map (mark t s)) M[k] (M.drop (k + 1)) (fun e => { e with done := true, reply := s })
  rw [hl] at this
  rw [marks_next t s h, marks_mid t s h, this]
  congr 2
  unfold mark; rw [if_pos hn]
theorem RS.finish_cases (r : RS) (t : Int) (s : ByteArray) (n : Nat) : (∃ st, st ≠ 0 ∧ r.finish t s n = (st, r)) ∨ ∃ (i : Nat) (hi : i < r.L.length), r.L[i].ticket = t ∧ r.finish t s n = (0, r.fin i t s) := by
  unfold RS.finish
  cases hf : r.L.findIdx? (fun e => decide (e.ticket = t) && !e.done) with
  | none => exact .inl ⟨240, by decide, rfl⟩
  | some i =>
    dsimp only
    split
    · exact .inl ⟨1, by decide, rfl⟩
    · have h := List.findIdx?_eq_some_iff_getElem.1 hf
      exact .inr ⟨i, h.1, by simpa using (Bool.and_eq_true_iff.1 h.2.1).1, rfl⟩
theorem RS.forget_sub (r : RS) (t : Int) : (r.forget t).2.L.Sublist r.L ∧ (r.forget t).2.last = r.last ∧ (r.forget t).2.most = r.most := by
  unfold RS.forget
  split
  · exact ⟨List.Sublist.refl _, rfl, rfl⟩
  · exact ⟨List.filter_sublist, rfl, rfl⟩
end Go.Proofs.Ytidmlkedebjbgaa
