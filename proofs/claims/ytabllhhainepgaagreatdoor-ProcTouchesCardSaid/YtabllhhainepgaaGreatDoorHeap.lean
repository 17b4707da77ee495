/-
  What a call leaves as it was ('Fr'), blocks known whole, maps whose keys are images of a plain type. These texts speak of no program.
-/
import Derived.WalkKit
import Derived.WalkSpells
import Derived.WalkLawsBesides
import Derived.Deep.QuietTactic
import Derived.BigQuiet
import Derived.StillTailTactics
import Derived.LaidEqlPtr
import Derived.Lib.Hide
import Derived.Deep.RegionHeld3
set_option maxRecDepth 100000
set_option linter.unusedVariables false
set_option linter.unusedSimpArgs false
set_option linter.constructorNameAsVariable false
namespace Go.Proofs.YtabllhhainepgaaGreatDoor
open Go.RowKit

/-! ### the frame -/
/-- Outside X the blocks that were there are as they were. -/
structure Fr (X : Nat → Prop) (w w' : World) : Prop where
  os : w'.os = w.os
  tape : w'.tape = w.tape
  output : w'.output = w.output
  size : w.heap.size ≤ w'.heap.size
  block : ∀ k, k < w.heap.size → ¬ X k → w'.heap[k]? = w.heap[k]?

def Non : Nat → Prop := fun _ => False

theorem Fr.refl (X : Nat → Prop) (w : World) : Fr X w w := ⟨rfl, rfl, rfl, Nat.le_refl _, fun _ _ _ => rfl⟩
theorem Fr.mono {X Y : Nat → Prop} {w w' : World} (h : Fr X w w') (hXY : ∀ k, k < w.heap.size → X k → Y k) : Fr Y w w' :=
  ⟨h.os, h.tape, h.output, h.size, fun k hk hn => h.block k hk (fun hx => hn (hXY k hk hx))⟩
theorem Fr.trans {X Y : Nat → Prop} {a b c : World} (h : Fr X a b) (k : Fr Y b c) (hYX : ∀ i, i < a.heap.size → Y i → X i) : Fr X a c :=
  ⟨k.os.trans h.os, k.tape.trans h.tape, k.output.trans h.output, Nat.le_trans h.size k.size,
    fun i hi hn => (k.block i (Nat.lt_of_lt_of_le hi h.size) (fun hy => hn (hYX i hi hy))).trans (h.block i hi hn)⟩
theorem Fr.drew {X : Nat → Prop} {a w : World} (h : Fr X a w) : Fr X a w.drew := ⟨h.os, h.tape, h.output, h.size, h.block⟩
theorem Fr.drewN {X : Nat → Prop} {a w : World} (h : Fr X a w) (n : Nat) : Fr X a (w.drewN n) := ⟨h.os, h.tape, h.output, h.size, h.block⟩
theorem Fr.alloc {X : Nat → Prop} {a w : World} (h : Fr X a w) (o : Obj) : Fr X a (w.alloc o) :=
  ⟨h.os, h.tape, h.output, by have := h.size; simp; omega, fun k hk hn => by rw [Below.heap_alloc _ _ _ (by have := h.size; omega)]; exact h.block k hk hn⟩
theorem Fr.setCell {X : Nat → Prop} {a w : World} (h : Fr X a w) {p : Addr} (hp : p.block < a.heap.size → X p.block) (u : Value) : Fr X a (w.setCell p u) :=
  ⟨h.os, h.tape, h.output, by have := h.size; simp; omega, fun k hk hn => by
    rw [Below.heap_setCell _ _ _ _ (by rintro rfl; exact hn (hp hk))]; exact h.block k hk hn⟩
theorem Fr.one (w : World) (b i : Nat) (v : Value) : Fr (· = b) w (w.setCell ⟨b, i, none⟩ v) := (Fr.refl (· = b) w).setCell (p := ⟨b, i, none⟩) (fun _ => rfl) v
theorem Fr.grown {X : Nat → Prop} {a w w' : World} {row : Option Nat} (h : Fr X a w) (hg : w.grownBy w' row) (hr : ∀ k, row = some k → k < a.heap.size → X k) : Fr X a w' :=
  ⟨hg.os.trans h.os, hg.tape.trans h.tape, hg.output.trans h.output, Nat.le_trans h.size hg.size,
    fun k hk hn => (hg.block k (Nat.lt_of_lt_of_le hk h.size) (fun e => hn (hr k e.symm hk))).trans (h.block k hk hn)⟩

/-- The world with another object in block r. -/
def putObj (w : World) (r : Nat) (o : Obj) : World := { w with heap := w.heap.setIfInBounds r o }
theorem putObj_size (w : World) (r : Nat) (o : Obj) : (putObj w r o).heap.size = w.heap.size := by simp [putObj]
theorem putObj_same {w : World} {r : Nat} {o o' : Obj} (h : w.heap[r]? = some o) : (putObj w r o').heap[r]? = some o' := by
  have hlt := lt_of_block h
  simp [putObj, hlt]
theorem putObj_other (w : World) (r k : Nat) (o : Obj) (h : k ≠ r) : (putObj w r o).heap[k]? = w.heap[k]? := by
  simp [putObj, Ne.symm h]
theorem Fr.putObj {X : Nat → Prop} {a w : World} (h : Fr X a w) {r : Nat} (hp : r < a.heap.size → X r) (o : Obj) : Fr X a (putObj w r o) :=
  ⟨h.os, h.tape, h.output, by have := h.size; rw [putObj_size]; omega, fun k hk hn => by
    rw [putObj_other _ _ _ _ (by rintro rfl; exact hn (hp hk))]; exact h.block k hk hn⟩
theorem Fr.setRow {X : Nat → Prop} {a w : World} (h : Fr X a w) {r : Nat} (hp : r < a.heap.size → X r) (c : Array Value) : Fr X a (w.setRow r c) :=
  ⟨h.os, h.tape, h.output, by have := h.size; rw [setRow_size]; omega, fun k hk hn => by
    rw [setRow_other _ _ _ _ (by rintro rfl; exact hn (hp hk))]; exact h.block k hk hn⟩
theorem Fr.below {X : Nat → Prop} {w w' : World} (h : Fr X w w') {B : Nat} (hB : B ≤ w.heap.size) (hX : ∀ k, X k → B ≤ k) : Below B w w' :=
  ⟨h.os, h.tape, h.output, h.size, fun k hk => h.block k (by omega) (fun hx => by have := hX k hx; omega)⟩
theorem Fr.keep {X : Nat → Prop} {w w' : World} (h : Fr X w w') {b : Nat} {o : Obj} (hb : w.heap[b]? = some o) (hn : ¬ X b) : w'.heap[b]? = some o :=
  (h.block b (lt_of_block hb) hn).trans hb
theorem Fr.cell_eq {X : Nat → Prop} {w w' : World} (h : Fr X w w') {a : Addr} (ha : a.block < w.heap.size) (hn : ¬ X a.block) : w'.cell? a = w.cell? a := World.cell?_of_block (h.block a.block ha hn)
theorem Fr.cell {X : Nat → Prop} {w w' : World} (h : Fr X w w') {a : Addr} {v : Value} (hb : w.cell? a = some v) (hn : ¬ X a.block) : w'.cell? a = some v :=
  (World.cell?_of_block (h.block a.block (World.block_lt_of_cell? w a hb) hn)).trans hb

/-! ### blocks known whole -/
theorem blk_cell {w : World} {b : Nat} {c : Array Value} {t : TypeId} {f : Nat × Nat} (h : w.heap[b]? = some (.cells c t f)) : ∀ o, w.cell? ⟨b, o, none⟩ = c[o]? := by
  intro o; simp [World.cell?, h]
theorem blk_free {w : World} {b : Nat} {c : Array Value} {t : TypeId} (h : w.heap[b]? = some (.cells c t (0, 0))) : ∀ o, w.frozen? ⟨b, o, none⟩ = false := by
  intro o; simp [World.frozen?, h]
theorem blk_set {w : World} {b i : Nat} {c : Array Value} {t : TypeId} {f : Nat × Nat} (h : w.heap[b]? = some (.cells c t f)) (v : Value) : (w.setCell ⟨b, i, none⟩ v).heap[b]? = some (.cells (c.setIfInBounds i v) t f) := by
  have hlt := lt_of_block h
  simp only [World.setCell, Array.getElem?_modify, ↓reduceIte, h, Option.map_some]
  simp
theorem blk_set_other {w : World} {b k i : Nat} (h : k ≠ b) (v : Value) : (w.setCell ⟨b, i, none⟩ v).heap[k]? = w.heap[k]? := Below.heap_setCell _ _ _ _ h
theorem blk_new (w : World) (o : Obj) {n : Nat} (h : n = w.heap.size) : (w.alloc o).heap[n]? = some o := by subst h; exact heap_alloc_new w o
theorem blk_old {w : World} {b : Nat} (o : Obj) (h : b < w.heap.size) : (w.alloc o).heap[b]? = w.heap[b]? := Below.heap_alloc _ _ _ h
theorem blk_old_some {w : World} {b : Nat} {x : Obj} (h : w.heap[b]? = some x) (o : Obj) : (w.alloc o).heap[b]? = some x := (blk_old o (lt_of_block h)).trans h
theorem blk_ne {w : World} {b b' : Nat} {o o' : Obj} (h : w.heap[b]? = some o) (h' : w.heap[b']? = some o') (hne : o ≠ o') : b ≠ b' := by
  rintro rfl; rw [h] at h'; exact hne (Option.some.inj h')
theorem blk_ne_type {w : World} {b b' : Nat} {c c' : Array Value} {t t' : TypeId} {f f' : Nat × Nat} (h : w.heap[b]? = some (.cells c t f)) (h' : w.heap[b']? = some (.cells c' t' f')) (hne : t ≠ t') : b ≠ b' :=
  blk_ne h h' (fun e => hne (by cases e; rfl))
theorem blk_ne_map {w : World} {b b' : Nat} {c : Array Value} {t : TypeId} {f : Nat × Nat} {es : Array MapEntry} {k : Nat} (h : w.heap[b]? = some (.cells c t f)) (h' : w.heap[b']? = some (.map es k)) : b ≠ b' :=
  blk_ne h h' (fun e => by cases e)

theorem ret_eq {a b : Value} (h : a = b) : Ending.returned a = .returned b := by rw [h]
theorem ret_int {k : IntKind} {a b : Int} (h : a = b) : Ending.returned (.int k a) = .returned (.int k b) := by rw [h]
theorem ret_bool {a b : Bool} (h : a = b) : Ending.returned (.bool a) = .returned (.bool b) := by rw [h]
theorem take_snoc' {α : Type} {l : List α} {k : Nat} (h : k < l.length) : l.take (k + 1) = l.take k ++ [l[k]] := by
  rw [List.take_succ_eq_append_getElem h]

/-- A region that draws: n operations that only read, then a tail in a forced order; the world is spelled 'w.drew'. -/
theorem region_tail {P : Program} {id : Nat} {Q : Exit → Act → World → Prop} {a : Act} {w : World} {l : List Oper} (n : Nat) (hm : P.follows .mixedOrders = true) (hB : Region.lexTailB .any l.toArray n = true)
    (h : wpStill P l.toArray w.drew (fun a' => wpList P l.toArray Q (l.drop n) a' w.drew) (l.take n) a) : (Code.region id l.toArray true).wp P Q a w :=
  wp_region_still_tail n hm hB h

/-! ### a slice that is owned: 'ownsRow' from block 0 on, its block among X -/
def Sl (X : Nat → Prop) (w : World) (e : TypeId) (size : Nat) (v : Value) (n : Nat) (xs : List Value) : Prop :=
  w.ownsRow 0 e size v n xs ∧ ∀ k, v.ownBlock = some k → X k
theorem Sl.mono {X Y : Nat → Prop} {w : World} {e : TypeId} {size : Nat} {v : Value} {n : Nat} {xs : List Value} (h : Sl X w e size v n xs) (hXY : ∀ k, X k → Y k) : Sl Y w e size v n xs := ⟨h.1, fun k hk => hXY k (h.2 k hk)⟩
theorem ownsRow_fr {X : Nat → Prop} {w w' : World} (hf : Fr X w w') {e : TypeId} {size : Nat} {v : Value} {n : Nat} {xs : List Value} (h : w.ownsRow 0 e size v n xs) (hx : ∀ k, v.ownBlock = some k → ¬ X k) : w'.ownsRow 0 e size v n xs := by
  refine ⟨h.1, ?_⟩
  rcases h.2 with hn | ⟨g, cap, cur, rfl, hb, hgg, rest⟩
  · exact .inl hn
  · exact .inr ⟨g, cap, cur, rfl, hb, hf.keep hgg (hx g rfl), rest⟩
theorem Sl.fr {X Y : Nat → Prop} {w w' : World} {e : TypeId} {size : Nat} {v : Value} {n : Nat} {xs : List Value} (h : Sl Y w e size v n xs) (hf : Fr X w w') (hx : ∀ k, Y k → ¬ X k) : Sl Y w' e size v n xs :=
  ⟨ownsRow_fr hf h.1 (fun k hk => hx k (h.2 k hk)), h.2⟩
theorem Sl.nil (X : Nat → Prop) (w : World) (e : TypeId) (size : Nat) : Sl X w e size (.slice none 0 0) 0 [] := ⟨World.ownsRow_nil _ _ _ _, fun k h => by cases h⟩
theorem Sl.alloc {X : Nat → Prop} {w : World} {e : TypeId} {size : Nat} {v : Value} {n : Nat} {xs : List Value} (h : Sl X w e size v n xs) (o : Obj) : Sl X (w.alloc o) e size v n xs := ⟨h.1.alloc o, h.2⟩
theorem Sl.drew {X : Nat → Prop} {w : World} {e : TypeId} {size : Nat} {v : Value} {n : Nat} {xs : List Value} (h : Sl X w e size v n xs) : Sl X w.drew e size v n xs := ⟨h.1, h.2⟩
theorem Sl.setCell {X : Nat → Prop} {w : World} {e : TypeId} {size : Nat} {v : Value} {n : Nat} {xs : List Value} (h : Sl X w e size v n xs) {b i : Nat} (hb : v.ownBlock ≠ some b) (u : Value) : Sl X (w.setCell ⟨b, i, none⟩ u) e size v n xs :=
  ⟨ownsRow_fr (Fr.one w b i u) h.1 (fun _ hk e => hb (e ▸ hk)), h.2⟩
/-- The parts of a slice value that is owned. -/
theorem Sl.open {X : Nat → Prop} {w : World} {e : TypeId} {size : Nat} {v : Value} {n : Nat} {xs : List Value} (h : Sl X w e size v n xs) :
    ∃ a c, v = .slice a n c ∧ n ≤ c ∧ c ≤ maxLen ∧ xs.length = n * size ∧ (n = 0 ∨ ∃ g, a = some ⟨g, 0, none⟩ ∧ X g ∧ g < w.heap.size ∧ ∀ j u, xs[j]? = some u → w.cell? ⟨g, j, none⟩ = some u) := by
  rcases h.1.2 with ⟨rfl, rfl⟩ | ⟨g, cap, cur, rfl, _, hg, hnc, hcm, hcs, ht⟩
  · exact ⟨none, 0, rfl, Nat.le_refl _, Nat.zero_le _, h.1.1, .inl rfl⟩
  · refine ⟨_, cap, rfl, hnc, hcm, h.1.1, .inr ⟨g, rfl, h.2 g rfl, lt_of_block hg, fun j u hu => ?_⟩⟩
    have := h.1.cells (g := g) rfl j u hu
    have hadd : (⟨g, 0, none⟩ : Addr).add j = ⟨g, j, none⟩ := by unfold Addr.add; split <;> simp_all
    rwa [hadd] at this
theorem Sl.len {X : Nat → Prop} {w : World} {e : TypeId} {size : Nat} {v : Value} {n : Nat} {xs : List Value} (h : Sl X w e size v n xs) : xs.length = n * size := h.1.1
theorem Sl.lt {X : Nat → Prop} {w : World} {e : TypeId} {size : Nat} {v : Value} {n : Nat} {xs : List Value} (h : Sl X w e size v n xs) : ∀ k, v.ownBlock = some k → k < w.heap.size := fun k hk => (h.1.lt k hk).2
/-- A cell of the row is written. -/
theorem Sl.put {X : Nat → Prop} {w : World} {e : TypeId} {size : Nat} {v : Value} {n : Nat} {xs : List Value} (h : Sl X w e size v n xs) {g j : Nat} (hg : v.ownBlock = some g) (_ : j < xs.length) (u : Value) : Sl X (w.setCell ⟨g, j, none⟩ u) e size v n (xs.set j u) := by
  rcases h.1.2 with ⟨rfl, rfl⟩ | ⟨g', cap, cur, rfl, hb, hgg, hnc, hcm, hcs, ht⟩
  · cases hg
  · simp only [Value.ownBlock, Option.some.injEq] at hg
    subst hg
    refine ⟨⟨by simpa using h.1.1, .inr ⟨g', cap, cur.setIfInBounds j u, rfl, hb, blk_set hgg u, hnc, hcm, by simpa using hcs, ?_⟩⟩, h.2⟩
    rw [Array.toList_setIfInBounds, ← ht, List.take_set]
/-- The block that is owned is a row of its type. -/
theorem Sl.row {X : Nat → Prop} {w : World} {e : TypeId} {size : Nat} {v : Value} {n : Nat} {xs : List Value} (h : Sl X w e size v n xs) {k : Nat} (hk : v.ownBlock = some k) : ∃ c, w.heap[k]? = some (.cells c e (0, 0)) := by
  rcases h.1.2 with ⟨rfl, rfl⟩ | ⟨g, cap, cur, rfl, _, hg, _⟩
  · cases hk
  · cases hk; exact ⟨cur, hg⟩
theorem news_new (w : World) (c : List Value) (t : TypeId) : ∀ j u, c[j]? = some u → (w.alloc (.cells c.toArray t)).cell? ((⟨w.heap.size, 0, none⟩ : Addr).add j) = some u := by
  intro j u h
  have hadd : (⟨w.heap.size, 0, none⟩ : Addr).add j = ⟨w.heap.size, j, none⟩ := by unfold Addr.add; split <;> simp_all
  rw [hadd, blk_cell (blk_new w (.cells c.toArray t) rfl)]
  simpa using h
theorem news_at {n : Nat} (w : World) (c : List Value) (t : TypeId) (h : n = w.heap.size) : ∀ j u, c[j]? = some u → (w.alloc (.cells c.toArray t)).cell? ((⟨n, 0, none⟩ : Addr).add j) = some u := by subst h; exact news_new w c t
/-- What an append leaves: the value .slice a' (n + m) c'. -/
structure Appd (X : Nat → Prop) (w : World) (e : TypeId) (size : Nat) (v : Value) (n m : Nat) (xs news : List Value) (a' : Option Addr) (c' : Nat) (w' : World) : Prop where
  sl : Sl (fun k => X k ∨ (w.heap.size ≤ k ∧ k < w'.heap.size)) w' e size (.slice a' (n + m) c') (n + m) (xs ++ news)
  fr : Fr (fun k => v.ownBlock = some k) w w'
  own : ∀ k, (Value.slice a' (n + m) c').ownBlock = some k → v.ownBlock = some k ∨ w.heap.size ≤ k
  some : 0 < m → a' ≠ none
  old : v ≠ .slice none 0 0 → a' ≠ none
/-- append: the row is written in place, or a new one is made. -/
theorem run_append_sl {P : Program} (w : World) {X : Nat → Prop} (t ty e : TypeId) {z : Value} {size bytes : Nat} (ht : P.underlying t = some (.slice e)) (hinfo : (P.info? e).map (fun i => (i.zero, i.size, i.bytes)) = some (some z, size, bytes)) (hzs : z.cells.size = size) (hsz : 0 < size)
    {v : Value} {n : Nat} {xs : List Value} (h : Sl X w e size v n xs) (ad : Addr) (m c : Nat) (news : List Value) (hl : news.length = m * size) (hnews : ∀ j u, news[j]? = some u → w.cell? (ad.add j) = some u) (h1 : ∀ u ∈ news, u.oneCell' = true)
    (h63 : n + m ≤ maxLen) (hbytes : (n + m) * bytes ≤ 140737488355328) :
    ∃ a' c' w', (Builtin.append_ #[t, t] ty #[v, .slice (some ad) m c]).run P w = .ok (.slice a' (n + m) c') w' ∧ Appd X w e size v n m xs news a' c' w' := by
  obtain ⟨i, hi, hz, hs, hby⟩ := info_parts hinfo
  subst hs
  subst hby
  have hsmall : n + m ≤ 9223372036854775807 := by simp only [maxLen] at h63; omega
  have hlen : (xs ++ news).length = (n + m) * i.size := by rw [List.length_append, h.1.1, hl, Nat.add_mul]
  have grown : ∀ (old : Nat), old < n + m →
      Sl (fun k => X k ∨ (w.heap.size ≤ k ∧ k < (w.drew.alloc (.cells (xs.toArray ++ news.toArray ++ Builtin.zeroCells z.cells (grownCap w (n + m) old e - (n + m))) e)).heap.size)) (w.drew.alloc (.cells (xs.toArray ++ news.toArray ++ Builtin.zeroCells z.cells (grownCap w (n + m) old e - (n + m))) e)) e i.size
        (.slice (some ⟨w.heap.size, 0, none⟩) (n + m) (grownCap w (n + m) old e)) (n + m) (xs ++ news) := by
    intro old ho
    have hge := grownCap_ge w (n + m) old e
    have hcm : grownCap w (n + m) old e ≤ maxLen := grownCap_le_maxLen w (n + m) old e h63
    refine ⟨⟨hlen, .inr ⟨w.heap.size, _, _, rfl, Nat.zero_le _, heap_alloc_new w.drew _, hge, hcm, ?_, ?_⟩⟩, fun k hk => ?_⟩
    · simp only [Array.size_append, List.size_toArray, size_zeroCells, hzs, h.1.1, hl, ← Nat.add_mul]
      congr 1
      omega
    · simp only [Array.toList_append, List.append_assoc]
      rw [← List.append_assoc, ← hlen]
      exact List.take_left
    · simp only [Value.ownBlock, Option.some.injEq] at hk
      subst hk
      exact .inr ⟨Nat.le_refl _, by simp⟩
  rcases h.1.2 with ⟨rfl, rfl⟩ | ⟨g, cap, cur, rfl, _, hg, hnc, hcm, hcs, htake⟩
  · have hx : xs = [] := List.eq_nil_of_length_eq_zero (by simpa using h.1.1)
    subst hx
    by_cases hm : m = 0
    · subst hm
      have hn : news = [] := List.eq_nil_of_length_eq_zero (by simpa using hl)
      subst hn
      refine ⟨none, 0, w, ?_, Sl.nil _ _ _ _, Fr.refl _ _, fun k hk => by simp [Value.ownBlock] at hk, fun h => absurd h (Nat.lt_irrefl _), fun h => absurd rfl h⟩
      simp [Builtin.append_, run_underlying ht, sizeOf, typeInfo, hi, Builtin.lenOf, Builtin.firstCells, loadCells, loadCellsFrom]
    · have hr := run_append_nil (P := P) w t ty e i z ht hi hz ad m c news hl hnews (by omega) (by omega) (by have hb := hbytes; simp only [Nat.zero_add] at hb; omega)
      have hgr := grown 0 (by omega)
      simp only [Nat.zero_add, List.nil_append, Array.empty_append] at hgr ⊢
      refine ⟨some ⟨w.heap.size, 0, none⟩, grownCap w m 0 e, _, hr, ⟨?_, ((Fr.refl _ _).drew).alloc _, fun k hk => .inr (by simp [Value.ownBlock] at hk; omega), fun _ => by simp, fun _ => by simp⟩⟩
      rw [Nat.zero_add, List.nil_append]; exact hgr
  · by_cases hroom : n + m ≤ cap
    · have hfit : n * i.size + news.length ≤ cur.size := by rw [hl, hcs, ← Nat.add_mul]; exact Nat.mul_le_mul_right _ hroom
      have hr := run_append_room (P := P) w t ty e i ht hi g n cap cur hg ad m c news hl hnews h1 hroom hfit
      refine ⟨_, _, _, hr, ⟨⟨hlen, .inr ⟨g, cap, _, rfl, Nat.zero_le _, setRow_heap w g cur _ e _ hg, hroom, hcm, ?_, ?_⟩⟩, fun k hk => .inl (h.2 k hk)⟩, (Fr.refl (fun k => (Value.slice (some ⟨g, 0, none⟩) n cap).ownBlock = some k) w).setRow (r := g) (fun _ => rfl) _, fun k hk => .inl hk, fun _ => by simp, fun _ => by simp⟩
      · simp only [List.size_toArray, List.length_append, List.length_take, List.length_drop, Array.length_toList]
        omega
      · rw [htake, ← hlen]
        exact List.take_left
    · have holds : ∀ j u, xs[j]? = some u → w.cell? ((⟨g, 0, none⟩ : Addr).add j) = some u := h.1.cells (g := g) rfl
      have hr := run_append_grow (P := P) w t ty e i z ht hi hz ⟨g, 0, none⟩ n cap xs h.1.1 holds ad m c news hl hnews (by omega) (by omega) (growslice_fits (by omega) hbytes)
      exact ⟨_, _, _, hr, grown cap (by omega), ((Fr.refl _ _).drew).alloc _, fun k hk => .inr (by simp [Value.ownBlock] at hk; omega), fun _ => by simp, fun _ => by simp⟩
/-- The same inside a region that draws ('go_region_held3'). -/
theorem step_append_sl {P : Program} {w : World} {ops : Array Oper} {o : Oper} {a : Act} {K : Act → World → Prop} {Q : Exit → Act → World → Prop} {E : Prop} (hgd : o.guard = none) (s x : Operand) (t : TypeId)
    (ho : o.op = .call { callee := .builtin .append, args := #[s, x], argTypes := #[t, t] }) {X : Nat → Prop} (e : TypeId) {z : Value} {size bytes : Nat} (ht : P.underlying t = some (.slice e)) (hinfo : (P.info? e).map (fun i => (i.zero, i.size, i.bytes)) = some (some z, size, bytes)) (hzs : z.cells.size = size) (hsz : 0 < size)
    {v : Value} {n : Nat} {xs : List Value} (hs : a.eval s = v) (h : Sl X w e size v n xs) (ad : Addr) (m c : Nat) (news : List Value) (hx : a.eval x = .slice (some ad) m c) (hl : news.length = m * size) (hnews : ∀ j u, news[j]? = some u → w.cell? (ad.add j) = some u) (h1 : ∀ u ∈ news, u.oneCell' = true)
    (h63 : n + m ≤ maxLen) (hbytes : (n + m) * bytes ≤ 140737488355328)
    (hK : ∀ a' c' w', Appd X w e size v n m xs news a' c' w' → K (a.put o.dst (.slice a' (n + m) c')) w') : if Region.wanted o (yielded ops a.tmps) = true then Oper.wp P o a w K Q else E := by
  rw [if_pos (by simp [Region.wanted, hgd])]
  obtain ⟨a', c', w', hr, h2⟩ := run_append_sl (P := P) w t o.type e ht hinfo hzs hsz h ad m c news hl hnews h1 h63 hbytes
  unfold Oper.wp execOp
  simp only [ho, resolve, invoke, builtin, Sem.run_bind, Sem.run_pure, Result.andThen_ok, List.map_toArray, List.map_cons, List.map_nil, hs, hx, hr]
  exact hK a' c' w' h2
theorem wpList_append_sl {P : Program} (w : World) {ops : Array Oper} {rest : List Oper} {o : Oper} {a : Act} {Q : Exit → Act → World → Prop} (hgd : o.guard = none) (s x : Operand) (t : TypeId)
    (ho : o.op = .call { callee := .builtin .append, args := #[s, x], argTypes := #[t, t] }) {X : Nat → Prop} (e : TypeId) {z : Value} {size bytes : Nat} (ht : P.underlying t = some (.slice e)) (hinfo : (P.info? e).map (fun i => (i.zero, i.size, i.bytes)) = some (some z, size, bytes)) (hzs : z.cells.size = size) (hsz : 0 < size)
    {v : Value} {n : Nat} {xs : List Value} (hs : a.eval s = v) (h : Sl X w e size v n xs) (ad : Addr) (m c : Nat) (news : List Value) (hx : a.eval x = .slice (some ad) m c) (hl : news.length = m * size) (hnews : ∀ j u, news[j]? = some u → w.cell? (ad.add j) = some u) (h1 : ∀ u ∈ news, u.oneCell' = true)
    (h63 : n + m ≤ maxLen) (hbytes : (n + m) * bytes ≤ 140737488355328)
    (hK : ∀ a' c' w', Appd X w e size v n m xs news a' c' w' → wpList P ops Q rest (a.put o.dst (.slice a' (n + m) c')) w') : wpList P ops Q (o :: rest) a w :=
  wpList_plain hgd fun K hK' => by
    obtain ⟨a', c', w', hr, h2⟩ := run_append_sl (P := P) w t o.type e ht hinfo hzs hsz h ad m c news hl hnews h1 h63 hbytes
    unfold Oper.wp execOp
    simp only [ho, resolve, invoke, builtin, Sem.run_bind, Sem.run_pure, Result.andThen_ok, List.map_toArray, List.map_cons, List.map_nil, hs, hx, hr]
    exact hK' _ _ (hK a' c' w' h2)

/-- clear over cells of a row that may be written. -/
theorem run_clear_cells {P : Program} {mt e ty : TypeId} {z : Value} (hmt : P.underlying mt = some (.slice e)) (hz : ∀ w, (zeroValue e).run P w = .ok z w) (hz1 : ∀ u ∈ z.cells.toList, u.oneCell' = true) {w : World} {g o m c : Nat} {cur : Array Value} (hg : w.heap[g]? = some (.cells cur e (0, 0)))
    (hfit : o + m * z.cells.size ≤ cur.size) :
    ∃ cur', (Builtin.clear_ #[mt] ty #[.slice (some ⟨g, o, none⟩) m c]).run P w = .ok (.tuple #[]) (w.setRow g cur') ∧ cur'.size = cur.size ∧ cur'.toList.take o = cur.toList.take o := by
  by_cases hm : m = 0
  · subst hm
    refine ⟨cur, ?_, rfl, rfl⟩
    rw [setRow_self w g cur e (0, 0) hg]
    unfold Builtin.clear_
    simp [run_underlying hmt]
  · have hsz : (Builtin.zeroCells z.cells m).toList.length = m * z.cells.size := by simp [size_zeroCells]
    have hst := run_storeCells_at P g o e (Builtin.zeroCells z.cells m).toList 0 cur w hg (by rw [hsz]; omega) (by
      intro u hu
      simp only [Builtin.zeroCells, Array.toList_map, List.mem_map] at hu
      obtain ⟨i, hi, rfl⟩ := hu
      have hpos : 0 < z.cells.size := by
        rcases Nat.eq_zero_or_pos z.cells.size with h | h
        · simp [h] at hi
        · exact h
      have hlt := Nat.mod_lt i hpos
      exact hz1 _ (by rw [getElem!_pos z.cells _ hlt]; simp))
    simp only [Nat.add_zero] at hst
    refine ⟨(cur.toList.take o ++ (Builtin.zeroCells z.cells m).toList ++ cur.toList.drop (o + (Builtin.zeroCells z.cells m).toList.length)).toArray, ?_, ?_, ?_⟩
    rotate_left 2
    · rw [List.append_assoc, List.take_append_of_le_length (by simp; omega), List.take_take, Nat.min_self]
    · unfold Builtin.clear_
      cases m with
      | zero => exact absurd rfl hm
      | succ m => simp [run_underlying hmt, hz, hst]
    · simp only [List.size_toArray, List.length_append, List.length_take, List.length_drop, hsz, Array.length_toList]; omega

/-! ### maps whose keys are images of a plain type -/
section
variable {α : Type}
/-- A kind of key: 'f a' the key of a; where 'ok' holds in a world, equality is as that of the plain type. -/
structure KeyFn [DecidableEq α] (P : Program) (kt : TypeId) (f : α → Value) (ok : World → α → Prop) : Prop where
  under : ∃ d, P.underlying kt = some d ∧ ∀ a b r, Instr.sameNow d (f a) (f b) = some r → r = decide (a = b)
  eq : ∀ w a b, ok w a → ok w b → (Op.equal kt (f a) (f b)).run P w = .ok (decide (a = b)) w
  check : ∀ w a e, (Instr.checkKey e 10000 kt (f a)).run P w = .ok () w
  bits : ∀ a, Instr.sameBits 10000 (f a) (f a) = true

def Ents (f : α → Value) (es : List MapEntry) (l : List (α × Value)) : Prop := es.map (fun e => (e.key, e.val)) = l.map (fun p => (f p.1, p.2))
/-- Block r is a map with these entries, in this order. -/
def MapIs (w : World) (r : Nat) (f : α → Value) (l : List (α × Value)) : Prop := ∃ es clock, w.heap[r]? = some (.map es clock) ∧ Ents f es.toList l
def mpos [DecidableEq α] (a : α) : List (α × Value) → Nat → Option (Nat × Value)
  | [], _ => none
  | p :: t, i => if a = p.1 then some (i, p.2) else mpos a t (i + 1)
def mget [DecidableEq α] (a : α) : List (α × Value) → Option Value
  | [] => none
  | p :: t => if a = p.1 then some p.2 else mget a t
def mput [DecidableEq α] (a : α) (v : Value) : List (α × Value) → List (α × Value)
  | [] => [(a, v)]
  | p :: t => if a = p.1 then (a, v) :: t else p :: mput a v t
def mdel [DecidableEq α] (a : α) : List (α × Value) → List (α × Value)
  | [] => []
  | p :: t => if a = p.1 then t else p :: mdel a t
theorem mpos_get [DecidableEq α] (a : α) : ∀ (l : List (α × Value)) (i : Nat), (mpos a l i).map (·.2) = mget a l
  | [], _ => rfl
  | p :: t, i => by
    simp only [mpos, mget]; split
    · rfl
    · exact mpos_get a t (i + 1)
theorem mpos_none [DecidableEq α] {a : α} {l : List (α × Value)} {i : Nat} : mpos a l i = none ↔ mget a l = none := by
  rw [← mpos_get a l i]; simp
theorem mget_none [DecidableEq α] {a : α} : ∀ {l : List (α × Value)}, mget a l = none ↔ ∀ p ∈ l, a ≠ p.1
  | [] => by simp [mget]
  | p :: t => by
    simp only [mget]; split
    · simp_all
    · rw [mget_none]; simp_all
theorem mput_new [DecidableEq α] {a : α} {v : Value} : ∀ {l : List (α × Value)}, (∀ p ∈ l, a ≠ p.1) → mput a v l = l ++ [(a, v)]
  | [], _ => rfl
  | p :: t, h => by
    simp only [mput, if_neg (h p (by simp)), List.cons_append]
    rw [mput_new (fun q hq => h q (by simp [hq]))]
variable {P : Program} {kt : TypeId} {f : α → Value} {ok : World → α → Prop}
theorem run_findAsking [DecidableEq α] (K : KeyFn P kt f ok) (w : World) (a : α) (ha : ok w a) : ∀ (es : List MapEntry) (l : List (α × Value)) (i : Nat), Ents f es l → (∀ p ∈ l, ok w p.1) →
    (Instr.findAsking kt (f a) es i).run P w = .ok (mpos a l i) w
  | [], [], i, _, _ => rfl
  | [], p :: t, i, h, _ => by cases h
  | e :: es, [], i, h, _ => by cases h
  | e :: es, p :: t, i, h, hok => by
    simp only [Ents, List.map_cons, List.cons.injEq, Prod.mk.injEq] at h
    obtain ⟨⟨h1, h2⟩, h3⟩ := h
    have hp := hok p (by simp)
    have ih := run_findAsking K w a ha es t (i + 1) h3 (fun q hq => hok q (by simp [hq]))
    unfold Instr.findAsking
    simp only [Sem.run_bind, h1, K.eq w a p.1 ha hp, Result.andThen_ok, mpos]
    by_cases hap : a = p.1
    · simp [hap, h2]
    · simp [hap, ih]
theorem findNow_some [DecidableEq α] (d : TypeDesc) (hd : ∀ a b r, Instr.sameNow d (f a) (f b) = some r → r = decide (a = b)) (a : α) : ∀ (es : List MapEntry) (l : List (α × Value)) (i : Nat) (r : Option (Nat × Value)), Ents f es l →
    Instr.findNow d (f a) es i = some r → r = mpos a l i
  | [], [], i, r, _, h => by simpa [Instr.findNow, mpos] using h.symm
  | [], p :: t, i, _, h, _ => by cases h
  | e :: es, [], i, _, h, _ => by cases h
  | e :: es, p :: t, i, r, h, hr => by
    simp only [Ents, List.map_cons, List.cons.injEq, Prod.mk.injEq] at h
    obtain ⟨⟨h1, h2⟩, h3⟩ := h
    simp only [Instr.findNow, h1] at hr
    have hd' := hd a p.1
    cases hs : Instr.sameNow d (f a) (f p.1) with
    | none => simp [hs] at hr
    | some b =>
      have hb := hd' b hs
      cases b with
      | true =>
        have : a = p.1 := by simpa using hb.symm
        simp [hs] at hr
        simp [mpos, this, ← hr, h2]
      | false =>
        have : ¬ a = p.1 := by simpa using hb.symm
        simp [hs] at hr
        simp only [mpos, if_neg this]
        exact findNow_some d hd a es t (i + 1) r h3 hr
theorem run_findKey [DecidableEq α] (K : KeyFn P kt f ok) (w : World) (a : α) (ha : ok w a) (es : List MapEntry) (l : List (α × Value)) (h : Ents f es l) (hok : ∀ p ∈ l, ok w p.1) :
    (Instr.findKey kt (f a) es).run P w = .ok (mpos a l 0) w := by
  obtain ⟨d, hd, hs⟩ := K.under
  unfold Instr.findKey
  simp only [Sem.run_bind, run_underlying hd, Result.andThen_ok]
  cases hf : Instr.findNow d (f a) es 0 with
  | some r => simp [findNow_some d hs a es l 0 r h hf]
  | none => exact run_findAsking K w a ha es l 0 h hok
theorem run_getObj_map {w : World} {r : Nat} {es : Array MapEntry} {clock : Nat} (hb : w.heap[r]? = some (.map es clock)) : (getObj r).run P w = .ok (.map es clock) w := by
  simp [getObj, Sem.run, hb]
theorem run_setObj_put {w : World} {r : Nat} {es : Array MapEntry} {clock : Nat} (o : Obj) (hb : w.heap[r]? = some (.map es clock)) : (setObj r o).run P w = .ok () (putObj w r o) := by
  simp [setObj, Sem.run, hb, putObj]
theorem run_lookup_key [DecidableEq α] {et mt : TypeId} (K : KeyFn P kt f ok) (w : World) {r : Nat} {l : List (α × Value)} (hm : MapIs w r f l) (hmt : P.underlying mt = some (.map kt et)) {z : Value} (hz : (zeroValue et).run P w = .ok z w) (a : α) (ha : ok w a) (hok : ∀ p ∈ l, ok w p.1) :
    (Instr.lookup mt (.map (some r)) (f a) false).run P w = .ok ((mget a l).getD z) w := by
  obtain ⟨es, clock, hb, he⟩ := hm
  unfold Instr.lookup
  have hk := run_findKey K w a ha es.toList l he hok
  simp only [Sem.run_bind, run_underlying hmt, Result.andThen_ok, run_getObj_map hb, Sem.run_pure, K.check, hk]
  rw [← mpos_get a l 0]
  cases mpos a l 0 with
  | none => simp [hz]
  | some x => simp
theorem Ents.put [DecidableEq α] {es : Array MapEntry} {l : List (α × Value)} (h : Ents f es.toList l) (a : α) (v : Value) (clock : Nat) :
    match mpos a l 0 with
    | some (i, _) => Ents f (es.modify i fun e => { e with key := f a, val := v }).toList (mput a v l)
    | none => Ents f (es.push { key := f a, val := v, born := clock }).toList (mput a v l) := by
  have key : ∀ (es : List MapEntry) (l : List (α × Value)) (i0 : Nat), Ents f es l →
    match mpos a l i0 with
    | some (i, _) => i0 ≤ i ∧ Ents f (es.modify (i - i0) fun e => { e with key := f a, val := v }) (mput a v l)
    | none => Ents f (es ++ [{ key := f a, val := v, born := clock }]) (mput a v l) := by
    intro es
    induction es with
    | nil => intro l i0 h; cases l with
      | nil => simp [mpos, mput, Ents]
      | cons p t => cases h
    | cons e es ih => intro l i0 h; cases l with
      | nil => cases h
      | cons p t =>
        simp only [Ents, List.map_cons, List.cons.injEq, Prod.mk.injEq] at h
        obtain ⟨⟨h1, h2⟩, h3⟩ := h
        simp only [mpos, mput]
        by_cases hap : a = p.1
        · simp [hap, Ents, h3]
        · simp only [if_neg hap]
          have := ih t (i0 + 1) h3
          cases hm : mpos a t (i0 + 1) with
          | none => rw [hm] at this; simp only [Ents] at this ⊢; simp [h1, h2, this] 
          | some x =>
            rw [hm] at this
            obtain ⟨h4, h5⟩ := this
            refine ⟨by omega, ?_⟩
            obtain ⟨k, hk⟩ : ∃ k, x.1 - i0 = k + 1 := ⟨x.1 - i0 - 1, by omega⟩
            rw [hk]
            rw [show x.1 - (i0 + 1) = k from by omega] at h5
            simp only [Ents, List.modify_succ_cons, List.map_cons, h1, h2] at h5 ⊢
            rw [h5]
  have := key es.toList l 0 h
  cases hm : mpos a l 0 with
  | none => rw [hm] at this; simpa using this
  | some x => rw [hm] at this; simpa using this.2
theorem Ents.del [DecidableEq α] {es : Array MapEntry} {l : List (α × Value)} (h : Ents f es.toList l) (a : α) :
    match mpos a l 0 with
    | some (i, _) => Ents f (es.eraseIdxIfInBounds i).toList (mdel a l)
    | none => Ents f es.toList (mdel a l) := by
  have key : ∀ (es : List MapEntry) (l : List (α × Value)) (i0 : Nat), Ents f es l →
    match mpos a l i0 with
    | some (i, _) => i0 ≤ i ∧ Ents f (es.eraseIdx (i - i0)) (mdel a l)
    | none => Ents f es (mdel a l) := by
    intro es
    induction es with
    | nil => intro l i0 h; cases l with
      | nil => simp [mpos, mdel, Ents]
      | cons p t => cases h
    | cons e es ih => intro l i0 h; cases l with
      | nil => cases h
      | cons p t =>
        simp only [Ents, List.map_cons, List.cons.injEq, Prod.mk.injEq] at h
        obtain ⟨⟨h1, h2⟩, h3⟩ := h
        simp only [mpos, mdel]
        by_cases hap : a = p.1
        · simp [hap, Ents, h3]
        · simp only [if_neg hap]
          have := ih t (i0 + 1) h3
          cases hm : mpos a t (i0 + 1) with
          | none => rw [hm] at this; simp only [Ents] at this ⊢; simp [h1, h2, this] 
          | some x =>
            rw [hm] at this
            obtain ⟨h4, h5⟩ := this
            refine ⟨by omega, ?_⟩
            obtain ⟨k, hk⟩ : ∃ k, x.1 - i0 = k + 1 := ⟨x.1 - i0 - 1, by omega⟩
            rw [hk]
            rw [show x.1 - (i0 + 1) = k from by omega] at h5
            simp only [Ents, List.eraseIdx_cons_succ, List.map_cons, h1, h2] at h5 ⊢
            rw [h5]
  have := key es.toList l 0 h
  cases hm : mpos a l 0 with
  | none => rw [hm] at this; simpa using this
  | some x => rw [hm] at this; have h2 := this.2; simp only [Array.eraseIdxIfInBounds]; split
              · simpa using h2
              · rename_i hn; rw [Nat.sub_zero, List.eraseIdx_of_length_le (by simpa using hn)] at h2; exact h2
theorem run_mapUpdate_key [DecidableEq α] {et mt : TypeId} (K : KeyFn P kt f ok) (w : World) {r : Nat} {l : List (α × Value)} (hm : MapIs w r f l) (hmt : P.underlying mt = some (.map kt et)) (a : α) (ha : ok w a) (hok : ∀ p ∈ l, ok w p.1) (v : Value) :
    ∃ o, (Instr.mapUpdate mt (.map (some r)) (f a) v).run P w = .ok () (putObj w r o) ∧ MapIs (putObj w r o) r f (mput a v l) := by
  obtain ⟨es, clock, hb, he⟩ := hm
  unfold Instr.mapUpdate
  have hk := run_findKey K w a ha es.toList l he hok
  have hput := Ents.put he a v clock
  simp only [Sem.run_bind, run_underlying hmt, Result.andThen_ok, run_getObj_map hb, K.check, hk]
  cases hm : mpos a l 0 with
  | none =>
    rw [hm] at hput
    refine ⟨_, run_setObj_put _ hb, _, _, putObj_same hb, hput⟩
  | some x =>
    rw [hm] at hput
    have hkey : ∃ u, (es[x.1]?).map (·.key) = some u ∧ u = f a := by
      have : ∀ (es : List MapEntry) (l : List (α × Value)) (i0 : Nat), Ents f es l → ∀ x, mpos a l i0 = some x → i0 ≤ x.1 ∧ (es[x.1 - i0]?).map (·.key) = some (f a) := by
        intro es
        induction es with
        | nil => intro l i0 h x hx; cases l with
          | nil => cases hx
          | cons p t => cases h
        | cons e es ih => intro l i0 h x hx; cases l with
          | nil => cases h
          | cons p t =>
            simp only [Ents, List.map_cons, List.cons.injEq, Prod.mk.injEq] at h
            obtain ⟨⟨h1, h2⟩, h3⟩ := h
            simp only [mpos] at hx
            by_cases hap : a = p.1
            · simp only [if_pos hap, Option.some.injEq] at hx
              subst hx
              simp [h1, hap]
            · rw [if_neg hap] at hx
              obtain ⟨h4, h5⟩ := ih t (i0 + 1) h3 x hx
              refine ⟨by omega, ?_⟩
              obtain ⟨k, hk⟩ : ∃ k, x.1 - i0 = k + 1 := ⟨x.1 - i0 - 1, by omega⟩
              rw [hk]
              rw [show x.1 - (i0 + 1) = k from by omega] at h5
              simpa using h5
      have h := (this es.toList l 0 he x hm).2
      exact ⟨_, by simpa using h, rfl⟩
    obtain ⟨u, hu, rfl⟩ := hkey
    have hstay : (Instr.keyThatStays (f a) (f a)).run P w = .ok (f a) w := by simp [Instr.keyThatStays, K.bits]
    refine ⟨.map (es.modify x.1 fun e => { e with key := f a, val := v }) clock, ?_, _, _, putObj_same hb, hput⟩
    simp only [hu, Option.getD_some, Sem.run_bind, hstay, Result.andThen_ok]
    exact run_setObj_put _ hb
theorem run_delete_key [DecidableEq α] {et mt ty kt' : TypeId} (K : KeyFn P kt f ok) (w : World) {r : Nat} {l : List (α × Value)} (hm : MapIs w r f l) (hmt : P.underlying mt = some (.map kt et)) (a : α) (ha : ok w a) (hok : ∀ p ∈ l, ok w p.1) :
    ∃ o, (Builtin.delete_ #[mt, kt'] ty #[.map (some r), f a]).run P w = .ok (.tuple #[]) (putObj w r o) ∧ MapIs (putObj w r o) r f (mdel a l) := by
  obtain ⟨es, clock, hb, he⟩ := hm
  unfold Builtin.delete_
  have hk := run_findKey K w a ha es.toList l he hok
  have hdel := Ents.del he a
  simp only [List.getElem?_toArray, List.getElem?_cons_zero, List.getElem?_cons_succ, Sem.run_bind, run_underlying hmt, Result.andThen_ok, run_getObj_map hb, K.check, hk]
  cases hm : mpos a l 0 with
  | none =>
    rw [hm] at hdel
    exact ⟨.map es clock, by simp [run_setObj_put _ hb], _, _, putObj_same hb, hdel⟩
  | some x =>
    rw [hm] at hdel
    exact ⟨.map (es.eraseIdxIfInBounds x.1) clock, by simp [run_setObj_put _ hb], _, _, putObj_same hb, hdel⟩
/-- What a store into a map leaves. -/
structure Mapd (f : α → Value) (w : World) (r : Nat) (l : List (α × Value)) (w' : World) : Prop where
  is : MapIs w' r f l
  fr : Fr (· = r) w w'
  size : w'.heap.size = w.heap.size
theorem wpList_mapUpdate_key [DecidableEq α] {et mt : TypeId} (K : KeyFn P kt f ok) (w : World) {ops : Array Oper} {rest : List Oper} {o : Oper} {a : Act} {Q : Exit → Act → World → Prop}
    (hg : o.guard = none) (m x v : Operand) (hop : o.op = Op.mapUpdate mt m x v) {r : Nat} {l : List (α × Value)} (hm : a.eval m = .map (some r)) (h : MapIs w r f l) (hmt : P.underlying mt = some (.map kt et)) (k : α) (hx : a.eval x = f k) (ha : ok w k) (hok : ∀ p ∈ l, ok w p.1) (val : Value) (hv : a.eval v = val)
    (hK : ∀ w', Mapd f w r (mput k val l) w' → wpList P ops Q rest (a.put o.dst undef) w') : wpList P ops Q (o :: rest) a w := by
  refine wpList_plain hg fun K' hK' => ?_
  obtain ⟨ob, hrun, hm'⟩ := run_mapUpdate_key K w h hmt k ha hok val
  unfold Oper.wp
  simp [execOp, hop, hm, hx, hv, hrun, Result.andThen]
  exact hK' _ _ (hK _ ⟨hm', (Fr.refl (· = r) w).putObj (fun _ => rfl) _, putObj_size _ _ _⟩)
theorem MapIs.fr {X : Nat → Prop} {w w' : World} {r : Nat} {l : List (α × Value)} (h : MapIs w r f l) (hf : Fr X w w') (hx : ¬ X r) : MapIs w' r f l := by
  obtain ⟨es, clock, hb, he⟩ := h
  exact ⟨es, clock, hf.keep hb hx, he⟩
theorem MapIs.lt {w : World} {r : Nat} {l : List (α × Value)} (h : MapIs w r f l) : r < w.heap.size := by
  obtain ⟨es, clock, hb, he⟩ := h
  exact lt_of_block hb
theorem MapIs.ne {w : World} {r b : Nat} {l : List (α × Value)} (h : MapIs w r f l) {c : Array Value} {t : TypeId} {fr : Nat × Nat} (hb : w.heap[b]? = some (.cells c t fr)) : b ≠ r := by
  obtain ⟨es, clock, hm, he⟩ := h
  exact blk_ne_map hb hm
theorem run_clear_map {mt kt' et ty : TypeId} (w : World) {r : Nat} {l : List (α × Value)} (hm : MapIs w r f l) (hmt : P.underlying mt = some (.map kt' et)) :
    ∃ o, (Builtin.clear_ #[mt] ty #[.map (some r)]).run P w = .ok (.tuple #[]) (putObj w r o) ∧ MapIs (putObj w r o) r f [] := by
  obtain ⟨es, clock, hb, he⟩ := hm
  refine ⟨.map #[] clock, ?_, _, _, putObj_same hb, rfl⟩
  unfold Builtin.clear_
  simp [run_underlying hmt, run_getObj_map hb, run_setObj_put _ hb]
end
end Go.Proofs.YtabllhhainepgaaGreatDoor
