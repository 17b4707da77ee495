/-
  The abstract machine: how values, objects and heaps stand for the model's.
-/
import Derived.Test.YtmapmbfohilklaaGreatAbD
import Derived.Below
import Derived.Laws.CopyRow
import Derived.Lib.FrozenHead
import Derived.Deep.MidRow
namespace Go.Proofs.YtmapmbfohilklaaGreat.Ab
open Go.RowKit

/-- Where an abstract block lies: block, first cell, elements of spare room that nobody counted. -/
structure Loc where
  blk : Nat
  base : Nat
  slack : Nat
abbrev Mu := Nat → Option Loc
def Mu.le (μ ν : Mu) : Prop := ∀ b L, μ b = some L → ν b = some L
theorem Mu.le_refl (μ : Mu) : μ.le μ := fun _ _ h => h
theorem Mu.le.trans {μ ν ρ : Mu} (h : μ.le ν) (k : ν.le ρ) : μ.le ρ := fun b L hb => k b L (h b L hb)
def Mu.up (μ : Mu) (b : Nat) (L : Loc) : Mu := fun c => if c = b then some L else μ c
theorem Mu.up_le {μ : Mu} {b : Nat} (h : μ b = none) (L : Loc) : μ.le (μ.up b L) := fun c K hc => by
  unfold Mu.up; by_cases e : c = b
  · rw [e, h] at hc; cases hc
  · rw [if_neg e]; exact hc
/-- More places are known, none below n. -/
def Mu.lx (n : Nat) (μ ν : Mu) : Prop := μ.le ν ∧ ∀ b, b < n → ν b = μ b
theorem Mu.lx_refl (μ : Mu) (n : Nat) : μ.lx n μ := ⟨μ.le_refl, fun _ _ => rfl⟩
theorem Mu.lx.trans {n : Nat} {μ ν ρ : Mu} (h : μ.lx n ν) (k : ν.lx n ρ) : μ.lx n ρ := ⟨h.1.trans k.1, fun b hb => (k.2 b hb).trans (h.2 b hb)⟩
theorem Mu.lx.weak {n m : Nat} {μ ν : Mu} (h : μ.lx n ν) (hm : m ≤ n) : μ.lx m ν := ⟨h.1, fun b hb => h.2 b (by omega)⟩
theorem Mu.up_lx {μ : Mu} {n : Nat} {L : Loc} (h : μ.le (μ.up n L)) : μ.lx n (μ.up n L) := ⟨h, fun b hb => by unfold Mu.up; rw [if_neg (by omega)]⟩
theorem Mu.up_same (μ : Mu) (b : Nat) (L : Loc) : (μ.up b L) b = some L := by simp [Mu.up]

mutual
inductive VR (μ : Mu) : AV → Value → Prop
  | junk (v : Value) : VR μ .junk v
  | bool (b : Bool) : VR μ (.bool b) (.bool b)
  | int (k : IntKind) (n : Int) : VR μ (.int k n) (.int k n)
  | str (n N : Nat) (s : ByteArray) (h1 : s.data.size = n) (h2 : pack s.data.toList = N) : VR μ (.str n N) (.string s)
  | nilp : VR μ .nilp (.pointer none)
  | ptr (b off : Nat) (L : Loc) (h : μ b = some L) : VR μ (.ptr b off) (.pointer (some ⟨L.blk, L.base + off, none⟩))
  | nils : VR μ .nils (.slice none 0 0)
  | slice (b off len cap : Nat) (g : Bool) (L : Loc) (h : μ b = some L) : VR μ (.slice b off len cap g) (.slice (some ⟨L.blk, L.base + off, none⟩) len (cap + if g then L.slack else 0))
  | sliceE (b off : Nat) (a : Addr) (c : Nat) (L : Loc) (h : μ b = some L) (ha : c = 0 ∨ (a = ⟨L.blk, L.base + off, none⟩ ∧ c = L.slack)) : VR μ (.sliceE b off) (.slice (some a) 0 c)
  | nilm : VR μ .nilm (.map none)
  | map (b : Nat) (L : Loc) (h : μ b = some L) : VR μ (.map b) (.map (some L.blk))
  | nilf : VR μ .nilf .nilFunc
  | func (f : Nat) (a c : List AV) (x y : Array Value) (ha : LR μ a x.toList) (hc : LR μ c y.toList) : VR μ (.func f a c) (.func (.func f) x y)
  | yield (l : Nat) (L : Loc) (h : μ l = some L) : VR μ (.yield l) (.func (.yield L.blk) #[] #[])
  | meth (name : String) (r : AV) (v : Value) (y : Array Value) (h : VR μ r v) : VR μ (.meth name r) (.func (.method name) #[v] y)
  | nili : VR μ .nili .nilIface
  | iface (t : Nat) (a : AV) (v : Value) (h : VR μ a v) : VR μ (.iface t a) (.iface t v)
  | agg (l : List AV) (x : Array Value) (h : LR μ l x.toList) : VR μ (.agg l) (.agg x)
  | tuple (l : List AV) (x : Array Value) (h : LR μ l x.toList) : VR μ (.tuple l) (.tuple x)
  | any (v : Value) (h : v.oneCell' = true) : VR μ .any v
inductive LR (μ : Mu) : List AV → List Value → Prop
  | nil : LR μ [] []
  | cons (a : AV) (v : Value) (l : List AV) (m : List Value) (h : VR μ a v) (t : LR μ l m) : LR μ (a :: l) (v :: m)
end

theorem VR.mono {μ ν : Mu} (hm : μ.le ν) {a : AV} {v : Value} (h : VR μ a v) : VR ν a v := by
  refine VR.rec (motive_1 := fun a v _ => VR ν a v) (motive_2 := fun l m _ => LR ν l m) ?_ ?_ ?_ ?_ ?_ ?_ ?_ ?_ ?_ ?_ ?_ ?_ ?_ ?_ ?_ ?_ ?_ ?_ ?_ ?_ ?_ ?_ h
  · exact fun v => .junk v
  · exact fun b => .bool b
  · exact fun k n => .int k n
  · exact fun n N s h1 h2 => .str n N s h1 h2
  · exact .nilp
  · exact fun b off L h => .ptr b off L (hm _ _ h)
  · exact .nils
  · exact fun b off len cap g L h => .slice b off len cap g L (hm _ _ h)
  · exact fun b off a c L h ha => .sliceE b off a c L (hm _ _ h) ha
  · exact .nilm
  · exact fun b L h => .map b L (hm _ _ h)
  · exact .nilf
  · exact fun f a c x y _ _ ha hc => .func f a c x y ha hc
  · exact fun l L h => .yield l L (hm _ _ h)
  · exact fun name r v y _ h => .meth name r v y h
  · exact .nili
  · exact fun t a v _ h => .iface t a v h
  · exact fun l x _ h => .agg l x h
  · exact fun l x _ h => .tuple l x h
  · exact fun v h => .any v h
  · exact .nil
  · exact fun a v l m _ _ h t => .cons a v l m h t
theorem LR.mono {μ ν : Mu} (hm : μ.le ν) : ∀ {l : List AV} {m : List Value}, LR μ l m → LR ν l m
  | [], _, h => by cases h; exact .nil
  | a :: l, _, h => by cases h with | cons _ v _ m h t => exact .cons a v l m (h.mono hm) (t.mono hm)
theorem LR.length {μ : Mu} : ∀ {l : List AV} {m : List Value}, LR μ l m → l.length = m.length
  | [], _, h => by cases h; rfl
  | a :: l, _, h => by cases h with | cons _ v _ m h t => simp [t.length]
theorem LR.get {μ : Mu} : ∀ {l : List AV} {m : List Value}, LR μ l m → ∀ (i : Nat) (a : AV), l[i]? = some a → ∃ v, m[i]? = some v ∧ VR μ a v
  | [], _, h, i, a, hi => by simp at hi
  | b :: l, _, h, i, a, hi => by
    cases h with | cons _ v _ m h t =>
    cases i with
    | zero => simp at hi; subst hi; exact ⟨v, rfl, h⟩
    | succ i => simp at hi; simpa using t.get i a hi
theorem LR.of_get {μ : Mu} : ∀ {l : List AV} {m : List Value}, l.length = m.length → (∀ (i : Nat) (a : AV) (v : Value), l[i]? = some a → m[i]? = some v → VR μ a v) → LR μ l m
  | [], [], _, _ => .nil
  | [], _ :: _, h, _ => by simp at h
  | _ :: _, [], h, _ => by simp at h
  | a :: l, v :: m, h, H => .cons a v l m (H 0 a v rfl rfl) (LR.of_get (by simpa using h) fun i a v ha hv => H (i + 1) a v (by simpa using ha) (by simpa using hv))
theorem LR.append {μ : Mu} : ∀ {l : List AV} {m : List Value} {l' : List AV} {m' : List Value}, LR μ l m → LR μ l' m' → LR μ (l ++ l') (m ++ m')
  | [], _, _, _, h, h' => by cases h; exact h'
  | a :: l, _, _, _, h, h' => by cases h with | cons _ v _ m h t => exact .cons _ _ _ _ h (t.append h')
theorem LR.take {μ : Mu} : ∀ (n : Nat) {l : List AV} {m : List Value}, LR μ l m → LR μ (l.take n) (m.take n)
  | 0, _, _, _ => by simp; exact .nil
  | n + 1, _, _, h => by cases h with
    | nil => simp; exact .nil
    | cons a v l m h t => simp; exact .cons _ _ _ _ h (t.take n)
theorem LR.drop {μ : Mu} : ∀ (n : Nat) {l : List AV} {m : List Value}, LR μ l m → LR μ (l.drop n) (m.drop n)
  | 0, _, _, h => by simpa using h
  | n + 1, _, _, h => by cases h with
    | nil => simp; exact .nil
    | cons a v l m h t => simpa using t.drop n
theorem LR.zero {μ : Mu} {m : List Value} (h : LR μ [] m) : m = [] := by cases h; rfl
theorem LR.one {μ : Mu} {a : AV} {m : List Value} (h : LR μ [a] m) : ∃ v, m = [v] ∧ VR μ a v := by
  cases h with | cons _ v _ m h t => cases t; exact ⟨v, rfl, h⟩
theorem LR.two {μ : Mu} {a b : AV} {m : List Value} (h : LR μ [a, b] m) : ∃ v u, m = [v, u] ∧ VR μ a v ∧ VR μ b u := by
  cases h with | cons _ v _ m h t => obtain ⟨u, rfl, hu⟩ := t.one; exact ⟨v, u, rfl, h, hu⟩
theorem LR.mk1 {μ : Mu} {a : AV} {v : Value} (h : VR μ a v) : LR μ [a] [v] := .cons _ _ _ _ h .nil
theorem LR.mk2 {μ : Mu} {a b : AV} {v u : Value} (h : VR μ a v) (k : VR μ b u) : LR μ [a, b] [v, u] := .cons _ _ _ _ h (.mk1 k)
theorem LR.map {μ : Mu} {α : Type} (f : α → AV) (g : α → Value) : ∀ (l : List α), (∀ x ∈ l, VR μ (f x) (g x)) → LR μ (l.map f) (l.map g)
  | [], _ => .nil
  | x :: l, h => .cons _ _ _ _ (h x (by simp)) (LR.map f g l fun y hy => h y (by simp [hy]))

/-! ### what a value tells of the value that it stands for -/
section
variable {μ : Mu} {v : Value}
theorem VR.bool_inv {b : Bool} (h : VR μ (.bool b) v) : v = .bool b := by cases h; rfl
theorem VR.int_inv {k : IntKind} {n : Int} (h : VR μ (.int k n) v) : v = .int k n := by cases h; rfl
theorem VR.str_inv {n N : Nat} (h : VR μ (.str n N) v) : ∃ s : ByteArray, v = .string s ∧ s.data.size = n ∧ pack s.data.toList = N := by cases h with | str _ _ s h1 h2 => exact ⟨s, rfl, h1, h2⟩
theorem VR.ptr_inv {b off : Nat} (h : VR μ (.ptr b off) v) : ∃ L, μ b = some L ∧ v = .pointer (some ⟨L.blk, L.base + off, none⟩) := by cases h with | ptr _ _ L h => exact ⟨L, h, rfl⟩
theorem VR.slice_inv {b off len cap : Nat} {g : Bool} (h : VR μ (.slice b off len cap g) v) : ∃ L, μ b = some L ∧ v = .slice (some ⟨L.blk, L.base + off, none⟩) len (cap + if g then L.slack else 0) := by
  cases h with | slice _ _ _ _ _ L h => exact ⟨L, h, rfl⟩
theorem VR.map_inv {b : Nat} (h : VR μ (.map b) v) : ∃ L, μ b = some L ∧ v = .map (some L.blk) := by cases h with | map _ L h => exact ⟨L, h, rfl⟩
theorem VR.agg_inv {l : List AV} (h : VR μ (.agg l) v) : ∃ x : Array Value, v = .agg x ∧ LR μ l x.toList := by cases h with | agg _ x h => exact ⟨x, rfl, h⟩
theorem VR.tuple_inv {l : List AV} (h : VR μ (.tuple l) v) : ∃ x : Array Value, v = .tuple x ∧ LR μ l x.toList := by cases h with | tuple _ x h => exact ⟨x, rfl, h⟩
theorem VR.iface_inv {t : Nat} {a : AV} (h : VR μ (.iface t a) v) : ∃ u, v = .iface t u ∧ VR μ a u := by cases h with | iface _ _ u h => exact ⟨u, rfl, h⟩
theorem VR.func_inv {f : Nat} {a c : List AV} (h : VR μ (.func f a c) v) : ∃ x y : Array Value, v = .func (.func f) x y ∧ LR μ a x.toList ∧ LR μ c y.toList := by
  cases h with | func _ _ _ x y ha hc => exact ⟨x, y, rfl, ha, hc⟩
theorem VR.yield_inv {l : Nat} (h : VR μ (.yield l) v) : ∃ L, μ l = some L ∧ v = .func (.yield L.blk) #[] #[] := by cases h with | yield _ L h => exact ⟨L, h, rfl⟩
theorem VR.meth_inv {s : String} {r : AV} (h : VR μ (.meth s r) v) : ∃ (u : Value) (y : Array Value), v = .func (.method s) #[u] y ∧ VR μ r u := by cases h with | meth _ _ u y h => exact ⟨u, y, rfl, h⟩
theorem VR.undef : VR μ (.tuple []) undef := .tuple [] #[] .nil
/-- A value that may lie in one cell stands for one. -/
theorem VR.one {a : AV} (hb : cellB a = true) (h : VR μ a v) : v.oneCell' = true := by
  cases h <;> first | rfl | assumption | simp [cellB] at hb
theorem VR.cells {a : AV} {l : List AV} (h : VR μ a v) (hl : cellsOfA a = some l) : LR μ l v.cells.toList := by
  cases h <;> simp only [cellsOfA, Option.some.injEq, reduceCtorEq] at hl <;> subst hl <;> simp only [Value.cells]
  all_goals first
    | assumption
    | (refine .mk1 ?_; constructor <;> assumption)
    | exact .mk1 (.bool _)
    | exact .mk1 (.int _ _)
    | (rename_i hv; cases v <;> first | exact .mk1 (.any _ rfl) | cases hv)
end

/-! ### objects -/
/-- The cells of an array from o on stand for a row. -/
def RowR (μ : Mu) (arr : Array Value) (o : Nat) (row : List AV) : Prop := ∀ j a, row[j]? = some a → ∃ v, arr[o + j]? = some v ∧ VR μ a v
/-- Each cell holds what may lie in one. -/
def One (arr : Array Value) : Prop := ∀ v ∈ arr.toList, v.oneCell' = true
/-- No cell below n is frozen. -/
def Free (fz : Nat × Nat) (n : Nat) : Prop := fz = (0, 0) ∨ n ≤ fz.1
theorem Free.not {fz : Nat × Nat} {n : Nat} (h : Free fz n) : ∀ j, j < n → ¬ (fz.1 ≤ j ∧ j < fz.2) := fun j hj => by
  rcases h with h | h
  · rw [h]; simp
  · omega
def StrR (n N : Nat) (s : ByteArray) : Prop := s.data.size = n ∧ pack s.data.toList = N
/-- The slots of a frame. -/
def SR (μ : Mu) (n : Nat) (tm : TM) (tmps : Array Value) : Prop := n ≤ tmps.size ∧ ∀ t, VR μ (getT tm t) (tmps.getD t undef)
def ER (μ : Mu) (es : List (AV × AV × Nat)) (cs : List MapEntry) : Prop :=
  es.length = cs.length ∧ ∀ (i : Nat) (e : AV × AV × Nat) (c : MapEntry), es[i]? = some e → cs[i]? = some c → VR μ e.1 c.key ∧ VR μ e.2.1 c.val ∧ e.2.2 = c.born
def OR (μ : Mu) (L : Loc) (o : AObj) (obj : Obj) : Prop :=
  match o with
  | .dead => True
  | .bytes n N e st => ∃ arr fz, obj = .cells arr e fz ∧ coreB N < 256 ^ n ∧ L.base + n + L.slack ≤ arr.size ∧ (∀ i, i < n → arr[L.base + i]? = some (.int .u8 (.ofNat (byteAt (coreB N) i)))) ∧ Free fz arr.size ∧ (st = false → fz = (0, 0))
  | .rows n s c z e => ∃ arr, obj = .cells arr e (0, 0) ∧ L.base + (n + L.slack) * s ≤ arr.size ∧ (∀ i, i < n → (getR c (path i) z).length = s ∧ RowR μ arr (L.base + i * s) (getR c (path i) z)) ∧ One arr
  | .map es clock => ∃ cs, obj = .map cs clock ∧ ER μ es cs.toList
  | .strIter n N pos => L.base = 0 ∧ ∃ s, obj = .stringIter s pos ∧ StrR n N s
  | .mapIter m since seen stepped => L.base = 0 ∧ ∃ m', obj = .mapIter m' since seen.toArray stepped ∧ (match m with | none => m' = none | some b => ∃ K, μ b = some K ∧ m' = some K.blk)
  | .loop st p fn mask tr n ps asg body d => ∃ tmps K, obj = .loop ⟨st, p, fn, tmps, ps, asg, body, K.blk⟩ ∧ μ d = some K ∧ SR μ n (.mk mask .nil tr) tmps
  | .deferred t => obj = .deferred (if t then some [] else none)

theorem RowR.mono {μ ν : Mu} (hm : μ.le ν) {arr : Array Value} {o : Nat} {row : List AV} (h : RowR μ arr o row) : RowR ν arr o row := fun j a ha => let ⟨v, h1, h2⟩ := h j a ha; ⟨v, h1, h2.mono hm⟩
theorem SR.mono {μ ν : Mu} (hm : μ.le ν) {n : Nat} {tm : TM} {tmps : Array Value} (h : SR μ n tm tmps) : SR ν n tm tmps := ⟨h.1, fun t => (h.2 t).mono hm⟩
theorem ER.mono {μ ν : Mu} (hm : μ.le ν) {es : List (AV × AV × Nat)} {cs : List MapEntry} (h : ER μ es cs) : ER ν es cs :=
  ⟨h.1, fun i e c he hc => let ⟨a, b, d⟩ := h.2 i e c he hc; ⟨a.mono hm, b.mono hm, d⟩⟩
theorem OR.mono {μ ν : Mu} (hm : μ.le ν) {L : Loc} {o : AObj} {obj : Obj} (h : OR μ L o obj) : OR ν L o obj := by
  cases o with
  | dead => trivial
  | bytes n N e st => exact h
  | rows n s c z e => obtain ⟨arr, h1, h2, h3, h4⟩ := h; exact ⟨arr, h1, h2, fun i hi => ⟨(h3 i hi).1, (h3 i hi).2.mono hm⟩, h4⟩
  | map es clock => obtain ⟨cs, h1, h2⟩ := h; exact ⟨cs, h1, h2.mono hm⟩
  | strIter n N pos => exact h
  | mapIter m since seen stepped =>
    obtain ⟨h0, m', h1, h2⟩ := h
    refine ⟨h0, m', h1, ?_⟩
    cases m with
    | none => exact h2
    | some b => obtain ⟨K, h3, h4⟩ := h2; exact ⟨K, hm _ _ h3, h4⟩
  | loop st p fn mask tr n ps asg body d => obtain ⟨tmps, K, h1, h2, h3⟩ := h; exact ⟨tmps, K, h1, hm _ _ h2, h3.mono hm⟩
  | deferred t => exact h

/-! ### heaps -/
structure HR (w0 : World) (G : Nat) (μ : Mu) (H : AH) (w : World) : Prop where
  below : Below w0.heap.size w0 w
  dom : ∀ b, H.size ≤ b → μ b = none
  obj : ∀ b L, μ b = some L → H.get b ≠ .dead → ∃ o, w.heap[L.blk]? = some o ∧ OR μ L (H.get b) o
  own : ∀ b L, G ≤ b → μ b = some L → w0.heap.size ≤ L.blk
  inj : ∀ b c L K, H.get b ≠ .dead → H.get c ≠ .dead → μ b = some L → μ c = some K → L.blk = K.blk → b = c
  lt : ∀ b L, μ b = some L → L.blk < w.heap.size
  live : ∀ b, H.size ≤ b → H.get b = .dead
  gs : G ≤ H.size

/-- Two worlds that differ in block r alone (and in what has been drawn). -/
structure Apart (r : Nat) (w w' : World) : Prop where
  os : w'.os = w.os
  tape : w'.tape = w.tape
  output : w'.output = w.output
  size : w'.heap.size = w.heap.size
  block : ∀ k, k ≠ r → w'.heap[k]? = w.heap[k]?
/-- A world with one block more. -/
structure Grew (o : Obj) (w w' : World) : Prop where
  os : w'.os = w.os
  tape : w'.tape = w.tape
  output : w'.output = w.output
  heap : w'.heap = w.heap.push o

section
variable {w0 : World} {G : Nat} {μ : Mu} {H : AH} {w w' : World}
/-- A block is made. -/
theorem HR.push (h : HR w0 G μ H w) {o : AObj} {obj : Obj} (hg : Grew obj w w') {L : Loc} (hL : L.blk = w.heap.size)
    (ho : OR (μ.up H.size L) L o obj) : HR w0 G (μ.up H.size L) (H.push o) w' ∧ μ.lx H.size (μ.up H.size L) := by
  have hle : μ.le (μ.up H.size L) := Mu.up_le (h.dom _ (Nat.le_refl _)) L
  have hsz : w'.heap.size = w.heap.size + 1 := by rw [hg.heap]; simp
  have hold : ∀ k, k < w.heap.size → w'.heap[k]? = w.heap[k]? := fun k hk => by rw [hg.heap, Array.getElem?_push_lt hk]; simp [hk]
  refine ⟨⟨?_, ?_, ?_, ?_, ?_, ?_, ?_, Nat.le_succ_of_le h.gs⟩, Mu.up_lx hle⟩
  · exact ⟨hg.os.trans h.below.os, hg.tape.trans h.below.tape, hg.output.trans h.below.output, by have := h.below.size; omega,
      fun k hk => (hold k (by have := h.below.size; omega)).trans (h.below.block k hk)⟩
  · intro b hb
    have hb' : H.size + 1 ≤ b := hb
    unfold Mu.up
    rw [if_neg (by omega)]; exact h.dom b (by omega)
  · intro b K hK hd
    rw [get_push] at hd ⊢
    unfold Mu.up at hK
    by_cases e : b = H.size
    · rw [if_pos e] at hK
      cases hK
      rw [if_pos e]
      exact ⟨obj, by rw [hL, hg.heap]; simp, ho⟩
    · rw [if_neg e] at hK hd
      rw [if_neg e]
      obtain ⟨x, hx, hr⟩ := h.obj b K hK hd
      exact ⟨x, (hold _ (h.lt b K hK)).trans hx, hr.mono hle⟩
  · intro b K hb hK
    unfold Mu.up at hK
    by_cases e : b = H.size
    · rw [if_pos e] at hK
      cases hK
      have := h.below.size; omega
    · rw [if_neg e] at hK; exact h.own b K hb hK
  · intro b c K K' hb hc hK hK' he
    rw [get_push] at hb hc
    unfold Mu.up at hK hK'
    by_cases e : b = H.size
    · by_cases e' : c = H.size
      · omega
      · rw [if_pos e] at hK
        rw [if_neg e'] at hK'
        cases hK
        have := h.lt c K' hK'
        omega
    · by_cases e' : c = H.size
      · rw [if_neg e] at hK
        rw [if_pos e'] at hK'
        cases hK'
        have := h.lt b K hK
        omega
      · rw [if_neg e] at hK hb
        rw [if_neg e'] at hK' hc
        exact h.inj b c K K' hb hc hK hK' he
  · intro b K hK
    unfold Mu.up at hK
    by_cases e : b = H.size
    · rw [if_pos e] at hK
      cases hK
      omega
    · rw [if_neg e] at hK
      have := h.lt b K hK; omega
  · intro b hb
    have hb' : H.size + 1 ≤ b := hb
    rw [get_push, if_neg (by omega)]; exact h.live b (by omega)
/-- A block is written. -/
theorem HR.set (h : HR w0 G μ H w) {b : Nat} {L : Loc} (hL : μ b = some L) (hG : G ≤ b) (hd : H.get b ≠ .dead) {o : AObj} {obj : Obj} (hw : Apart L.blk w w')
    (hobj : w'.heap[L.blk]? = some obj) (ho : OR μ L o obj) : HR w0 G μ (H.set b o) w' := by
  refine ⟨?_, h.dom, ?_, h.own, ?_, ?_, ?_, h.gs⟩
  · exact ⟨hw.os.trans h.below.os, hw.tape.trans h.below.tape, hw.output.trans h.below.output, by have := h.below.size; have := hw.size; omega,
      fun k hk => (hw.block k (by have := h.own b L hG hL; omega)).trans (h.below.block k hk)⟩
  · intro c K hK hc
    rw [get_set] at hc ⊢
    by_cases e : c = b
    · subst e
      rw [hL] at hK
      cases hK
      rw [if_pos rfl]
      exact ⟨obj, hobj, ho⟩
    · rw [if_neg e] at hc ⊢
      obtain ⟨x, hx, hr⟩ := h.obj c K hK hc
      exact ⟨x, (hw.block _ (fun e' => e (h.inj c b K L hc hd hK hL e'))).trans hx, hr⟩
  · intro c d K K' hc hd' hK hK' he
    rw [get_set] at hc hd'
    refine h.inj c d K K' ?_ ?_ hK hK' he
    · by_cases e : c = b
      · rw [e]; exact hd
      · rwa [if_neg e] at hc
    · by_cases e : d = b
      · rw [e]; exact hd
      · rwa [if_neg e] at hd'
  · intro c K hK; rw [hw.size]; exact h.lt c K hK
  · intro c hc
    have hc' : H.size ≤ c := hc
    rw [get_set]
    by_cases e : c = b
    · subst e
      rw [h.dom c hc'] at hL; cases hL
    · rw [if_neg e]; exact h.live c hc'
/-- What has been drawn does not count. -/
theorem HR.drawn (h : HR w0 G μ H w) {r : Nat} (hw : Apart r w w') (hr : w'.heap[r]? = w.heap[r]?) : HR w0 G μ H w' := by
  have hall : ∀ k, w'.heap[k]? = w.heap[k]? := fun k => by
    by_cases e : k = r
    · rw [e]; exact hr
    · exact hw.block k e
  refine ⟨?_, h.dom, ?_, h.own, h.inj, ?_, h.live, h.gs⟩
  · exact ⟨hw.os.trans h.below.os, hw.tape.trans h.below.tape, hw.output.trans h.below.output, by have := h.below.size; have := hw.size; omega,
      fun k hk => (hall k).trans (h.below.block k hk)⟩
  · intro c K hK hc
    obtain ⟨x, hx, hr'⟩ := h.obj c K hK hc
    exact ⟨x, (hall _).trans hx, hr'⟩
  · intro c K hK; rw [hw.size]; exact h.lt c K hK
/-- A block's name dies. -/
theorem HR.kill (h : HR w0 G μ H w) (b : Nat) : HR w0 G μ (H.set b .dead) w := by
  refine ⟨h.below, h.dom, ?_, h.own, ?_, h.lt, ?_, h.gs⟩
  · intro c K hK hc
    rw [get_set] at hc ⊢
    by_cases e : c = b
    · rw [if_pos e] at hc; exact absurd rfl hc
    · rw [if_neg e] at hc ⊢; exact h.obj c K hK hc
  · intro c d K K' hc hd' hK hK' he
    rw [get_set] at hc hd'
    refine h.inj c d K K' ?_ ?_ hK hK' he
    · by_cases e : c = b
      · rw [if_pos e] at hc; exact absurd rfl hc
      · rwa [if_neg e] at hc
    · by_cases e : d = b
      · rw [if_pos e] at hd'; exact absurd rfl hd'
      · rwa [if_neg e] at hd'
  · intro c hc
    rw [get_set]
    by_cases e : c = b
    · rw [if_pos e]
    · rw [if_neg e]; exact h.live c hc
/-- A second name for a place whose first name has died (what was there grew where it lay). -/
theorem HR.rename (h : HR w0 G μ H w) {b : Nat} {L : Loc} (hL : μ b = some L) (hb : G ≤ b) (hd : H.get b ≠ .dead) {o : AObj} {obj : Obj} {K : Loc} (hK : K.blk = L.blk) (hw : Apart L.blk w w')
    (hobj : w'.heap[L.blk]? = some obj) (ho : OR (μ.up H.size K) K o obj) : HR w0 G (μ.up H.size K) ((H.set b .dead).push o) w' ∧ μ.lx H.size (μ.up H.size K) := by
  have hle : μ.le (μ.up H.size K) := Mu.up_le (h.dom _ (Nat.le_refl _)) K
  have hbs : b < H.size := by
    rcases Nat.lt_or_ge b H.size with h' | h'
    · exact h'
    · rw [h.dom b h'] at hL; cases hL
  have hgp : ∀ c, ((H.set b .dead).push o).get c = if c = H.size then o else if c = b then .dead else H.get c := fun c => by
    rw [get_push, get_set]; rfl
  refine ⟨⟨?_, ?_, ?_, ?_, ?_, ?_, ?_, Nat.le_succ_of_le h.gs⟩, Mu.up_lx hle⟩
  · exact ⟨hw.os.trans h.below.os, hw.tape.trans h.below.tape, hw.output.trans h.below.output, by have := h.below.size; have := hw.size; omega,
      fun k hk => (hw.block k (by have := h.own b L hb hL; omega)).trans (h.below.block k hk)⟩
  · intro c hc
    have hc' : H.size + 1 ≤ c := hc
    unfold Mu.up
    rw [if_neg (by omega)]; exact h.dom c (by omega)
  · intro c M hM hc
    rw [hgp] at hc ⊢
    unfold Mu.up at hM
    by_cases e : c = H.size
    · rw [if_pos e] at hM
      cases hM
      rw [if_pos e, hK]
      exact ⟨obj, hobj, ho⟩
    · rw [if_neg e] at hM hc
      rw [if_neg e]
      by_cases e' : c = b
      · rw [if_pos e'] at hc; exact absurd rfl hc
      · rw [if_neg e'] at hc ⊢
        obtain ⟨x, hx, hr⟩ := h.obj c M hM hc
        exact ⟨x, (hw.block _ (fun e'' => e' (h.inj c b M L hc hd hM hL e''))).trans hx, hr.mono hle⟩
  · intro c M hc hM
    unfold Mu.up at hM
    by_cases e : c = H.size
    · rw [if_pos e] at hM
      cases hM
      rw [hK]; exact h.own b L hb hL
    · rw [if_neg e] at hM; exact h.own c M hc hM
  · intro c d M M' hc hd' hM hM' he
    rw [hgp] at hc hd'
    unfold Mu.up at hM hM'
    by_cases e : c = H.size
    · by_cases e' : d = H.size
      · omega
      · rw [if_neg e'] at hd' hM'
        rw [if_pos e] at hM
        cases hM
        by_cases e'' : d = b
        · rw [if_pos e''] at hd'; exact absurd rfl hd'
        · rw [if_neg e''] at hd'
          exact absurd (h.inj d b M' L hd' hd hM' hL (by omega)) e''
    · rw [if_neg e] at hc hM
      by_cases e1 : c = b
      · rw [if_pos e1] at hc; exact absurd rfl hc
      · rw [if_neg e1] at hc
        by_cases e' : d = H.size
        · rw [if_pos e'] at hM'
          cases hM'
          exact absurd (h.inj c b M L hc hd hM hL (by omega)) e1
        · rw [if_neg e'] at hd' hM'
          by_cases e'' : d = b
          · rw [if_pos e''] at hd'; exact absurd rfl hd'
          · rw [if_neg e''] at hd'
            exact h.inj c d M M' hc hd' hM hM' he
  · intro c M hM
    unfold Mu.up at hM
    rw [hw.size]
    by_cases e : c = H.size
    · rw [if_pos e] at hM
      cases hM
      rw [hK]; exact h.lt b L hL
    · rw [if_neg e] at hM; exact h.lt c M hM
  · intro c hc
    have hc' : H.size + 1 ≤ c := hc
    rw [hgp, if_neg (by omega)]
    by_cases e' : c = b
    · rw [if_pos e']
    · rw [if_neg e']; exact h.live c (by omega)
end
end Go.Proofs.YtmapmbfohilklaaGreat.Ab
