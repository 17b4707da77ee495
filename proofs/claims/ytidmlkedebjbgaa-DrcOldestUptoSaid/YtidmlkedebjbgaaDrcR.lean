/-
  The document's cache (granaryref24) in memory ('IsR'): New, take, find.
-/
import Derived.Test.YtidmlkedebjbgaaDrcH
namespace Go.Proofs.Ytidmlkedebjbgaa
open Go.RowKit

/-- What the document's Cache holds. -/
structure RS where
  most : Int
  last : Int
  L : List Ent
  D : List Int
def rowsE (l : List Ent) : List Value := l.flatMap e24
theorem rowsE_len (l : List Ent) : (rowsE l).length = l.length * 5 := by
  unfold rowsE; induction l with
  | nil => rfl
  | cons p t ih => simp [List.flatMap_cons, e24] at ih ⊢; omega
theorem rowsE_append (l l' : List Ent) : rowsE (l ++ l') = rowsE l ++ rowsE l' := by simp [rowsE]
theorem rowsE_at (l : List Ent) (k : Nat) (h : k < l.length) (j : Nat) (hj : j < 5) : (rowsE l)[k * 5 + j]? = (e24 l[k])[j]? := by
  induction l generalizing k with
  | nil => cases h
  | cons p t ih =>
    have e : rowsE (p :: t) = e24 p ++ rowsE t := by simp [rowsE, List.flatMap_cons]
    rw [e]
    cases k with
    | zero => rw [List.getElem?_append_left (by simp [e24]; omega)]; simp
    | succ k =>
      rw [List.getElem?_append_right (by simp [e24]; omega)]
      have := ih k (by simpa using h)
      simpa [e24, show (k + 1) * 5 + j - 5 = k * 5 + j by omega] using this

structure IsRat (X : Nat → Prop) (w : World) (b : Nat) (r : RS) (lv dv : Value) : Prop where
  top : w.heap[b]? = some (.cells #[.int .i64 r.most, lv, dv, .int .u64 r.last] 73 (0, 0))
  xb : X b
  l : Sl X w 52 5 lv r.L.length (rowsE r.L)
  d : Sl X w 28 1 dv r.D.length (r.D.map (Value.int .u64))
  lt : ∀ k, X k → k < w.heap.size
def IsR (X : Nat → Prop) (w : World) (b : Nat) (r : RS) : Prop := ∃ lv dv, IsRat X w b r lv dv
theorem IsRat.dl {X : Nat → Prop} {w : World} {b : Nat} {r : RS} {lv dv : Value} (h : IsRat X w b r lv dv) : ∀ k, lv.ownBlock = some k → k ≠ b ∧ dv.ownBlock ≠ some k := fun k hk => by
  obtain ⟨c, hc⟩ := h.l.row hk
  refine ⟨blk_ne_type hc h.top (by decide), fun hd => ?_⟩
  obtain ⟨c', hc'⟩ := h.d.row hd
  exact blk_ne_type hc hc' (by decide) rfl
theorem IsRat.dd {X : Nat → Prop} {w : World} {b : Nat} {r : RS} {lv dv : Value} (h : IsRat X w b r lv dv) : ∀ k, dv.ownBlock = some k → k ≠ b := fun k hk => by
  obtain ⟨c, hc⟩ := h.d.row hk
  exact blk_ne_type hc h.top (by decide)
theorem IsR.fr {X Y : Nat → Prop} {w w' : World} {b : Nat} {s : RS} (h : IsR X w b s) (hf : Fr Y w w') (hXY : ∀ k, X k → ¬ Y k) : IsR X w' b s := by
  obtain ⟨lv, dv, h⟩ := h
  exact ⟨lv, dv, hf.keep h.top (hXY _ h.xb), h.xb, h.l.fr hf hXY, h.d.fr hf hXY, fun k hk => Nat.lt_of_lt_of_le (h.lt k hk) hf.size⟩
theorem IsR.mono {X Y : Nat → Prop} {w : World} {b : Nat} {s : RS} (h : IsR X w b s) (hXY : ∀ k, X k → Y k) (hlt : ∀ k, Y k → k < w.heap.size) : IsR Y w b s := by
  obtain ⟨lv, dv, h⟩ := h
  exact ⟨lv, dv, h.top, hXY _ h.xb, h.l.mono hXY, h.d.mono hXY, hlt⟩

def RS.new (most : Int) : RS := ⟨most, 0, [], []⟩
theorem rnew_bad (most : Int) (w : World) (hm : most < 1 ∨ 1024 < most) : Calls Try.prog 22 #[.int .i64 most] w fun e w' => e = .returned (.tuple #[.pointer none, .int .i64 2]) ∧ w = w' := by
  rcases hm with hm | hm
  · go_enter Try.func22, Try.ntmps22
    go_wp2
    go_ret2
    exact ⟨rfl, rfl⟩
  · have : ¬ most < 1 := by omega
    go_enter Try.func22, Try.ntmps22
    go_wp2
    go_ret2
    exact ⟨rfl, rfl⟩
theorem rnew_calls (most : Int) (w : World) (h1 : 1 ≤ most) (h2 : most ≤ 1024) : Calls Try.prog 22 #[.int .i64 most] w fun e w' => ∃ b, e = .returned (.tuple #[ptr b, .int .i64 0]) ∧ Fr Non w w' ∧ IsR (New w w') w' b (RS.new most) := by
  have g1 : ¬ most < 1 := by omega
  have g2 : ¬ 1024 < most := by omega
  go_enter Try.func22, Try.ntmps22
  go_wp2
  go_ret2
  refine ⟨w.heap.size, rfl, (Fr.refl _ _).alloc _, .slice none 0 0, .slice none 0 0, ?_⟩
  exact {
    top := blk_new _ _ rfl
    xb := ⟨by omega, by simp⟩
    l := Sl.nil _ _ _ _
    d := Sl.nil _ _ _ _
    lt := fun k hk => hk.2 }

/-- The place of the entry of a ticket that is being executed. -/
def RS.find (r : RS) (t : Int) : Int := match r.L.findIdx? (fun e => decide (e.ticket = t) && !e.done) with
  | some i => (i : Int)
  | none => -1
theorem findIdx_at {α : Type} {p : α → Bool} {l : List α} {k : Nat} (hk : k < l.length) (hn : ∀ x ∈ l.take k, p x = false) (h : p l[k] = true) : l.findIdx? p = some k := by
  rw [List.findIdx?_eq_some_iff_getElem]
  refine ⟨hk, h, fun j hj => ?_⟩
  have := hn l[j] (by rw [List.mem_take_iff_getElem]; exact ⟨j, by omega, rfl⟩)
  simp [this]

set_option maxHeartbeats 400000 in
theorem rfind_calls (X : Nat → Prop) (w : World) (b : Nat) (r : RS) (t : Int) (h : IsR X w b r) (hlen : r.L.length ≤ 1024) : Calls Try.prog 36 #[ptr b, .int .u64 t] w fun e w' => e = .returned (.int .i64 (r.find t)) ∧ w = w' := by
  obtain ⟨lv, dv, h⟩ := h
  obtain ⟨la, lc, rfl, _, _, _, hrow⟩ := h.l.open
  have hc := blk_cell h.top
  clear h
  unfold ptr
  go_enter Try.func36, Try.ntmps36
  go_wp2
  go_loop [5, 4] (fun i _ => ∃ k : Nat, k ≤ r.L.length ∧ i = .int .i64 k ∧ ∀ x ∈ r.L.take k, (decide (x.ticket = t) && !x.done) = false) (fun i _ => r.L.length - (intOf i).toNat)
  case atStart => exact ⟨0, Nat.zero_le _, rfl, by simp⟩
  case round =>
    obtain ⟨k, hk, rfl, hnot⟩ := hrel
    have Hn := Lib.hid hnot
    clear hnot
    by_cases hlt : k < r.L.length
    · obtain ⟨g, rfl, _, _, hcl⟩ : ∃ g, la = some ⟨g, 0, none⟩ ∧ _ := hrow.resolve_left (by omega)
      have hc0 : w.cell? ⟨g, k * 5, none⟩ = some (.int .u64 r.L[k].ticket) := hcl (k * 5) _ (by rw [← Nat.add_zero (k * 5), rowsE_at _ _ hlt 0 (by omega)]; rfl)
      have hc4 : w.cell? ⟨g, k * 5 + 4, none⟩ = some (.bool r.L[k].done) := hcl (k * 5 + 4) _ (by rw [rowsE_at _ _ hlt 4 (by omega)]; rfl)
      have Hf := Lib.hid (fun h => findIdx_at hlt Hn.out h)
      have Hs : Hid ((decide (r.L[k].ticket = t) && !r.L[k].done) = false → ∀ x ∈ r.L.take (k + 1), (decide (x.ticket = t) && !x.done) = false) := by
        intro h x hx
        rw [take_snoc' hlt] at hx
        rcases List.mem_append.1 hx with hx | hx
        · exact Hn.out x hx
        · simp at hx; subst hx; exact h
      clear hcl hrow
      generalize r.L[k] = q at *
      by_cases ht : q.ticket = t
      · by_cases hd : q.done = true
        · have hs1 := Lib.hid (Hs.out (by simp [hd]))
          go_wp2
          go_round
          case rel => exact ⟨k + 1, by omega, by go_num, hs1.out⟩
          case measure => simp [intOf]; omega
        · have hf1 := Lib.hid (Hf.out (by simp [hd, ht]))
          simp only [Bool.not_eq_true] at hd
          go_wp2
          go_ret
          exact ⟨by unfold RS.find; rw [hf1.out]; rfl, rfl⟩
      · have hs1 := Lib.hid (Hs.out (by simp [ht]))
        go_wp2
        go_round
        case rel => exact ⟨k + 1, by omega, by go_num, hs1.out⟩
        case measure => simp [intOf]; omega
    · obtain rfl : k = r.L.length := by omega
      have Hf : Hid (r.find t = -1) := by
        have := Hn.out
        rw [List.take_length] at this
        unfold RS.find Hid
        rw [List.findIdx?_eq_none_iff.2 (fun x hx => by simp [this x hx])]
      clear hrow
      go_wp2
      go_ret
      exact ⟨ret_int Hf.out.symm, rfl⟩
end Go.Proofs.Ytidmlkedebjbgaa
