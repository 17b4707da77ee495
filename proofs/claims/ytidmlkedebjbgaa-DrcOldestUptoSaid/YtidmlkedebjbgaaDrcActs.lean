/-
  The argument '[]Act', opened.
-/
import Derived.Test.YtidmlkedebjbgaaRows
import Derived.Test.YtidmlkedebjbgaaDrcP
import Derived.Deep.Slices
import Derived.Deep.Fields
import Derived.ChangeSame
import Derived.ChangeSlices
namespace Go.Proofs.Ytidmlkedebjbgaa
open Go.RowKit Go.ChangeShapes Go.WideShapes Go.Deep

instance : Inhabited ActD := ⟨⟨0, 0, .slice none 0 0, [], 0⟩⟩
theorem Try.u36 : Try.prog.underlying 36 = some (.slice 40) := by kernel_rfl
theorem Try.u32' : Try.prog.underlying 32 = some (.slice 5) := by kernel_rfl
theorem Try.u5' : Try.prog.underlying 5 = some (.int .u8) := by kernel_rfl
theorem Try.u3' : Try.prog.underlying 3 = some (.int .i64) := by kernel_rfl
theorem Try.u28' : Try.prog.underlying 28 = some (.int .u64) := by kernel_rfl

section
variable {H : Type} {enc : TypeId × Value → H} {P : Program} {w : World} {base : Nat} {spare : Nat → Bool} {held : Bool}
theorem open_slice_fields {t e : TypeId} {fs : Array Field} {fuel : Nat} {cs : List Value} {x : DataW H × List MemPlace} (ht : P.underlying t = some (.slice e)) (he : P.underlying e = some (.struct fs))
    (hone : oneCellFields P fs = true) (hC : P.cellsOf e = fs.size) (h : DataW.trod enc P w base spare held fuel t cs = some x) :
    (cs = [.slice none 0 0] ∧ x = (.nil, [])) ∨
    ∃ (a : Addr) (len cap m : Nat) (D : Nat → DataW H) (Pl : Nat → List MemPlace), cs = [.slice (some a) len cap] ∧ base ≤ a.block ∧ len ≤ cap ∧ cap ≤ maxLen ∧ m = (if spare a.block then cap else len) ∧
      x = (.slice ((List.range len).map D) ((List.range (m - len)).map fun j => D (len + j)), MemPlace.row a (m * fs.size) ++ (List.range m).flatMap Pl) ∧
      ∀ i, i < m → ∃ (ys : List (DataW H × List MemPlace)) (n : Nat), D i = .agg (ys.map (·.1)) ∧ Pl i = ys.flatMap (·.2) ∧ ys.length = fs.size ∧
        ∀ (j : Nat) (f : Field), fs[j]? = some f → ∃ (v : Value) (y : DataW H × List MemPlace), w.cell? (a.add (i * fs.size + j)) = some v ∧ ys[j]? = some y ∧ DataW.trod enc P w base spare held n f.type [v] = some y := by
  rcases open_slice ht h with h0 | ⟨a, len, cap, m, n, D, Pl, hcs, hb, hl, hm, hmm, hx, hi⟩
  · exact .inl h0
  · refine .inr ⟨a, len, cap, m, D, Pl, hcs, hb, hl, hm, hmm, by rw [hC] at hx; exact hx, fun i him => ?_⟩
    obtain ⟨cs', hc, ht'⟩ := hi i him
    rw [hC] at hc
    obtain ⟨ys, n', hn', hy, hlen, hyl, hf⟩ := DataW.trod_struct he ht'
    obtain ⟨_, hcl, hat⟩ := World.cells?_some hc
    simp only [Prod.mk.injEq] at hy
    refine ⟨ys, n', hy.1, hy.2, hyl, fun j f hj => ?_⟩
    obtain ⟨ho, hk⟩ := hone_of hone j f hj
    have hjl : j < fs.size := (Array.getElem?_eq_some_iff.1 hj).1
    have hcell := hat j hjl
    have hv : cs'[j]? = some (cs'[j]'(by omega)) := List.getElem?_eq_getElem (by omega)
    have h1 := hf j f hj
    rw [ho, hk] at h1
    have hone' : (cs'.drop j).take 1 = [cs'[j]'(by omega)] := by
      rw [List.drop_eq_getElem_cons (by omega)]
      rfl
    rw [hone'] at h1
    have hys : ys[j]? = some (ys[j]'(by omega)) := List.getElem?_eq_getElem (by omega)
    refine ⟨_, _, ?_, hys, h1.trans hys⟩
    rw [← Go.Deep.add_add, hcell, hv]
end

theorem bulk_one {H : Type} (d : DataW H) : 1 ≤ Rows.uptoBulk d := by
  cases d with
  | lit l => cases l <;> simp [Rows.uptoBulk]
  | nil => simp [Rows.uptoBulk]
  | ptr d => simp [Rows.uptoBulk]
  | slice elems spare => simp [Rows.uptoBulk]
  | agg parts => simp [Rows.uptoBulk]
  | iface t d => simp [Rows.uptoBulk]
  | map entries => simp [Rows.uptoBulk]
  | held h => simp [Rows.uptoBulk]
theorem bulk_part {H : Type} {d : DataW H} {l : List (DataW H)} (h : d ∈ l) : Rows.uptoBulk d ≤ Rows.uptoBulkAll l := by
  induction l with
  | nil => cases h
  | cons x r ih =>
    simp only [Rows.uptoBulkAll]
    rcases List.mem_cons.1 h with e | e
    · subst e; omega
    · have := ih e; omega
theorem bulk_length {H : Type} (l : List (DataW H)) : l.length ≤ Rows.uptoBulkAll l := by
  induction l with
  | nil => simp [Rows.uptoBulkAll]
  | cons x r ih => have := bulk_one x; simp only [Rows.uptoBulkAll, List.length_cons]; omega
theorem bulk_bound {H : Type} {l : List (DataW H)} (hk : Rows.uptoSmall H l = true) : Rows.uptoBulkAll l ≤ 1048576 := of_decide_eq_true hk

/-- A slice of bytes that came in. -/
theorem bts_of {H : Type} {enc : TypeId × Value → H} {W : World} {sp : Nat → Bool} {n : Nat} {v : Value} {y : DataW H × List MemPlace} (h : DataW.trod enc Try.prog W 0 sp true n 32 [v] = some y) :
    ∃ bs : List UInt8, Bts W v bs ∧ Low W.heap.size v bs ∧ bs.length ≤ Rows.uptoBulk y.1 := by
  rcases open_ints Try.u32' Try.u5' (by kernel_rfl) h with ⟨hv, rfl⟩ | ⟨a, len, cap, zs, hv, _, hl, hm, hz, rfl, hc, hw⟩
  · obtain rfl : v = .slice none 0 0 := by simpa using hv
    exact ⟨[], ⟨none, 0, rfl, Nat.le_refl _, Nat.zero_le _, .inl rfl⟩, .inl rfl, by simp⟩
  · obtain rfl : v = .slice (some a) len cap := by simpa using hv
    have hlz : len ≤ zs.length := by rw [hz]; split <;> omega
    by_cases h0 : len = 0
    · subst h0
      exact ⟨[], ⟨_, cap, rfl, hl, hm, .inl rfl⟩, .inl rfl, by simp⟩
    · have hc0 := hc 0 (by omega)
      obtain ⟨b, off, spot⟩ := a
      have hspot : spot = none := by simpa [Addr.add] using World.cell?_spot hc0
      subst hspot
      have hblt : b < W.heap.size := World.block_lt_of_cell? W _ (by simpa [Addr.add] using hc0)
      have hlen : (zs.take len).length = len := by simp; omega
      refine ⟨(zs.take len).map (fun n => UInt8.ofNat n.toNat), ⟨some ⟨b, off, none⟩, cap, by rw [List.length_map, hlen], by rw [List.length_map, hlen]; exact hl, hm, .inr ⟨b, off, rfl, fun i hi => ?_⟩⟩, .inr (fun k hk => by cases hk; exact hblt), ?_⟩
      · rw [List.length_map, hlen] at hi
        have hci := hc i (by omega)
        have hzi : zs.getD i 0 = zs[i]'(by omega) := by rw [List.getD_eq_getElem?_getD, List.getElem?_eq_getElem (by omega)]; rfl
        have hwi := hw (zs[i]'(by omega)) (List.getElem_mem _)
        have hr : 0 ≤ zs[i]'(by omega) ∧ zs[i]'(by omega) ≤ 255 := by simpa [Lit.wf, IntKind.min, IntKind.max, IntKind.signed, IntKind.bits] using hwi
        have hadd : (⟨b, off, none⟩ : Addr).add i = ⟨b, off + i, none⟩ := by unfold Addr.add; split <;> simp_all
        rw [hadd] at hci
        rw [hci, hzi, getElem!_pos _ _ (by simp; omega)]
        simp only [List.getElem_map, List.getElem_take]
        congr 2
        generalize zs[i]'(by omega) = z at hr
        rw [UInt8.toNat_ofNat_of_lt' (by show z.toNat < 256; omega)]
        omega
      · have h1 := bulk_length (lits (H := H) .u8 (zs.take len))
        have h2 : (lits (H := H) .u8 (zs.take len)).length = len := by simp [lits]; omega
        simp only [List.length_map, hlen, Rows.uptoBulk]
        omega

set_option maxRecDepth 4000 in
/-- The acts that came in. -/
theorem acts_of {H : Type} {enc : TypeId × Value → H} {W : World} {sp : Nat → Bool} {n : Nat} {v : Value} {y : DataW H × List MemPlace} (h : DataW.trod enc Try.prog W 0 sp true n 36 [v] = some y) (hbulk : Rows.uptoBulk y.1 ≤ 1048576) :
    ∃ (a : Option Addr) (c : Nat) (l : List ActD), v = .slice a l.length c ∧ l.length ≤ c ∧ c ≤ maxLen ∧ Acts W.heap.size W a l := by
  rcases open_slice_fields Try.underlying36 Try.underlying40 (by kernel_rfl) (by kernel_rfl) h with ⟨hv, rfl⟩ | ⟨a, len, cap, m, D, Pl, hv, _, hl, hm, hmm, rfl, hi⟩
  · obtain rfl : v = .slice none 0 0 := by simpa using hv
    exact ⟨none, 0, [], rfl, Nat.le_refl _, Nat.zero_le _, .inl rfl, fun x hx => by cases hx⟩
  · obtain rfl : v = .slice (some a) len cap := by simpa using hv
    have hlm : len ≤ m := by rw [hmm]; split <;> omega
    have hex : ∀ i, i < len → ∃ x : ActD, W.cell? (a.add (i * 4)) = some (.int .i64 x.kind) ∧ W.cell? (a.add (i * 4 + 1)) = some (.int .i64 x.client) ∧ W.cell? (a.add (i * 4 + 2)) = some x.bv ∧ W.cell? (a.add (i * 4 + 3)) = some (.int .u64 x.ticket) ∧
        Bts W x.bv x.bs ∧ Low W.heap.size x.bv x.bs ∧ x.bs.length ≤ Rows.uptoBulk (D i) := by
      intro i hil
      obtain ⟨ys, n', hD, _, hyl, hf⟩ := hi i (by omega)
      obtain ⟨v0, y0, c0, e0, t0⟩ := hf 0 _ rfl
      obtain ⟨v1, y1, c1, e1, t1⟩ := hf 1 _ rfl
      obtain ⟨v2, y2, c2, e2, t2⟩ := hf 2 _ rfl
      obtain ⟨v3, y3, c3, e3, t3⟩ := hf 3 _ rfl
      obtain ⟨k0, h0, _, _⟩ := DataW.trod_int Try.u3' t0
      obtain ⟨k1, h1, _, _⟩ := DataW.trod_int Try.u3' t1
      obtain ⟨bs, hb, hlow, hbl⟩ := bts_of t2
      obtain ⟨k3, h3, _, _⟩ := DataW.trod_int Try.u28' t3
      obtain rfl : v0 = .int .i64 k0 := by simpa using h0
      obtain rfl : v1 = .int .i64 k1 := by simpa using h1
      obtain rfl : v3 = .int .u64 k3 := by simpa using h3
      refine ⟨⟨k0, k1, v2, bs, k3⟩, c0, c1, c2, c3, hb, hlow, ?_⟩
      have hmem : y2.1 ∈ ys.map (·.1) := List.mem_map.2 ⟨y2, List.mem_of_getElem? e2, rfl⟩
      have := bulk_part hmem
      rw [hD]
      simp only [Rows.uptoBulk]
      omega
    obtain ⟨f, hf⟩ := choose_lt hex
    refine ⟨some a, cap, (List.range len).map f, by simp, by simpa using hl, hm, ?_, fun x hx => ?_⟩
    · by_cases h0 : len = 0
      · exact .inl (by rw [h0]; rfl)
      · have hc0 := (hf 0 (by omega)).1
        obtain ⟨b, off, spot⟩ := a
        have hspot : spot = none := by simpa [Addr.add] using World.cell?_spot hc0
        subst hspot
        have hblt : b < W.heap.size := World.block_lt_of_cell? W _ (by simpa [Addr.add] using hc0)
        refine .inr ⟨b, off, rfl, hblt, fun i hi => ?_⟩
        have hil : i < len := by simpa using hi
        have hadd : ∀ j, (⟨b, off, none⟩ : Addr).add j = ⟨b, off + j, none⟩ := fun j => by unfold Addr.add; split <;> simp_all
        obtain ⟨c0, c1, c2, c3, _⟩ := hf i hil
        rw [hadd] at c0 c1 c2 c3
        simp only [List.getElem_map, List.getElem_range]
        exact ⟨c0, by rw [Nat.add_assoc]; exact c1, by rw [Nat.add_assoc]; exact c2, by rw [Nat.add_assoc]; exact c3⟩
    · obtain ⟨i, hir, rfl⟩ := List.mem_map.1 hx
      have hil : i < len := by simpa using hir
      obtain ⟨_, _, _, _, hb, hlow, hbl⟩ := hf i hil
      refine ⟨hb, hlow, Nat.le_trans hbl (Nat.le_trans ?_ hbulk)⟩
      have hmem : D i ∈ (List.range len).map D := List.mem_map.2 ⟨i, hir, rfl⟩
      have := bulk_part hmem
      simp only [Rows.uptoBulk]
      omega
end Go.Proofs.Ytidmlkedebjbgaa
