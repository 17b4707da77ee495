/-
  The abstract machine: rows of elements, conversions, signs.
-/
import Derived.Test.YtmapmbfohilklaaGreatAbJ
import Derived.Laws.BytesString
namespace Go.Proofs.YtmapmbfohilklaaGreat.Ab
open Go.RowKit

/-- What a sequence stands for: elements of s cells. -/
def SeqR (μ : Mu) (s : Nat) (q : Seq) (vs : List Value) : Prop :=
  match q with
  | .emp => vs = []
  | .pk n N => s = 1 ∧ vs.length = n ∧ N < 256 ^ n ∧ ∀ i, i < n → vs[i]? = some (.int .u8 (.ofNat (byteAt N i)))
  | .rs l => LR μ l.flatten vs ∧ ∀ row ∈ l, row.length = s

section
variable {P : Program} {w0 w : World} {G : Nat} {μ : Mu} {H : AH} {r : Result Next}
theorem SeqR.mono {μ ν : Mu} (hm : μ.le ν) {s : Nat} {q : Seq} {vs : List Value} (h : SeqR μ s q vs) : SeqR ν s q vs := by
  cases q with
  | emp => exact h
  | pk n N => exact h
  | rs l => exact ⟨h.1.mono hm, h.2⟩
theorem rowsFrom_length (c : Tr (List AV)) (z : List AV) : ∀ (k i : Nat), (rowsFrom c z k i).length = k
  | 0, _ => rfl
  | k + 1, i => by show (getR c (path i) z :: rowsFrom c z k (Nat.succ i)).length = _; simp [rowsFrom_length c z k]
theorem rowsFrom_spec (c : Tr (List AV)) (z : List AV) {n s : Nat} {arr : Array Value} {o : Nat} (hc : ∀ i, i < n → (getR c (path i) z).length = s ∧ RowR μ arr (o + i * s) (getR c (path i) z)) :
    ∀ (k i : Nat), i + k ≤ n → (∀ row ∈ rowsFrom c z k i, row.length = s) ∧ RowR μ arr (o + i * s) (rowsFrom c z k i).flatten ∧ (rowsFrom c z k i).flatten.length = k * s
  | 0, i, _ => ⟨fun row h => (by cases h), fun j a ha => (by have ha : ([] : List AV)[j]? = some a := ha; simp at ha), (by show ([] : List AV).length = _; simp)⟩
  | k + 1, i, h => by
    obtain ⟨h1, h2⟩ := hc i (by omega)
    obtain ⟨i1, i2, i3⟩ := rowsFrom_spec c z hc k (i + 1) (by omega)
    have e : rowsFrom c z (k + 1) i = getR c (path i) z :: rowsFrom c z k (i + 1) := rfl
    rw [e]
    refine ⟨fun row hrow => ?_, fun j a ha => ?_, ?_⟩
    · rcases List.mem_cons.1 hrow with e | e
      · rw [e]; exact h1
      · exact i1 row e
    · rw [List.flatten_cons] at ha
      by_cases hj : j < s
      · rw [List.getElem?_append_left (by omega)] at ha; exact h2 j a ha
      · rw [List.getElem?_append_right (by omega), h1] at ha
        obtain ⟨v, hv, hr⟩ := i2 _ a ha
        refine ⟨v, ?_, hr⟩
        rw [← hv, Nat.succ_mul]; congr 1; omega
    · rw [List.flatten_cons, List.length_append, h1, i3, Nat.succ_mul]; omega
theorem row_range {b : Nat} {arr : Array Value} (hw : ∀ k, w.cell? ⟨b, k, none⟩ = arr[k]?) {l : List AV} {o : Nat} (h : RowR μ arr o l) : ∃ vs : List Value, vs.length = l.length ∧ LR μ l vs ∧ w.rangeAt b o vs := by
  refine ⟨(List.range l.length).map fun j => (arr[o + j]?).getD undef, by simp, LR.of_get (by simp) fun i a v ha hv => ?_, fun j v hv => ?_⟩
  · have hi := (List.getElem?_eq_some_iff.1 ha).1
    obtain ⟨u, hu, hur⟩ := h i a ha
    rw [List.getElem?_map, List.getElem?_range hi] at hv
    simp only [Option.map_some, Option.some.injEq, hu, Option.getD_some] at hv
    rw [← hv]; exact hur
  · have hj : j < l.length := by have := (List.getElem?_eq_some_iff.1 hv).1; simpa using this
    obtain ⟨u, hu, _⟩ := h j l[j] (List.getElem?_eq_getElem hj)
    rw [List.getElem?_map, List.getElem?_range hj] at hv
    simp only [Option.map_some, Option.some.injEq, hu, Option.getD_some] at hv
    rw [hw, hu, hv]
theorem cell_heap {w1 : World} (h : w1.heap = w.heap) (a : Addr) : w1.cell? a = w.cell? a := by simp [World.cell?, h]
theorem chunkL_spec {s : Nat} : ∀ (k : Nat) (l : List AV), l.length = k * s → (chunkL s k l).flatten = l ∧ ∀ row ∈ chunkL s k l, row.length = s
  | 0, l, h => by
    have : l = [] := List.eq_nil_of_length_eq_zero (by omega)
    subst this
    exact ⟨rfl, fun row hr => by cases hr⟩
  | k + 1, l, h => by
    rw [Nat.succ_mul] at h
    obtain ⟨h1, h2⟩ := chunkL_spec (s := s) k (l.drop s) (by rw [List.length_drop]; omega)
    refine ⟨by simp only [chunkL, List.flatten_cons, h1, List.take_append_drop], fun row hr => ?_⟩
    rcases List.mem_cons.1 hr with e | e
    · rw [e, List.length_take]; omega
    · exact h2 row e
/-- k elements of a slice or a string, as the model reads them. -/
theorem seqOf_sound (h : HR w0 G μ H w) {s k : Nat} {x : AV} {xv : Value} (hx : VR μ x xv) (hlen : ∀ n, lenOfA x = some n → k ≤ n) (hl : (lenOfA x).isSome = true) {q : Seq} (hq : seqOf H s k x = some q) :
    ∃ vs : List Value, vs.length = k * s ∧ SeqR μ s q vs ∧ (∀ w1 : World, w1.heap = w.heap → (Builtin.firstCells s k xv).run P w1 = .ok vs.toArray w1) ∧ ∀ v ∈ vs, v.oneCell' = true := by
  unfold seqOf at hq
  by_cases hk : Nat.beq k 0 = true
  · rw [hk] at hq
    simp only [cond_true, Option.some.injEq] at hq
    rw [Nat.beq_eq] at hk
    subst hk hq
    refine ⟨[], by simp, rfl, fun w1 _ => ?_, by simp⟩
    cases hx with
    | slice b off len cap g L hb => simp [Builtin.firstCells, loadCells, loadCellsFrom]
    | sliceE _ _ a c => simp [Builtin.firstCells, loadCells, loadCellsFrom]
    | nils => simp [Builtin.firstCells]
    | str n N t h1 h2 =>
      have : (t.extract 0 0).data = #[] := by
        apply Array.eq_empty_of_size_eq_zero
        rw [ByteArray.data_extract]; simp
      simp [Builtin.firstCells]
    | _ => simp [lenOfA] at hl
  · rw [Bool.not_eq_true] at hk
    rw [hk] at hq
    simp only [cond_false] at hq
    split at hq
    · rename_i b off len cap g
      obtain ⟨L, hL, rfl⟩ := hx.slice_inv
      split at hq
      · rename_i n N e st hg
        by_cases hc : (Nat.ble (Nat.add off k) n && Nat.beq s 1) = true
        · rw [hc] at hq
          simp only [cond_true, Option.some.injEq] at hq
          rw [Bool.and_eq_true, Nat.ble_eq, Nat.beq_eq] at hc
          obtain ⟨c1, rfl⟩ := hc
          have c1 : off + k ≤ n := c1
          subst hq
          obtain ⟨arr, fz, ho, hN, hsz, hcell, hf, hst⟩ := h.bytes hL hg
          refine ⟨(List.range k).map fun i => .int .u8 (.ofNat (byteAt (cutB (coreB N) off k) i)), by simp, ⟨rfl, by simp, cutB_lt _ _ _, fun i hi => by rw [List.getElem?_map, List.getElem?_range hi]; rfl⟩, ?_⟩
          have hrun := fun (w1 : World) (hw1 : w1.heap = w.heap) => run_loadCells_list (P := P) w1 ⟨L.blk, L.base + off, none⟩ ((List.range k).map fun i => .int .u8 (.ofNat (byteAt (cutB (coreB N) off k) i))) (fun j v hv => by
            have hj : j < k := by have := (List.getElem?_eq_some_iff.1 hv).1; simpa using this
            rw [List.getElem?_map, List.getElem?_range hj] at hv
            simp only [Option.map_some, Option.some.injEq] at hv
            rw [Addr.add_mid, cell_heap hw1, cell_arr ho, Nat.add_assoc, hcell (off + j) (by omega), ← hv, byteAt_cutB hj])
          exact ⟨fun w1 hw1 => by simpa [Builtin.firstCells] using hrun w1 hw1, fun v hv => by simp only [List.mem_map] at hv; obtain ⟨i, _, rfl⟩ := hv; rfl⟩
        · rw [Bool.not_eq_true] at hc; rw [hc] at hq; cases hq
      · rename_i n s' c z e hg
        by_cases hc : (Nat.beq s s' && Nat.beq (Nat.mod off s) 0 && Nat.ble (Nat.add (Nat.div off s) k) n) = true
        · rw [hc] at hq
          simp only [cond_true, Option.some.injEq] at hq
          rw [Bool.and_eq_true, Bool.and_eq_true, Nat.beq_eq, Nat.beq_eq, Nat.ble_eq] at hc
          obtain ⟨⟨rfl, c2⟩, c3⟩ := hc
          have c2 : off % s = 0 := c2
          have c3 : off / s + k ≤ n := c3
          subst hq
          obtain ⟨arr, ho, hsz, hcell⟩ := h.rows hL hg
          obtain ⟨r1, r2, r3⟩ := rowsFrom_spec c z hcell k (off / s) c3
          have hdm := div_mod off s
          rw [show L.base + off / s * s = L.base + off by omega] at r2
          obtain ⟨vs, v1, v2, v3⟩ := row_range (w := w) (b := L.blk) (fun k => cell_arr ho) r2
          refine ⟨vs, by rw [v1, r3], ⟨v2, r1⟩, ?_⟩
          have hrun := fun (w1 : World) (hw1 : w1.heap = w.heap) => run_loadCells_list (P := P) w1 ⟨L.blk, L.base + off, none⟩ vs (fun j v hv => by rw [Addr.add_mid, cell_heap hw1]; exact v3 j v hv)
          have hvl : k * s = vs.length := by rw [v1]; exact r3.symm
          exact ⟨fun w1 hw1 => by simpa [Builtin.firstCells, hvl] using hrun w1 hw1, (h.rowsOne hL hg ho).range (fun k => cell_arr ho) v3⟩
        · rw [Bool.not_eq_true] at hc; rw [hc] at hq
          simp only [cond_false] at hq
          obtain ⟨arr, ho, hsz, hcell⟩ := h.rows hL hg
          split at hq
          · rename_i l hcl
            obtain ⟨vs, v1, v2, v3⟩ := cellsAt_sound h hL (by rw [hg]; exact hcl)
            have v1 : vs.length = k * s := v1
            have hrun := fun (w1 : World) (hw1 : w1.heap = w.heap) => run_loadCells_list (P := P) w1 ⟨L.blk, L.base + off, none⟩ vs (fun j v hv => by rw [Addr.add_mid, cell_heap hw1]; exact v3 j v hv)
            refine ⟨vs, v1, ?_, fun w1 hw1 => by simpa [Builtin.firstCells, v1] using hrun w1 hw1, (h.rowsOne hL hg ho).range (fun k => cell_arr ho) v3⟩
            split at hq
            · rename_i N hp
              simp only [Option.some.injEq] at hq
              subst hq
              cases hs1 : Nat.beq s 1 with
              | false => rw [hs1] at hp; cases hp
              | true =>
                rw [hs1] at hp
                have hs1 := Nat.beq_eq.mp hs1
                subst hs1
                obtain ⟨p1, p2, p3⟩ := v2.packed hp
                rw [v1, Nat.mul_one] at p1 p3
                exact ⟨rfl, by rw [v1, Nat.mul_one], p1, p3⟩
            · simp only [Option.some.injEq] at hq
              subst hq
              obtain ⟨c1, c2⟩ := chunkL_spec (s := s) k l (by rw [v2.length]; exact v1)
              exact ⟨by rw [c1]; exact v2, c2⟩
          · cases hq
      · cases hq
    · rename_i n N
      obtain ⟨t, rfl, h1, h2⟩ := hx.str_inv
      by_cases hc : (Nat.ble k n && Nat.beq s 1) = true
      · rw [hc] at hq
        simp only [cond_true, Option.some.injEq] at hq
        rw [Bool.and_eq_true, Nat.ble_eq, Nat.beq_eq] at hc
        obtain ⟨hc, rfl⟩ := hc
        subst hq
        have hb := fun i (hi : i < k) => StrR.byte (s := t) ⟨h1, h2⟩ i (by omega)
        refine ⟨(List.range k).map fun i => .int .u8 (.ofNat (byteAt (cutB N 0 k) i)), by simp, ⟨rfl, by simp, cutB_lt _ _ _, fun i hi => by rw [List.getElem?_map, List.getElem?_range hi]; rfl⟩, ?_⟩
        have hd : (t.extract 0 k).data = t.data.extract 0 k := ByteArray.data_extract
        have e : ((t.extract 0 k).data.map fun b => Value.int .u8 b.toNat) = ((List.range k).map fun i => Value.int .u8 (.ofNat (byteAt (cutB N 0 k) i))).toArray := by
          apply Array.ext'
          apply List.ext_getElem?
          intro i
          rw [hd]
          by_cases hi : i < k
          · obtain ⟨b, hb1, hb2⟩ := hb i hi
            rw [List.getElem?_map, List.getElem?_range hi]
            simp only [Array.getElem?_toList, Array.getElem?_map, Array.getElem?_extract, Nat.zero_add, Option.map_some]
            rw [if_pos (by omega), hb1, Option.map_some, hb2, byteAt_cutB hi, Nat.zero_add]; rfl
          · rw [List.getElem?_eq_none (by simp; omega), List.getElem?_eq_none (by simp; omega)]
        exact ⟨fun w1 _ => by simp only [Builtin.firstCells, Sem.run_pure, e], fun v hv => by simp only [List.mem_map] at hv; obtain ⟨i, _, rfl⟩ := hv; rfl⟩
      · rw [Bool.not_eq_true] at hc; rw [hc] at hq; cases hq
    · cases hq

/-! ### conversions -/
theorem push_all : ∀ (ns : List Int) (s : ByteArray), (ns.foldl (fun r n => r.push (UInt8.ofNat n.toNat)) s).data = s.data ++ (ns.map fun n => UInt8.ofNat n.toNat).toArray
  | [], s => by simp
  | n :: ns, s => by
    rw [List.foldl_cons, push_all ns]
    apply Array.ext'
    simp [ByteArray.push]
theorem ofNat_byte (N i : Nat) : (UInt8.ofNat (byteAt N i)).toNat = byteAt N i := by
  have := byteAt_lt N i
  simp [UInt8.toNat_ofNat']; omega
theorem bytesToString_sound (h : HR w0 G μ H w) {x : AV} {xv : Value} (hx : VR μ x xv) {len : Nat} {q : Seq} (hl : lenOfA x = some len) (hq : seqOf H 1 len x = some q) (hns : ∀ n N, x ≠ .str n N) :
    match q with | .emp => (Conv.bytesToString xv).run P w = .ok (.string .empty) w | .pk n N => ∃ s : ByteArray, (Conv.bytesToString xv).run P w = .ok (.string s) w ∧ StrR n N s | .rs _ => True := by
  obtain ⟨vs, hvl, hvr, hrun, _⟩ := seqOf_sound (P := P) h hx (fun n hn => by rw [hl] at hn; cases hn; exact Nat.le_refl _) (by rw [hl]; rfl) hq
  have hrun := hrun w rfl
  cases hx with
  | nils =>
    simp only [lenOfA, Option.some.injEq] at hl
    subst hl
    simp [seqOf] at hq; subst hq
    simp [Conv.bytesToString]
  | str n N s => exact absurd rfl (hns _ _)
  | sliceE _ _ a c =>
    simp only [lenOfA, Option.some.injEq] at hl
    subst hl
    simp [seqOf] at hq; subst hq
    simp [Conv.bytesToString, loadCells, loadCellsFrom]
  | slice b off len' cap g L hL =>
    simp only [lenOfA, Option.some.injEq] at hl
    subst hl
    have hrun' : (loadCells ⟨L.blk, L.base + off, none⟩ len').run P w = .ok vs.toArray w := by simpa [Builtin.firstCells] using hrun
    cases q with
    | emp =>
      have hvr : vs = [] := hvr
      subst hvr
      have hrun2 : (loadCells ⟨L.blk, L.base + off, none⟩ len').run P w = .ok (([] : List Int).map (Value.int .u8)).toArray w := hrun'
      exact run_bytesToString w _ _ _ [] hrun2
    | pk n N =>
      obtain ⟨_, hn, hN, hb⟩ := hvr
      have hv : vs = ((List.range n).map fun i => ((byteAt N i : Nat) : Int)).map (Value.int .u8) := by
        apply List.ext_getElem?
        intro i
        by_cases hi : i < n
        · rw [hb i hi, List.getElem?_map, List.getElem?_map, List.getElem?_range hi]; rfl
        · rw [List.getElem?_eq_none (by omega), List.getElem?_eq_none (by simp; omega)]
      rw [hv] at hrun'
      refine ⟨_, run_bytesToString w _ _ _ _ hrun', ?_⟩
      have e : ByteArray.empty.data = #[] := rfl
      refine StrR.mk' ?_ hN fun i hi => ⟨UInt8.ofNat (byteAt N i), ?_, ofNat_byte N i⟩
      · rw [push_all, e]; simp
      · rw [push_all, e]
        simp [hi]
    | rs l => trivial
  | _ => simp [lenOfA] at hl
end
end Go.Proofs.YtmapmbfohilklaaGreat.Ab
