/-
  The abstract machine: append and copy, carried out.
-/
import Derived.Test.YtmapmbfohilklaaGreatAbP
namespace Go.Proofs.YtmapmbfohilklaaGreat.Ab
open Go.RowKit

section
variable {P : Program} {w0 w : World} {G : Nat} {μ : Mu} {H : AH} {r : Result Next}
theorem zeroOk_inv {e : TypeId} {s : Nat} (h : zeroOk P e s = true) : ∃ z, zeroCellsA P e = some z ∧ z.length = s := by
  unfold zeroOk at h
  cases hz : zeroCellsA P e with
  | none => rw [hz] at h; cases h
  | some z => rw [hz] at h; exact ⟨z, rfl, by rwa [Nat.beq_eq] at h⟩
/-- So many cells of a row, as a list. -/
theorem cells_list {w : World} {g : Nat} {arr : Array Value} {t : TypeId} {fz : Nat × Nat} (hg : w.heap[g]? = some (.cells arr t fz)) {o m : Nat} (h : o + m ≤ arr.size) : ∃ vs : List Value, vs.length = m ∧ (∀ j, j < m → vs[j]? = arr[o + j]?) ∧ w.rangeAt g o vs := by
  refine ⟨(List.range m).map fun j => (arr[o + j]?).getD undef, by simp, fun j hj => ?_, fun j v hv => ?_⟩
  · rw [List.getElem?_map, List.getElem?_range hj, Option.map_some, Array.getElem?_eq_getElem (by omega)]; rfl
  · have hj : j < m := by have := (List.getElem?_eq_some_iff.1 hv).1; simpa using this
    rw [List.getElem?_map, List.getElem?_range hj, Option.map_some, Array.getElem?_eq_getElem (by omega)] at hv
    rw [cell_arr hg, Array.getElem?_eq_getElem (by omega)]; exact hv
theorem first_range {w : World} {g o : Nat} {vs : List Value} (h : w.rangeAt g o vs) {s n len cap : Nat} (hn : n * s = vs.length) : (Builtin.firstCells s n (.slice (some ⟨g, o, none⟩) len cap)).run P w = .ok vs.toArray w := by
  have := run_loadCells_list (P := P) w ⟨g, o, none⟩ vs (fun j v hv => by rw [Addr.add_mid]; exact h j v hv)
  simp only [Builtin.firstCells, hn, this]
theorem range_drew1 {g o : Nat} {vs : List Value} (h : w.rangeAt g o vs) : (drew1 w).rangeAt g o vs := h
theorem grew_append {o : Obj} : Grew o w { drew1 w with heap := w.heap.push o } := ⟨rfl, rfl, rfl, rfl⟩
/-- A slice that grew, where its row is read no more: on where it lies, or a new row. -/
theorem VR.grownAt {ν : Mu} {b : Nat} {K : Loc} (h : ν b = some K) {tot cap : Nat} (hc : tot + K.slack = cap) : VR ν (.slice b 0 tot tot true) (.slice (some ⟨K.blk, K.base, none⟩) tot cap) := by
  have := VR.slice (μ := ν) b 0 tot tot true K h
  rw [if_pos rfl, hc, Nat.add_zero] at this
  exact this
theorem grown_size {s len k : Nat} {ovs nvs : List Value} {zc : Array Value} (hol : ovs.length = len * s) (hnl : nvs.length = k * s) (hz : zc.size = s) {tot newCap : Nat} (htot : tot = len + k) (hcap : tot ≤ newCap) : (ovs.toArray ++ nvs.toArray ++ Builtin.zeroCells zc (newCap - tot)).size = newCap * s := by
  have e1 : newCap = len + k + (newCap - tot) := by omega
  have e2 : newCap * s = len * s + k * s + (newCap - tot) * s := by
    have := congrArg (· * s) e1
    simp only [Nat.add_mul] at this
    rw [this]
  simp [zeros_size, hol, hnl, hz]; omega
theorem grown_one {z : List AV} {e : TypeId} (hz : zeroCellsA P e = some z) {zc : Array Value} (hzc : LR μ z zc.toList) {ovs nvs : List Value} (ho1 : ∀ v ∈ ovs, v.oneCell' = true) (hn1 : ∀ v ∈ nvs, v.oneCell' = true) (n : Nat) : One (ovs.toArray ++ nvs.toArray ++ Builtin.zeroCells zc n) := by
  have hzl := hzc.length
  simp only [Array.length_toList] at hzl
  refine one_append (one_append (one_list ho1) (one_list hn1)) ?_
  have := zeros_one hzc (zeroCells_all hz) (n := n)
  rw [hzl] at this
  exact this
/-- A row of a slice that grew, not at its row's start. -/
theorem grownRows_sound (h : HR w0 G μ H w) {types : Array TypeId} {e : TypeId} {s : Nat} {xv : Value} {k : Nat} {vs : List Value} {zeros : Bool} (A : App P w types e s xv k vs zeros) (hvl : vs.length = k * s) (h1 : ∀ v ∈ vs, v.oneCell' = true)
    {l0 l : List (List AV)} {ovs : List Value} {len : Nat} (hl0 : LR μ l0.flatten ovs) (hr0 : ∀ row ∈ l0, row.length = s) (hll0 : l0.length = len) (ho1 : ∀ v ∈ ovs, v.oneCell' = true) (hl : LR μ l.flatten vs) (hsr : ∀ row ∈ l, row.length = s) (hll : l.length = k)
    {b n : Nat} {c : Tr (List AV)} {z' : List AV} {L : Loc} (hL : μ b = some L) (hG : G ≤ b) (hget : H.get b = .rows n s c z' e) {z : List AV} (hz : zeroCellsA P e = some z) {zv : Value} (hzr : (∀ w', (zeroValue e).run P w' = .ok zv w') ∧ LR μ z zv.cells.toList) (hzs : z.length = s)
    (hsm : len + k < 1048576) (hk : 0 < k) {a : Addr} {C off cap' : Nat} (hcap : n * s = off + cap' * s) (hlc : len ≤ cap') (ha : (C = 0 ∧ len = 0) ∨ (a = ⟨L.blk, L.base + off, none⟩ ∧ C = cap' + L.slack))
    (o3 : (Builtin.firstCells s len (.slice (some a) len C)).run P (drew1 w) = .ok ovs.toArray (drew1 w)) (ty : TypeId) (hr : ∀ v w', (Builtin.append_ types ty #[.slice (some a) len C, xv]).run P w = .ok v w' → r = .ok (.value v) w') :
    XR P w0 G μ H.size (H.setK b .dead fun H1 => H1.pushK (.rows (len + k) s (treeOf z' l (treeOf z' l0 .nil 0) len) z' e) fun H' => .val (.slice H.size 0 (len + k) (len + k) true) H') r := by
  have hs0 := A.pos
  have o1 : ovs.length = len * s := by rw [← hl0.length, flat_length l0 hr0, hll0]
  have hrowN : ∀ i, i < len + k → (getR (treeOf z' l (treeOf z' l0 .nil 0) len) (path i) z').length = s ∧ ∀ j a, (getR (treeOf z' l (treeOf z' l0 .nil 0) len) (path i) z')[j]? = some a → ∃ v, (ovs ++ vs)[i * s + j]? = some v ∧ VR μ a v := fun i hi => by
    rw [treeOf_get, treeOf_get]
    by_cases h2 : len ≤ i
    · rw [if_pos (by omega), List.getElem?_eq_getElem (by omega), Option.getD_some]
      refine ⟨hsr _ (List.getElem_mem _), fun j a ha => ?_⟩
      obtain ⟨v, hv, hvr⟩ := seq_row hl hsr (List.getElem?_eq_getElem (by omega)) ha
      have e : (i - len) * s + len * s = i * s := by rw [← Nat.add_mul]; congr 1; omega
      refine ⟨v, ?_, hvr⟩
      rw [List.getElem?_append_right (by omega), o1, ← hv]; congr 1; omega
    · rw [if_neg (by omega), if_pos (by omega), Nat.sub_zero, List.getElem?_eq_getElem (by omega), Option.getD_some]
      refine ⟨hr0 _ (List.getElem_mem _), fun j a ha => ?_⟩
      obtain ⟨v, hv, hvr⟩ := seq_row hl0 hr0 (List.getElem?_eq_getElem (by omega)) ha
      exact ⟨v, by rw [List.getElem?_append_left (List.getElem?_eq_some_iff.1 hv).1]; exact hv, hvr⟩
  obtain ⟨arr, ho, hsz, _⟩ := h.rows hL hget
  have hone := h.rowsOne hL hget ho
  rw [setK_eq, pushK_eq]
  rcases Nat.lt_or_ge C (len + k) with hgrow | hroom
  · obtain ⟨newCap, hcap, hrun⟩ := run_append_grow A (base := some a) (len := len) (cap := C) hgrow hsm ty o3 hzr.1
    have hzl : zv.cells.size = s := by have := hzr.2.length; simp only [Array.length_toList] at this; omega
    have hsz2 := grown_size o1 hvl hzl (tot := len + k) rfl hcap
    have hp := (h.kill b).push (o := .rows (len + k) s (treeOf z' l (treeOf z' l0 .nil 0) len) z' e) (L := ⟨w.heap.size, 0, newCap - (len + k)⟩) (grew_append (o := .cells (ovs.toArray ++ vs.toArray ++ Builtin.zeroCells zv.cells (newCap - (len + k))) e)) rfl
      ⟨_, rfl, by rw [hsz2]; simp only [Nat.zero_add]; rw [show len + k + (newCap - (len + k)) = newCap by omega]; exact Nat.le_refl _, fun i hi => ⟨(hrowN i hi).1, fun j a ha => ?_⟩, grown_one hz hzr.2 ho1 h1 _⟩
    · exact XR.new hp (VR.grownAt (K := ⟨w.heap.size, 0, newCap - (len + k)⟩) (Mu.up_same _ _ _) (cap := newCap) (by show len + k + (newCap - (len + k)) = newCap; omega)) (hr _ _ hrun)
    · obtain ⟨v, hv, hvr⟩ := (hrowN i hi).2 j a ha
      refine ⟨v, ?_, hvr.mono (Mu.up_le (h.dom _ (Nat.le_refl _)) _)⟩
      have hlt := (List.getElem?_eq_some_iff.1 hv).1
      rw [List.length_append] at hlt
      rw [app_get]
      simp only [Nat.zero_add, List.size_toArray, List.getElem?_toArray]
      by_cases h5 : i * s + j < ovs.length
      · rw [if_pos h5]; rw [List.getElem?_append_left h5] at hv; exact hv
      · rw [if_neg h5, if_pos hlt]; rw [List.getElem?_append_right (by omega)] at hv; exact hv
  · obtain ⟨rfl, rfl⟩ : a = ⟨L.blk, L.base + off, none⟩ ∧ C = cap' + L.slack := by
      rcases ha with ⟨e1, e2⟩ | ha
      · omega
      · exact ha
    have hsz' : L.base + off + (cap' + L.slack) * s ≤ arr.size := by rw [Nat.add_mul] at hsz ⊢; omega
    have h2 : (len + k) * s ≤ (cap' + L.slack) * s := Nat.mul_le_mul_right s hroom
    have h3 : (len + k) * s = len * s + k * s := Nat.add_mul ..
    have hbs : L.base + off + len * s + vs.length ≤ arr.size := by omega
    have hov : ∀ j, j < len * s → ovs[j]? = arr[L.base + off + j]? := by
      obtain ⟨cs, c1, c2, c3⟩ := cells_list ho (o := L.base + off) (m := len * s) (by omega)
      have := first_range (P := P) (range_drew1 c3) (s := s) (n := len) (len := len) (cap := cap' + L.slack) (by omega)
      rw [o3] at this
      have e1 : ovs = cs := by simpa using this
      intro j hj
      rw [e1]; exact c2 j hj
    have hst := run_storeCells_free P L.blk (L.base + off + len * s) e (0, 0) vs 0 arr w ho (free_none _) (by omega) h1
    have hrun := run_append_room A (base := some ⟨L.blk, L.base + off, none⟩) (len := len) (cap := cap' + L.slack) hroom ty (w' := w.setRow L.blk (splice arr (L.base + off + len * s) vs)) (by show (storeCells ((⟨L.blk, L.base + off, none⟩ : Addr).add (len * s)) vs).run P w = _; rw [Addr.add_mid]; simpa using hst)
    have hp := h.rename hL hG (by rw [hget]; intro h; cases h) (K := ⟨L.blk, L.base + off, cap' + L.slack - (len + k)⟩) rfl (apart_setRow w L.blk (splice arr (L.base + off + len * s) vs)) (setRow_heap w _ _ _ e (0, 0) ho) (o := .rows (len + k) s (treeOf z' l (treeOf z' l0 .nil 0) len) z' e)
      ⟨_, rfl, by rw [splice_size hbs]; simp only; rw [show len + k + (cap' + L.slack - (len + k)) = cap' + L.slack by omega]; exact hsz', fun i hi => ⟨(hrowN i hi).1, fun j a ha => ?_⟩, hone.splice h1⟩
    · exact XR.new hp (VR.grownAt (K := ⟨L.blk, L.base + off, cap' + L.slack - (len + k)⟩) (Mu.up_same _ _ _) (cap := cap' + L.slack) (by show len + k + (cap' + L.slack - (len + k)) = cap' + L.slack; omega)) (hr _ _ hrun)
    · obtain ⟨v, hv, hvr⟩ := (hrowN i hi).2 j a ha
      refine ⟨v, ?_, hvr.mono (Mu.up_le (h.dom _ (Nat.le_refl _)) _)⟩
      have hlt := (List.getElem?_eq_some_iff.1 hv).1
      rw [List.length_append] at hlt
      rw [splice_get hbs]
      simp only
      by_cases h5 : i * s + j < ovs.length
      · rw [if_pos (by omega)]; rw [List.getElem?_append_left h5, hov _ (by omega)] at hv; rw [← hv]; congr 1; omega
      · rw [if_neg (by omega), if_pos (by omega)]; rw [List.getElem?_append_right (by omega)] at hv; rw [← hv]; congr 1; omega
theorem appendTo_sound (h : HR w0 G μ H w) {types : Array TypeId} {e : TypeId} {s : Nat} {xv : Value} {k : Nat} {vs : List Value} {zeros : Bool} (A : App P w types e s xv k vs zeros) {q : Seq} (hq : SeqR μ s q vs) (hvl : vs.length = k * s) (h1 : ∀ v ∈ vs, v.oneCell' = true)
    {sl : AV} {slv : Value} (hs : VR μ sl slv) {x : AV} (ty : TypeId) (hr : ∀ v w', (Builtin.append_ types ty #[slv, xv]).run P w = .ok v w' → r = .ok (.value v) w') : XR P w0 G μ H.size (appendTo P G e s sl x k q H) r := by
  have hs0 := A.pos
  unfold appendTo
  split
  · cases hs
    refine XR.cond (fun hk => ?_) (fun _ => XR.cond (fun hc => ?_) (fun _ => trivial))
    · rw [Nat.beq_eq] at hk
      subst hk
      exact XR.value h .nils (hr _ _ (run_append_room A (base := none) (len := 0) (cap := 0) (by omega) ty rfl))
    · rename_i hk
      have hk : k ≠ 0 := fun e => by rw [e] at hk; cases hk
      rw [Bool.and_eq_true, Nat.blt_eq] at hc
      obtain ⟨z, hz, hzs⟩ := zeroOk_inv hc.2
      obtain ⟨zv, hzr⟩ : ∃ zv, (∀ w', (zeroValue e).run P w' = .ok zv w') ∧ LR μ z zv.cells.toList := by
        obtain ⟨_, zv, h1, h2⟩ := zeroCells_spec (w := w) hz
        exact ⟨zv, fun w' => by
          obtain ⟨_, zv', h1', _⟩ := zeroCells_spec (w := w') hz
          have : zv' = zv := by
            simp only [zeroValue, typeInfo, Sem.run_bind, run_program, Result.andThen_ok] at h1 h1'
            cases hi : P.info? e with
            | none => simp [hi] at h1
            | some i => simp only [hi, Sem.run_pure, Result.andThen_ok] at h1 h1'; cases hz : i.zero <;> simp_all
          rw [← this]; exact h1', h2 μ⟩
      obtain ⟨newCap, hcap, hrun⟩ := run_append_grow A (base := none) (len := 0) (cap := 0) (by omega) (by omega) ty (old := []) (by simp [Builtin.firstCells]) hzr.1
      rw [Nat.zero_add] at hcap hrun
      exact grown_sound h hz hzr.2 hzs hs0 (len := 0) (old := .emp) (ovs := []) rfl (by simp) (by simp) hq hvl h1 (by omega) hcap grew_append (hr _ _ hrun)
  · rename_i b off len cap g
    obtain ⟨L, hL, rfl⟩ := hs.slice_inv
    refine XR.cond (fun hroom => XR.cond (fun hG => ?_) (fun _ => trivial)) (fun hno => XR.cond (fun hc => ?_) (fun _ => trivial))
    · rw [Nat.ble_eq] at hroom hG
      have hroom : len + k ≤ cap := hroom
      refine putSeq_sound h hL hG hq h1 fun H' w' hH hst => ?_
      rw [rSlice_eq]
      have hst' : (storeCells ((⟨L.blk, L.base + off, none⟩ : Addr).add (len * s)) vs).run P w = .ok () w' := by
        rw [Addr.add_mid, Nat.add_assoc]; exact hst
      have := run_append_room A (base := some ⟨L.blk, L.base + off, none⟩) (len := len) (cap := cap + if g then L.slack else 0) (by omega) ty hst'
      exact XR.new ⟨hH, μ.lx_refl _⟩ (.slice b off (len + k) cap g L hL) (hr _ _ this)
    · have hno : cap < len + k := by
        rcases Nat.lt_or_ge cap (len + k) with h' | h'
        · exact h'
        · have : Nat.ble (Nat.add len k) cap = true := by rw [Nat.ble_eq]; exact h'
          rw [this] at hno; cases hno
      rw [Bool.and_eq_true, Bool.and_eq_true, Nat.blt_eq, Nat.ble_eq] at hc
      obtain ⟨hsm, hlc, hzo⟩ := hc
      have hsm : len + k < 1048576 := hsm
      obtain ⟨z, hz, hzs⟩ := zeroOk_inv hzo
      obtain ⟨zv, hzr⟩ : ∃ zv, (∀ w', (zeroValue e).run P w' = .ok zv w') ∧ LR μ z zv.cells.toList := by
        obtain ⟨_, zv, h1, h2⟩ := zeroCells_spec (w := w) hz
        exact ⟨zv, fun w' => by
          obtain ⟨_, zv', h1', _⟩ := zeroCells_spec (w := w') hz
          have : zv' = zv := by
            simp only [zeroValue, typeInfo, Sem.run_bind, run_program, Result.andThen_ok] at h1 h1'
            cases hi : P.info? e with
            | none => simp [hi] at h1
            | some i => simp only [hi, Sem.run_pure, Result.andThen_ok] at h1 h1'; cases hz : i.zero <;> simp_all
          rw [← this]; exact h1', h2 μ⟩
      split
      · trivial
      · rename_i old hold
        obtain ⟨ovs, o1, o2, o3, o4⟩ := seqOf_sound (P := P) h (x := .slice b off len cap g) (.slice b off len cap g L hL) (fun n hn => by simp only [lenOfA, Option.some.injEq] at hn; omega) rfl hold
        have o3 := o3 (drew1 w) rfl
        refine XR.cond (fun hg => ?_) (fun hg => ?_)
        · subst hg
          rw [if_pos rfl] at hr o3
          split
          · rename_i n s' c z' e' hget
            refine XR.cond (fun hc => ?_) (fun _ => XR.cond (fun hc => ?_) (fun _ => trivial))
            rotate_left
            · simp only [Bool.and_eq_true, Nat.beq_eq, Nat.ble_eq] at hc
              obtain ⟨hG, hcp, rfl, rfl⟩ := hc
              have hlen : ∀ l : List (List AV), ∀ vs : List Value, ∀ k, LR μ l.flatten vs → (∀ row ∈ l, row.length = s) → vs.length = k * s → l.length = k := fun l vs k hl hsr hvl => by
                have : l.length * s = k * s := by rw [← flat_length l hsr, hl.length, hvl]
                exact Nat.eq_of_mul_eq_mul_right hs0 this
              split
              · rename_i l0 l
                obtain ⟨hl0, hr0⟩ := o2
                obtain ⟨hl, hsr⟩ := hq
                rw [setRowsK_eq, setRowsK_eq, fNat_eq]
                exact grownRows_sound h A hvl h1 hl0 hr0 (hlen _ _ _ hl0 hr0 o1) o4 hl hsr (hlen _ _ _ hl hsr hvl) hL hG hget hz hzr hzs hsm (by omega) hcp hlc (.inr ⟨rfl, rfl⟩) o3 ty hr
              · rename_i l
                have o2 : ovs = [] := o2
                subst o2
                obtain ⟨hl, hsr⟩ := hq
                have hl00 : len = 0 := by
                  rcases Nat.mul_eq_zero.1 (show len * s = 0 from o1.symm) with e | e
                  · exact e
                  · omega
                subst hl00
                rw [setRowsK_eq, fNat_eq]
                exact grownRows_sound (l0 := []) h A hvl h1 .nil (by simp) rfl o4 hl hsr (hlen _ _ _ hl hsr hvl) hL hG hget hz hzr hzs hsm (by omega) hcp hlc (.inr ⟨rfl, rfl⟩) o3 ty hr
              · trivial
            simp only [Bool.and_eq_true, Nat.beq_eq, Nat.ble_eq] at hc
            obtain ⟨hG, rfl, rfl, rfl, rfl⟩ := hc
            split
            · rename_i l
              obtain ⟨hl, hsr⟩ := hq
              obtain ⟨arr, ho, hsz, hrow⟩ := h.rows hL hget
              have hone := h.rowsOne hL hget ho
              have hll : l.length = k := by
                have : l.length * s = k * s := by rw [← flat_length l hsr, hl.length, hvl]
                exact Nat.eq_of_mul_eq_mul_right hs0 this
              rw [setRowsK_eq, fNat_eq, setK_eq, pushK_eq]
              rcases Nat.lt_or_ge (n + L.slack) (len + k) with hgrow | hroom
              · -- a new row
                obtain ⟨newCap, hcap, hrun⟩ := run_append_grow A (base := some ⟨L.blk, L.base + 0, none⟩) (len := len) (cap := n + L.slack) hgrow hsm ty o3 hzr.1
                have hold2 : ∀ i, i < len → ∀ j a, (getR c (path i) z')[j]? = some a → ∃ v, ovs[i * s + j]? = some v ∧ VR μ a v := by
                  obtain ⟨cs, c1, c2, c3⟩ := cells_list ho (o := L.base + 0) (m := len * s) (by have : len * s ≤ (n + L.slack) * s := Nat.mul_le_mul_right s (by omega); omega)
                  have := first_range (P := P) (range_drew1 c3) (s := s) (n := len) (len := len) (cap := n + L.slack) (by omega)
                  rw [o3] at this
                  have e1 : ovs = cs := by simpa using this
                  intro i hi j a ha
                  obtain ⟨g1, g2⟩ := hrow i (by omega)
                  obtain ⟨v, hv, hvr⟩ := g2 j a ha
                  have hj : j < s := by rw [← g1]; exact (List.getElem?_eq_some_iff.1 ha).1
                  have := mul_step hi s
                  exact ⟨v, by rw [e1, c2 _ (by omega), ← hv]; congr 1; omega, hvr⟩
                have hzl : zv.cells.size = s := by have := hzr.2.length; simp only [Array.length_toList] at this; omega
                have hsz2 := grown_size o1 hvl hzl (tot := len + k) rfl hcap
                have hp := (h.kill b).push (o := .rows (len + k) s (treeOf z' l c len) z' e') (L := ⟨w.heap.size, 0, newCap - (len + k)⟩) (grew_append (o := .cells (ovs.toArray ++ vs.toArray ++ Builtin.zeroCells zv.cells (newCap - (len + k))) e')) rfl
                  ⟨_, rfl, by rw [hsz2]; simp only [Nat.zero_add]; rw [show len + k + (newCap - (len + k)) = newCap by omega]; exact Nat.le_refl _, fun i hi => ?_, grown_one hz hzr.2 o4 h1 _⟩
                · exact XR.new hp (VR.grownAt (K := ⟨w.heap.size, 0, newCap - (len + k)⟩) (Mu.up_same _ _ _) (cap := newCap) (by show len + k + (newCap - (len + k)) = newCap; omega)) (hr _ _ hrun)
                · rw [treeOf_get]
                  by_cases h2 : len ≤ i
                  · rw [if_pos (by omega), List.getElem?_eq_getElem (by omega), Option.getD_some]
                    refine ⟨hsr _ (List.getElem_mem _), fun j a ha => ?_⟩
                    obtain ⟨v, hv, hvr⟩ := seq_row hl hsr (List.getElem?_eq_getElem (by omega)) ha
                    have hlt := (List.getElem?_eq_some_iff.1 hv).1
                    have e : (i - len) * s + len * s = i * s := by rw [← Nat.add_mul]; congr 1; omega
                    refine ⟨v, ?_, hvr.mono (Mu.up_le (h.dom _ (Nat.le_refl _)) _)⟩
                    rw [app_get]
                    simp only [Nat.zero_add, List.size_toArray, List.getElem?_toArray]
                    rw [if_neg (by omega), if_pos (by omega), ← hv]; congr 1; omega
                  · rw [if_neg (by omega)]
                    refine ⟨(hrow i (by omega)).1, fun j a ha => ?_⟩
                    obtain ⟨v, hv, hvr⟩ := hold2 i (by omega) j a ha
                    have hlt := (List.getElem?_eq_some_iff.1 hv).1
                    refine ⟨v, ?_, hvr.mono (Mu.up_le (h.dom _ (Nat.le_refl _)) _)⟩
                    rw [app_get]
                    simp only [Nat.zero_add, List.size_toArray, List.getElem?_toArray]
                    rw [if_pos (by omega)]; exact hv
              · have hbs : L.base + len * s + vs.length ≤ arr.size := by
                  have h2 : (len + k) * s ≤ (n + L.slack) * s := Nat.mul_le_mul_right s hroom
                  rw [Nat.add_mul] at h2
                  omega
                have hst := run_storeCells_free P L.blk (L.base + len * s) e' (0, 0) vs 0 arr w ho (free_none _) (by omega) h1
                have hrun := run_append_room A (base := some ⟨L.blk, L.base + 0, none⟩) (len := len) (cap := n + L.slack) hroom ty (w' := w.setRow L.blk (splice arr (L.base + len * s) vs)) (by show (storeCells ((⟨L.blk, L.base + 0, none⟩ : Addr).add (len * s)) vs).run P w = _; rw [Addr.add_mid]; simpa using hst)
                have hov := rows_over (L := L) (n := len + k) (i := len) (l := l) (c := c) (z := z') (fun i hi hor => hrow i (by omega)) hl hsr hbs
                have hp := h.rename hL hG (by rw [hget]; intro h; cases h) (K := ⟨L.blk, L.base, n + L.slack - (len + k)⟩) rfl (apart_setRow w L.blk (splice arr (L.base + len * s) vs)) (setRow_heap w _ _ _ e' (0, 0) ho) (o := .rows (len + k) s (treeOf z' l c len) z' e')
                  ⟨_, rfl, by rw [splice_size hbs]; simp only; rw [show len + k + (n + L.slack - (len + k)) = n + L.slack by omega]; exact hsz, fun i hi => ⟨(hov i hi).1, (hov i hi).2.mono (Mu.up_le (h.dom _ (Nat.le_refl _)) _)⟩, hone.splice h1⟩
                exact XR.new hp (VR.grownAt (K := ⟨L.blk, L.base, n + L.slack - (len + k)⟩) (Mu.up_same _ _ _) (cap := n + L.slack) (by show len + k + (n + L.slack - (len + k)) = n + L.slack; omega)) (hr _ _ hrun)
            · trivial
          · rename_i n N e' st hget
            refine XR.cond (fun hc => ?_) (fun _ => trivial)
            simp only [Bool.and_eq_true, Nat.beq_eq, Nat.ble_eq] at hc
            obtain ⟨hG, hn, rfl, rfl⟩ := hc
            have hn : n = off + cap := hn
            split
            · rename_i m M
              obtain ⟨_, hm, hM, hv⟩ := hq
              obtain rfl : m = k := by omega
              obtain ⟨arr, fz, ho, hN, hsz, hcell, hf, hst⟩ := h.bytes hL hget
              rw [fNat_eq, fNat_eq, setK_eq, pushK_eq]
              have hR : cutB (coreB N) off len + 256 ^ len * M < 256 ^ (len + m) := join_lt (cutB_lt _ _ _) hM
              rcases Nat.lt_or_ge (cap + L.slack) (len + m) with hgrow | hroom
              · obtain ⟨newCap, hcap, hrun⟩ := run_append_grow A (base := some ⟨L.blk, L.base + off, none⟩) (len := len) (cap := cap + L.slack) hgrow hsm ty o3 hzr.1
                have hold2 : ∀ i, i < len → ovs[i]? = some (.int .u8 (.ofNat (byteAt (coreB N) (off + i)))) := by
                  obtain ⟨cs, c1, c2, c3⟩ := cells_list ho (o := L.base + off) (m := len * 1) (by omega)
                  have := first_range (P := P) (range_drew1 c3) (s := 1) (n := len) (len := len) (cap := cap + L.slack) (by omega)
                  rw [o3] at this
                  have e1 : ovs = cs := by simpa using this
                  intro i hi
                  rw [e1, c2 _ (by omega), Nat.add_assoc]; exact hcell _ (by omega)
                have hzl : zv.cells.size = 1 := by have := hzr.2.length; simp only [Array.length_toList] at this; omega
                have hsz2 := grown_size o1 hvl hzl (tot := len + m) rfl hcap
                have hp := (h.kill b).push (o := .bytes (len + m) (sealB (cutB (coreB N) off len + 256 ^ len * M)) e' st) (L := ⟨w.heap.size, 0, newCap - (len + m)⟩) (grew_append (o := .cells (ovs.toArray ++ vs.toArray ++ Builtin.zeroCells zv.cells (newCap - (len + m))) e')) rfl
                  ⟨_, (0, 0), rfl, by rw [core_seal]; exact hR, by rw [hsz2]; simp only; omega, fun i hi => ?_, free_none _, fun _ => rfl⟩
                · exact XR.new hp (VR.grownAt (K := ⟨w.heap.size, 0, newCap - (len + m)⟩) (Mu.up_same _ _ _) (cap := newCap) (by show len + m + (newCap - (len + m)) = newCap; omega)) (hr _ _ hrun)
                · rw [core_seal, byteAt_join (cutB_lt _ _ _), app_get]
                  simp only [Nat.zero_add, List.size_toArray, List.getElem?_toArray]
                  by_cases h2 : i < len
                  · rw [if_pos (by omega), if_pos h2, byteAt_cutB h2]; exact hold2 i h2
                  · rw [if_neg (by omega), if_pos (by omega), if_neg h2, show i - ovs.length = i - len by omega]; exact hv _ (by omega)
              · have hbs : L.base + off + len + vs.length ≤ arr.size := by omega
                have hst' := run_storeCells_free P L.blk (L.base + off + len) e' fz vs 0 arr w ho hf (by omega) h1
                have hrun := run_append_room A (base := some ⟨L.blk, L.base + off, none⟩) (len := len) (cap := cap + L.slack) hroom ty (w' := w.setRow L.blk (splice arr (L.base + off + len) vs)) (by show (storeCells ((⟨L.blk, L.base + off, none⟩ : Addr).add (len * 1)) vs).run P w = _; rw [Addr.add_mid, Nat.mul_one]; simpa using hst')
                have hp := h.rename hL hG (by rw [hget]; intro h; cases h) (K := ⟨L.blk, L.base + off, cap + L.slack - (len + m)⟩) rfl (apart_setRow w L.blk (splice arr (L.base + off + len) vs)) (setRow_heap w _ _ _ e' fz ho) (o := .bytes (len + m) (sealB (cutB (coreB N) off len + 256 ^ len * M)) e' st)
                  ⟨_, fz, rfl, by rw [core_seal]; exact hR, by rw [splice_size hbs]; simp only; omega, fun i hi => ?_, by rw [splice_size hbs]; exact hf, hst⟩
                · exact XR.new hp (VR.grownAt (K := ⟨L.blk, L.base + off, cap + L.slack - (len + m)⟩) (Mu.up_same _ _ _) (cap := cap + L.slack) (by show len + m + (cap + L.slack - (len + m)) = cap + L.slack; omega)) (hr _ _ hrun)
                · rw [core_seal, byteAt_join (cutB_lt _ _ _), splice_get hbs]
                  by_cases h2 : i < len
                  · rw [if_pos (by simp only; omega), if_pos h2, byteAt_cutB h2]; simp only; rw [Nat.add_assoc]; exact hcell _ (by omega)
                  · rw [if_neg (by simp only; omega), if_pos (by simp only; omega), if_neg h2]; rw [← hv _ (by omega)]; congr 1; simp only; omega
            · trivial
          · trivial
        · subst hg
          have hrun := run_append_grow A (base := some ⟨L.blk, L.base + off, none⟩) (len := len) (cap := cap + if false then L.slack else 0) (by simpa using hno) hsm ty o3 hzr.1
          obtain ⟨newCap, hcap, hrun⟩ := hrun
          exact grown_sound h hz hzr.2 hzs hs0 (len := len) o2 o1 o4 hq hvl h1 rfl hcap grew_append (hr _ _ hrun)
  · rename_i b off
    cases hs with
    | sliceE _ _ a C L hL hac =>
    refine XR.cond (fun hc => ?_) (fun _ => trivial)
    rw [Bool.and_eq_true, Bool.and_eq_true, Bool.and_eq_true, Nat.blt_eq, Nat.blt_eq, Nat.ble_eq] at hc
    obtain ⟨hsm, hk, hzo, hG⟩ := hc
    obtain ⟨z, hz, hzs⟩ := zeroOk_inv hzo
    obtain ⟨zv, hzr⟩ : ∃ zv, (∀ w', (zeroValue e).run P w' = .ok zv w') ∧ LR μ z zv.cells.toList := by
      obtain ⟨_, zv, h1, h2⟩ := zeroCells_spec (w := w) hz
      exact ⟨zv, fun w' => by
        obtain ⟨_, zv', h1', _⟩ := zeroCells_spec (w := w') hz
        have : zv' = zv := by
          simp only [zeroValue, typeInfo, Sem.run_bind, run_program, Result.andThen_ok] at h1 h1'
          cases hi : P.info? e with
          | none => simp [hi] at h1
          | some i => simp only [hi, Sem.run_pure, Result.andThen_ok] at h1 h1'; cases hz : i.zero <;> simp_all
        rw [← this]; exact h1', h2 μ⟩
    split
    · rename_i n s' c z' e' l hget
      refine XR.cond (fun hc => ?_) (fun _ => trivial)
      simp only [Bool.and_eq_true, Nat.beq_eq] at hc
      obtain ⟨hcp, rfl, rfl⟩ := hc
      obtain ⟨hl, hsr⟩ := hq
      have hll : l.length = k := by
        have : l.length * s = k * s := by rw [← flat_length l hsr, hl.length, hvl]
        exact Nat.eq_of_mul_eq_mul_right hs0 this
      have hcp : n * s = off := hcp
      rw [setRowsK_eq]
      have := grownRows_sound (l0 := []) (ovs := []) (len := 0) (off := off) (cap' := 0) h A hvl h1 .nil (by simp) rfl (by simp) hl hsr hll hL hG hget hz hzr hzs (by omega) hk (by omega) (Nat.le_refl _) (a := a) (C := C) (hac.imp (fun e => ⟨e, rfl⟩) (fun hac => ⟨hac.1, by rw [Nat.zero_add]; exact hac.2⟩)) (by simp [Builtin.firstCells, loadCells, loadCellsFrom]) ty hr
      rw [Nat.zero_add] at this
      exact this
    · trivial
  · trivial
end
end Go.Proofs.YtmapmbfohilklaaGreat.Ab
