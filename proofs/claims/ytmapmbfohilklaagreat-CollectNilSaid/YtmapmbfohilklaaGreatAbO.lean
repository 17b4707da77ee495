/-
  The abstract machine: append and copy, carried out.
-/
import Derived.Test.YtmapmbfohilklaaGreatAbN
namespace Go.Proofs.YtmapmbfohilklaaGreat.Ab
open Go.RowKit

theorem flat_get {α : Type} {s : Nat} : ∀ (l : List (List α)), (∀ row ∈ l, row.length = s) → ∀ (i j : Nat), j < s → l.flatten[i * s + j]? = (l[i]?).bind (·[j]?)
  | [], _, i, j, _ => by simp
  | row :: l, h, 0, j, hj => by
    have h0 := h row (by simp)
    rw [List.flatten_cons, Nat.zero_mul, Nat.zero_add, List.getElem?_append_left (by omega)]; simp
  | row :: l, h, i + 1, j, hj => by
    have h0 := h row (by simp)
    rw [List.flatten_cons, List.getElem?_append_right (by rw [Nat.succ_mul]; omega), h0, Nat.succ_mul, show i * s + s + j - s = i * s + j by omega, flat_get l (fun r hr => h r (by simp [hr])) i j hj]
    simp
theorem flat_length {α : Type} {s : Nat} : ∀ (l : List (List α)), (∀ row ∈ l, row.length = s) → l.flatten.length = l.length * s
  | [], _ => by simp
  | row :: l, h => by
    rw [List.flatten_cons, List.length_append, h row (by simp), flat_length l (fun r hr => h r (by simp [hr])), List.length_cons, Nat.succ_mul]; omega
section
variable {P : Program} {w0 w : World} {G : Nat} {μ : Mu} {H : AH} {r : Result Next}
/-- The row number i of a sequence stands for the cells from i * s on. -/
theorem seq_row {l : List (List AV)} {vs : List Value} {s : Nat} (h : LR μ l.flatten vs) (hs : ∀ row ∈ l, row.length = s) {i j : Nat} {row : List AV} {a : AV} (hr : l[i]? = some row) (ha : row[j]? = some a) : ∃ v, vs[i * s + j]? = some v ∧ VR μ a v := by
  have hj : j < s := by rw [← hs row (List.mem_of_getElem? hr)]; exact (List.getElem?_eq_some_iff.1 ha).1
  exact h.get _ a (by rw [flat_get l hs i j hj, hr]; exact ha)
theorem HR.same (h : HR w0 G μ H w) {H' : AH} (hs : H'.size = H.size) (hg : ∀ c, H'.get c = H.get c) : HR w0 G μ H' w :=
  ⟨h.below, fun b hb => h.dom b (by omega), fun b L hL hd => by rw [hg] at hd ⊢; exact h.obj b L hL hd, h.own, fun b c L K hb hc => by rw [hg] at hb hc; exact h.inj b c L K hb hc, h.lt,
    fun b hb => by rw [hg]; exact h.live b (by omega), by have := h.gs; omega⟩
theorem HR.set_same (h : HR w0 G μ H w) (b : Nat) : HR w0 G μ (H.set b (H.get b)) w := h.same rfl fun c => by
  rw [get_set]
  by_cases e : c = b
  · rw [if_pos e, e]
  · rw [if_neg e]
/-- Rows written over a row of rows. -/
theorem rows_over {L : Loc} {n s : Nat} {c : Tr (List AV)} {z : List AV} {arr : Array Value} {l : List (List AV)} {vs : List Value} {i : Nat}
    (hr : ∀ k, k < n → k < i ∨ i + l.length ≤ k → (getR c (path k) z).length = s ∧ RowR μ arr (L.base + k * s) (getR c (path k) z)) (hl : LR μ l.flatten vs) (hs : ∀ row ∈ l, row.length = s) (hb : L.base + i * s + vs.length ≤ arr.size) :
    ∀ k, k < n → (getR (treeOf z l c i) (path k) z).length = s ∧ RowR μ (splice arr (L.base + i * s) vs) (L.base + k * s) (getR (treeOf z l c i) (path k) z) := by
  intro k hk
  have hvl : vs.length = l.length * s := by rw [← hl.length, flat_length l hs]
  rw [treeOf_get]
  by_cases h1 : i ≤ k ∧ k < i + l.length
  · rw [if_pos h1]
    have hki : k - i < l.length := by omega
    rw [List.getElem?_eq_getElem hki, Option.getD_some]
    refine ⟨hs _ (List.getElem_mem hki), fun j a ha => ?_⟩
    have hj : j < s := by rw [← hs _ (List.getElem_mem hki)]; exact (List.getElem?_eq_some_iff.1 ha).1
    obtain ⟨v, hv, hvr⟩ := seq_row hl hs (List.getElem?_eq_getElem hki) ha
    have e : i * s + (k - i) * s = k * s := by rw [← Nat.add_mul]; congr 1; omega
    refine ⟨v, ?_, hvr⟩
    have hlt := (List.getElem?_eq_some_iff.1 hv).1
    rw [splice_get hb, if_neg (by omega), if_pos (by omega), ← hv]
    congr 1; omega
  · rw [if_neg h1]
    obtain ⟨g1, g2⟩ := hr k hk (by omega)
    refine ⟨g1, fun j a ha => ?_⟩
    have hj : j < s := by rw [← g1]; exact (List.getElem?_eq_some_iff.1 ha).1
    obtain ⟨v, hv, hvr⟩ := g2 j a ha
    refine ⟨v, ?_, hvr⟩
    rw [splice_get hb]
    rcases Nat.lt_or_ge k i with h2 | h2
    · have := mul_step h2 s
      rw [if_pos (by omega)]; exact hv
    · have h3 : i + l.length ≤ k := by omega
      have := Nat.mul_le_mul_right s h3
      rw [Nat.add_mul] at this
      rw [if_neg (by omega), if_neg (by omega)]; exact hv
/-- Cells written within one row. -/
theorem put_row (h : HR w0 G μ H w) {b off : Nat} {L : Loc} (hL : μ b = some L) (hG : G ≤ b) {n' s : Nat} {c : Tr (List AV)} {z : List AV} {e : TypeId} (hg : H.get b = .rows n' s c z e) {new : List AV} {vs : List Value} (hl : LR μ new vs) (h1 : ∀ v ∈ vs, v.oneCell' = true)
    (hlt : off < n' * s) (hle : off % s + new.length ≤ s) {k : AH → X}
    (hk : ∀ H' w', HR w0 G μ H' w' → (storeCells ⟨L.blk, L.base + off, none⟩ vs).run P w = .ok () w' → XR P w0 G μ H.size (k H') r) :
    XR P w0 G μ H.size (setR (path (off / s)) c (putAt (getR c (path (off / s)) z) (off % s) new) z fun c' => H.setK b (.rows n' s c' z e) k) r := by
  obtain ⟨arr, ho, hsz, hrow⟩ := h.rows hL hg
  obtain ⟨hi, hj, hs0⟩ := row_lt hlt
  obtain ⟨hb, hov⟩ := rows_put hsz hrow hi hle hl
  have hdm := div_mod off s
  have e0 : L.base + off / s * s + off % s = L.base + off := by omega
  rw [e0] at hb hov
  rw [setR_eq, setK_eq]
  refine hk _ (w.setRow L.blk (splice arr (L.base + off) vs)) ?_ ?_
  · refine h.set hL hG (by rw [hg]; intro h; cases h) (apart_setRow _ _ _) (setRow_heap w _ _ _ e (0, 0) ho) ⟨_, rfl, by rw [splice_size hb]; exact hsz, hov, (h.rowsOne hL hg ho).splice h1⟩
  · have := run_storeCells_free P L.blk (L.base + off) e (0, 0) vs 0 arr w ho (free_none _) (by omega) h1
    simpa using this
theorem bytesL_LR {m M : Nat} {vs : List Value} (hm : vs.length = m) (hv : ∀ i, i < m → vs[i]? = some (.int .u8 (.ofNat (byteAt M i)))) : LR μ (bytesL m M) vs := by
  refine LR.of_get (by simp [bytesL, unpack_length, hm]) fun i a v ha hva => ?_
  unfold bytesL at ha
  rw [List.getElem?_map] at ha
  have hi : i < m := by rw [← hm]; exact (List.getElem?_eq_some_iff.1 hva).1
  rw [unpack_get _ _ _ hi] at ha
  rw [hv i hi] at hva
  simp only [Option.map_some, Option.some.injEq] at ha hva
  rw [← ha, ← hva]; exact .int _ _
/-- A sequence is written. -/
theorem putSeq_sound (h : HR w0 G μ H w) {b s off : Nat} {L : Loc} (hL : μ b = some L) (hG : G ≤ b) {q : Seq} {vs : List Value} (hq : SeqR μ s q vs) (h1 : ∀ v ∈ vs, v.oneCell' = true) {n : Nat} {k : AH → X}
    (hk : ∀ H' w', HR w0 G μ H' w' → (storeCells ⟨L.blk, L.base + off, none⟩ vs).run P w = .ok () w' → XR P w0 G μ H.size (k H') r) : XR P w0 G μ H.size (putSeqK (H.get b) s off q (.fail n) fun o => H.setK b o k) r := by
  cases q with
  | emp =>
    have hq : vs = [] := hq
    subst hq
    have e : putSeqK (H.get b) s off .emp (.fail n) (fun o => H.setK b o k) = H.setK b (H.get b) k := by cases H.get b <;> rfl
    rw [e, setK_eq]
    exact hk _ w (h.set_same b) rfl
  | pk m M =>
    obtain ⟨rfl, hm, hM, hv⟩ := hq
    subst hm
    cases hg : H.get b with
    | bytes n' N e st =>
      refine XR.cond (fun hc => ?_) (fun _ => trivial)
      rw [Nat.ble_eq] at hc
      have hc : off + vs.length ≤ n' := hc
      obtain ⟨arr, fz, ho, hN, hsz, hcell, hf, hst⟩ := h.bytes hL hg
      obtain ⟨p1, p2, p3⟩ := bytes_put (L := L) hN hsz hcell hM hv hc
      have hset := put_bytes h hL hG hg ho hf hst p1 p2 hsz p3
      rw [fNat_eq]
      show XR P w0 G μ H.size (H.setK b _ k) r
      rw [setK_eq]
      refine hk _ _ hset ?_
      have := run_storeCells_free P L.blk (L.base + off) e fz vs 0 arr w ho hf (by omega) h1
      simpa using this
    | rows n' s' c z e =>
      refine XR.cond (fun hc => ?_) (fun _ => trivial)
      rw [Bool.and_eq_true, Nat.blt_eq, Nat.ble_eq] at hc
      have hl := bytesL_LR (μ := μ) rfl hv
      exact put_row h hL hG hg hl h1 hc.1 (by rw [hl.length]; exact hc.2) hk
    | _ => exact trivial
  | rs l =>
    obtain ⟨hl, hs⟩ := hq
    cases hg : H.get b with
    | rows n' s' c z e =>
      refine XR.cond (fun hc => ?_) (fun _ => XR.cond (fun hc => ?_) (fun _ => trivial))
      case refine_2 =>
        rw [Bool.and_eq_true, Nat.blt_eq, Nat.ble_eq] at hc
        exact put_row h hL hG hg hl h1 hc.1 hc.2 hk
      rw [Bool.and_eq_true, Bool.and_eq_true, Nat.beq_eq, Nat.beq_eq, Nat.ble_eq] at hc
      obtain ⟨rfl, c1, c2⟩ := hc
      have c1 : off % s = 0 := c1
      have c2 : off / s + l.length ≤ n' := c2
      obtain ⟨arr, ho, hsz, hrow⟩ := h.rows hL hg
      have hdm := div_mod off s
      have e0 : L.base + off / s * s = L.base + off := by omega
      have hvl : vs.length = l.length * s := by rw [← hl.length, flat_length l hs]
      have hb : L.base + off / s * s + vs.length ≤ arr.size := by
        have := Nat.mul_le_mul_right s c2
        rw [Nat.add_mul] at this
        have : n' * s ≤ (n' + L.slack) * s := Nat.mul_le_mul_right s (by omega)
        omega
      have hov := rows_over (L := L) (n := n') (fun k hk _ => hrow k hk) hl hs hb
      rw [e0] at hov hb
      rw [setRowsK_eq]
      show XR P w0 G μ H.size (H.setK b _ k) r
      rw [setK_eq]
      refine hk _ (w.setRow L.blk (splice arr (L.base + off) vs)) ?_ ?_
      · refine h.set hL hG (by rw [hg]; intro h; cases h) (apart_setRow _ _ _) (setRow_heap w _ _ _ e (0, 0) ho) ⟨_, rfl, by rw [splice_size hb]; exact hsz, hov, (h.rowsOne hL hg ho).splice h1⟩
      · have := run_storeCells_free P L.blk (L.base + off) e (0, 0) vs 0 arr w ho (free_none _) (by omega) h1
        simpa using this
    | _ => exact trivial
end
end Go.Proofs.YtmapmbfohilklaaGreat.Ab
