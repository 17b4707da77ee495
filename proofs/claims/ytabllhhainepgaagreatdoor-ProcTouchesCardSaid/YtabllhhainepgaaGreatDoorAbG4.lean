/-
  An abstract machine that Lean's kernel can run: append, copy, maps. This text speaks of no program.
-/
import Derived.Test.YtabllhhainepgaaGreatDoorAbG3
/-
  The abstract machine: append and copy.
-/
set_option linter.unusedVariables false
set_option linter.unusedSimpArgs false
namespace Go.Proofs.YtabllhhainepgaaGreatDoor.Ab
open Go.RowKit

section
variable {P : Program} {w0 w : World} {G : Nat} {μ : Mu} {H : AH} {r : Result Next}
theorem nextcap_le (need cap : Nat) (h : cap < need) : Builtin.nextslicecap need cap ≤ 2 * need + 768 := by
  unfold Builtin.nextslicecap
  split
  · omega
  · split
    · omega
    · have key : ∀ (f c : Nat), c ≤ 2 * need + 768 → Builtin.growBy need f c ≤ 2 * need + 768 := by
        intro f
        induction f with
        | zero => intro c hc; exact hc
        | succ f ih =>
          intro c hc
          unfold Builtin.growBy
          split
          · exact hc
          · exact ih _ (by omega)
      exact key 4 cap (by omega)
/-- What stands in a world that drew once more. -/
def drew1 (w : World) : World := { w with drawn := w.drawn + 1 }
theorem HR.drew1 (h : HR w0 G μ H w) : HR w0 G μ H (drew1 w) := h.drawn (r := w.heap.size) ⟨rfl, rfl, rfl, rfl, fun _ _ => rfl⟩ rfl
/-- What the model's append is told: the types, the element, what is appended (n elements, the cells vs). -/
structure App (P : Program) (w : World) (types : Array TypeId) (e : TypeId) (s : Nat) (xv : Value) (n : Nat) (vs : List Value) (zeros : Bool) : Prop where
  t : ∃ t, types[0]? = some t ∧ P.underlying t = some (.slice e)
  size : sizeA P e = some s
  pos : 0 < s
  small : P.bytesOf e < 1048576
  z : zeros = false → (∃ t2 u, types[1]? = some t2 ∧ P.underlying t2 = some u ∧ (∀ k, u ≠ .int k)) ∧ (Builtin.lenOf xv).run P w = .ok n w ∧ (Builtin.lenOf xv).run P (drew1 w) = .ok n (drew1 w) ∧ (Builtin.firstCells s n xv).run P w = .ok vs.toArray w ∧ (Builtin.firstCells s n xv).run P (drew1 w) = .ok vs.toArray (drew1 w)
  o : zeros = true → (∃ t2 k, types[1]? = some t2 ∧ P.underlying t2 = some (.int k)) ∧ (∃ k, xv = .int k (n : Int)) ∧ n < 1048576 ∧ ∃ zv, (∀ w', (zeroValue e).run P w' = .ok zv w') ∧ (Builtin.zeroCells zv.cells n) = vs.toArray ∧ (n * s = 0 → vs = [])
theorem info_of_size {e : TypeId} {s : Nat} (h : sizeA P e = some s) : ∃ i, P.info? e = some i ∧ i.bytes = P.bytesOf e := by
  obtain ⟨_, i, hi⟩ := cellsOf_size h
  exact ⟨i, hi, by simp [Program.bytesOf, hi]⟩
theorem run_append_room {types : Array TypeId} {e : TypeId} {s : Nat} {xv : Value} {n : Nat} {vs : List Value} {zeros : Bool} (A : App P w types e s xv n vs zeros) {base : Option Addr} {len cap : Nat} (hroom : len + n ≤ cap) (ty : TypeId) {w' : World}
    (hst : (match base with | some a => storeCells (a.add (len * s)) vs | none => pure ()).run P w = .ok () w') :
    (Builtin.append_ types ty #[.slice base len cap, xv]).run P w = .ok (.slice base (len + n) cap) w' := by
  obtain ⟨t, ht, hu⟩ := A.t
  obtain ⟨i, hi, hib⟩ := info_of_size A.size
  have hs := A.size
  cases zeros with
  | false =>
    obtain ⟨⟨t2, u, ht2, hu2, hni⟩, hl, _, hf, _⟩ := A.z rfl
    have hm : (match u with | .int _ => true | _ => false) = false := by cases u <;> first | rfl | exact absurd rfl (hni _)
    unfold Builtin.append_
    simp only [ht, List.getElem?_toArray, List.getElem?_cons_zero, List.getElem?_cons_succ, Sem.run_bind, run_underlying hu, Result.andThen_ok, run_sizeOf hs, ht2, run_underlying hu2, hm, Sem.run_pure, Bool.false_eq_true, if_false, hl, Bool.not_false, if_true, hroom, hf]
    cases base with
    | none => simp only [Sem.run_pure, Result.ok.injEq, true_and] at hst; subst hst; rfl
    | some a => simp only at hst; simp only [Sem.run_bind, hst, Result.andThen_ok, Sem.run_pure]
  | true =>
    obtain ⟨⟨t2, k, ht2, hu2⟩, ⟨k', rfl⟩, hn, zv, hzv, hcells, hemp⟩ := A.o rfl
    have hw : IntKind.i64.wrap (n : Int) = (n : Int) := IntWalk.i64_in _ (by omega)
    have hsm := A.small
    have hmul : ¬ ((n : Int) * (i.bytes : Int) > 2 ^ 48) := by
      rw [hib, ← Int.natCast_mul]
      have : n * P.bytesOf e ≤ 1048576 * 1048576 := Nat.mul_le_mul (by omega) (by omega)
      have e2 : (2 : Int) ^ 48 = 281474976710656 := by decide
      rw [e2]; omega
    have hap : (if n * s = 0 then (pure #[] : Sem (Array Value)) else do pure (Builtin.zeroCells (← zeroValue e).cells n)).run P w = .ok vs.toArray w := by
      by_cases h0 : n * s = 0
      · rw [if_pos h0, hemp h0]; rfl
      · rw [if_neg h0]; simp only [Sem.run_bind, hzv, Result.andThen_ok, Sem.run_pure, hcells]
    unfold Builtin.append_
    simp only [ht, List.getElem?_toArray, List.getElem?_cons_zero, List.getElem?_cons_succ, Sem.run_bind, run_underlying hu, Result.andThen_ok, run_sizeOf hs, ht2, run_underlying hu2, Sem.run_pure, if_true, asInt, asIntOf, hw, typeInfo, run_program, hi, hmul, if_false, Int.toNat_natCast, Bool.not_true, Bool.false_eq_true, hroom, show ¬ ((n : Int) < 0) by omega, hap]
    cases base with
    | none => simp only [Sem.run_pure, Result.ok.injEq, true_and] at hst; subst hst; rfl
    | some a => simp only at hst; simp only [Sem.run_bind, hst, Result.andThen_ok, Sem.run_pure]
theorem run_append_grow {types : Array TypeId} {e : TypeId} {s : Nat} {xv : Value} {n : Nat} {vs : List Value} {zeros : Bool} (A : App P w types e s xv n vs zeros) {base : Option Addr} {len cap : Nat} (hno : cap < len + n) (hsm : len + n < 1048576) (ty : TypeId)
    {old : List Value} (hold : (Builtin.firstCells s len (.slice base len cap)).run P (drew1 w) = .ok old.toArray (drew1 w)) {zv : Value} (hzv : ∀ w', (zeroValue e).run P w' = .ok zv w') :
    ∃ newCap, len + n ≤ newCap ∧ (Builtin.append_ types ty #[.slice base len cap, xv]).run P w = .ok (.slice (some ⟨w.heap.size, 0, none⟩) (len + n) newCap) { drew1 w with heap := w.heap.push (.cells (old.toArray ++ vs.toArray ++ Builtin.zeroCells zv.cells (newCap - (len + n))) e) } := by
  obtain ⟨t, ht, hu⟩ := A.t
  obtain ⟨i, hi, hib⟩ := info_of_size A.size
  have hs := A.size
  have hbs := A.small
  refine ⟨(Question.appendCap (len + n) cap e).cut (w.tape w.drawn (.appendCap (len + n) cap e)), Nat.le_add_right _ _, ?_⟩
  have hnc : ¬ (Builtin.nextslicecap (len + n) cap * i.bytes > 2 ^ 48) := by
    have h1 := nextcap_le (len + n) cap hno
    have h2 : Builtin.nextslicecap (len + n) cap * i.bytes ≤ (2 * 1048576 + 768) * 1048576 := Nat.mul_le_mul (by omega) (by omega)
    have e2 : 2 ^ 48 = 281474976710656 := by decide
    rw [e2]; omega
  have hroom : ¬ (len + n ≤ cap) := by omega
  have hmax : ¬ (((len + n : Nat) : Int) > IntKind.i64.max) := by
    have : IntKind.i64.max = 9223372036854775807 := by decide
    rw [this]; omega
  cases zeros with
  | false =>
    obtain ⟨⟨t2, u, ht2, hu2, hni⟩, hl, hl', hf, hf'⟩ := A.z rfl
    have hm : (match u with | .int _ => true | _ => false) = false := by cases u <;> first | rfl | exact absurd rfl (hni _)
    unfold Builtin.append_
    simp only [ht, List.getElem?_toArray, List.getElem?_cons_zero, List.getElem?_cons_succ, Sem.run_bind, run_underlying hu, Result.andThen_ok, run_sizeOf hs, ht2, run_underlying hu2, hm, Sem.run_pure, Bool.false_eq_true, if_false, hl, Bool.not_false, if_true, hroom, typeInfo, run_program, hi, hmax, false_and, Sem.run_ite, hnc,
      run_choose, Question.forced, run_askRoom]
    have hold' := hold
    have hf'' := hf'
    simp only [drew1] at hold' hf''
    simp only [hold', Result.andThen_ok, hf'', hzv, run_newRow]
    rfl
  | true =>
    obtain ⟨⟨t2, k, ht2, hu2⟩, ⟨k', rfl⟩, hn, zv', hzv', hcells, hemp⟩ := A.o rfl
    have hw : IntKind.i64.wrap (n : Int) = (n : Int) := IntWalk.i64_in _ (by omega)
    have hmul : ¬ ((n : Int) * (i.bytes : Int) > 2 ^ 48) := by
      rw [hib, ← Int.natCast_mul]
      have : n * P.bytesOf e ≤ 1048576 * 1048576 := Nat.mul_le_mul (by omega) (by omega)
      have e2 : (2 : Int) ^ 48 = 281474976710656 := by decide
      rw [e2]; omega
    have hap : ∀ w : World, (if n * s = 0 then (pure #[] : Sem (Array Value)) else do pure (Builtin.zeroCells (← zeroValue e).cells n)).run P w = .ok vs.toArray w := fun w => by
      by_cases h0 : n * s = 0
      · rw [if_pos h0, hemp h0]; rfl
      · rw [if_neg h0]; simp only [Sem.run_bind, hzv', Result.andThen_ok, Sem.run_pure, hcells]
    unfold Builtin.append_
    simp only [ht, List.getElem?_toArray, List.getElem?_cons_zero, List.getElem?_cons_succ, Sem.run_bind, run_underlying hu, Result.andThen_ok, run_sizeOf hs, ht2, run_underlying hu2, Sem.run_pure, if_true, asInt, asIntOf, hw, typeInfo, run_program, hi, hmul, if_false, Int.toNat_natCast, Bool.not_true, Bool.false_eq_true, hroom, show ¬ ((n : Int) < 0) by omega,
      hmax, false_and, Sem.run_ite, hnc, run_choose, Question.forced, run_askRoom]
    have hold' := hold
    simp only [drew1] at hold'
    have hzz : zv' = zv := by have := (hzv' w).symm.trans (hzv w); simpa using this
    subst hzz
    simp only [hold', Result.andThen_ok, hzv', run_newRow, Sem.run_pure, Sem.run_bind]
    by_cases h0 : n * s = 0
    · have := hemp h0
      subst this
      simp only [h0, if_true, Result.andThen_ok]; rfl
    · simp only [h0, if_false, Result.andThen_ok, hcells]; rfl
end
end Go.Proofs.YtabllhhainepgaaGreatDoor.Ab
/-
  The abstract machine: append and copy, carried out.
-/
namespace Go.Proofs.YtabllhhainepgaaGreatDoor.Ab
open Go.RowKit

theorem flat_get {α : Type} {s : Nat} : ∀ (l : List (List α)), (∀ row ∈ l, row.length = s) → ∀ (i j : Nat), j < s → l.flatten[i * s + j]? = (l[i]?).bind (·[j]?)
  | [], _, i, j, _ => by simp
  | row :: l, h, 0, j, hj => by
    have h0 := h row (by simp)
    rw [List.flatten_cons, Nat.zero_mul, Nat.zero_add, List.getElem?_append_left (by omega)]; simp
  | row :: l, h, i + 1, j, hj => by
    have h0 := h row (by simp)
    rw [List.flatten_cons, List.getElem?_append_right (by rw [Nat.succ_mul]; omega), h0, Nat.succ_mul, show i * s + s + j - s = i * s + j by omega, flat_get l (fun r hr => h r (by simp [hr])) i j hj]
    simp
theorem flat_length {α : Type} {s : Nat} : ∀ (l : List (List α)), (∀ row ∈ l, row.length = s) → l.flatten.length = l.length * s
  | [], _ => by simp
  | row :: l, h => by
    rw [List.flatten_cons, List.length_append, h row (by simp), flat_length l (fun r hr => h r (by simp [hr])), List.length_cons, Nat.succ_mul]; omega
section
variable {P : Program} {w0 w : World} {G : Nat} {μ : Mu} {H : AH} {r : Result Next}
/-- The row number i of a sequence stands for the cells from i * s on. -/
theorem seq_row {l : List (List AV)} {vs : List Value} {s : Nat} (h : LR μ l.flatten vs) (hs : ∀ row ∈ l, row.length = s) {i j : Nat} {row : List AV} {a : AV} (hr : l[i]? = some row) (ha : row[j]? = some a) : ∃ v, vs[i * s + j]? = some v ∧ VR μ a v := by
  have hj : j < s := by rw [← hs row (List.mem_of_getElem? hr)]; exact (List.getElem?_eq_some_iff.1 ha).1
  exact h.get _ a (by rw [flat_get l hs i j hj, hr]; exact ha)
theorem HR.same (h : HR w0 G μ H w) {H' : AH} (hs : H'.size = H.size) (hg : ∀ c, H'.get c = H.get c) : HR w0 G μ H' w :=
  ⟨h.below, fun b hb => h.dom b (by omega), fun b L hL hd => by rw [hg] at hd ⊢; exact h.obj b L hL hd, h.own, fun b c L K hb hc => by rw [hg] at hb hc; exact h.inj b c L K hb hc, h.lt,
    fun b hb => by rw [hg]; exact h.live b (by omega), by have := h.gs; omega⟩
theorem HR.set_same (h : HR w0 G μ H w) (b : Nat) : HR w0 G μ (H.set b (H.get b)) w := h.same rfl fun c => by
  rw [get_set]
  by_cases e : c = b
  · rw [if_pos e, e]
  · rw [if_neg e]
/-- Rows written over a row of rows. -/
theorem rows_over {L : Loc} {n s : Nat} {c : Tr (List AV)} {z : List AV} {arr : Array Value} {l : List (List AV)} {vs : List Value} {i : Nat}
    (hr : ∀ k, k < n → k < i ∨ i + l.length ≤ k → (getR c (path k) z).length = s ∧ RowR μ arr (L.base + k * s) (getR c (path k) z)) (hl : LR μ l.flatten vs) (hs : ∀ row ∈ l, row.length = s) (hb : L.base + i * s + vs.length ≤ arr.size) :
    ∀ k, k < n → (getR (treeOf z l c i) (path k) z).length = s ∧ RowR μ (splice arr (L.base + i * s) vs) (L.base + k * s) (getR (treeOf z l c i) (path k) z) := by
  intro k hk
  have hvl : vs.length = l.length * s := by rw [← hl.length, flat_length l hs]
  rw [treeOf_get]
  by_cases h1 : i ≤ k ∧ k < i + l.length
  · rw [if_pos h1]
    have hki : k - i < l.length := by omega
    rw [List.getElem?_eq_getElem hki, Option.getD_some]
    refine ⟨hs _ (List.getElem_mem hki), fun j a ha => ?_⟩
    have hj : j < s := by rw [← hs _ (List.getElem_mem hki)]; exact (List.getElem?_eq_some_iff.1 ha).1
    obtain ⟨v, hv, hvr⟩ := seq_row hl hs (List.getElem?_eq_getElem hki) ha
    have e : i * s + (k - i) * s = k * s := by rw [← Nat.add_mul]; congr 1; omega
    refine ⟨v, ?_, hvr⟩
    have hlt := (List.getElem?_eq_some_iff.1 hv).1
    rw [splice_get hb, if_neg (by omega), if_pos (by omega), ← hv]
    congr 1; omega
  · rw [if_neg h1]
    obtain ⟨g1, g2⟩ := hr k hk (by omega)
    refine ⟨g1, fun j a ha => ?_⟩
    have hj : j < s := by rw [← g1]; exact (List.getElem?_eq_some_iff.1 ha).1
    obtain ⟨v, hv, hvr⟩ := g2 j a ha
    refine ⟨v, ?_, hvr⟩
    rw [splice_get hb]
    rcases Nat.lt_or_ge k i with h2 | h2
    · have := mul_step h2 s
      rw [if_pos (by omega)]; exact hv
    · have h3 : i + l.length ≤ k := by omega
      have := Nat.mul_le_mul_right s h3
      rw [Nat.add_mul] at this
      rw [if_neg (by omega), if_neg (by omega)]; exact hv
/-- Cells written within one row. -/
theorem put_row (h : HR w0 G μ H w) {b off : Nat} {L : Loc} (hL : μ b = some L) (hG : G ≤ b) {n' s : Nat} {c : Tr (List AV)} {z : List AV} {e : TypeId} (hg : H.get b = .rows n' s c z e) {new : List AV} {vs : List Value} (hl : LR μ new vs) (h1 : ∀ v ∈ vs, v.oneCell' = true)
    (hlt : off < n' * s) (hle : off % s + new.length ≤ s) {k : AH → X}
    (hk : ∀ H' w', HR w0 G μ H' w' → (storeCells ⟨L.blk, L.base + off, none⟩ vs).run P w = .ok () w' → XR P w0 G μ H.size (k H') r) :
    XR P w0 G μ H.size (setR (path (off / s)) c (putAt (getR c (path (off / s)) z) (off % s) new) z fun c' => H.setK b (.rows n' s c' z e) k) r := by
  obtain ⟨arr, ho, hsz, hrow⟩ := h.rows hL hg
  obtain ⟨hi, hj, hs0⟩ := row_lt hlt
  obtain ⟨hb, hov⟩ := rows_put hsz hrow hi hle hl
  have hdm := div_mod off s
  have e0 : L.base + off / s * s + off % s = L.base + off := by omega
  rw [e0] at hb hov
  rw [setR_eq, setK_eq]
  refine hk _ (w.setRow L.blk (splice arr (L.base + off) vs)) ?_ ?_
  · refine h.set hL hG (by rw [hg]; intro h; cases h) (apart_setRow _ _ _) (setRow_heap w _ _ _ e (0, 0) ho) ⟨_, rfl, by rw [splice_size hb]; exact hsz, hov, (h.rowsOne hL hg ho).splice h1⟩
  · have := run_storeCells_free P L.blk (L.base + off) e (0, 0) vs 0 arr w ho (free_none _) (by omega) h1
    simpa using this
theorem bytesL_LR {m M : Nat} {vs : List Value} (hm : vs.length = m) (hv : ∀ i, i < m → vs[i]? = some (.int .u8 (.ofNat (byteAt M i)))) : LR μ (bytesL m M) vs := by
  refine LR.of_get (by simp [bytesL, unpack_length, hm]) fun i a v ha hva => ?_
  unfold bytesL at ha
  rw [List.getElem?_map] at ha
  have hi : i < m := by rw [← hm]; exact (List.getElem?_eq_some_iff.1 hva).1
  rw [unpack_get _ _ _ hi] at ha
  rw [hv i hi] at hva
  simp only [Option.map_some, Option.some.injEq] at ha hva
  rw [← ha, ← hva]; exact .int _ _
/-- A sequence is written. -/
theorem putSeq_sound (h : HR w0 G μ H w) {b s off : Nat} {L : Loc} (hL : μ b = some L) (hG : G ≤ b) {q : Seq} {vs : List Value} (hq : SeqR μ s q vs) (h1 : ∀ v ∈ vs, v.oneCell' = true) {n : Nat} {k : AH → X}
    (hk : ∀ H' w', HR w0 G μ H' w' → (storeCells ⟨L.blk, L.base + off, none⟩ vs).run P w = .ok () w' → XR P w0 G μ H.size (k H') r) : XR P w0 G μ H.size (putSeqK (H.get b) s off q (.fail n) fun o => H.setK b o k) r := by
  cases q with
  | emp =>
    have hq : vs = [] := hq
    subst hq
    have e : putSeqK (H.get b) s off .emp (.fail n) (fun o => H.setK b o k) = H.setK b (H.get b) k := by cases H.get b <;> rfl
    rw [e, setK_eq]
    exact hk _ w (h.set_same b) rfl
  | pk m M =>
    obtain ⟨rfl, hm, hM, hv⟩ := hq
    subst hm
    cases hg : H.get b with
    | bytes n' N e st =>
      refine XR.cond (fun hc => ?_) (fun _ => trivial)
      rw [Nat.ble_eq] at hc
      have hc : off + vs.length ≤ n' := hc
      obtain ⟨arr, fz, ho, hN, hsz, hcell, hf, hst⟩ := h.bytes hL hg
      obtain ⟨p1, p2, p3⟩ := bytes_put (L := L) hN hsz hcell hM hv hc
      have hset := put_bytes h hL hG hg ho hf hst p1 p2 hsz p3
      rw [fNat_eq]
      show XR P w0 G μ H.size (H.setK b _ k) r
      rw [setK_eq]
      refine hk _ _ hset ?_
      have := run_storeCells_free P L.blk (L.base + off) e fz vs 0 arr w ho hf (by omega) h1
      simpa using this
    | rows n' s' c z e =>
      refine XR.cond (fun hc => ?_) (fun _ => trivial)
      rw [Bool.and_eq_true, Nat.blt_eq, Nat.ble_eq] at hc
      have hl := bytesL_LR (μ := μ) rfl hv
      exact put_row h hL hG hg hl h1 hc.1 (by rw [hl.length]; exact hc.2) hk
    | _ => exact trivial
  | rs l =>
    obtain ⟨hl, hs⟩ := hq
    cases hg : H.get b with
    | rows n' s' c z e =>
      refine XR.cond (fun hc => ?_) (fun _ => XR.cond (fun hc => ?_) (fun _ => trivial))
      case refine_2 =>
        rw [Bool.and_eq_true, Nat.blt_eq, Nat.ble_eq] at hc
        exact put_row h hL hG hg hl h1 hc.1 hc.2 hk
      rw [Bool.and_eq_true, Bool.and_eq_true, Nat.beq_eq, Nat.beq_eq, Nat.ble_eq] at hc
      obtain ⟨rfl, c1, c2⟩ := hc
      have c1 : off % s = 0 := c1
      have c2 : off / s + l.length ≤ n' := c2
      obtain ⟨arr, ho, hsz, hrow⟩ := h.rows hL hg
      have hdm := div_mod off s
      have e0 : L.base + off / s * s = L.base + off := by omega
      have hvl : vs.length = l.length * s := by rw [← hl.length, flat_length l hs]
      have hb : L.base + off / s * s + vs.length ≤ arr.size := by
        have := Nat.mul_le_mul_right s c2
        rw [Nat.add_mul] at this
        have : n' * s ≤ (n' + L.slack) * s := Nat.mul_le_mul_right s (by omega)
        omega
      have hov := rows_over (L := L) (n := n') (fun k hk _ => hrow k hk) hl hs hb
      rw [e0] at hov hb
      rw [setRowsK_eq]
      show XR P w0 G μ H.size (H.setK b _ k) r
      rw [setK_eq]
      refine hk _ (w.setRow L.blk (splice arr (L.base + off) vs)) ?_ ?_
      · refine h.set hL hG (by rw [hg]; intro h; cases h) (apart_setRow _ _ _) (setRow_heap w _ _ _ e (0, 0) ho) ⟨_, rfl, by rw [splice_size hb]; exact hsz, hov, (h.rowsOne hL hg ho).splice h1⟩
      · have := run_storeCells_free P L.blk (L.base + off) e (0, 0) vs 0 arr w ho (free_none _) (by omega) h1
        simpa using this
    | _ => exact trivial
end
end Go.Proofs.YtabllhhainepgaaGreatDoor.Ab
/-
  The abstract machine: append, carried out.
-/
namespace Go.Proofs.YtabllhhainepgaaGreatDoor.Ab
open Go.RowKit

section
variable {P : Program} {w0 w : World} {G : Nat} {μ : Mu} {H : AH} {r : Result Next}
theorem zeros_size (zc : Array Value) (n : Nat) : (Builtin.zeroCells zc n).size = n * zc.size := by simp [Builtin.zeroCells]
theorem app_get (a b c : Array Value) (i : Nat) : (a ++ b ++ c)[i]? = if i < a.size then a[i]? else if i < a.size + b.size then b[i - a.size]? else c[i - a.size - b.size]? := by
  by_cases h1 : i < a.size
  · rw [if_pos h1, Array.getElem?_append_left (by simp; omega), Array.getElem?_append_left h1]
  · rw [if_neg h1]
    by_cases h2 : i < a.size + b.size
    · rw [if_pos h2, Array.getElem?_append_left (by simp; omega), Array.getElem?_append_right (by omega)]
    · rw [if_neg h2, Array.getElem?_append_right (by simp; omega)]; congr 1; simp; omega
theorem one_append {a b : Array Value} (ha : One a) (hb : One b) : One (a ++ b) := fun v hv => by
  rw [Array.toList_append, List.mem_append] at hv
  rcases hv with h | h
  · exact ha v h
  · exact hb v h
theorem one_list {vs : List Value} (h : ∀ v ∈ vs, v.oneCell' = true) : One vs.toArray := fun v hv => h v (by simpa using hv)
/-- A row made anew for a slice that grew. -/
theorem grown_sound (h : HR w0 G μ H w) {e : TypeId} {s : Nat} {z : List AV} (hz : zeroCellsA P e = some z) {zc : Array Value} (hzc : LR μ z zc.toList) (hzs : z.length = s) (hs0 : 0 < s) {len k : Nat} {old new : Seq} {ovs nvs : List Value}
    (ho : SeqR μ s old ovs) (hol : ovs.length = len * s) (ho1 : ∀ v ∈ ovs, v.oneCell' = true) (hn : SeqR μ s new nvs) (hnl : nvs.length = k * s) (hn1 : ∀ v ∈ nvs, v.oneCell' = true) {tot : Nat} (htot : tot = len + k) {newCap : Nat} (hcap : tot ≤ newCap) {w' : World}
    (hw : Grew (.cells (ovs.toArray ++ nvs.toArray ++ Builtin.zeroCells zc (newCap - tot)) e) w w') (hr : r = .ok (.value (.slice (some ⟨w.heap.size, 0, none⟩) tot newCap)) w') {n : Nat} :
    XR P w0 G μ H.size (grownK P e s tot old new (.fail n) fun o => H.pushK o fun H' => rSlice H.size 0 tot tot true H') r := by
  have hzl := hzc.length
  simp only [Array.length_toList] at hzl
  have hsz : (ovs.toArray ++ nvs.toArray ++ Builtin.zeroCells zc (newCap - tot)).size = newCap * s := by
    have e1 : newCap = len + k + (newCap - tot) := by omega
    have e2 : newCap * s = len * s + k * s + (newCap - tot) * s := by
      have := congrArg (· * s) e1
      simp only [Nat.add_mul] at this
      rw [this]
    simp [zeros_size, hol, hnl, ← hzl, hzs]; omega
  have hone : One (ovs.toArray ++ nvs.toArray ++ Builtin.zeroCells zc (newCap - tot)) := by
    refine one_append (one_append (one_list ho1) (one_list hn1)) ?_
    have := zeros_one hzc (zeroCells_all hz) (n := newCap - tot)
    rw [hzl] at this
    exact this
  have fin : ∀ o : AObj, (∀ ν : Mu, μ.le ν → OR ν ⟨w.heap.size, 0, newCap - tot⟩ o (.cells (ovs.toArray ++ nvs.toArray ++ Builtin.zeroCells zc (newCap - tot)) e)) → XR P w0 G μ H.size (H.pushK o fun H' => rSlice H.size 0 tot tot true H') r := fun o hob => by
    rw [pushK_eq, rSlice_eq]
    have hp := h.push (L := ⟨w.heap.size, 0, newCap - tot⟩) hw rfl (hob _ (Mu.up_le (h.dom _ (Nat.le_refl _)) _))
    refine XR.new hp ?_ hr
    have := VR.slice0 (μ := μ.up H.size ⟨w.heap.size, 0, newCap - tot⟩) (b := H.size) (len := tot) (cap := tot) (g := true) (Mu.up_same _ _ _)
    rw [if_pos rfl, show tot + (newCap - tot) = newCap by omega] at this
    exact this
  have hbytes : ∀ R : Nat, s = 1 → R < 256 ^ tot → (∀ i, i < tot → (ovs ++ nvs)[i]? = some (.int .u8 (.ofNat (byteAt R i)))) → ∀ ν : Mu, OR ν ⟨w.heap.size, 0, newCap - tot⟩ (.bytes tot (sealB R) e false) (.cells (ovs.toArray ++ nvs.toArray ++ Builtin.zeroCells zc (newCap - tot)) e) := fun R h1 hR hc ν => by
    subst h1
    refine ⟨_, (0, 0), rfl, by rw [core_seal]; exact hR, by rw [hsz]; simp only; omega, fun i hi => ?_, free_none _, fun _ => rfl⟩
    rw [core_seal, ← hc i hi, app_get]
    simp only [Nat.zero_add, List.size_toArray, List.getElem?_toArray]
    have hl : (ovs ++ nvs).length = tot := by simp; omega
    by_cases h1 : i < ovs.length
    · rw [if_pos h1, List.getElem?_append_left h1]
    · rw [if_neg h1, if_pos (by omega), List.getElem?_append_right (by omega)]
  have hrows : ∀ c : Tr (List AV), (∀ i, i < tot → (getR c (path i) z).length = s ∧ ∀ j a, (getR c (path i) z)[j]? = some a → ∃ v, (ovs ++ nvs)[i * s + j]? = some v ∧ VR μ a v) → ∀ ν : Mu, μ.le ν → OR ν ⟨w.heap.size, 0, newCap - tot⟩ (.rows tot s c z e) (.cells (ovs.toArray ++ nvs.toArray ++ Builtin.zeroCells zc (newCap - tot)) e) := fun c hc ν hν => by
    refine ⟨_, rfl, by rw [hsz]; simp only [Nat.zero_add]; rw [show tot + (newCap - tot) = newCap by omega]; exact Nat.le_refl _, fun i hi => ⟨(hc i hi).1, fun j a ha => ?_⟩, hone⟩
    obtain ⟨v, hv, hvr⟩ := (hc i hi).2 j a ha
    refine ⟨v, ?_, hvr.mono hν⟩
    have hlt := (List.getElem?_eq_some_iff.1 hv).1
    rw [List.length_append] at hlt
    rw [app_get]
    simp only [Nat.zero_add, List.size_toArray, List.getElem?_toArray]
    by_cases h1 : i * s + j < ovs.length
    · rw [if_pos h1]; rw [List.getElem?_append_left h1] at hv; exact hv
    · rw [if_neg h1, if_pos hlt]; rw [List.getElem?_append_right (by omega)] at hv; exact hv
  unfold grownK
  split
  · rename_i m M
    refine XR.cond (fun hc => ?_) (fun _ => trivial)
    have ho : ovs = [] := ho
    subst ho
    obtain ⟨h1, hm, hM, hv⟩ := hn
    have hlen : len = 0 := by
      have : len * s = 0 := by rw [← hol]; rfl
      rcases Nat.mul_eq_zero.1 this with e | e
      · exact e
      · omega
    have hmt : m = tot := by rw [← hm, hnl, h1, htot, hlen]; omega
    rw [fNat_eq]
    subst hmt
    exact fin _ fun ν _ => hbytes M h1 hM (fun i hi => by rw [List.nil_append]; exact hv i hi) ν
  · rename_i n' N m M
    refine XR.cond (fun hc => ?_) (fun _ => trivial)
    obtain ⟨h1, hn', hN, hvo⟩ := ho
    obtain ⟨_, hm, hM, hvn⟩ := hn
    have hmt : n' + m = tot := by rw [← hm, ← hn', hnl, hol, h1, htot]; omega
    rw [fNat_eq, fNat_eq]
    refine fin _ fun ν _ => hbytes _ h1 ?_ (fun i hi => ?_) ν
    · rw [← hmt]; exact join_lt hN hM
    · have := byteAt_join (hi := M) hN i
      rw [show Nat.add N (Nat.mul (Nat.pow 256 n') M) = N + 256 ^ n' * M from rfl, this]
      by_cases h2 : i < n'
      · rw [if_pos h2, List.getElem?_append_left (by omega)]; exact hvo i h2
      · rw [if_neg h2, List.getElem?_append_right (by omega), hn']; exact hvn _ (by omega)
  · rename_i m
    split
    · rename_i z' hz'
      obtain rfl : z = z' := by rw [hz] at hz'; exact Option.some.inj hz'
      refine XR.cond (fun hc => ?_) (fun _ => trivial)
      have ho : ovs = [] := ho
      subst ho
      obtain ⟨hl, hsr⟩ := hn
      have hml : m.length = k := by
        have : m.length * s = k * s := by rw [← flat_length m hsr, hl.length, hnl]
        exact Nat.eq_of_mul_eq_mul_right hs0 this
      have hlen : len = 0 := by
        have : len * s = 0 := by rw [← hol]; rfl
        rcases Nat.mul_eq_zero.1 this with e | e
        · exact e
        · omega
      rw [fNat_eq, setRowsK_eq]
      refine fin _ (hrows _ fun i hi => ?_)
      rw [treeOf_get, if_pos (by omega), Nat.sub_zero, List.getElem?_eq_getElem (by omega), Option.getD_some]
      refine ⟨hsr _ (List.getElem_mem _), fun j a ha => ?_⟩
      rw [List.nil_append]
      exact seq_row hl hsr (List.getElem?_eq_getElem (by omega)) ha
    · trivial
  · rename_i l m
    split
    · rename_i z' hz'
      obtain rfl : z = z' := by rw [hz] at hz'; exact Option.some.inj hz'
      refine XR.cond (fun hc => ?_) (fun _ => trivial)
      obtain ⟨hlo, hso⟩ := ho
      obtain ⟨hl, hsr⟩ := hn
      have hml : m.length = k := by
        have : m.length * s = k * s := by rw [← flat_length m hsr, hl.length, hnl]
        exact Nat.eq_of_mul_eq_mul_right hs0 this
      have hll : l.length = len := by
        have : l.length * s = len * s := by rw [← flat_length l hso, hlo.length, hol]
        exact Nat.eq_of_mul_eq_mul_right hs0 this
      rw [fNat_eq, setRowsK_eq, setRowsK_eq]
      refine fin _ (hrows _ fun i hi => ?_)
      rw [treeOf_get, treeOf_get]
      by_cases h1 : l.length ≤ i
      · rw [if_pos (by omega), List.getElem?_eq_getElem (by omega), Option.getD_some]
        refine ⟨hsr _ (List.getElem_mem _), fun j a ha => ?_⟩
        obtain ⟨v, hv, hvr⟩ := seq_row hl hsr (List.getElem?_eq_getElem (by omega)) ha
        refine ⟨v, ?_, hvr⟩
        have e : (i - l.length) * s + len * s = i * s := by rw [← Nat.add_mul]; congr 1; omega
        rw [List.getElem?_append_right (by omega), hol, ← hv]; congr 1; omega
      · rw [if_neg (by omega), if_pos (by omega), Nat.sub_zero, List.getElem?_eq_getElem (by omega), Option.getD_some]
        refine ⟨hso _ (List.getElem_mem _), fun j a ha => ?_⟩
        obtain ⟨v, hv, hvr⟩ := seq_row hlo hso (List.getElem?_eq_getElem (by omega)) ha
        exact ⟨v, by rw [List.getElem?_append_left (List.getElem?_eq_some_iff.1 hv).1]; exact hv, hvr⟩
    · trivial
  · trivial
end
end Go.Proofs.YtabllhhainepgaaGreatDoor.Ab
/-
  The abstract machine: append and copy, carried out.
-/
namespace Go.Proofs.YtabllhhainepgaaGreatDoor.Ab
open Go.RowKit

section
variable {P : Program} {w0 w : World} {G : Nat} {μ : Mu} {H : AH} {r : Result Next}
theorem zeroOk_inv {e : TypeId} {s : Nat} (h : zeroOk P e s = true) : ∃ z, zeroCellsA P e = some z ∧ z.length = s := by
  unfold zeroOk at h
  cases hz : zeroCellsA P e with
  | none => rw [hz] at h; cases h
  | some z => rw [hz] at h; exact ⟨z, rfl, by rwa [Nat.beq_eq] at h⟩
/-- So many cells of a row, as a list. -/
theorem cells_list {w : World} {g : Nat} {arr : Array Value} {t : TypeId} {fz : Nat × Nat} (hg : w.heap[g]? = some (.cells arr t fz)) {o m : Nat} (h : o + m ≤ arr.size) : ∃ vs : List Value, vs.length = m ∧ (∀ j, j < m → vs[j]? = arr[o + j]?) ∧ w.rangeAt g o vs := by
  refine ⟨(List.range m).map fun j => (arr[o + j]?).getD undef, by simp, fun j hj => ?_, fun j v hv => ?_⟩
  · rw [List.getElem?_map, List.getElem?_range hj, Option.map_some, Array.getElem?_eq_getElem (by omega)]; rfl
  · have hj : j < m := by have := (List.getElem?_eq_some_iff.1 hv).1; simpa using this
    rw [List.getElem?_map, List.getElem?_range hj, Option.map_some, Array.getElem?_eq_getElem (by omega)] at hv
    rw [cell_arr hg, Array.getElem?_eq_getElem (by omega)]; exact hv
theorem first_range {w : World} {g o : Nat} {vs : List Value} (h : w.rangeAt g o vs) {s n len cap : Nat} (hn : n * s = vs.length) : (Builtin.firstCells s n (.slice (some ⟨g, o, none⟩) len cap)).run P w = .ok vs.toArray w := by
  have := run_loadCells_list (P := P) w ⟨g, o, none⟩ vs (fun j v hv => by rw [Addr.add_mid]; exact h j v hv)
  simp only [Builtin.firstCells, hn, this]
theorem range_drew1 {g o : Nat} {vs : List Value} (h : w.rangeAt g o vs) : (drew1 w).rangeAt g o vs := h
theorem grew_append {o : Obj} : Grew o w { drew1 w with heap := w.heap.push o } := ⟨rfl, rfl, rfl, rfl⟩
/-- A slice that grew, where its row is read no more: on where it lies, or a new row. -/
theorem VR.grownAt {ν : Mu} {b : Nat} {K : Loc} (h : ν b = some K) {tot cap : Nat} (hc : tot + K.slack = cap) : VR ν (.slice b 0 tot tot true) (.slice (some ⟨K.blk, K.base, none⟩) tot cap) := by
  have := VR.slice (μ := ν) b 0 tot tot true K h
  rw [if_pos rfl, hc, Nat.add_zero] at this
  exact this
theorem grown_size {s len k : Nat} {ovs nvs : List Value} {zc : Array Value} (hol : ovs.length = len * s) (hnl : nvs.length = k * s) (hz : zc.size = s) {tot newCap : Nat} (htot : tot = len + k) (hcap : tot ≤ newCap) : (ovs.toArray ++ nvs.toArray ++ Builtin.zeroCells zc (newCap - tot)).size = newCap * s := by
  have e1 : newCap = len + k + (newCap - tot) := by omega
  have e2 : newCap * s = len * s + k * s + (newCap - tot) * s := by
    have := congrArg (· * s) e1
    simp only [Nat.add_mul] at this
    rw [this]
  simp [zeros_size, hol, hnl, hz]; omega
theorem grown_one {z : List AV} {e : TypeId} (hz : zeroCellsA P e = some z) {zc : Array Value} (hzc : LR μ z zc.toList) {ovs nvs : List Value} (ho1 : ∀ v ∈ ovs, v.oneCell' = true) (hn1 : ∀ v ∈ nvs, v.oneCell' = true) (n : Nat) : One (ovs.toArray ++ nvs.toArray ++ Builtin.zeroCells zc n) := by
  have hzl := hzc.length
  simp only [Array.length_toList] at hzl
  refine one_append (one_append (one_list ho1) (one_list hn1)) ?_
  have := zeros_one hzc (zeroCells_all hz) (n := n)
  rw [hzl] at this
  exact this
/-- A row of a slice that grew, not at its row's start. -/
theorem grownRows_sound (h : HR w0 G μ H w) {types : Array TypeId} {e : TypeId} {s : Nat} {xv : Value} {k : Nat} {vs : List Value} {zeros : Bool} (A : App P w types e s xv k vs zeros) (hvl : vs.length = k * s) (h1 : ∀ v ∈ vs, v.oneCell' = true)
    {l0 l : List (List AV)} {ovs : List Value} {len : Nat} (hl0 : LR μ l0.flatten ovs) (hr0 : ∀ row ∈ l0, row.length = s) (hll0 : l0.length = len) (ho1 : ∀ v ∈ ovs, v.oneCell' = true) (hl : LR μ l.flatten vs) (hsr : ∀ row ∈ l, row.length = s) (hll : l.length = k)
    {b n : Nat} {c : Tr (List AV)} {z' : List AV} {L : Loc} (hL : μ b = some L) (hG : G ≤ b) (hget : H.get b = .rows n s c z' e) {z : List AV} (hz : zeroCellsA P e = some z) {zv : Value} (hzr : (∀ w', (zeroValue e).run P w' = .ok zv w') ∧ LR μ z zv.cells.toList) (hzs : z.length = s)
    (hsm : len + k < 1048576) (hk : 0 < k) {a : Addr} {C off cap' : Nat} (hcap : n * s = off + cap' * s) (hlc : len ≤ cap') (ha : (C = 0 ∧ len = 0) ∨ (a = ⟨L.blk, L.base + off, none⟩ ∧ C = cap' + L.slack))
    (o3 : (Builtin.firstCells s len (.slice (some a) len C)).run P (drew1 w) = .ok ovs.toArray (drew1 w)) (ty : TypeId) (hr : ∀ v w', (Builtin.append_ types ty #[.slice (some a) len C, xv]).run P w = .ok v w' → r = .ok (.value v) w') :
    XR P w0 G μ H.size (H.setK b .dead fun H1 => H1.pushK (.rows (len + k) s (treeOf z' l (treeOf z' l0 .nil 0) len) z' e) fun H' => .val (.slice H.size 0 (len + k) (len + k) true) H') r := by
  have hs0 := A.pos
  have o1 : ovs.length = len * s := by rw [← hl0.length, flat_length l0 hr0, hll0]
  have hrowN : ∀ i, i < len + k → (getR (treeOf z' l (treeOf z' l0 .nil 0) len) (path i) z').length = s ∧ ∀ j a, (getR (treeOf z' l (treeOf z' l0 .nil 0) len) (path i) z')[j]? = some a → ∃ v, (ovs ++ vs)[i * s + j]? = some v ∧ VR μ a v := fun i hi => by
    rw [treeOf_get, treeOf_get]
    by_cases h2 : len ≤ i
    · rw [if_pos (by omega), List.getElem?_eq_getElem (by omega), Option.getD_some]
      refine ⟨hsr _ (List.getElem_mem _), fun j a ha => ?_⟩
      obtain ⟨v, hv, hvr⟩ := seq_row hl hsr (List.getElem?_eq_getElem (by omega)) ha
      have e : (i - len) * s + len * s = i * s := by rw [← Nat.add_mul]; congr 1; omega
      refine ⟨v, ?_, hvr⟩
      rw [List.getElem?_append_right (by omega), o1, ← hv]; congr 1; omega
    · rw [if_neg (by omega), if_pos (by omega), Nat.sub_zero, List.getElem?_eq_getElem (by omega), Option.getD_some]
      refine ⟨hr0 _ (List.getElem_mem _), fun j a ha => ?_⟩
      obtain ⟨v, hv, hvr⟩ := seq_row hl0 hr0 (List.getElem?_eq_getElem (by omega)) ha
      exact ⟨v, by rw [List.getElem?_append_left (List.getElem?_eq_some_iff.1 hv).1]; exact hv, hvr⟩
  obtain ⟨arr, ho, hsz, _⟩ := h.rows hL hget
  have hone := h.rowsOne hL hget ho
  rw [setK_eq, pushK_eq]
  rcases Nat.lt_or_ge C (len + k) with hgrow | hroom
  · obtain ⟨newCap, hcap, hrun⟩ := run_append_grow A (base := some a) (len := len) (cap := C) hgrow hsm ty o3 hzr.1
    have hzl : zv.cells.size = s := by have := hzr.2.length; simp only [Array.length_toList] at this; omega
    have hsz2 := grown_size o1 hvl hzl (tot := len + k) rfl hcap
    have hp := (h.kill b).push (o := .rows (len + k) s (treeOf z' l (treeOf z' l0 .nil 0) len) z' e) (L := ⟨w.heap.size, 0, newCap - (len + k)⟩) (grew_append (o := .cells (ovs.toArray ++ vs.toArray ++ Builtin.zeroCells zv.cells (newCap - (len + k))) e)) rfl
      ⟨_, rfl, by rw [hsz2]; simp only [Nat.zero_add]; rw [show len + k + (newCap - (len + k)) = newCap by omega]; exact Nat.le_refl _, fun i hi => ⟨(hrowN i hi).1, fun j a ha => ?_⟩, grown_one hz hzr.2 ho1 h1 _⟩
    · exact XR.new hp (VR.grownAt (K := ⟨w.heap.size, 0, newCap - (len + k)⟩) (Mu.up_same _ _ _) (cap := newCap) (by show len + k + (newCap - (len + k)) = newCap; omega)) (hr _ _ hrun)
    · obtain ⟨v, hv, hvr⟩ := (hrowN i hi).2 j a ha
      refine ⟨v, ?_, hvr.mono (Mu.up_le (h.dom _ (Nat.le_refl _)) _)⟩
      have hlt := (List.getElem?_eq_some_iff.1 hv).1
      rw [List.length_append] at hlt
      rw [app_get]
      simp only [Nat.zero_add, List.size_toArray, List.getElem?_toArray]
      by_cases h5 : i * s + j < ovs.length
      · rw [if_pos h5]; rw [List.getElem?_append_left h5] at hv; exact hv
      · rw [if_neg h5, if_pos hlt]; rw [List.getElem?_append_right (by omega)] at hv; exact hv
  · obtain ⟨rfl, rfl⟩ : a = ⟨L.blk, L.base + off, none⟩ ∧ C = cap' + L.slack := by
      rcases ha with ⟨e1, e2⟩ | ha
      · omega
      · exact ha
    have hsz' : L.base + off + (cap' + L.slack) * s ≤ arr.size := by rw [Nat.add_mul] at hsz ⊢; omega
    have h2 : (len + k) * s ≤ (cap' + L.slack) * s := Nat.mul_le_mul_right s hroom
    have h3 : (len + k) * s = len * s + k * s := Nat.add_mul ..
    have hbs : L.base + off + len * s + vs.length ≤ arr.size := by omega
    have hov : ∀ j, j < len * s → ovs[j]? = arr[L.base + off + j]? := by
      obtain ⟨cs, c1, c2, c3⟩ := cells_list ho (o := L.base + off) (m := len * s) (by omega)
      have := first_range (P := P) (range_drew1 c3) (s := s) (n := len) (len := len) (cap := cap' + L.slack) (by omega)
      rw [o3] at this
      have e1 : ovs = cs := by simpa using this
      intro j hj
      rw [e1]; exact c2 j hj
    have hst := run_storeCells_free P L.blk (L.base + off + len * s) e (0, 0) vs 0 arr w ho (free_none _) (by omega) h1
    have hrun := run_append_room A (base := some ⟨L.blk, L.base + off, none⟩) (len := len) (cap := cap' + L.slack) hroom ty (w' := w.setRow L.blk (splice arr (L.base + off + len * s) vs)) (by show (storeCells ((⟨L.blk, L.base + off, none⟩ : Addr).add (len * s)) vs).run P w = _; rw [Addr.add_mid]; simpa using hst)
    have hp := h.rename hL hG (by rw [hget]; intro h; cases h) (K := ⟨L.blk, L.base + off, cap' + L.slack - (len + k)⟩) rfl (apart_setRow w L.blk (splice arr (L.base + off + len * s) vs)) (setRow_heap w _ _ _ e (0, 0) ho) (o := .rows (len + k) s (treeOf z' l (treeOf z' l0 .nil 0) len) z' e)
      ⟨_, rfl, by rw [splice_size hbs]; simp only; rw [show len + k + (cap' + L.slack - (len + k)) = cap' + L.slack by omega]; exact hsz', fun i hi => ⟨(hrowN i hi).1, fun j a ha => ?_⟩, hone.splice h1⟩
    · exact XR.new hp (VR.grownAt (K := ⟨L.blk, L.base + off, cap' + L.slack - (len + k)⟩) (Mu.up_same _ _ _) (cap := cap' + L.slack) (by show len + k + (cap' + L.slack - (len + k)) = cap' + L.slack; omega)) (hr _ _ hrun)
    · obtain ⟨v, hv, hvr⟩ := (hrowN i hi).2 j a ha
      refine ⟨v, ?_, hvr.mono (Mu.up_le (h.dom _ (Nat.le_refl _)) _)⟩
      have hlt := (List.getElem?_eq_some_iff.1 hv).1
      rw [List.length_append] at hlt
      rw [splice_get hbs]
      simp only
      by_cases h5 : i * s + j < ovs.length
      · rw [if_pos (by omega)]; rw [List.getElem?_append_left h5, hov _ (by omega)] at hv; rw [← hv]; congr 1; omega
      · rw [if_neg (by omega), if_pos (by omega)]; rw [List.getElem?_append_right (by omega)] at hv; rw [← hv]; congr 1; omega
theorem appendTo_sound (h : HR w0 G μ H w) {types : Array TypeId} {e : TypeId} {s : Nat} {xv : Value} {k : Nat} {vs : List Value} {zeros : Bool} (A : App P w types e s xv k vs zeros) {q : Seq} (hq : SeqR μ s q vs) (hvl : vs.length = k * s) (h1 : ∀ v ∈ vs, v.oneCell' = true)
    {sl : AV} {slv : Value} (hs : VR μ sl slv) {x : AV} (ty : TypeId) (hr : ∀ v w', (Builtin.append_ types ty #[slv, xv]).run P w = .ok v w' → r = .ok (.value v) w') : XR P w0 G μ H.size (appendTo P G e s sl x k q H) r := by
  have hs0 := A.pos
  unfold appendTo
  split
  · cases hs
    refine XR.cond (fun hk => ?_) (fun _ => XR.cond (fun hc => ?_) (fun _ => trivial))
    · rw [Nat.beq_eq] at hk
      subst hk
      exact XR.value h .nils (hr _ _ (run_append_room A (base := none) (len := 0) (cap := 0) (by omega) ty rfl))
    · rename_i hk
      have hk : k ≠ 0 := fun e => by rw [e] at hk; cases hk
      rw [Bool.and_eq_true, Nat.blt_eq] at hc
      obtain ⟨z, hz, hzs⟩ := zeroOk_inv hc.2
      obtain ⟨zv, hzr⟩ : ∃ zv, (∀ w', (zeroValue e).run P w' = .ok zv w') ∧ LR μ z zv.cells.toList := by
        obtain ⟨_, zv, h1, h2⟩ := zeroCells_spec (w := w) hz
        exact ⟨zv, fun w' => by
          obtain ⟨_, zv', h1', _⟩ := zeroCells_spec (w := w') hz
          have : zv' = zv := by
            simp only [zeroValue, typeInfo, Sem.run_bind, run_program, Result.andThen_ok] at h1 h1'
            cases hi : P.info? e with
            | none => simp [hi] at h1
            | some i => simp only [hi, Sem.run_pure, Result.andThen_ok] at h1 h1'; cases hz : i.zero <;> simp_all
          rw [← this]; exact h1', h2 μ⟩
      obtain ⟨newCap, hcap, hrun⟩ := run_append_grow A (base := none) (len := 0) (cap := 0) (by omega) (by omega) ty (old := []) (by simp [Builtin.firstCells]) hzr.1
      rw [Nat.zero_add] at hcap hrun
      exact grown_sound h hz hzr.2 hzs hs0 (len := 0) (old := .emp) (ovs := []) rfl (by simp) (by simp) hq hvl h1 (by omega) hcap grew_append (hr _ _ hrun)
  · rename_i b off len cap g
    obtain ⟨L, hL, rfl⟩ := hs.slice_inv
    refine XR.cond (fun hroom => XR.cond (fun hG => ?_) (fun _ => trivial)) (fun hno => XR.cond (fun hc => ?_) (fun _ => trivial))
    · rw [Nat.ble_eq] at hroom hG
      have hroom : len + k ≤ cap := hroom
      refine putSeq_sound h hL hG hq h1 fun H' w' hH hst => ?_
      rw [rSlice_eq]
      have hst' : (storeCells ((⟨L.blk, L.base + off, none⟩ : Addr).add (len * s)) vs).run P w = .ok () w' := by
        rw [Addr.add_mid, Nat.add_assoc]; exact hst
      have := run_append_room A (base := some ⟨L.blk, L.base + off, none⟩) (len := len) (cap := cap + if g then L.slack else 0) (by omega) ty hst'
      exact XR.new ⟨hH, μ.lx_refl _⟩ (.slice b off (len + k) cap g L hL) (hr _ _ this)
    · have hno : cap < len + k := by
        rcases Nat.lt_or_ge cap (len + k) with h' | h'
        · exact h'
        · have : Nat.ble (Nat.add len k) cap = true := by rw [Nat.ble_eq]; exact h'
          rw [this] at hno; cases hno
      rw [Bool.and_eq_true, Bool.and_eq_true, Nat.blt_eq, Nat.ble_eq] at hc
      obtain ⟨hsm, hlc, hzo⟩ := hc
      have hsm : len + k < 1048576 := hsm
      obtain ⟨z, hz, hzs⟩ := zeroOk_inv hzo
      obtain ⟨zv, hzr⟩ : ∃ zv, (∀ w', (zeroValue e).run P w' = .ok zv w') ∧ LR μ z zv.cells.toList := by
        obtain ⟨_, zv, h1, h2⟩ := zeroCells_spec (w := w) hz
        exact ⟨zv, fun w' => by
          obtain ⟨_, zv', h1', _⟩ := zeroCells_spec (w := w') hz
          have : zv' = zv := by
            simp only [zeroValue, typeInfo, Sem.run_bind, run_program, Result.andThen_ok] at h1 h1'
            cases hi : P.info? e with
            | none => simp [hi] at h1
            | some i => simp only [hi, Sem.run_pure, Result.andThen_ok] at h1 h1'; cases hz : i.zero <;> simp_all
          rw [← this]; exact h1', h2 μ⟩
      split
      · trivial
      · rename_i old hold
        obtain ⟨ovs, o1, o2, o3, o4⟩ := seqOf_sound (P := P) h (x := .slice b off len cap g) (.slice b off len cap g L hL) (fun n hn => by simp only [lenOfA, Option.some.injEq] at hn; omega) rfl hold
        have o3 := o3 (drew1 w) rfl
        refine XR.cond (fun hg => ?_) (fun hg => ?_)
        · subst hg
          rw [if_pos rfl] at hr o3
          split
          · rename_i n s' c z' e' hget
            refine XR.cond (fun hc => ?_) (fun _ => XR.cond (fun hc => ?_) (fun _ => trivial))
            rotate_left
            · simp only [Bool.and_eq_true, Nat.beq_eq, Nat.ble_eq] at hc
              obtain ⟨hG, hcp, rfl, rfl⟩ := hc
              have hlen : ∀ l : List (List AV), ∀ vs : List Value, ∀ k, LR μ l.flatten vs → (∀ row ∈ l, row.length = s) → vs.length = k * s → l.length = k := fun l vs k hl hsr hvl => by
                have : l.length * s = k * s := by rw [← flat_length l hsr, hl.length, hvl]
                exact Nat.eq_of_mul_eq_mul_right hs0 this
              split
              · rename_i l0 l
                obtain ⟨hl0, hr0⟩ := o2
                obtain ⟨hl, hsr⟩ := hq
                rw [setRowsK_eq, setRowsK_eq, fNat_eq]
                exact grownRows_sound h A hvl h1 hl0 hr0 (hlen _ _ _ hl0 hr0 o1) o4 hl hsr (hlen _ _ _ hl hsr hvl) hL hG hget hz hzr hzs hsm (by omega) hcp hlc (.inr ⟨rfl, rfl⟩) o3 ty hr
              · rename_i l
                have o2 : ovs = [] := o2
                subst o2
                obtain ⟨hl, hsr⟩ := hq
                have hl00 : len = 0 := by
                  rcases Nat.mul_eq_zero.1 (show len * s = 0 from o1.symm) with e | e
                  · exact e
                  · omega
                subst hl00
                rw [setRowsK_eq, fNat_eq]
                exact grownRows_sound (l0 := []) h A hvl h1 .nil (by simp) rfl o4 hl hsr (hlen _ _ _ hl hsr hvl) hL hG hget hz hzr hzs hsm (by omega) hcp hlc (.inr ⟨rfl, rfl⟩) o3 ty hr
              · trivial
            simp only [Bool.and_eq_true, Nat.beq_eq, Nat.ble_eq] at hc
            obtain ⟨hG, rfl, rfl, rfl, rfl⟩ := hc
            split
            · rename_i l
              obtain ⟨hl, hsr⟩ := hq
              obtain ⟨arr, ho, hsz, hrow⟩ := h.rows hL hget
              have hone := h.rowsOne hL hget ho
              have hll : l.length = k := by
                have : l.length * s = k * s := by rw [← flat_length l hsr, hl.length, hvl]
                exact Nat.eq_of_mul_eq_mul_right hs0 this
              rw [setRowsK_eq, fNat_eq, setK_eq, pushK_eq]
              rcases Nat.lt_or_ge (n + L.slack) (len + k) with hgrow | hroom
              · -- a new row
                obtain ⟨newCap, hcap, hrun⟩ := run_append_grow A (base := some ⟨L.blk, L.base + 0, none⟩) (len := len) (cap := n + L.slack) hgrow hsm ty o3 hzr.1
                have hold2 : ∀ i, i < len → ∀ j a, (getR c (path i) z')[j]? = some a → ∃ v, ovs[i * s + j]? = some v ∧ VR μ a v := by
                  obtain ⟨cs, c1, c2, c3⟩ := cells_list ho (o := L.base + 0) (m := len * s) (by have : len * s ≤ (n + L.slack) * s := Nat.mul_le_mul_right s (by omega); omega)
                  have := first_range (P := P) (range_drew1 c3) (s := s) (n := len) (len := len) (cap := n + L.slack) (by omega)
                  rw [o3] at this
                  have e1 : ovs = cs := by simpa using this
                  intro i hi j a ha
                  obtain ⟨g1, g2⟩ := hrow i (by omega)
                  obtain ⟨v, hv, hvr⟩ := g2 j a ha
                  have hj : j < s := by rw [← g1]; exact (List.getElem?_eq_some_iff.1 ha).1
                  have := mul_step hi s
                  exact ⟨v, by rw [e1, c2 _ (by omega), ← hv]; congr 1; omega, hvr⟩
                have hzl : zv.cells.size = s := by have := hzr.2.length; simp only [Array.length_toList] at this; omega
                have hsz2 := grown_size o1 hvl hzl (tot := len + k) rfl hcap
                have hp := (h.kill b).push (o := .rows (len + k) s (treeOf z' l c len) z' e') (L := ⟨w.heap.size, 0, newCap - (len + k)⟩) (grew_append (o := .cells (ovs.toArray ++ vs.toArray ++ Builtin.zeroCells zv.cells (newCap - (len + k))) e')) rfl
                  ⟨_, rfl, by rw [hsz2]; simp only [Nat.zero_add]; rw [show len + k + (newCap - (len + k)) = newCap by omega]; exact Nat.le_refl _, fun i hi => ?_, grown_one hz hzr.2 o4 h1 _⟩
                · exact XR.new hp (VR.grownAt (K := ⟨w.heap.size, 0, newCap - (len + k)⟩) (Mu.up_same _ _ _) (cap := newCap) (by show len + k + (newCap - (len + k)) = newCap; omega)) (hr _ _ hrun)
                · rw [treeOf_get]
                  by_cases h2 : len ≤ i
                  · rw [if_pos (by omega), List.getElem?_eq_getElem (by omega), Option.getD_some]
                    refine ⟨hsr _ (List.getElem_mem _), fun j a ha => ?_⟩
                    obtain ⟨v, hv, hvr⟩ := seq_row hl hsr (List.getElem?_eq_getElem (by omega)) ha
                    have hlt := (List.getElem?_eq_some_iff.1 hv).1
                    have e : (i - len) * s + len * s = i * s := by rw [← Nat.add_mul]; congr 1; omega
                    refine ⟨v, ?_, hvr.mono (Mu.up_le (h.dom _ (Nat.le_refl _)) _)⟩
                    rw [app_get]
                    simp only [Nat.zero_add, List.size_toArray, List.getElem?_toArray]
                    rw [if_neg (by omega), if_pos (by omega), ← hv]; congr 1; omega
                  · rw [if_neg (by omega)]
                    refine ⟨(hrow i (by omega)).1, fun j a ha => ?_⟩
                    obtain ⟨v, hv, hvr⟩ := hold2 i (by omega) j a ha
                    have hlt := (List.getElem?_eq_some_iff.1 hv).1
                    refine ⟨v, ?_, hvr.mono (Mu.up_le (h.dom _ (Nat.le_refl _)) _)⟩
                    rw [app_get]
                    simp only [Nat.zero_add, List.size_toArray, List.getElem?_toArray]
                    rw [if_pos (by omega)]; exact hv
              · have hbs : L.base + len * s + vs.length ≤ arr.size := by
                  have h2 : (len + k) * s ≤ (n + L.slack) * s := Nat.mul_le_mul_right s hroom
                  rw [Nat.add_mul] at h2
                  omega
                have hst := run_storeCells_free P L.blk (L.base + len * s) e' (0, 0) vs 0 arr w ho (free_none _) (by omega) h1
                have hrun := run_append_room A (base := some ⟨L.blk, L.base + 0, none⟩) (len := len) (cap := n + L.slack) hroom ty (w' := w.setRow L.blk (splice arr (L.base + len * s) vs)) (by show (storeCells ((⟨L.blk, L.base + 0, none⟩ : Addr).add (len * s)) vs).run P w = _; rw [Addr.add_mid]; simpa using hst)
                have hov := rows_over (L := L) (n := len + k) (i := len) (l := l) (c := c) (z := z') (fun i hi hor => hrow i (by omega)) hl hsr hbs
                have hp := h.rename hL hG (by rw [hget]; intro h; cases h) (K := ⟨L.blk, L.base, n + L.slack - (len + k)⟩) rfl (apart_setRow w L.blk (splice arr (L.base + len * s) vs)) (setRow_heap w _ _ _ e' (0, 0) ho) (o := .rows (len + k) s (treeOf z' l c len) z' e')
                  ⟨_, rfl, by rw [splice_size hbs]; simp only; rw [show len + k + (n + L.slack - (len + k)) = n + L.slack by omega]; exact hsz, fun i hi => ⟨(hov i hi).1, (hov i hi).2.mono (Mu.up_le (h.dom _ (Nat.le_refl _)) _)⟩, hone.splice h1⟩
                exact XR.new hp (VR.grownAt (K := ⟨L.blk, L.base, n + L.slack - (len + k)⟩) (Mu.up_same _ _ _) (cap := n + L.slack) (by show len + k + (n + L.slack - (len + k)) = n + L.slack; omega)) (hr _ _ hrun)
            · trivial
          · rename_i n N e' st hget
            refine XR.cond (fun hc => ?_) (fun _ => trivial)
            simp only [Bool.and_eq_true, Nat.beq_eq, Nat.ble_eq] at hc
            obtain ⟨hG, hn, rfl, rfl⟩ := hc
            have hn : n = off + cap := hn
            split
            · rename_i m M
              obtain ⟨_, hm, hM, hv⟩ := hq
              obtain rfl : m = k := by omega
              obtain ⟨arr, fz, ho, hN, hsz, hcell, hf, hst⟩ := h.bytes hL hget
              rw [fNat_eq, fNat_eq, setK_eq, pushK_eq]
              have hR : cutB (coreB N) off len + 256 ^ len * M < 256 ^ (len + m) := join_lt (cutB_lt _ _ _) hM
              rcases Nat.lt_or_ge (cap + L.slack) (len + m) with hgrow | hroom
              · obtain ⟨newCap, hcap, hrun⟩ := run_append_grow A (base := some ⟨L.blk, L.base + off, none⟩) (len := len) (cap := cap + L.slack) hgrow hsm ty o3 hzr.1
                have hold2 : ∀ i, i < len → ovs[i]? = some (.int .u8 (.ofNat (byteAt (coreB N) (off + i)))) := by
                  obtain ⟨cs, c1, c2, c3⟩ := cells_list ho (o := L.base + off) (m := len * 1) (by omega)
                  have := first_range (P := P) (range_drew1 c3) (s := 1) (n := len) (len := len) (cap := cap + L.slack) (by omega)
                  rw [o3] at this
                  have e1 : ovs = cs := by simpa using this
                  intro i hi
                  rw [e1, c2 _ (by omega), Nat.add_assoc]; exact hcell _ (by omega)
                have hzl : zv.cells.size = 1 := by have := hzr.2.length; simp only [Array.length_toList] at this; omega
                have hsz2 := grown_size o1 hvl hzl (tot := len + m) rfl hcap
                have hp := (h.kill b).push (o := .bytes (len + m) (sealB (cutB (coreB N) off len + 256 ^ len * M)) e' st) (L := ⟨w.heap.size, 0, newCap - (len + m)⟩) (grew_append (o := .cells (ovs.toArray ++ vs.toArray ++ Builtin.zeroCells zv.cells (newCap - (len + m))) e')) rfl
                  ⟨_, (0, 0), rfl, by rw [core_seal]; exact hR, by rw [hsz2]; simp only; omega, fun i hi => ?_, free_none _, fun _ => rfl⟩
                · exact XR.new hp (VR.grownAt (K := ⟨w.heap.size, 0, newCap - (len + m)⟩) (Mu.up_same _ _ _) (cap := newCap) (by show len + m + (newCap - (len + m)) = newCap; omega)) (hr _ _ hrun)
                · rw [core_seal, byteAt_join (cutB_lt _ _ _), app_get]
                  simp only [Nat.zero_add, List.size_toArray, List.getElem?_toArray]
                  by_cases h2 : i < len
                  · rw [if_pos (by omega), if_pos h2, byteAt_cutB h2]; exact hold2 i h2
                  · rw [if_neg (by omega), if_pos (by omega), if_neg h2, show i - ovs.length = i - len by omega]; exact hv _ (by omega)
              · have hbs : L.base + off + len + vs.length ≤ arr.size := by omega
                have hst' := run_storeCells_free P L.blk (L.base + off + len) e' fz vs 0 arr w ho hf (by omega) h1
                have hrun := run_append_room A (base := some ⟨L.blk, L.base + off, none⟩) (len := len) (cap := cap + L.slack) hroom ty (w' := w.setRow L.blk (splice arr (L.base + off + len) vs)) (by show (storeCells ((⟨L.blk, L.base + off, none⟩ : Addr).add (len * 1)) vs).run P w = _; rw [Addr.add_mid, Nat.mul_one]; simpa using hst')
                have hp := h.rename hL hG (by rw [hget]; intro h; cases h) (K := ⟨L.blk, L.base + off, cap + L.slack - (len + m)⟩) rfl (apart_setRow w L.blk (splice arr (L.base + off + len) vs)) (setRow_heap w _ _ _ e' fz ho) (o := .bytes (len + m) (sealB (cutB (coreB N) off len + 256 ^ len * M)) e' st)
                  ⟨_, fz, rfl, by rw [core_seal]; exact hR, by rw [splice_size hbs]; simp only; omega, fun i hi => ?_, by rw [splice_size hbs]; exact hf, hst⟩
                · exact XR.new hp (VR.grownAt (K := ⟨L.blk, L.base + off, cap + L.slack - (len + m)⟩) (Mu.up_same _ _ _) (cap := cap + L.slack) (by show len + m + (cap + L.slack - (len + m)) = cap + L.slack; omega)) (hr _ _ hrun)
                · rw [core_seal, byteAt_join (cutB_lt _ _ _), splice_get hbs]
                  by_cases h2 : i < len
                  · rw [if_pos (by simp only; omega), if_pos h2, byteAt_cutB h2]; simp only; rw [Nat.add_assoc]; exact hcell _ (by omega)
                  · rw [if_neg (by simp only; omega), if_pos (by simp only; omega), if_neg h2]; rw [← hv _ (by omega)]; congr 1; simp only; omega
            · trivial
          · trivial
        · subst hg
          have hrun := run_append_grow A (base := some ⟨L.blk, L.base + off, none⟩) (len := len) (cap := cap + if false then L.slack else 0) (by simpa using hno) hsm ty o3 hzr.1
          obtain ⟨newCap, hcap, hrun⟩ := hrun
          exact grown_sound h hz hzr.2 hzs hs0 (len := len) o2 o1 o4 hq hvl h1 rfl hcap grew_append (hr _ _ hrun)
  · rename_i b off
    cases hs with
    | sliceE _ _ a C L hL hac =>
    refine XR.cond (fun hc => ?_) (fun _ => trivial)
    rw [Bool.and_eq_true, Bool.and_eq_true, Bool.and_eq_true, Nat.blt_eq, Nat.blt_eq, Nat.ble_eq] at hc
    obtain ⟨hsm, hk, hzo, hG⟩ := hc
    obtain ⟨z, hz, hzs⟩ := zeroOk_inv hzo
    obtain ⟨zv, hzr⟩ : ∃ zv, (∀ w', (zeroValue e).run P w' = .ok zv w') ∧ LR μ z zv.cells.toList := by
      obtain ⟨_, zv, h1, h2⟩ := zeroCells_spec (w := w) hz
      exact ⟨zv, fun w' => by
        obtain ⟨_, zv', h1', _⟩ := zeroCells_spec (w := w') hz
        have : zv' = zv := by
          simp only [zeroValue, typeInfo, Sem.run_bind, run_program, Result.andThen_ok] at h1 h1'
          cases hi : P.info? e with
          | none => simp [hi] at h1
          | some i => simp only [hi, Sem.run_pure, Result.andThen_ok] at h1 h1'; cases hz : i.zero <;> simp_all
        rw [← this]; exact h1', h2 μ⟩
    split
    · rename_i n s' c z' e' l hget
      refine XR.cond (fun hc => ?_) (fun _ => trivial)
      simp only [Bool.and_eq_true, Nat.beq_eq] at hc
      obtain ⟨hcp, rfl, rfl⟩ := hc
      obtain ⟨hl, hsr⟩ := hq
      have hll : l.length = k := by
        have : l.length * s = k * s := by rw [← flat_length l hsr, hl.length, hvl]
        exact Nat.eq_of_mul_eq_mul_right hs0 this
      have hcp : n * s = off := hcp
      rw [setRowsK_eq]
      have := grownRows_sound (l0 := []) (ovs := []) (len := 0) (off := off) (cap' := 0) h A hvl h1 .nil (by simp) rfl (by simp) hl hsr hll hL hG hget hz hzr hzs (by omega) hk (by omega) (Nat.le_refl _) (a := a) (C := C) (hac.imp (fun e => ⟨e, rfl⟩) (fun hac => ⟨hac.1, by rw [Nat.zero_add]; exact hac.2⟩)) (by simp [Builtin.firstCells, loadCells, loadCellsFrom]) ty hr
      rw [Nat.zero_add] at this
      exact this
    · trivial
  · trivial
end
end Go.Proofs.YtabllhhainepgaaGreatDoor.Ab
/-
  The abstract machine: built-in functions.
-/
namespace Go.Proofs.YtabllhhainepgaaGreatDoor.Ab
open Go.RowKit

section
variable {P : Program} {w0 w : World} {G : Nat} {μ : Mu} {H : AH} {r : Result Next}
theorem lenOf_sound {x : AV} {xv : Value} (hx : VR μ x xv) {n : Nat} (hn : lenOfA x = some n) (w : World) : (Builtin.lenOf xv).run P w = .ok n w := by
  cases hx <;> simp only [lenOfA, Option.some.injEq, reduceCtorEq] at hn <;> subst hn <;> try rfl
  rename_i s h1 h2
  simp only [Builtin.lenOf, Sem.run_pure, ← h1]; rfl
theorem zero_all {e : TypeId} {z : List AV} (hz : zeroCellsA P e = some z) : ∃ zv, (∀ w', (zeroValue e).run P w' = .ok zv w') ∧ ∀ μ : Mu, LR μ z zv.cells.toList := by
  obtain ⟨_, zv, h1, h2⟩ := zeroCells_spec (w := default) hz
  exact ⟨zv, fun w' => by
    obtain ⟨_, zv', h1', _⟩ := zeroCells_spec (w := w') hz
    have : zv' = zv := by
      simp only [zeroValue, typeInfo, Sem.run_bind, run_program, Result.andThen_ok] at h1 h1'
      cases hi : P.info? e with
      | none => simp [hi] at h1
      | some i => simp only [hi, Sem.run_pure, Result.andThen_ok] at h1 h1'; cases hz : i.zero <;> simp_all
    rw [← this]; exact h1', h2⟩
theorem zeros_seq {z : List AV} {zc : Array Value} (hz : LR μ z zc.toList) (k : Nat) : LR μ (List.replicate k z).flatten (Builtin.zeroCells zc k).toList := by
  have hl := hz.length
  simp only [Array.length_toList] at hl
  refine LR.of_get ?_ fun i a v ha hv => ?_
  · rw [flat_length (s := z.length) _ (fun row h => by rw [(List.mem_replicate.1 h).2])]
    simp [Builtin.zeroCells, hl]
  · have hi : i < k * z.length := by
      have := (List.getElem?_eq_some_iff.1 ha).1
      rw [flat_length (s := z.length) _ (fun row h => by rw [(List.mem_replicate.1 h).2])] at this
      simpa using this
    obtain ⟨h1, h2, h3⟩ := row_lt hi
    have hdm := div_mod i z.length
    have hz1 := zeros_row hz h1 (i % z.length)
    have ha' := ha
    rw [hdm, flat_get _ (fun row h => by rw [(List.mem_replicate.1 h).2]) _ _ h2, List.getElem?_replicate, if_pos h1] at ha'
    obtain ⟨u, hu, hur⟩ := hz1 a ha'
    rw [← hdm] at hu
    have hv' : (Builtin.zeroCells zc k)[i]? = some v := by simpa using hv
    unfold Builtin.zeroCells at hv'
    rw [← hl] at hv' hu
    rw [hv'] at hu
    cases hu
    exact hur
theorem zeros_ones {e : TypeId} {z : List AV} (hz : zeroCellsA P e = some z) {zc : Array Value} (h : LR μ z zc.toList) (k : Nat) : ∀ v ∈ (Builtin.zeroCells zc k).toList, v.oneCell' = true := by
  have hzl := h.length
  simp only [Array.length_toList] at hzl
  have := zeros_one h (zeroCells_all hz) (n := k)
  rw [hzl] at this
  exact this
theorem zeros_bytes {e : TypeId} {z : List AV} (hb : isByteA P e = true) (hz : zeroCellsA P e = some z) {zc : Array Value} (h : LR μ z zc.toList) (k : Nat) : SeqR μ 1 (.pk k 0) (Builtin.zeroCells zc k).toList := by
  obtain ⟨rfl, _⟩ := byte_zero hb hz
  have hl := h.length
  simp only [Array.length_toList, List.length_cons, List.length_nil] at hl
  refine ⟨rfl, by simp [Builtin.zeroCells, ← hl], Nat.pow_pos (by omega), fun i hi => ?_⟩
  obtain ⟨v, hv, hvr⟩ := zeros_row (n := k) h hi 0 _ rfl
  have hv : ((Array.range (k * 1)).map fun j => zc[j % zc.size]!)[i]? = some v := by simpa using hv
  rw [hvr.int_inv] at hv
  rw [byteAt_zero]
  have hl' : zc.size = 1 := by omega
  show ((Array.range (k * zc.size)).map fun j => zc[j % zc.size]!).toList[i]? = _
  rw [Array.getElem?_toList, hl']
  rw [hl'] at hv
  exact hv
theorem zeros_rows {z : List AV} {zc : Array Value} (h : LR μ z zc.toList) (k : Nat) : SeqR μ z.length (.rs (List.replicate k z)) (Builtin.zeroCells zc k).toList :=
  ⟨zeros_seq h k, fun row hr => by rw [(List.mem_replicate.1 hr).2]⟩
theorem append_sound (h : HR w0 G μ H w) {types : Array TypeId} {t t2 : TypeId} {ts : List TypeId} (ht : types.toList = t :: t2 :: ts) {s x : AV} {sv xv : Value} (hs : VR μ s sv) (hx : VR μ x xv) (ty : TypeId)
    (hr : ∀ v w', (Builtin.append_ types ty #[sv, xv]).run P w = .ok v w' → r = .ok (.value v) w') : XR P w0 G μ H.size (builtinA P G .append (t :: t2 :: ts) [s, x] H) r := by
  have e0 : types[0]? = some t := by rw [← Array.getElem?_toList, ht]; rfl
  have e1 : types[1]? = some t2 := by rw [← Array.getElem?_toList, ht]; rfl
  show XR P w0 G μ H.size (match P.underlying t, P.underlying t2 with | some (.slice e), some u => _ | _, _ => _) r
  split
  · rename_i e u hu hu2
    split
    · rename_i sz hsz
      split
      · rename_i kk k' k
        split
        · rename_i len hlen
          have hx := hx.int_inv
          subst hx
          refine XR.cond (fun hc => ?_) (fun _ => trivial)
          rw [Bool.and_eq_true, Bool.and_eq_true, Nat.blt_eq, Nat.blt_eq, Nat.blt_eq] at hc
          obtain ⟨⟨hk, hl⟩, hb⟩ := hc
          have key : ∀ z, zeroCellsA P e = some z → ∃ vs, vs.length = k * (sz + 1) ∧ App P w types e (sz + 1) (.int k' (Int.ofNat k)) k vs true ∧ (isByteA P e = true → SeqR μ (sz + 1) (.pk k 0) vs) ∧ SeqR μ (sz + 1) (.rs (List.replicate k z)) vs ∧ ∀ v ∈ vs, v.oneCell' = true := fun z hz => by
            obtain ⟨zv, hzv, hzl⟩ := zero_all hz
            have hzs : z.length = sz + 1 := by
              have := (zeroCells_spec (w := w) hz).1
              rw [hsz] at this; exact (Option.some.inj this).symm
            have hzc : zv.cells.size = sz + 1 := by have := (hzl μ).length; simp only [Array.length_toList] at this; omega
            refine ⟨(Builtin.zeroCells zv.cells k).toList, by simp [Builtin.zeroCells, hzc], ⟨⟨t, e0, hu⟩, hsz, by omega, hb, fun h => (by cases h), fun _ => ⟨⟨t2, kk, e1, hu2⟩, ⟨k', rfl⟩, hk, zv, hzv, by simp, fun h0 => ?_⟩⟩, fun hby => ?_, ?_, zeros_ones hz (hzl μ) k⟩
            · have hk0 : k = 0 := by
                rcases Nat.mul_eq_zero.1 h0 with e | e
                · exact e
                · omega
              simp [Builtin.zeroCells, hk0]
            · have := zeros_bytes hby hz (hzl μ) k
              have h1 := byte_size hby
              rw [hsz] at h1
              have h1 : sz + 1 = 1 := Option.some.inj h1
              rw [h1]; exact this
            · rw [← hzs]; exact zeros_rows (hzl μ) k
          refine XR.cond (fun hby => ?_) (fun _ => ?_)
          · obtain ⟨z, hz⟩ := byte_cells hby
            obtain ⟨vs, v1, A, v2, _, v4⟩ := key z hz
            exact appendTo_sound h A (v2 hby) v1 v4 hs ty hr
          · split
            · rename_i z hz
              obtain ⟨vs, v1, A, _, v3, v4⟩ := key z hz
              exact appendTo_sound h A v3 v1 v4 hs ty hr
            · trivial
        · trivial
      · trivial
      · rename_i hne1 hne2
        split
        · rename_i k hk
          split
          · rename_i q hq
            refine XR.cond (fun hc => ?_) (fun _ => trivial)
            rw [Bool.and_eq_true, Nat.blt_eq, Nat.blt_eq] at hc
            obtain ⟨vs, v1, v2, v3, v4⟩ := seqOf_sound (P := P) h hx (fun n hn => by rw [hk] at hn; cases hn; exact Nat.le_refl _) (by rw [hk]; rfl) hq
            have A : App P w types e (sz + 1) xv k vs false := ⟨⟨t, e0, hu⟩, hsz, by omega, hc.2, fun _ => ⟨⟨t2, u, e1, hu2, fun kk hkk => by first | exact hne1 kk hkk | exact hne2 kk hkk | (subst hkk; exact hne2 kk xv rfl) | trace_state⟩, lenOf_sound hx hk _, lenOf_sound hx hk _, v3 _ rfl, v3 _ rfl⟩, fun h => by cases h⟩
            exact appendTo_sound h A v2 v1 v4 hs ty hr
          · trivial
        · trivial
    · trivial
  · trivial
theorem copy_sound (h : HR w0 G μ H w) {types : Array TypeId} {t : TypeId} {ts : List TypeId} (ht : types.toList = t :: ts) {d s : AV} {dv sv : Value} (hd : VR μ d dv) (hs : VR μ s sv) (ty : TypeId)
    (hr : ∀ v w', (Builtin.copy_ types ty #[dv, sv]).run P w = .ok v w' → r = .ok (.value v) w') : XR P w0 G μ H.size (builtinA P G .copy (t :: ts) [d, s] H) r := by
  have e0 : types[0]? = some t := by rw [← Array.getElem?_toList, ht]; rfl
  show XR P w0 G μ H.size (match P.underlying t with | some (.slice e) => _ | _ => _) r
  split
  · rename_i e hu
    split
    · rename_i sz m n hsz hm hn
      have hk : (bif Nat.ble n m then n else m) = Nat.min n m := by
        by_cases hnm : n ≤ m
        · have : Nat.ble n m = true := by rw [Nat.ble_eq]; exact hnm
          rw [this]; exact (Nat.min_eq_left hnm).symm
        · have : Nat.ble n m = false := by rw [← Bool.not_eq_true, Nat.ble_eq]; exact hnm
          rw [this]; exact (Nat.min_eq_right (show m ≤ n by omega)).symm
      simp only [hk]
      have hkn : Nat.min n m ≤ n := Nat.min_le_left _ _
      split
      · rename_i q hq
        obtain ⟨vs, v1, v2, v3, v4⟩ := seqOf_sound (P := P) h hs (fun n' hn' => by rw [hn] at hn'; cases hn'; exact hkn) (by rw [hn]; rfl) hq
        have hrun : ∀ (base : Option Addr) (c : Nat) (w' : World), dv = .slice base m c → (match base with | some a => storeCells a vs | none => pure ()).run P w = .ok () w' → (Builtin.copy_ types ty #[dv, sv]).run P w = .ok (.int .i64 (Nat.min n m : Nat)) w' := fun base c w' hdv hst => by
          subst hdv
          unfold Builtin.copy_
          simp only [e0, List.getElem?_toArray, List.getElem?_cons_zero, List.getElem?_cons_succ, Sem.run_bind, run_underlying hu, Result.andThen_ok, run_sizeOf hsz, lenOf_sound hs hn w, v3 w rfl]
          cases base with
          | none => simp only [Sem.run_pure, Result.ok.injEq, true_and] at hst; subst hst; rfl
          | some a => simp only at hst; simp only [Sem.run_bind, hst, Result.andThen_ok, Sem.run_pure]; rfl
        split
        · cases hd
          simp only [lenOfA, Option.some.injEq] at hm
          subst hm
          have := hrun none 0 w rfl rfl
          rw [show Nat.min n 0 = 0 from Nat.min_zero n] at this
          exact XR.value h (.int _ _) (hr _ _ this)
        · have v2 : vs = [] := v2
          subst v2
          cases hd with
          | sliceE _ _ a c =>
          simp only [lenOfA, Option.some.injEq] at hm
          subst hm
          have := hrun (some a) c w rfl rfl
          rw [show Nat.min n 0 = 0 from Nat.min_zero n] at this
          exact XR.value h (.int _ _) (hr _ _ this)
        · rename_i b off l c g
          obtain ⟨L, hL, rfl⟩ := hd.slice_inv
          simp only [lenOfA, Option.some.injEq] at hm
          subst hm
          refine XR.cond (fun hG => ?_) (fun _ => trivial)
          rw [Nat.ble_eq] at hG
          refine putSeq_sound h hL hG v2 v4 fun H' w' hH hst => ?_
          exact XR.rInt hH rfl (hr _ _ (hrun _ _ _ rfl hst))
        · trivial
      · trivial
    · trivial
  · trivial
end
end Go.Proofs.YtabllhhainepgaaGreatDoor.Ab
/-
  The abstract machine: length, capacity, interfaces, methods, calls.
-/
namespace Go.Proofs.YtabllhhainepgaaGreatDoor.Ab
open Go.RowKit

section
variable {P : Program} {w0 w : World} {G : Nat} {μ : Mu} {H : AH} {r : Result Next}
theorem run_getObj_at {g : Nat} {o : Obj} (h : w.heap[g]? = some o) (hn : ∀ c e f, o ≠ .cells c e f := by intros; simp) : (getObj g).run P w = .ok o w := by
  cases o <;> first | (exact absurd rfl (hn _ _ _)) | simp [getObj, Sem.run, h]
theorem len_sound (h : HR w0 G μ H w) {types : Array TypeId} {t : TypeId} {ts : List TypeId} (ht : types.toList = t :: ts) {x : AV} {xv : Value} (hx : VR μ x xv) (ty : TypeId)
    (hr : ∀ v w', (Builtin.len_ types ty #[xv]).run P w = .ok v w' → r = .ok (.value v) w') : XR P w0 G μ H.size (lenA P t x H) r := by
  have e0 : types[0]? = some t := by rw [← Array.getElem?_toList, ht]; rfl
  unfold lenA
  split
  · rename_i hu
    obtain ⟨s, rfl, h1, h2⟩ := hx.str_inv
    exact XR.value h (.int _ _) (hr _ _ (by
      unfold Builtin.len_
      simp only [e0, List.getElem?_toArray, List.getElem?_cons_zero, Sem.run_bind, run_underlying hu, Result.andThen_ok, Sem.run_pure, ← h1]; rfl))
  · rename_i n e hu
    exact XR.value h (.int _ _) (hr _ _ (by
      unfold Builtin.len_
      simp only [e0, List.getElem?_toArray, List.getElem?_cons_zero, Sem.run_bind, run_underlying hu, Result.andThen_ok, Sem.run_pure]; rfl))
  · rename_i arr hu
    split
    · rename_i n e hu2
      exact XR.value h (.int _ _) (hr _ _ (by
        unfold Builtin.len_
        simp only [e0, List.getElem?_toArray, List.getElem?_cons_zero, Sem.run_bind, run_underlying hu, run_underlying hu2, Result.andThen_ok, Sem.run_pure]; rfl))
    · trivial
  · rename_i e hu
    cases hx
    exact XR.value h (.int _ _) (hr _ _ (by
      unfold Builtin.len_
      simp only [e0, List.getElem?_toArray, List.getElem?_cons_zero, Sem.run_bind, run_underlying hu, Result.andThen_ok, Sem.run_pure]; rfl))
  · rename_i e hu
    cases hx
    exact XR.value h (.int _ _) (hr _ _ (by
      unfold Builtin.len_
      simp only [e0, List.getElem?_toArray, List.getElem?_cons_zero, Sem.run_bind, run_underlying hu, Result.andThen_ok, Sem.run_pure]; rfl))
  · rename_i e b off n c g hu
    obtain ⟨L, hL, rfl⟩ := hx.slice_inv
    exact XR.value h (.int _ _) (hr _ _ (by
      unfold Builtin.len_
      simp only [e0, List.getElem?_toArray, List.getElem?_cons_zero, Sem.run_bind, run_underlying hu, Result.andThen_ok, Sem.run_pure]; rfl))
  · rename_i k e hu
    cases hx
    exact XR.value h (.int _ _) (hr _ _ (by
      unfold Builtin.len_
      simp only [e0, List.getElem?_toArray, List.getElem?_cons_zero, Sem.run_bind, run_underlying hu, Result.andThen_ok, Sem.run_pure]; rfl))
  · rename_i k e b hu
    split
    · rename_i es clock hg
      obtain ⟨L, hL, rfl⟩ := hx.map_inv
      obtain ⟨o, ho, hor⟩ := h.obj b L hL (by rw [hg]; intro h; cases h)
      rw [hg] at hor
      obtain ⟨cs, rfl, her⟩ := hor
      have hlen := her.1
      simp only [Array.length_toList] at hlen
      refine XR.rInt h (m := (cs.size : Int)) (by rw [← hlen]; rfl) (hr _ _ (by
        unfold Builtin.len_
        simp only [e0, List.getElem?_toArray, List.getElem?_cons_zero, Sem.run_bind, run_underlying hu, Result.andThen_ok, Sem.run_pure, run_getObj_at ho]; rfl))
    · trivial
  · trivial
theorem ltI_eq (x y : Int) : ltI x y = decide (x < y) := by
  rw [Bool.eq_iff_iff, decide_eq_true_iff]
  cases x <;> cases y <;> unfold ltI <;> simp [Nat.blt_eq] <;> omega
theorem mins_sound (max : Bool) (k : IntKind) : ∀ (l : List AV) (m : List Value) (x : Int) (v : AV), LR μ l m → minI max k x l = some v → ∃ y, v = .int k y ∧ (m.foldlM (if max then Builtin.max2 else Builtin.min2) (.int k x)).run P w = .ok (.int k y) w
  | [], m, x, v, hl, h => by
    cases hl
    simp only [minI, Option.some.injEq] at h
    subst h
    exact ⟨x, rfl, rfl⟩
  | a :: l, m, x, v, hl, h => by
    cases hl with | cons _ u _ m hu hl =>
    cases a with
    | int k' y =>
      simp only [minI] at h
      by_cases hk : k = k'
      · rw [if_pos hk] at h
        subst hk
        have hu := hu.int_inv
        subst hu
        obtain ⟨z, hz1, hz2⟩ := mins_sound max k l m _ v hl h
        refine ⟨z, hz1, ?_⟩
        rw [List.foldlM_cons]
        cases max
        · simp only [Bool.false_eq_true, if_false, cond_false] at hz2 ⊢
          rw [Sem.run_bind]
          have e : (Builtin.min2 (.int k x) (.int k y)).run P w = .ok (.int k (bif ltI y x then y else x)) w := by
            unfold Builtin.min2
            rw [Sem.run_pure]
            congr 2
            by_cases hlt : y < x
            · have : ltI y x = true := by rw [ltI_eq]; simpa using hlt
              rw [if_pos hlt, this]; rfl
            · have : ltI y x = false := by rw [ltI_eq]; simpa using hlt
              rw [if_neg hlt, this]; rfl
          rw [e, Result.andThen_ok]; exact hz2
        · simp only [if_true, cond_true] at hz2 ⊢
          rw [Sem.run_bind]
          have e : (Builtin.max2 (.int k x) (.int k y)).run P w = .ok (.int k (bif ltI x y then y else x)) w := by
            unfold Builtin.max2
            rw [Sem.run_pure]
            congr 2
            by_cases hlt : y > x
            · have : ltI x y = true := by rw [ltI_eq]; simpa using hlt
              rw [if_pos hlt, this]; rfl
            · have : ltI x y = false := by rw [ltI_eq]; simpa using hlt
              rw [if_neg hlt, this]; rfl
          rw [e, Result.andThen_ok]; exact hz2
      · rw [if_neg hk] at h; cases h
    | _ => simp [minI] at h
theorem typeAssert_sound (h : HR w0 G μ H w) {x : AV} {xv : Value} (hx : VR μ x xv) (xt t : TypeId) (ok : Bool)
    (hr : ∀ v w', (Instr.typeAssert xv xt t ok).run P w = .ok v w' → r = .ok (.value v) w') : XR P w0 G μ H.size (typeAssertA P x t ok H) r := by
  unfold typeAssertA
  split
  · trivial
  · rename_i u hu
    have holds : ∀ (y : AV) (yv : Value), VR μ y yv → (Instr.typeAssert xv xt t ok).run P w = .ok (if ok then .tuple #[yv, .bool true] else yv) w → XR P w0 G μ H.size (bif ok then .val (.tuple [y, .bool true]) H else .val y H) r := fun y yv hy hrun => by
      cases ok
      · exact XR.value h hy (hr _ _ hrun)
      · exact XR.value h (.tuple _ #[yv, .bool true] (.mk2 hy (.bool true))) (hr _ _ hrun)
    have fails : (∀ zv, (zeroValue t).run P w = .ok zv w → ok = true → (Instr.typeAssert xv xt t ok).run P w = .ok (.tuple #[zv, .bool false]) w) → XR P w0 G μ H.size (bif ok then (match zeroA P t with | some z => .val (.tuple [z, .bool false]) H | none => .fail 251) else .fail 252) r := fun hf => by
      refine XR.cond (fun hok => ?_) (fun _ => trivial)
      split
      · rename_i z hz
        obtain ⟨zv, h1, h2⟩ := run_zero (w := w) hz
        exact XR.value h (.tuple _ #[zv, .bool false] (.mk2 (by rw [← h2]; exact VR.ofConst μ zv) (.bool false))) (hr _ _ (hf zv h1 hok))
      · trivial
    split
    · rename_i y heq
      split at heq
      · cases heq
      · rename_i want tt v
        obtain ⟨vv, rfl, hv⟩ := hx.iface_inv
        cases hi : P.info? tt with
        | none => rw [hi] at heq; cases heq
        | some i =>
          rw [hi] at heq
          cases hm : missA want i.methods with
          | true => simp [hm] at heq
          | false =>
            simp only [hm, cond_false, Option.some.injEq] at heq
            subst heq
            have hm' : Instr.missingMethod want i.methods = none := by
              unfold missA at hm
              cases hq : Instr.missingMethod want i.methods with
              | none => rfl
              | some s => rw [hq] at hm; cases hm
            refine holds _ _ hx ?_
            unfold Instr.typeAssert
            simp only [Sem.run_bind, run_underlying hu, Result.andThen_ok, typeInfo, run_program, hi, Sem.run_pure, hm']
      · cases heq
      · rename_i tt v hni
        obtain ⟨vv, rfl, hv⟩ := hx.iface_inv
        cases hb : Nat.beq tt t with
        | false => rw [hb] at heq; cases heq
        | true =>
          rw [hb] at heq
          simp only [cond_true, Option.some.injEq] at heq
          subst heq
          rw [Nat.beq_eq] at hb
          refine holds _ _ hv ?_
          unfold Instr.typeAssert
          rw [Sem.run_bind, run_underlying hu, Result.andThen_ok]
          cases u <;> first | (simp only [hb, if_true, Sem.run_pure]; done) | (exfalso; exact hni _ _ _ rfl rfl) | (exfalso; exact hni _ rfl)
      · cases heq
    · rename_i heq
      refine fails fun zv hz hok => ?_
      subst hok
      split at heq
      · cases hx
        unfold Instr.typeAssert
        simp only [Sem.run_bind, run_underlying hu, Result.andThen_ok, if_true, hz, Sem.run_pure]
      · rename_i want tt v
        obtain ⟨vv, rfl, hv⟩ := hx.iface_inv
        cases hi : P.info? tt with
        | none => rw [hi] at heq; cases heq
        | some i =>
          rw [hi] at heq
          cases hm : missA want i.methods with
          | false => simp [hm] at heq
          | true =>
            obtain ⟨s, hs⟩ : ∃ s, Instr.missingMethod want i.methods = some s := by
              unfold missA at hm
              cases hq : Instr.missingMethod want i.methods with
              | none => rw [hq] at hm; cases hm
              | some s => exact ⟨s, rfl⟩
            unfold Instr.typeAssert
            simp only [Sem.run_bind, run_underlying hu, Result.andThen_ok, typeInfo, run_program, hi, Sem.run_pure, hs, if_true, hz]
      · rename_i hni
        cases hx
        unfold Instr.typeAssert
        rw [Sem.run_bind, run_underlying hu, Result.andThen_ok]
        cases u <;> first | (simp only [Sem.run_bind, if_true, hz, Result.andThen_ok, Sem.run_pure]; done) | (exfalso; exact hni _ rfl)
      · rename_i tt v hni
        obtain ⟨vv, rfl, hv⟩ := hx.iface_inv
        cases hb : Nat.beq tt t with
        | true => rw [hb] at heq; simp at heq
        | false =>
          have hne : ¬ tt = t := fun e => by rw [e] at hb; simp at hb
          unfold Instr.typeAssert
          rw [Sem.run_bind, run_underlying hu, Result.andThen_ok]
          cases u <;> first | (simp only [hne, if_false, Sem.run_bind, if_true, hz, Result.andThen_ok, Sem.run_pure]; done) | (exfalso; exact hni _ _ _ rfl rfl) | (exfalso; exact hni _ rfl)
      · cases heq
    · trivial
end
end Go.Proofs.YtabllhhainepgaaGreatDoor.Ab
