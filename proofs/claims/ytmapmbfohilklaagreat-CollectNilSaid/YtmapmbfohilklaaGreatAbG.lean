/-
  The abstract machine: variables read and written, blocks made.
-/
import Derived.Test.YtmapmbfohilklaaGreatAbF
namespace Go.Proofs.YtmapmbfohilklaaGreat.Ab
open Go.RowKit

theorem div_mod (a s : Nat) : a = a / s * s + a % s := by have := Nat.div_add_mod a s; rw [Nat.mul_comm] at this; omega
theorem row_lt {off n s : Nat} (h : off < n * s) : off / s < n ∧ off % s < s ∧ 0 < s := by
  have hs : 0 < s := by
    rcases Nat.eq_zero_or_pos s with e | e
    · subst e; simp at h
    · exact e
  exact ⟨by rw [Nat.div_lt_iff_lt_mul hs]; exact h, Nat.mod_lt _ hs, hs⟩
theorem mul_step {i n : Nat} (h : i < n) (s : Nat) : i * s + s ≤ n * s := by
  have := Nat.mul_le_mul_right s h
  rw [Nat.succ_mul] at this; exact this

/-! ### types -/
section
variable {P : Program} {w : World} {t : TypeId}
theorem und_of_isAgg {b : Bool} (h : isAggA P t = some b) : ∃ d, P.underlying t = some d ∧ (match d with | .struct _ | .array _ _ => true | _ => false) = b := by
  unfold isAggA at h
  cases hu : P.underlying t with
  | none => rw [hu] at h; cases h
  | some d => rw [hu] at h; refine ⟨d, rfl, ?_⟩; cases d <;> simp_all
theorem run_isAgg {b : Bool} (h : isAggA P t = some b) : (isAgg t).run P w = .ok b w := by
  obtain ⟨d, hu, hd⟩ := und_of_isAgg h
  unfold isAgg
  rw [Sem.run_bind, run_underlying hu w, Result.andThen_ok]
  cases d <;> simp_all
theorem run_sizeOf {s : Nat} (h : sizeA P t = some s) : (sizeOf t).run P w = .ok s w := by
  unfold sizeA at h
  cases hi : P.info? t with
  | none => rw [hi] at h; cases h
  | some i => rw [hi] at h; simp only [Option.map_some, Option.some.injEq] at h; simp [sizeOf, typeInfo, hi, h]
theorem run_zero {z : AV} (h : zeroA P t = some z) : ∃ v, (zeroValue t).run P w = .ok v w ∧ ofConst v = z := by
  unfold zeroA at h
  cases hi : P.info? t with
  | none => rw [hi] at h; cases h
  | some i =>
    rw [hi] at h
    simp only [Option.bind_some] at h
    cases hz : i.zero with
    | none => rw [hz] at h; cases h
    | some v => rw [hz] at h; simp only [Option.map_some, Option.some.injEq] at h; exact ⟨v, by simp [zeroValue, typeInfo, hi, hz], h⟩
end

/-! ### constants -/
theorem VR.ofConst0 (μ : Mu) (v : Value) : VR μ (ofConst0 v) v := by
  unfold Ab.ofConst0
  split <;> first | exact .junk _ | exact .bool _ | exact .int _ _ | exact .str _ _ _ rfl rfl | exact .nilp | exact .nils | exact .nilm | exact .nilf | exact .nili
theorem VR.ofConst (μ : Mu) (v : Value) : VR μ (ofConst v) v := by
  unfold Ab.ofConst
  split
  · rename_i cs
    refine .agg _ _ (LR.of_get (by simp) fun i a u ha hu => ?_)
    rw [List.getElem?_map, hu] at ha
    simp only [Option.map_some, Option.some.injEq] at ha
    subst ha; exact VR.ofConst0 μ u
  · rename_i vs
    split
    · rename_i h
      have : vs = #[] := Array.eq_empty_of_size_eq_zero h
      subst this; exact .tuple _ _ .nil
    · exact .junk _
  · exact VR.ofConst0 μ _

/-! ### cells of an array -/
def splice (arr : Array Value) (k : Nat) (vs : List Value) : Array Value := (arr.toList.take k ++ vs ++ arr.toList.drop (k + vs.length)).toArray
theorem splice_size {arr : Array Value} {k : Nat} {vs : List Value} (h : k + vs.length ≤ arr.size) : (splice arr k vs).size = arr.size := by
  simp [splice]; omega
theorem splice_get {arr : Array Value} {k : Nat} {vs : List Value} (h : k + vs.length ≤ arr.size) (m : Nat) : (splice arr k vs)[m]? = if m < k then arr[m]? else if m < k + vs.length then vs[m - k]? else arr[m]? := by
  unfold splice
  rw [List.getElem?_toArray]
  have hlen : (arr.toList.take k).length = k := by simp; omega
  by_cases h1 : m < k
  · rw [if_pos h1, List.append_assoc, List.getElem?_append_left (by omega), List.getElem?_take, if_pos h1]; simp
  · rw [if_neg h1]
    by_cases h2 : m < k + vs.length
    · rw [if_pos h2, List.append_assoc, List.getElem?_append_right (by omega), hlen, List.getElem?_append_left (by omega)]
    · rw [if_neg h2, List.getElem?_append_right (by simp; omega), List.getElem?_drop]
      simp only [List.length_append, hlen, Array.getElem?_toList]
      congr 1; omega
theorem run_storeCells_free (P : Program) (g o : Nat) (t : TypeId) (fz : Nat × Nat) : ∀ (vs : List Value) (i : Nat) (cur : Array Value) (w : World), w.heap[g]? = some (.cells cur t fz) → Free fz cur.size → o + i + vs.length ≤ cur.size → (∀ v ∈ vs, v.oneCell' = true) →
    (storeCells ⟨g, o, none⟩ vs i).run P w = .ok () (w.setRow g (splice cur (o + i) vs))
  | [], i, cur, w, hg, _, _, _ => by
    simp only [storeCells, splice, List.append_nil, List.length_nil, Nat.add_zero, List.take_append_drop, Array.toArray_toList]
    rw [setRow_self w g cur t fz hg]
    rfl
  | v :: rest, i, cur, w, hg, hfz, hl, h1 => by
    have hi : o + i < cur.size := by simp at hl; omega
    have hadd : (⟨g, o, none⟩ : Addr).add i = ⟨g, o + i, none⟩ := by unfold Addr.add; split <;> simp_all
    have hcell : w.cell? ⟨g, o + i, none⟩ = some cur[o + i] := by simp [World.cell?, hg, hi]
    have hfro : w.frozen? ⟨g, o + i, none⟩ = false := by
      have := hfz.not (o + i) hi
      obtain ⟨lo, hi'⟩ := fz
      simp only [World.frozen?, hg, Bool.and_eq_false_iff, decide_eq_false_iff_not]
      simp only at this
      omega
    have hst : (store ((⟨g, o, none⟩ : Addr).add i) v).run P w = .ok () (w.setRow g (cur.setIfInBounds (o + i) v)) := by
      rw [hadd, run_store P w _ v _ (h1 v (by simp)), hcell]
      simp [hfro, setCell_eq_setRow w g (o + i) cur t fz v hg]
    have ih := run_storeCells_free P g o t fz rest (i + 1) (cur.setIfInBounds (o + i) v) (w.setRow g (cur.setIfInBounds (o + i) v)) (setRow_heap w g cur _ t _ hg) (by simpa using hfz) (by simp at hl ⊢; omega) (fun x hx => h1 x (by simp [hx]))
    simp only [storeCells, Sem.run_bind, hst, Result.andThen_ok, ih, setRow_setRow, splice]
    congr 3
    have e := list_seg_step cur.toList (o + i) v rest (by simp at hl ⊢; omega)
    simpa [Array.toList_setIfInBounds, Nat.add_assoc] using e
theorem apart_setRow (w : World) (g : Nat) (cs : Array Value) : Apart g w (w.setRow g cs) := ⟨rfl, rfl, rfl, by simp, fun k hk => setRow_other w g k cs hk⟩
theorem cell_arr {w : World} {g o : Nat} {arr : Array Value} {t : TypeId} {fz : Nat × Nat} (h : w.heap[g]? = some (.cells arr t fz)) : w.cell? ⟨g, o, none⟩ = arr[o]? := by simp [World.cell?, h]

/-! ### packed cells -/
theorem byteOfA_inv {v : AV} {b : Nat} (h : byteOfA v = some b) : v = .int .u8 (.ofNat b) ∧ b < 256 := by
  unfold byteOfA at h
  split at h
  · rename_i x
    by_cases hx : Nat.blt x 256 = true
    · rw [hx] at h; simp only [cond_true, Option.some.injEq] at h; subst h; exact ⟨rfl, by rwa [Nat.blt_eq] at hx⟩
    · rw [Bool.not_eq_true] at hx; rw [hx] at h; cases h
  · cases h
theorem packA_spec : ∀ {l : List AV} {M : Nat}, packA l = some M → M < 256 ^ l.length ∧ ∀ i, i < l.length → l[i]? = some (.int .u8 (.ofNat (byteAt M i)))
  | [], M, h => by simp only [packA, Option.some.injEq] at h; subst h; exact ⟨by simp, fun i hi => by simp at hi⟩
  | v :: l, M, h => by
    simp only [packA] at h
    cases hb : byteOfA v with
    | none => rw [hb] at h; cases h
    | some b =>
      cases hp : packA l with
      | none => rw [hb, hp] at h; cases h
      | some N =>
        rw [hb, hp] at h
        simp only [Option.some.injEq] at h
        obtain ⟨rfl, hlt⟩ := byteOfA_inv hb
        obtain ⟨h1, h2⟩ := packA_spec hp
        subst h
        refine ⟨by simp only [List.length_cons, Nat.pow_succ]; omega, fun i hi => ?_⟩
        have hj := byteAt_join (lo := b) (hi := N) (i := 1) (by simpa using hlt) i
        rw [Nat.pow_one] at hj
        cases i with
        | zero => rw [hj, if_pos (by omega)]; simp [byteAt_eq]; omega
        | succ i => rw [hj, if_neg (by omega)]; simpa using h2 i (by simpa using hi)
theorem LR.packed {μ : Mu} {l : List AV} {vs : List Value} {M : Nat} (h : LR μ l vs) (hp : packA l = some M) : M < 256 ^ vs.length ∧ l.length = vs.length ∧ ∀ i, i < vs.length → vs[i]? = some (.int .u8 (.ofNat (byteAt M i))) := by
  obtain ⟨h1, h2⟩ := packA_spec hp
  have hl := h.length
  refine ⟨hl ▸ h1, hl, fun i hi => ?_⟩
  obtain ⟨v, hv, hr⟩ := h.get i _ (h2 i (by omega))
  rw [hv, hr.int_inv]
theorem LR.allOne {μ : Mu} : ∀ {l : List AV} {vs : List Value}, LR μ l vs → allCells l = true → ∀ v ∈ vs, v.oneCell' = true
  | [], _, h, _, v, hv => by cases h; simp at hv
  | a :: l, _, h, hc, v, hv => by
    cases h with | cons _ u _ m h t =>
    simp only [allCells, Bool.and_eq_true] at hc
    rcases List.mem_cons.1 hv with e | e
    · subst e; exact h.one hc.1
    · exact t.allOne hc.2 v e
theorem packed_one {vs : List Value} {M : Nat} (h : ∀ i, i < vs.length → vs[i]? = some (.int .u8 (.ofNat (byteAt M i)))) : ∀ v ∈ vs, v.oneCell' = true := fun v hv => by
  obtain ⟨i, hi, rfl⟩ := List.getElem_of_mem hv
  have := h i hi
  rw [List.getElem?_eq_getElem hi] at this
  simp only [Option.some.injEq] at this
  rw [this]; rfl

/-! ### what is written into an object -/
section
variable {μ : Mu} {L : Loc}
theorem putAt_get {l new : List AV} {j : Nat} (h : j + new.length ≤ l.length) (m : Nat) : (putAt l j new)[m]? = if m < j then l[m]? else if m < j + new.length then new[m - j]? else l[m]? := by
  unfold putAt
  have hlen : (l.take j).length = j := by simp; omega
  by_cases h1 : m < j
  · rw [if_pos h1, List.getElem?_append_left (by omega), List.getElem?_take, if_pos h1]
  · rw [if_neg h1, List.getElem?_append_right (by omega), hlen]
    by_cases h2 : m < j + new.length
    · rw [if_pos h2, List.getElem?_append_left (by omega)]
    · rw [if_neg h2, List.getElem?_append_right (by omega), List.getElem?_drop]; congr 1; omega
theorem putAt_length {l new : List AV} {j : Nat} (h : j + new.length ≤ l.length) : (putAt l j new).length = l.length := by simp [putAt]; omega
theorem rows_put {n s : Nat} {c : Tr (List AV)} {z : List AV} {arr : Array Value} {new : List AV} {vs : List Value} {i j : Nat}
    (hsz : L.base + (n + L.slack) * s ≤ arr.size) (hr : ∀ i, i < n → (getR c (path i) z).length = s ∧ RowR μ arr (L.base + i * s) (getR c (path i) z)) (hi : i < n) (hj : j + new.length ≤ s) (hl : LR μ new vs) :
    L.base + i * s + j + vs.length ≤ arr.size ∧
    ∀ k, k < n → (getR (putR (path i) c (putAt (getR c (path i) z) j new) z) (path k) z).length = s ∧ RowR μ (splice arr (L.base + i * s + j) vs) (L.base + k * s) (getR (putR (path i) c (putAt (getR c (path i) z) j new) z) (path k) z) := by
  have hlen := hl.length
  have hb : L.base + i * s + j + vs.length ≤ arr.size := by
    have := mul_step hi s
    have := Nat.mul_le_mul_right s (Nat.le_add_right n L.slack)
    omega
  refine ⟨hb, fun k hk => ?_⟩
  rw [get_putR]
  obtain ⟨hlk, hrk⟩ := hr k hk
  by_cases e : k = i
  · subst e
    rw [if_pos rfl]
    refine ⟨by rw [putAt_length (by omega)]; exact hlk, fun m a ha => ?_⟩
    have hm : m < s := by
      have := (List.getElem?_eq_some_iff.1 ha).1
      rw [putAt_length (by omega)] at this; omega
    rw [putAt_get (by omega)] at ha
    rw [splice_get hb]
    by_cases h1 : m < j
    · rw [if_pos h1] at ha
      rw [if_pos (by omega)]
      exact hrk m a ha
    · rw [if_neg h1] at ha
      rw [if_neg (by omega)]
      by_cases h2 : m < j + new.length
      · rw [if_pos h2] at ha
        rw [if_pos (by omega)]
        obtain ⟨v, hv, hvr⟩ := hl.get _ _ ha
        exact ⟨v, by rw [← hv]; congr 1; omega, hvr⟩
      · rw [if_neg h2] at ha
        rw [if_neg (by omega)]
        exact hrk m a ha
  · rw [if_neg (fun e' => e (path_inj e'))]
    refine ⟨hlk, fun m a ha => ?_⟩
    have hm : m < s := by have := (List.getElem?_eq_some_iff.1 ha).1; omega
    obtain ⟨v, hv, hvr⟩ := hrk m a ha
    refine ⟨v, ?_, hvr⟩
    rw [splice_get hb, ← hv]
    rcases Nat.lt_or_ge k i with h' | h'
    · have := mul_step h' s
      rw [if_pos (by omega)]
    · have h'' : i < k := by omega
      have := mul_step h'' s
      rw [if_neg (by omega), if_neg (by omega)]
theorem bytes_put {n N : Nat} {arr : Array Value} {M : Nat} {vs : List Value} {off : Nat} (hN : N < 256 ^ n) (hsz : L.base + n + L.slack ≤ arr.size)
    (hr : ∀ i, i < n → arr[L.base + i]? = some (.int .u8 (.ofNat (byteAt N i)))) (hM : M < 256 ^ vs.length) (hv : ∀ i, i < vs.length → vs[i]? = some (.int .u8 (.ofNat (byteAt M i)))) (hj : off + vs.length ≤ n) :
    L.base + off + vs.length ≤ arr.size ∧ putB N off vs.length M < 256 ^ n ∧ ∀ i, i < n → (splice arr (L.base + off) vs)[L.base + i]? = some (.int .u8 (.ofNat (byteAt (putB N off vs.length M) i))) := by
  have hb : L.base + off + vs.length ≤ arr.size := by omega
  refine ⟨hb, putB_lt hN hM hj, fun i hi => ?_⟩
  rw [splice_get hb, byteAt_putB hM]
  by_cases h1 : i < off
  · rw [if_pos (by omega), if_pos h1]; exact hr i hi
  · rw [if_neg (by omega), if_neg h1]
    by_cases h2 : i < off + vs.length
    · rw [if_pos (by omega), if_pos h2, ← hv (i - off) (by omega)]; congr 1; omega
    · rw [if_neg (by omega), if_neg h2]; exact hr i hi
end

section
variable {P : Program} {w0 w : World} {G : Nat} {μ : Mu} {H : AH} {r : Result Next}
/-- Where a block's cells lie. -/
theorem HR.bytes (h : HR w0 G μ H w) {b : Nat} {L : Loc} (hL : μ b = some L) {n N : Nat} {e : TypeId} {st : Bool} (hg : H.get b = .bytes n N e st) :
    ∃ arr fz, w.heap[L.blk]? = some (.cells arr e fz) ∧ coreB N < 256 ^ n ∧ L.base + n + L.slack ≤ arr.size ∧ (∀ i, i < n → arr[L.base + i]? = some (.int .u8 (.ofNat (byteAt (coreB N) i)))) ∧ Free fz arr.size ∧ (st = false → fz = (0, 0)) := by
  obtain ⟨o, ho, hr⟩ := h.obj b L hL (by rw [hg]; intro h; cases h)
  rw [hg] at hr
  obtain ⟨arr, fz, rfl, rest⟩ := hr
  exact ⟨arr, fz, ho, rest⟩
theorem HR.rows (h : HR w0 G μ H w) {b : Nat} {L : Loc} (hL : μ b = some L) {n s : Nat} {c : Tr (List AV)} {z : List AV} {e : TypeId} (hg : H.get b = .rows n s c z e) :
    ∃ arr, w.heap[L.blk]? = some (.cells arr e (0, 0)) ∧ L.base + (n + L.slack) * s ≤ arr.size ∧ ∀ i, i < n → (getR c (path i) z).length = s ∧ RowR μ arr (L.base + i * s) (getR c (path i) z) := by
  obtain ⟨o, ho, hr⟩ := h.obj b L hL (by rw [hg]; intro h; cases h)
  rw [hg] at hr
  obtain ⟨arr, rfl, h1, h2, _⟩ := hr
  exact ⟨arr, ho, h1, h2⟩
theorem HR.rowsOne (h : HR w0 G μ H w) {b : Nat} {L : Loc} (hL : μ b = some L) {n s : Nat} {c : Tr (List AV)} {z : List AV} {e : TypeId} (hg : H.get b = .rows n s c z e) {arr : Array Value} {t : TypeId} {fz : Nat × Nat} (ho : w.heap[L.blk]? = some (.cells arr t fz)) : One arr := by
  obtain ⟨o, ho', hr⟩ := h.obj b L hL (by rw [hg]; intro h; cases h)
  rw [hg] at hr
  obtain ⟨arr', rfl, _, _, h3⟩ := hr
  rw [ho] at ho'
  cases ho'
  exact h3
theorem One.splice {arr : Array Value} {k : Nat} {vs : List Value} (h : One arr) (hv : ∀ v ∈ vs, v.oneCell' = true) : One (splice arr k vs) := fun v hm => by
  simp only [Ab.splice, List.append_assoc, List.mem_append] at hm
  rcases hm with hm | hm | hm
  · exact h v (List.mem_of_mem_take hm)
  · exact hv v hm
  · exact h v (List.mem_of_mem_drop hm)
theorem One.range {b o : Nat} {arr : Array Value} (h : One arr) (hw : ∀ k, w.cell? ⟨b, k, none⟩ = arr[k]?) {vs : List Value} (hr : w.rangeAt b o vs) : ∀ v ∈ vs, v.oneCell' = true := fun v hv => by
  obtain ⟨i, hi, rfl⟩ := List.getElem_of_mem hv
  have := hr i _ (List.getElem?_eq_getElem hi)
  rw [hw] at this
  exact h _ (by rw [Array.mem_toList_iff]; exact Array.mem_of_getElem? this)
theorem nthX_sound (l : List AV) : ∀ (i : Nat) (k : AV → X) (e : X), (∀ v, l[i]? = some v → XR P w0 G μ H.size (k v) r) → XR P w0 G μ H.size e r → XR P w0 G μ H.size (nthX l i k e) r := by
  induction l with
  | nil => intro i k e _ he; exact he
  | cons v l ih =>
    intro i k e hk he
    cases i with
    | zero => exact XR.onJunk (fun _ => he) (hk v rfl)
    | succ i => exact ih i k e (fun v hv => hk v (by simpa using hv)) he
theorem cellX_sound (h : HR w0 G μ H w) {b off : Nat} {L : Loc} (hL : μ b = some L) (hr : ∀ v, w.cell? ⟨L.blk, L.base + off, none⟩ = some v → r = .ok (.value v) w) : XR P w0 G μ H.size (cellX (H.get b) off H) r := by
  cases hg : H.get b with
  | bytes n N e st =>
    refine XR.onB (fun hlt => ?_) (fun _ => trivial)
    rw [Nat.blt_eq] at hlt
    obtain ⟨arr, fz, ho, _, _, hc, _⟩ := h.bytes hL hg
    exact XR.rInt h rfl (hr _ (by rw [cell_arr ho]; exact hc off hlt))
  | rows n s c z e =>
    refine XR.onB (fun hlt => ?_) (fun _ => trivial)
    rw [Nat.blt_eq] at hlt
    obtain ⟨arr, ho, _, hc⟩ := h.rows hL hg
    obtain ⟨h1, h2, h3⟩ := row_lt hlt
    refine nthX_sound _ _ _ _ (fun v hv => ?_) trivial
    obtain ⟨u, hu, hvr⟩ := (hc _ h1).2 _ _ hv
    refine XR.value h hvr (hr u ?_)
    rw [cell_arr ho, ← hu]
    have := div_mod off s
    congr 1
    have e : Nat.mod off s = off % s := rfl
    have e' : Nat.div off s = off / s := rfl
    omega
  | _ => trivial
theorem unpack_get : ∀ (n N i : Nat), i < n → (unpack n N)[i]? = some (byteAt N i)
  | 0, _, _, h => by omega
  | n + 1, N, 0, _ => by show (Nat.mod N 256 :: unpack n (Nat.div N 256))[0]? = _; simp [byteAt_eq]; rfl
  | n + 1, N, i + 1, h => by
    show (Nat.mod N 256 :: unpack n (Nat.div N 256))[i + 1]? = _
    rw [List.getElem?_cons_succ, unpack_get n _ i (by omega)]
    have := byteAt_div N 1 i
    rw [Nat.pow_one] at this
    rw [show Nat.div N 256 = N / 256 from rfl, this, Nat.add_comm]
theorem unpack_length : ∀ (n N : Nat), (unpack n N).length = n
  | 0, _ => rfl
  | n + 1, N => by show (Nat.mod N 256 :: unpack n (Nat.div N 256)).length = _; simp [unpack_length n]
/-- Cells read in one go. -/
theorem cellsAt_sound (h : HR w0 G μ H w) {b off k : Nat} {L : Loc} (hL : μ b = some L) {l : List AV} (hc : cellsAt (H.get b) off k = some l) :
    ∃ vs : List Value, vs.length = k ∧ LR μ l vs ∧ w.rangeAt L.blk (L.base + off) vs := by
  cases hg : H.get b with
  | bytes n N e st =>
    rw [hg] at hc
    simp only [cellsAt] at hc
    by_cases hle : Nat.ble (Nat.add off k) n = true
    · rw [hle] at hc
      simp only [cond_true, Option.some.injEq] at hc
      rw [Nat.ble_eq] at hle
      have hle' : off + k ≤ n := hle
      obtain ⟨arr, fz, ho, _, _, hcell, _⟩ := h.bytes hL hg
      refine ⟨(unpack k (cutB (coreB N) off k)).map fun b => .int .u8 (.ofNat b), by simp [unpack_length], ?_, ?_⟩
      · rw [← hc]; exact LR.map _ _ _ fun x _ => .int _ _
      · intro j v hv
        rw [List.getElem?_map] at hv
        have hj : j < k := by
          rcases Nat.lt_or_ge j k with h' | h'
          · exact h'
          · rw [List.getElem?_eq_none (by rw [unpack_length]; exact h')] at hv; cases hv
        rw [unpack_get _ _ _ hj, byteAt_cutB hj] at hv
        simp only [Option.map_some, Option.some.injEq] at hv
        rw [cell_arr ho, Nat.add_assoc, hcell (off + j) (by omega), ← hv]
    · rw [Bool.not_eq_true] at hle; rw [hle] at hc; cases hc
  | rows n s c z e =>
    rw [hg] at hc
    simp only [cellsAt] at hc
    by_cases hle : (Nat.blt off (Nat.mul n s) && Nat.ble (Nat.add (Nat.mod off s) k) s) = true
    · rw [hle] at hc
      simp only [cond_true] at hc
      rw [Bool.and_eq_true, Nat.blt_eq, Nat.ble_eq] at hle
      obtain ⟨hlt, hk⟩ := hle
      have hk' : off % s + k ≤ s := hk
      obtain ⟨arr, ho, _, hcell⟩ := h.rows hL hg
      obtain ⟨h1, h2, h3⟩ := row_lt hlt
      obtain ⟨hl1, hr1⟩ := hcell _ h1
      have hdm := div_mod off s
      -- the cells of the row, as values
      have key : ∀ m, m < s → ∃ v, arr[L.base + off / s * s + m]? = some v := fun m hm => by
        obtain ⟨v, hv, _⟩ := hr1 m ((getR c (path (off / s)) z)[m]) (List.getElem?_eq_getElem (by omega))
        exact ⟨v, hv⟩
      have hlist : l = ((getR c (path (off / s)) z).drop (off % s)).take k := by
        by_cases hks : Nat.beq k s = true
        · rw [hks] at hc
          simp only [cond_true, Option.some.injEq] at hc
          rw [Nat.beq_eq] at hks
          subst hks
          have h0 : off % k = 0 := by omega
          rw [h0, List.drop_zero, List.take_of_length_le (by omega)]; exact hc.symm
        · rw [Bool.not_eq_true] at hks; rw [hks] at hc; simp only [cond_false, Option.some.injEq] at hc; exact hc.symm
      refine ⟨(List.range k).map fun j => (arr[L.base + off + j]?).getD undef, by simp, ?_, ?_⟩
      · subst hlist
        refine LR.of_get (by simp; omega) fun i a v ha hv => ?_
        have hik : i < k := by have := (List.getElem?_eq_some_iff.1 hv).1; simpa using this
        rw [List.getElem?_take, if_pos hik, List.getElem?_drop] at ha
        obtain ⟨u, hu, hur⟩ := hr1 _ _ ha
        rw [List.getElem?_map, List.getElem?_range hik] at hv
        simp only [Option.map_some, Option.some.injEq] at hv
        rw [← hv]
        rw [show L.base + off + i = L.base + off / s * s + (off % s + i) by omega, hu]
        exact hur
      · intro j v hv
        have hjk : j < k := by have := (List.getElem?_eq_some_iff.1 hv).1; simpa using this
        rw [List.getElem?_map, List.getElem?_range hjk] at hv
        simp only [Option.map_some, Option.some.injEq] at hv
        obtain ⟨u, hu⟩ := key (off % s + j) (by omega)
        rw [cell_arr ho, ← hv]
        rw [show L.base + off + j = L.base + off / s * s + (off % s + j) by omega, hu]
        rfl
    · rw [Bool.not_eq_true] at hle; rw [hle] at hc; cases hc
  | _ => rw [hg] at hc; simp [cellsAt] at hc
theorem loadKind_one {t : TypeId} (h : loadKind P t = 1) : isAggA P t = some false := by
  unfold loadKind at h
  split at h
  · rename_i h1 _; exact h1
  · omega
  · omega
theorem loadKind_two {t : TypeId} {k : Nat} (h : loadKind P t = k + 2) : isAggA P t = some true ∧ sizeA P t = some k := by
  unfold loadKind at h
  split at h
  · omega
  · rename_i k' h1 h2
    obtain rfl : k' = k := by omega
    exact ⟨h1, h2⟩
  · omega
theorem run_loadVar_cell {t : TypeId} (h : isAggA P t = some false) {a : Addr} {v : Value} (hc : w.cell? a = some v) : (loadVar t a).run P w = .ok v w := by
  simp [loadVar, run_isAgg h, hc]
theorem run_loadVar_agg {t : TypeId} {k : Nat} (h : isAggA P t = some true) (hs : sizeA P t = some k) {b o : Nat} {vs : List Value} (hl : vs.length = k) (hc : w.rangeAt b o vs) : (loadVar t ⟨b, o, none⟩).run P w = .ok (.agg vs.toArray) w := by
  have := run_loadCells_list (P := P) w ⟨b, o, none⟩ vs (fun j v hv => by rw [Addr.add_mid]; exact hc j v hv)
  subst hl
  simp [loadVar, run_isAgg h, run_sizeOf hs, this]
theorem loadX_sound (h : HR w0 G μ H w) {t : TypeId} {b off : Nat} {L : Loc} (hL : μ b = some L)
    (hr : ∀ v, (loadVar t ⟨L.blk, L.base + off, none⟩).run P w = .ok v w → r = .ok (.value v) w) : XR P w0 G μ H.size (loadX P t b off H) r := by
  unfold loadX
  cases hk : loadKind P t with
  | zero => trivial
  | succ m =>
    cases m with
    | zero => exact cellX_sound h hL fun v hv => hr v (run_loadVar_cell (loadKind_one hk) hv)
    | succ k =>
      obtain ⟨h1, h2⟩ := loadKind_two hk
      cases k with
      | zero => exact XR.value h (.agg [] #[] .nil) (hr _ (run_loadVar_agg (vs := []) h1 h2 rfl (fun j v hv => by simp at hv)))
      | succ k =>
        refine XR.onOL (fun l hl => ?_) trivial
        obtain ⟨vs, hlen, hlr, hrange⟩ := cellsAt_sound h hL hl
        exact XR.value h (.agg l vs.toArray (by simpa using hlr)) (hr _ (run_loadVar_agg h1 h2 hlen hrange))
end
end Go.Proofs.YtmapmbfohilklaaGreat.Ab
