/-
  An abstract machine that Lean's kernel can run: building, slices, conversions. This text speaks of no program.
-/
import Derived.Test.YtabllhhainepgaaGreatDoorAbG2
import Derived.Laws.BytesString
import Derived.Laws.Strings
import Derived.Laws.StructEq
import Derived.ChangeKeysEq
/-
  The abstract machine: slices made, cut and indexed; fields; conversions.
-/
set_option linter.unusedVariables false
set_option linter.unusedSimpArgs false
namespace Go.Proofs.YtabllhhainepgaaGreatDoor.Ab
open Go.RowKit

section
variable {P : Program} {w0 w : World} {G : Nat} {μ : Mu} {H : AH} {r : Result Next}

/-! ### slice literals -/
theorem range_map_size (n : Nat) (f : Nat → Value) : ((Array.range n).map f).size = n := by simp
theorem range_map_get (n : Nat) (f : Nat → Value) (i : Nat) (h : i < n) : ((Array.range n).map f)[i]? = some (f i) := by simp [h]
theorem range0 (f : Nat → Value) : (Array.range 0).map f = #[] := by apply Array.eq_empty_of_size_eq_zero; simp
theorem zeros_row {μ : Mu} {z : List AV} {zc : Array Value} (hz : LR μ z zc.toList) {n i : Nat} (h : i < n) :
    RowR μ ((Array.range (n * z.length)).map fun k => zc[k % zc.size]!) (i * z.length) z := by
  intro j a ha
  have hl := hz.length
  simp only [Array.length_toList] at hl
  have hj : j < z.length := (List.getElem?_eq_some_iff.1 ha).1
  obtain ⟨v, hv, hr⟩ := hz.get j a ha
  refine ⟨v, ?_, hr⟩
  have := mul_step h z.length
  rw [range_map_get _ _ _ (by omega)]
  have e : (i * z.length + j) % zc.size = j := by rw [← hl, Nat.mul_comm, Nat.mul_add_mod, Nat.mod_eq_of_lt hj]
  rw [e]
  simp only [Array.getElem?_toList] at hv
  rw [getElem!_def, hv]
theorem zeros_one {μ : Mu} {z : List AV} {zc : Array Value} (hz : LR μ z zc.toList) (ha : z.all cellB = true) {n : Nat} : One ((Array.range (n * z.length)).map fun k => zc[k % zc.size]!) := fun v hv => by
  have hl := hz.length
  simp only [Array.length_toList] at hl
  simp only [Array.toList_map, List.mem_map] at hv
  obtain ⟨k, hk, rfl⟩ := hv
  have hk' : k < n * z.length := by simpa using hk
  have h0 : 0 < zc.size := by
    rcases Nat.eq_zero_or_pos z.length with e | e
    · rw [e] at hk'; simp at hk'
    · omega
  have hm : k % zc.size < zc.size := Nat.mod_lt _ h0
  have : zc[k % zc.size]! = zc[k % zc.size] := by rw [getElem!_pos zc _ hm]
  rw [this]
  exact hz.one_all ha _ (by rw [Array.mem_toList_iff]; exact Array.getElem_mem hm)
/-- What the rows of a literal are: those below k are as they were. -/
theorem seqRows_sound {μ : Mu} {s : Nat} {z : List AV} (hz : z.length = s) : ∀ (m : Nat) (ps : List (Nat × AV)) (cs : List (Nat × Value)) (i : Nat) (arr : Array Value) (rs : List (List AV)),
    ps.length = cs.length → (∀ (k : Nat) (p : Nat × AV) (c : Nat × Value), ps[k]? = some p → cs[k]? = some c → p.1 = c.1 ∧ VR μ p.2 c.2) →
    arr.size = (i + m) * s → (∀ k, i ≤ k → k < i + m → RowR μ arr (k * s) z) → seqRows z ps m i = some rs →
    ∃ arr', Instr.fill (fun i => some (i * s, s)) arr cs = some arr' ∧ arr'.size = arr.size ∧ rs.length = m ∧ (∀ (k : Nat) (row : List AV), rs[k]? = some row → row.length = s ∧ allCells row = true ∨ row = z) ∧
      (∀ k : Nat, k < i * s → arr'[k]? = arr[k]?) ∧ ∀ (k : Nat) (row : List AV), rs[k]? = some row → RowR μ arr' ((i + k) * s) row := by
  intro m
  induction m with
  | zero =>
    intro ps cs i arr rs hlen hp hsz hrow hq
    cases ps with
    | nil =>
      cases cs with
      | nil =>
        simp only [seqRows, Option.some.injEq] at hq
        subst hq
        exact ⟨arr, rfl, rfl, rfl, fun k row h => by simp at h, fun k _ => rfl, fun k row h => by simp at h⟩
      | cons c cs => simp at hlen
    | cons p ps => simp [seqRows] at hq
  | succ m ih =>
    intro ps cs i arr rs hlen hp hsz hrow hq
    have next : ∀ (arr1 : Array Value) (cs' : List (Nat × Value)) (first : List AV) (rs' : List (List AV)), arr1.size = arr.size → RowR μ arr1 (i * s) first → (first.length = s ∧ allCells first = true ∨ first = z) →
        (∀ k : Nat, k < i * s → arr1[k]? = arr[k]?) → rs = first :: rs' →
        (∃ arr', Instr.fill (fun i => some (i * s, s)) arr1 cs' = some arr' ∧ arr'.size = arr1.size ∧ rs'.length = m ∧ (∀ (k : Nat) (row : List AV), rs'[k]? = some row → row.length = s ∧ allCells row = true ∨ row = z) ∧
          (∀ k : Nat, k < (i + 1) * s → arr'[k]? = arr1[k]?) ∧ ∀ (k : Nat) (row : List AV), rs'[k]? = some row → RowR μ arr' ((i + 1 + k) * s) row) →
        ∃ arr', Instr.fill (fun i => some (i * s, s)) arr1 cs' = some arr' ∧ arr'.size = arr.size ∧ rs.length = m + 1 ∧ (∀ (k : Nat) (row : List AV), rs[k]? = some row → row.length = s ∧ allCells row = true ∨ row = z) ∧
          (∀ k : Nat, k < i * s → arr'[k]? = arr[k]?) ∧ ∀ (k : Nat) (row : List AV), rs[k]? = some row → RowR μ arr' ((i + k) * s) row := by
      rintro arr1 cs' first rs' hs1 hfirst hfl hold rfl ⟨arr', h1, h2, h3, h4, h5, h6⟩
      have hss : (i + 1) * s = i * s + s := Nat.succ_mul i s
      refine ⟨arr', h1, h2.trans hs1, by simp [h3], fun k row hk => ?_, fun k hk => (h5 k (by omega)).trans (hold k hk), fun k row hk => ?_⟩
      · cases k with
        | zero => simp at hk; subst hk; exact hfl
        | succ k => exact h4 k row (by simpa using hk)
      · cases k with
        | zero =>
          simp at hk; subst hk
          intro j a ha
          have hj : j < s := by
            have := (List.getElem?_eq_some_iff.1 ha).1
            rcases hfl with ⟨h, _⟩ | h
            · omega
            · rw [h] at this; omega
          obtain ⟨v, hv, hr⟩ := hfirst j a ha
          exact ⟨v, by rw [Nat.add_zero, h5 _ (by omega)]; exact hv, hr⟩
        | succ k =>
          have := h6 k row (by simpa using hk)
          rw [show i + (k + 1) = i + 1 + k by omega]; exact this
    have hrow' : ∀ k, i + 1 ≤ k → k < i + 1 + m → RowR μ arr (k * s) z := fun k h1 h2 => hrow k (by omega) (by omega)
    cases ps with
    | nil =>
      cases cs with
      | nil =>
        simp only [seqRows] at hq
        cases hq' : seqRows z [] m (i + 1) with
        | none => rw [hq'] at hq; cases hq
        | some rs' =>
          rw [hq'] at hq
          simp only [Option.map_some, Option.some.injEq] at hq
          exact next arr [] z rs' rfl (hrow i (by omega) (by omega)) (.inr rfl) (fun _ _ => rfl) hq.symm (ih [] [] (i + 1) arr rs' rfl hp (by rw [hsz]; congr 1; omega) hrow' hq')
      | cons c cs => simp at hlen
    | cons p ps =>
      cases cs with
      | nil => simp at hlen
      | cons c cs =>
        obtain ⟨j, v⟩ := p
        obtain ⟨j', u⟩ := c
        obtain ⟨hj, hv⟩ := hp 0 _ _ rfl rfl
        simp only at hj hv
        subst hj
        simp only [seqRows] at hq
        by_cases hji : Nat.beq j i = true
        · rw [hji] at hq
          simp only [cond_true] at hq
          rw [Nat.beq_eq] at hji
          subst hji
          cases hc : cellsOfA v with
          | none => rw [hc] at hq; cases hq
          | some l =>
            rw [hc] at hq
            simp only [] at hq
            by_cases hcnd : (Nat.beq l.length z.length && allCells l) = true
            · rw [hcnd] at hq
              simp only [cond_true] at hq
              rw [Bool.and_eq_true, Nat.beq_eq] at hcnd
              obtain ⟨hl, hall⟩ := hcnd
              cases hq' : seqRows z ps m (j + 1) with
              | none => rw [hq'] at hq; cases hq
              | some rs' =>
                rw [hq'] at hq
                simp only [Option.map_some, Option.some.injEq] at hq
                have hlr := hv.cells hc
                have hl1 := hlr.length
                simp only [Array.length_toList] at hl1
                have hjm : (j + (m + 1)) * s = j * s + s + m * s := by rw [Nat.add_mul, Nat.succ_mul]; omega
                have hfit : j * s + u.cells.toList.length ≤ arr.size := by simp; omega
                have hss := splice_size hfit
                have hget := splice_get hfit
                have hstep : Instr.fill (fun i => some (i * s, s)) arr ((j, u) :: cs) = Instr.fill (fun i => some (i * s, s)) (splice arr (j * s) u.cells.toList) cs := by
                  simp only [Instr.fill]
                  rw [if_neg (by simp; omega), zipIdx_foldl _ _ _ (by omega)]
                rw [hstep]
                refine next _ cs l rs' hss (fun k a ha => ?_) (.inl ⟨by omega, hall⟩) (fun k hk => ?_) hq.symm
                  (ih ps cs (j + 1) _ rs' (by simpa using hlen) (fun k p c h1 h2 => hp (k + 1) p c (by simpa using h1) (by simpa using h2)) (by rw [hss, hsz]; congr 1; omega) (fun k h1 h2 a b hab => ?_) hq')
                · obtain ⟨x, hx, hxr⟩ := hlr.get k a ha
                  refine ⟨x, ?_, hxr⟩
                  have := (List.getElem?_eq_some_iff.1 ha).1
                  rw [hget, if_neg (by omega), if_pos (by simp; omega), ← hx]; congr 1; omega
                · rw [hget, if_pos hk]
                · obtain ⟨x, hx, hxr⟩ := hrow' k h1 h2 a b hab
                  refine ⟨x, ?_, hxr⟩
                  have := mul_step h1 s
                  rw [hget, if_neg (by omega), if_neg (by simp; omega)]; exact hx
            · rw [Bool.not_eq_true] at hcnd; rw [hcnd] at hq; cases hq
        · rw [Bool.not_eq_true] at hji
          rw [hji] at hq
          simp only [cond_false] at hq
          cases hq' : seqRows z ((j, v) :: ps) m (i + 1) with
          | none => rw [hq'] at hq; cases hq
          | some rs' =>
            rw [hq'] at hq
            simp only [Option.map_some, Option.some.injEq] at hq
            exact next arr ((j, u) :: cs) z rs' rfl (hrow i (by omega) (by omega)) (.inr rfl) (fun _ _ => rfl) hq.symm (ih _ _ (i + 1) arr rs' hlen hp (by rw [hsz]; congr 1; omega) hrow' hq')

/-- The tree of a list of rows. -/
def treeOf (z : List AV) : List (List AV) → Tr (List AV) → Nat → Tr (List AV)
  | [], c, _ => c
  | r :: l, c, i => treeOf z l (putR (path i) c r z) (i + 1)
theorem setRowsK_eq (z : List AV) (l : List (List AV)) : ∀ (c : Tr (List AV)) (i : Nat) (k : Tr (List AV) → X), setRowsK z l c i k = k (treeOf z l c i) := by
  induction l with
  | nil => intro c i k; rfl
  | cons r l ih =>
    intro c i k
    show setR (path i) c r z (fun c' => fNat (Nat.succ i) fun j => setRowsK z l c' j k) = _
    rw [setR_eq, fNat_eq, ih]; rfl
theorem treeOf_get (d : List AV) (l : List (List AV)) : ∀ (c : Tr (List AV)) (i : Nat) (q : Nat), getR (treeOf d l c i) (path q) d = if i ≤ q ∧ q < i + l.length then (l[q - i]?).getD d else getR c (path q) d := by
  induction l with
  | nil => intro c i q; rw [if_neg (by simp)]; rfl
  | cons r l ih =>
    intro c i q
    show getR (treeOf d l (putR (path i) c r d) (i + 1)) (path q) d = _
    rw [ih, get_putR]
    by_cases h1 : i + 1 ≤ q ∧ q < i + 1 + l.length
    · rw [if_pos h1, if_pos (by simp; omega), show q - i = (q - (i + 1)) + 1 by omega]; simp
    · rw [if_neg h1]
      by_cases h2 : q = i
      · subst h2
        rw [if_pos rfl, if_pos (by simp)]; simp
      · rw [if_neg (fun e => h2 (path_inj e)), if_neg (by simp; omega)]
theorem packRows_spec : ∀ {rs : List (List AV)} {M : Nat}, packRows rs = some M → M < 256 ^ rs.length ∧ ∀ i, i < rs.length → rs[i]? = some [.int .u8 (.ofNat (byteAt M i))]
  | [], M, h => by simp only [packRows, Option.some.injEq] at h; subst h; exact ⟨by simp, fun i hi => by simp at hi⟩
  | row :: l, M, h => by
    unfold packRows at h
    split at h
    · simp_all
    · rename_i v l' heq
      simp only [List.cons.injEq] at heq
      obtain ⟨rfl, rfl⟩ := heq
      split at h
      · rename_i b N hb hp
        simp only [Option.some.injEq] at h
        obtain ⟨rfl, hlt⟩ := byteOfA_inv hb
        obtain ⟨h1, h2⟩ := packRows_spec hp
        subst h
        refine ⟨by simp only [List.length_cons, Nat.pow_succ]; omega, fun i hi => ?_⟩
        have hj := byteAt_join (lo := b) (hi := N) (i := 1) (by simpa using hlt) i
        rw [Nat.pow_one] at hj
        cases i with
        | zero => rw [hj, if_pos (by omega)]; simp [byteAt_eq]; omega
        | succ i => rw [hj, if_neg (by omega)]; simpa using h2 i (by simpa using hi)
      · cases h
    · cases h
theorem byte_zero {e : TypeId} {z : List AV} (hb : isByteA P e = true) (hz : zeroCellsA P e = some z) : z = [.int .u8 (.ofNat 0)] ∧ P.underlying e = some (.int .u8) := by
  unfold isByteA at hb
  rw [hz, Bool.and_eq_true] at hb
  obtain ⟨h1, h2⟩ := hb
  refine ⟨?_, ?_⟩
  · simp only at h2
    unfold zByte at h2
    split at h2
    · rfl
    · cases h2
  · split at h1
    · assumption
    · cases h1
theorem byte_und {e : TypeId} (hb : isByteA P e = true) : P.underlying e = some (.int .u8) := by
  unfold isByteA at hb
  rw [Bool.and_eq_true] at hb
  obtain ⟨h1, _⟩ := hb
  split at h1
  · assumption
  · cases h1
theorem byte_cells {e : TypeId} (hb : isByteA P e = true) : ∃ z, zeroCellsA P e = some z := by
  unfold isByteA at hb
  rw [Bool.and_eq_true] at hb
  obtain ⟨_, h2⟩ := hb
  cases hz : zeroCellsA P e with
  | none => rw [hz] at h2; cases h2
  | some z => exact ⟨z, rfl⟩
theorem byte_size {e : TypeId} (hb : isByteA P e = true) : sizeA P e = some 1 := by
  obtain ⟨z, hz⟩ := byte_cells hb
  have := (zeroCells_spec (w := default) hz).1
  rw [(byte_zero hb hz).1] at this; exact this
theorem VR.slice0 {b blk len cap slack : Nat} {g : Bool} (h : μ b = some ⟨blk, 0, slack⟩) : VR μ (.slice b 0 len cap g) (.slice (some ⟨blk, 0, none⟩) len (cap + if g then slack else 0)) := .slice b 0 len cap g ⟨blk, 0, slack⟩ h
/-- A new row, exact in its capacity. -/
theorem row_new (h : HR w0 G μ H w) {e : TypeId} {arr : Array Value} {o : AObj} (ho : ∀ ν : Mu, μ.le ν → OR ν ⟨w.heap.size, 0, 0⟩ o (.cells arr e)) {len cap : Nat}
    (hr : r = .ok (.value (.slice (some ⟨w.heap.size, 0, none⟩) len cap)) { w with heap := w.heap.push (.cells arr e) }) : XR P w0 G μ H.size (.val (.slice H.size 0 len cap false) (H.push o)) r :=
  XR.new (h.push (L := ⟨w.heap.size, 0, 0⟩) (grew w _) rfl (ho _ (Mu.up_le (h.dom _ (Nat.le_refl _)) _))) (by have := VR.slice0 (μ := μ.up H.size ⟨w.heap.size, 0, 0⟩) (b := H.size) (len := len) (cap := cap) (g := false) (Mu.up_same _ _ _); simpa using this) hr
theorem seq_one {μ : Mu} {z : List AV} {zc : Array Value} (_ : LR μ z zc.toList) (ha : z.all cellB = true) (h0 : 0 < z.length) {len : Nat} {arr : Array Value} (hs : arr.size = len * z.length) {rs : List (List AV)}
    (h4 : ∀ (k : Nat) (row : List AV), rs[k]? = some row → row.length = z.length ∧ allCells row = true ∨ row = z) (h3 : rs.length = len) (h6 : ∀ (k : Nat) (row : List AV), rs[k]? = some row → RowR μ arr (k * z.length) row) : One arr := fun v hv => by
  rw [Array.mem_toList_iff] at hv
  obtain ⟨i, hi, rfl⟩ := Array.getElem_of_mem hv
  have hi' : i < len * z.length := by omega
  have h1 : i / z.length < len := by rw [Nat.div_lt_iff_lt_mul h0]; exact hi'
  have h2 : i % z.length < z.length := Nat.mod_lt _ h0
  have hrow : rs[i / z.length]? = some (rs[i / z.length]'(by omega)) := List.getElem?_eq_getElem (by omega)
  have hlen : (rs[i / z.length]'(by omega)).length = z.length := by
    rcases h4 _ _ hrow with ⟨h, _⟩ | h
    · exact h
    · rw [h]
  have hall : ∀ a ∈ (rs[i / z.length]'(by omega)), cellB a = true := by
    rcases h4 _ _ hrow with ⟨_, h⟩ | h
    · intro a hm
      have key : ∀ l : List AV, allCells l = true → ∀ a ∈ l, cellB a = true := by
        intro l
        induction l with
        | nil => intro _ a ha; cases ha
        | cons x l ih =>
          intro hl a ha
          simp only [allCells, Bool.and_eq_true] at hl
          rcases List.mem_cons.1 ha with e | e
          · rw [e]; exact hl.1
          · exact ih hl.2 a e
      exact key _ h a hm
    · rw [h]; exact fun a hm => List.all_eq_true.1 ha a hm
  obtain ⟨u, hu, hr⟩ := h6 _ _ hrow (i % z.length) _ (List.getElem?_eq_getElem (by omega))
  have e := div_mod i z.length
  rw [← e, Array.getElem?_eq_getElem hi, Option.some.injEq] at hu
  rw [hu]
  exact hr.one (hall _ (List.getElem_mem _))
theorem buildSlice_sound (h : HR w0 G μ H w) {t : TypeId} {len : Nat} {ps : List (Nat × AV)} {cs : Array (Nat × Value)} (hlen : ps.length = cs.toList.length)
    (hp : ∀ (i : Nat) (p : Nat × AV) (c : Nat × Value), ps[i]? = some p → cs.toList[i]? = some c → p.1 = c.1 ∧ VR μ p.2 c.2)
    (hr : ∀ v w', (Instr.buildSlice t len cs).run P w = .ok v w' → r = .ok (.value v) w') : XR P w0 G μ H.size (buildSliceA P t len ps H) r := by
  unfold buildSliceA
  split
  · rename_i e hu
    split
    · rename_i z hz
      refine XR.cond (fun hc => ?_) (fun _ => trivial)
      rw [Bool.and_eq_true, Nat.blt_eq, Nat.ble_eq] at hc
      obtain ⟨hz0, hbig⟩ := hc
      have hbig : len * z.length ≤ 16777216 := hbig
      obtain ⟨hs, zv, hzr, hzl⟩ := zeroCells_spec (w := w) hz
      split
      · rename_i rs hrs
        have hzlen := (hzl μ).length
        simp only [Array.length_toList] at hzlen
        obtain ⟨arr, h1, h2, h3, h4, _, h6⟩ := seqRows_sound (s := z.length) rfl len ps cs.toList 0 ((Array.range (len * z.length)).map fun k => zv.cells[k % zv.cells.size]!) rs hlen hp (by simp) (fun k _ hk => zeros_row (hzl μ) (by omega)) hrs
        have hrun : (Instr.buildSlice t len cs).run P w = .ok (.slice (some ⟨w.heap.size, 0, none⟩) len len) { w with heap := w.heap.push (.cells arr e) } := by
          simp only [Instr.buildSlice, Sem.run_bind, run_underlying hu, Result.andThen_ok, run_sizeOf hs]
          rw [Sem.run_ite, if_neg (by omega)]
          by_cases h0 : len * z.length = 0
          · rw [h0, range0] at h1
            simp only [h0, if_true, Sem.run_bind, Sem.run_pure, Result.andThen_ok, range0, h1, run_newRow]
          · simp only [h0, if_false, Sem.run_bind, hzr, Result.andThen_ok, Sem.run_pure, h1, run_newRow]
        have hr' := hr _ _ hrun
        have hsz : arr.size = len * z.length := by rw [h2]; simp
        refine XR.cond (fun hb => ?_) (fun _ => ?_)
        · obtain ⟨hz1, _⟩ := byte_zero hb hz
          have hzl1 : z.length = 1 := by rw [hz1]; rfl
          cases hpk : packRows rs with
          | none => trivial
          | some M =>
            show XR P w0 G μ H.size (fNat _ _) r
            rw [fNat_eq, pushK_eq]
            obtain ⟨m1, m2⟩ := packRows_spec hpk
            refine row_new h (o := .bytes len (sealB M) e false) (arr := arr) (e := e) (fun ν hν => ⟨arr, (0, 0), rfl, by rw [h3] at m1; rw [core_seal]; exact m1, by simp [hsz, hzl1], fun i hi => ?_, free_none _, fun _ => rfl⟩) hr'
            obtain ⟨v, hv, hvr⟩ := h6 i _ (m2 i (by omega)) 0 _ rfl
            rw [hvr.int_inv, hzl1] at hv
            rw [core_seal]
            simpa using hv
        · rw [setRowsK_eq, pushK_eq]
          have hone : One arr := seq_one (hzl μ) (zeroCells_all hz) hz0 hsz (fun k row hk => (h4 k row hk)) h3 (fun k row hk => by have := h6 k row hk; rwa [Nat.zero_add] at this)
          refine row_new h (o := .rows len z.length (treeOf z rs .nil 0) z e) (arr := arr) (e := e) (fun ν hν => ⟨arr, rfl, by simp [hsz], fun i hi => ?_, hone⟩) hr'
          rw [treeOf_get, if_pos (by omega)]
          have hrow : rs[i]? = some (rs[i]'(by omega)) := List.getElem?_eq_getElem (by omega)
          rw [Nat.sub_zero, hrow, Option.getD_some]
          have := h6 i _ hrow
          simp only [Nat.zero_add] at this ⊢
          refine ⟨?_, this.mono hν⟩
          rcases h4 i _ hrow with ⟨h', _⟩ | h'
          · exact h'
          · rw [h']
      · trivial
    · trivial
  · trivial
theorem makeSlice_sound (h : HR w0 G μ H w) {t : TypeId} {len cap : AV} {lv cv : Value} (hl : VR μ len lv) (hc : VR μ cap cv)
    (hr : ∀ v w', (Instr.makeSlice t lv cv).run P w = .ok v w' → r = .ok (.value v) w') : XR P w0 G μ H.size (makeSliceA P t len cap H) r := by
  unfold makeSliceA
  split
  · rename_i e k l k' c hu
    have hl := hl.int_inv
    have hc := hc.int_inv
    subst hl hc
    split
    · rename_i z hz
      refine XR.cond (fun hcnd => ?_) (fun _ => trivial)
      rw [Bool.and_eq_true, Bool.and_eq_true, Bool.and_eq_true, Nat.ble_eq, Nat.ble_eq, Nat.blt_eq, Nat.ble_eq] at hcnd
      obtain ⟨⟨⟨hlc, hby⟩, hz0⟩, hcm⟩ := hcnd
      have hby : c * P.bytesOf e ≤ 1099511627776 := hby
      obtain ⟨hs, zv, hzr, hzl⟩ := zeroCells_spec (w := w) hz
      have hzlen := (hzl μ).length
      simp only [Array.length_toList] at hzlen
      have hi : ∃ i, P.info? e = some i ∧ i.bytes = P.bytesOf e := by
        unfold sizeA at hs
        cases hq : P.info? e with
        | none => rw [hq] at hs; cases hs
        | some i => exact ⟨i, rfl, by simp [Program.bytesOf, hq]⟩
      obtain ⟨i, hi, hib⟩ := hi
      have w1 : IntKind.i64.wrap (l : Int) = (l : Int) := IntWalk.i64_in _ (by omega)
      have w2 : IntKind.i64.wrap (c : Int) = (c : Int) := IntWalk.i64_in _ (by omega)
      have hbi : ((i.bytes : Nat) : Int) * (c : Int) ≤ 1099511627776 := by rw [hib, ← Int.natCast_mul, Nat.mul_comm]; omega
      have hrun : (Instr.makeSlice t (.int k (Int.ofNat l)) (.int k' (Int.ofNat c))).run P w = .ok (.slice (some ⟨w.heap.size, 0, none⟩) l c) { w with heap := w.heap.push (.cells ((Array.range (c * z.length)).map fun k => zv.cells[k % zv.cells.size]!) e) } := by
        simp only [Instr.makeSlice, Sem.run_bind, run_underlying hu, Result.andThen_ok, asInt, asIntOf, Sem.run_pure, typeInfo, run_program, hi, Int.ofNat_eq_natCast, w1, w2]
        rw [Sem.run_ite, if_neg (by simp only [Bool.or_eq_true, decide_eq_true_eq]; omega)]
        simp only [Sem.run_pure, Result.andThen_ok, Sem.run_bind, run_askRoom, run_sizeOf hs, Int.toNat_natCast]
        by_cases h0 : c * z.length = 0
        · simp only [h0, if_true, Sem.run_bind, Sem.run_pure, Result.andThen_ok, run_newRow, range0]
        · simp only [h0, if_false, Sem.run_bind, hzr, Result.andThen_ok, Sem.run_pure, run_newRow]
      have hr' := hr _ _ hrun
      refine XR.cond (fun hb => ?_) (fun _ => ?_)
      · obtain ⟨hz1, _⟩ := byte_zero hb hz
        have hzl1 : z.length = 1 := by rw [hz1]; rfl
        rw [pushK_eq, rSlice_eq]
        refine row_new h (o := .bytes c 0 e false) (e := e) (fun ν hν => ⟨_, (0, 0), rfl, Nat.pow_pos (by omega), by simp [hzl1], fun i hi => ?_, free_none _, fun _ => rfl⟩) hr'
        have := zeros_row (μ := μ) (hzl μ) hi 0 (.int .u8 (.ofNat 0)) (by rw [hz1]; rfl)
        obtain ⟨v, hv, hvr⟩ := this
        rw [hvr.int_inv, hzl1] at hv
        rw [core_zero, byteAt_zero]
        simpa [hzl1] using hv
      · rw [pushK_eq, rSlice_eq]
        refine row_new h (o := .rows c z.length .nil z e) (e := e) (fun ν hν => ⟨_, rfl, by simp, fun i hi => ?_, zeros_one (hzl μ) (zeroCells_all hz)⟩) hr'
        rw [getR_nil]
        have := (zeros_row (μ := μ) (hzl μ) hi).mono hν
        simp only [Nat.zero_add]
        exact ⟨trivial, this⟩
    · trivial
  · trivial
end
end Go.Proofs.YtabllhhainepgaaGreatDoor.Ab
/-
  The abstract machine: slices cut and indexed; fields; conversions; lengths.
-/
namespace Go.Proofs.YtabllhhainepgaaGreatDoor.Ab
open Go.RowKit

section
variable {P : Program} {w0 w : World} {G : Nat} {μ : Mu} {H : AH} {r : Result Next}
theorem natOf_inv {v : AV} {n : Nat} (h : natOf v = some n) : ∃ k, v = .int k (.ofNat n) := by
  unfold natOf at h
  split at h
  · rename_i k m; simp only [Option.some.injEq] at h; subst h; exact ⟨k, rfl⟩
  · cases h
theorem add_off (b o n : Nat) : (⟨b, o, none⟩ : Addr).add n = ⟨b, o + n, none⟩ := Addr.add_mid b o n

/-! ### bounds -/
theorem run_sliceBound {k : IntKind} {n y : Nat} {c : BoundsCode} (h : n ≤ y) : (Instr.sliceBound (.int k (n : Int)) y c).run P w = .ok n w := by
  have : (0 : Int) ≤ (n : Int) ∧ (n : Int) ≤ y := by omega
  simp only [Instr.sliceBound, asIntOf, Sem.run_bind, Sem.run_pure, Result.andThen_ok, Sem.run_ite, if_pos this, Int.toNat_natCast]
/-- The bounds of a cut: 'cap' is what the model bounds by. -/
theorem run_bounds {isS : Bool} {len cap cap' : Nat} {lo hi : Option AV} {lv hv : Option Value} {l h' : Nat}
    (hl : ∀ v, lo = some v → ∃ u, lv = some u ∧ VR μ v u) (hl0 : lo = none → lv = none) (hh : ∀ v, hi = some v → ∃ u, hv = some u ∧ VR μ v u) (hh0 : hi = none → hv = none)
    (hb : boundsA len cap lo hi = some (l, h')) (hcc : cap ≤ cap') : (Instr.sliceBounds isS len cap' lv hv none).run P w = .ok (l, h', cap') w ∧ l ≤ h' ∧ h' ≤ cap := by
  unfold boundsA at hb
  split at hb
  · rename_i h1 l1 e1 e2
    by_cases hc : (Nat.ble h1 cap && Nat.ble l1 h1) = true
    · rw [hc] at hb
      simp only [cond_true, Option.some.injEq, Prod.mk.injEq] at hb
      obtain ⟨rfl, rfl⟩ := hb
      rw [Bool.and_eq_true, Nat.ble_eq, Nat.ble_eq] at hc
      obtain ⟨c1, c2⟩ := hc
      refine ⟨?_, c2, c1⟩
      cases hi with
      | none =>
        rw [hh0 rfl]
        simp only [Option.some.injEq] at e1
        subst e1
        cases lo with
        | none =>
          rw [hl0 rfl]
          simp only [Option.some.injEq] at e2
          subst e2
          simp [Instr.sliceBounds]
        | some v =>
          obtain ⟨u, hu, hvr⟩ := hl v rfl
          rw [hu]
          obtain ⟨k, rfl⟩ := natOf_inv e2
          rw [hvr.int_inv]
          simp [Instr.sliceBounds, run_sliceBound c2]
      | some v =>
        obtain ⟨u, hu, hvr⟩ := hh v rfl
        rw [hu]
        obtain ⟨k, rfl⟩ := natOf_inv e1
        rw [hvr.int_inv]
        have hhc : h1 ≤ cap' := by omega
        cases lo with
        | none =>
          rw [hl0 rfl]
          simp only [Option.some.injEq] at e2
          subst e2
          simp [Instr.sliceBounds, run_sliceBound hhc]
        | some v' =>
          obtain ⟨u', hu', hvr'⟩ := hl v' rfl
          rw [hu']
          obtain ⟨k', rfl⟩ := natOf_inv e2
          rw [hvr'.int_inv]
          simp [Instr.sliceBounds, run_sliceBound hhc, run_sliceBound c2]
    · rw [Bool.not_eq_true] at hc; rw [hc] at hb; cases hb
  · cases hb
theorem byteAt_ext_str {s t : ByteArray} {n N : Nat} (h : StrR n N s) (i : Nat) (hi : i < n) : ∃ b : UInt8, s.data[i]? = some b ∧ b.toNat = byteAt N i := by
  obtain ⟨h1, h2⟩ := h
  have hi' : i < s.data.size := by omega
  refine ⟨s.data[i], by simp [hi'], ?_⟩
  have := byteAt_pack s.data.toList i (by simpa using hi')
  rw [h2] at this
  simpa using this.symm
theorem StrR.byte {s : ByteArray} {n N : Nat} (h : StrR n N s) (i : Nat) (hi : i < n) : ∃ b : UInt8, s.data[i]? = some b ∧ b.toNat = byteAt N i := byteAt_ext_str (t := s) h i hi
theorem StrR.lt {s : ByteArray} {n N : Nat} (h : StrR n N s) : N < 256 ^ n := by
  have := pack_lt s.data.toList
  rw [h.2] at this
  simpa [h.1] using this
theorem StrR.mk' {s : ByteArray} {n N : Nat} (hs : s.data.size = n) (hN : N < 256 ^ n) (h : ∀ i, i < n → ∃ b : UInt8, s.data[i]? = some b ∧ b.toNat = byteAt N i) : StrR n N s := by
  refine ⟨hs, bytes_ext n _ _ ?_ hN fun i hi => ?_⟩
  · have := pack_lt s.data.toList
    simpa [hs] using this
  · rw [byteAt_pack s.data.toList i (by simpa [hs] using hi)]
    obtain ⟨b, hb, hbn⟩ := h i hi
    have : s.data.toList[i]'(by simpa [hs] using hi) = b := by
      have := (Array.getElem?_eq_some_iff.1 hb).2
      simpa using this
    rw [this, hbn]
theorem StrR.cut {s : ByteArray} {n N l h' : Nat} (h : StrR n N s) (hl : l ≤ h') (hh : h' ≤ n) : StrR (h' - l) (cutB N l (h' - l)) (s.extract l h') := by
  have hsz : (s.extract l h').data.size = h' - l := by
    have : (s.extract l h').size = min h' s.size - l := ByteArray.size_extract
    have e : s.size = s.data.size := rfl
    have e' : (s.extract l h').size = (s.extract l h').data.size := rfl
    rw [← e', this, e, h.1]; omega
  refine StrR.mk' hsz (cutB_lt _ _ _) fun i hi => ?_
  obtain ⟨b, hb, hbn⟩ := h.byte (l + i) (by omega)
  refine ⟨b, ?_, by rw [byteAt_cutB hi]; exact hbn⟩
  have : (s.extract l h').data = s.data.extract l h' := ByteArray.data_extract
  rw [this, Array.getElem?_extract, if_pos (by have := h.1; omega)]
  exact hb
/-- An optional operand. -/
def OVR (μ : Mu) (a : Option AV) (v : Option Value) : Prop := match a, v with | none, none => True | some a, some v => VR μ a v | _, _ => False
theorem OVR.some' {a : Option AV} {v : Option Value} (h : OVR μ a v) : ∀ x, a = some x → ∃ u, v = some u ∧ VR μ x u := fun x hx => by
  subst hx
  cases v with
  | none => exact h.elim
  | some u => exact ⟨u, rfl, h⟩
theorem OVR.none' {a : Option AV} {v : Option Value} (h : OVR μ a v) : a = none → v = none := fun hx => by
  subst hx
  cases v with
  | none => rfl
  | some u => exact h.elim
theorem slice_sound (h : HR w0 G μ H w) {t : TypeId} {x : AV} {lo hi mx : Option AV} {xv : Value} {lv hv mv : Option Value} (hx : VR μ x xv) (hlo : OVR μ lo lv) (hhi : OVR μ hi hv) (hmx : OVR μ mx mv)
    (hr : ∀ v, (Instr.sliceAt t xv lv hv mv).run P w = .ok v w → r = .ok (.value v) w) : XR P w0 G μ H.size (sliceA P t x lo hi mx H) r := by
  unfold sliceA
  split
  · rename_i m
    split
    · rename_i e b off len cap g m' hiv hu hm
      obtain ⟨L, hL, rfl⟩ := hx.slice_inv
      obtain ⟨mu, hmu, hmr⟩ := hmx.some' _ rfl
      obtain ⟨km, rfl⟩ := natOf_inv hm
      have hmr := hmr.int_inv
      subst hmr hmu
      refine XR.cond (fun hle => ?_) (fun _ => trivial)
      rw [Nat.ble_eq] at hle
      split
      · rename_i l h' s hb hs
        obtain ⟨hu', hhu, hhr⟩ := hhi.some' _ rfl
        unfold boundsA at hb
        split at hb
        · rename_i h1 l1 e1 e2
          by_cases hc : (Nat.ble h1 m' && Nat.ble l1 h1) = true
          · rw [hc] at hb
            simp only [cond_true, Option.some.injEq, Prod.mk.injEq] at hb
            obtain ⟨rfl, rfl⟩ := hb
            rw [Bool.and_eq_true, Nat.ble_eq, Nat.ble_eq] at hc
            obtain ⟨c1, c2⟩ := hc
            obtain ⟨kh, rfl⟩ := natOf_inv e1
            have hhr := hhr.int_inv
            subst hhr hhu
            have hrun : (Instr.sliceBounds true len (cap + if g then L.slack else 0) lv (some (.int kh (Int.ofNat h1))) (some (.int km (Int.ofNat m')))).run P w = .ok (l1, h1, m') w := by
              have b1 : (m' : Int) ≤ ((cap + if g then L.slack else 0 : Nat) : Int) := by have : m' ≤ cap + (if g then L.slack else 0) := Nat.le_trans hle (Nat.le_add_right _ _); omega
              have b2 : (h1 : Int) ≤ (m' : Int) := by omega
              cases lo with
              | none =>
                obtain rfl := hlo.none' rfl
                simp only [Option.some.injEq] at e2
                subst e2
                simp only [Instr.sliceBounds, Instr.sliceBound, asIntOf, Sem.run_bind, Sem.run_pure, Result.andThen_ok, Int.ofNat_eq_natCast]
                rw [if_pos ⟨Int.natCast_nonneg _, b1⟩]
                simp only [Sem.run_pure, Result.andThen_ok, Int.toNat_natCast]
                rw [if_pos ⟨Int.natCast_nonneg _, b2⟩]
                simp
              | some v =>
                obtain ⟨u, hu2, hvr⟩ := hlo.some' _ rfl
                obtain ⟨kl, rfl⟩ := natOf_inv e2
                have hvr := hvr.int_inv
                subst hvr hu2
                have b3 : (l1 : Int) ≤ (h1 : Int) := by omega
                simp only [Instr.sliceBounds, Instr.sliceBound, asIntOf, Sem.run_bind, Sem.run_pure, Result.andThen_ok, Int.ofNat_eq_natCast]
                rw [if_pos ⟨Int.natCast_nonneg _, b1⟩]
                simp only [Sem.run_pure, Result.andThen_ok, Int.toNat_natCast]
                rw [if_pos ⟨Int.natCast_nonneg _, b2⟩]
                simp only [Sem.run_pure, Result.andThen_ok, Int.toNat_natCast]
                rw [if_pos ⟨Int.natCast_nonneg _, b3⟩]
                simp
            rw [rSlice_eq]
            refine XR.value h (.slice b _ _ _ false L hL) (hr _ ?_)
            simp only [Instr.sliceAt, Instr.slice, Sem.run_bind, run_underlying hu, Result.andThen_ok, Sem.run_pure, hrun, run_sizeOf hs, Option.map_some, add_off]
            by_cases e1 : m' = l1
            · simp [e1]
            · simp [e1, beq_ff e1, Nat.add_assoc]
          · rw [Bool.not_eq_true] at hc; rw [hc] at hb; cases hb
        · cases hb
      · trivial
    · trivial
  · obtain rfl := hmx.none' rfl
    split
    · rename_i n e b off hu
      obtain ⟨L, hL, rfl⟩ := hx.ptr_inv
      split
      · rename_i l h' s hb hs
        obtain ⟨hrun, h1, h2⟩ := run_bounds (P := P) (w := w) (isS := false) hlo.some' hlo.none' hhi.some' hhi.none' hb (Nat.le_refl n)
        rw [rSlice_eq]
        refine XR.value h (.slice b _ _ _ _ L hL) (hr _ ?_)
        simp only [Instr.sliceAt, Sem.run_bind, run_underlying hu, Result.andThen_ok, Instr.sureAddr, Sem.run_pure, hrun, run_sizeOf hs, add_off]
        by_cases e1 : n = l
        · simp [e1]
        · simp [e1, beq_ff e1, Nat.add_assoc]
      · trivial
    · rename_i arr b off hu
      obtain ⟨L, hL, rfl⟩ := hx.ptr_inv
      split
      · rename_i n e hua
        split
        · rename_i l h' s hb hs
          obtain ⟨hrun, h1, h2⟩ := run_bounds (P := P) (w := w) (isS := false) hlo.some' hlo.none' hhi.some' hhi.none' hb (Nat.le_refl n)
          rw [rSlice_eq]
          refine XR.value h (.slice b _ _ _ _ L hL) (hr _ ?_)
          simp only [Instr.sliceAt, Instr.slice, Sem.run_bind, run_underlying hu, run_underlying hua, Result.andThen_ok, asAddr, Sem.run_pure, hrun, run_sizeOf hs, add_off]
          by_cases e1 : n = l
          · simp [e1]
          · simp [e1, beq_ff e1, Nat.add_assoc]
        · trivial
      · trivial
    · rename_i n N hu
      obtain ⟨s, rfl, hs1, hs2⟩ := hx.str_inv
      split
      · rename_i l h' hb
        have hsz : s.size = n := hs1
        obtain ⟨hrun, h1, h2⟩ := run_bounds (P := P) (w := w) (isS := false) hlo.some' hlo.none' hhi.some' hhi.none' hb (Nat.le_refl n)
        refine XR.rStr h (StrR.cut ⟨hs1, hs2⟩ h1 h2) (hr _ ?_)
        simp [Instr.sliceAt, Instr.slice, run_underlying hu, hsz, hrun]
      · trivial
    · rename_i e hu
      cases hx
      split
      · rename_i p s hb hs
        obtain ⟨l, h'⟩ := p
        obtain ⟨hrun, h1, h2⟩ := run_bounds (P := P) (w := w) (isS := true) hlo.some' hlo.none' hhi.some' hhi.none' hb (Nat.le_refl 0)
        obtain rfl : h' = 0 := by omega
        obtain rfl : l = 0 := by omega
        refine XR.value h .nils (hr _ ?_)
        simp only [Instr.sliceAt, Instr.slice, Sem.run_bind, run_underlying hu, Result.andThen_ok, Sem.run_pure, hrun, run_sizeOf hs, if_true]
      · trivial
    · rename_i e b off hu
      cases hx with
      | sliceE b off a c L hL hac =>
      split
      · rename_i p s hb hs
        obtain ⟨l, h'⟩ := p
        obtain ⟨hrun, h1, h2⟩ := run_bounds (P := P) (w := w) (isS := true) hlo.some' hlo.none' hhi.some' hhi.none' hb (Nat.zero_le c)
        obtain rfl : h' = 0 := by omega
        obtain rfl : l = 0 := by omega
        refine XR.value h (.sliceE b off (if c = 0 then a else a.add 0) c L hL (hac.imp id fun hac => ⟨by obtain ⟨rfl, _⟩ := hac; split <;> rfl, hac.2⟩)) (hr _ ?_)
        simp only [Instr.sliceAt, Instr.slice, Sem.run_bind, run_underlying hu, Result.andThen_ok, Sem.run_pure, hrun, run_sizeOf hs, Nat.zero_mul, Nat.sub_zero, Option.map_some]
        by_cases e1 : c = 0 <;> simp [e1]
      · trivial
    · rename_i e b off len cap g hu
      obtain ⟨L, hL, rfl⟩ := hx.slice_inv
      split
      · rename_i l h' s hb hs
        obtain ⟨hrun, h1, h2⟩ := run_bounds (P := P) (w := w) (isS := true) hlo.some' hlo.none' hhi.some' hhi.none' hb (Nat.le_add_right cap (if g then L.slack else 0))
        have hrun' : ∀ v, (.slice (if cap + (if g then L.slack else 0) = l then some ⟨L.blk, L.base + off, none⟩ else some ⟨L.blk, L.base + off + l * s, none⟩) (h' - l) (cap + (if g then L.slack else 0) - l) : Value) = v →
            (Instr.sliceAt t (.slice (some ⟨L.blk, L.base + off, none⟩) len (cap + if g then L.slack else 0)) lv hv none).run P w = .ok v w := fun v hv => by
          simp only [Instr.sliceAt, Instr.slice, Sem.run_bind, run_underlying hu, Result.andThen_ok, Sem.run_pure, hrun, run_sizeOf hs, Option.map_some, add_off]
          rw [← hv]
        refine XR.cond (fun e1 => ?_) (fun e1 => ?_)
        · rw [Nat.beq_eq] at e1
          subst e1
          obtain rfl : h' = l := by omega
          refine XR.cond (fun eg => ?_) (fun eg => ?_)
          · subst eg
            rw [fNat_eq]
            by_cases e2 : h' + (if true then L.slack else 0) = h'
            · exact XR.value h (.sliceE b _ ⟨L.blk, L.base + off, none⟩ (h' + (if true then L.slack else 0) - h') L hL (.inl (by omega))) (hr _ (hrun' _ (by rw [if_pos e2, Nat.sub_self])))
            · exact XR.value h (.sliceE b _ ⟨L.blk, L.base + off + h' * s, none⟩ (h' + (if true then L.slack else 0) - h') L hL (.inr ⟨by rw [Nat.add_assoc]; rfl, by rw [if_pos rfl]; omega⟩)) (hr _ (hrun' _ (by rw [if_neg e2, Nat.sub_self])))
          · subst eg
            rw [rSlice_eq]
            exact XR.value h (.slice b off _ _ _ L hL) (hr _ (hrun' _ (by simp)))
        · have hne : ¬ l = cap := fun e2 => by rw [e2] at e1; simp at e1
          rw [rSlice_eq]
          refine XR.value h (.slice b _ _ _ _ L hL) (hr _ (hrun' _ ?_))
          rw [if_neg (by omega)]
          have e3 : Nat.sub cap l = cap - l := rfl
          have e4 : Nat.add off (Nat.mul l s) = off + l * s := rfl
          rw [e3, e4, Nat.add_assoc L.base off (l * s), show cap + (if g then L.slack else 0) - l = cap - l + (if g then L.slack else 0) by omega]; rfl
      · trivial
    · trivial

/-! ### indexes and fields -/
theorem indexAddr_sound (h : HR w0 G μ H w) {t : TypeId} {x i : AV} {xv iv : Value} (hx : VR μ x xv) (hi : VR μ i iv)
    (hr : ∀ v, (Instr.indexAt t xv iv).run P w = .ok v w → r = .ok (.value v) w) : XR P w0 G μ H.size (indexAddrA P t x i H) r := by
  refine XR.onInt (fun k i' hi' => XR.onNat (fun i' hin => ?_) trivial) trivial
  subst hi' hin
  have hiv := hi.int_inv
  subst hiv
  refine XR.onSlice (fun b off len cap g hxs => XR.onON (fun s hs => XR.onB (fun hlt => ?_) (fun _ => trivial)) trivial)
    (XR.onPtr (fun b off hxp => XR.onON (fun n hn => XR.onON (fun s hs => XR.onB (fun hlt => ?_) (fun _ => trivial)) trivial) trivial) trivial)
  · subst hxs
    rw [Nat.blt_eq] at hlt
    obtain ⟨L, hL, rfl⟩ := hx.slice_inv
    unfold idxSlice at hs
    split at hs
    · rename_i e hu
      refine XR.rPtr h (u := .pointer (some ⟨L.blk, L.base + off + i' * s, none⟩)) (by have := VR.ptr (μ := μ) b (off + i' * s) L hL; rwa [← Nat.add_assoc] at this) (hr _ ?_)
      have hb : (0 : Int) ≤ (i' : Int) ∧ (i' : Int) < (len : Int) := by omega
      simp only [Instr.indexAt, asIntOf, Sem.run_bind, Sem.run_pure, Result.andThen_ok, run_underlying hu, hb, and_self, if_true, run_sizeOf hs, add_off, Int.toNat_natCast]
    · cases hs
  · subst hxp
    rw [Nat.blt_eq] at hlt
    obtain ⟨L, hL, rfl⟩ := hx.ptr_inv
    unfold idxKind at hn hs
    split at hn
    · rename_i m e hu
      cases hsz : sizeA P e with
      | none => rw [hsz] at hn; cases hn
      | some s' =>
        rw [hu] at hs
        rw [hsz] at hn
        simp only [hsz] at hs
        simp only [Option.map_some, Option.some.injEq] at hn hs
        subst hn hs
        refine XR.rPtr h (u := .pointer (some ⟨L.blk, L.base + off + i' * s', none⟩)) (by have := VR.ptr (μ := μ) b (off + i' * s') L hL; rwa [← Nat.add_assoc] at this) (hr _ ?_)
        have hb : (0 : Int) ≤ (i' : Int) ∧ (i' : Int) < (m : Int) := by omega
        simp only [Instr.indexAt, asIntOf, Sem.run_bind, Sem.run_pure, Result.andThen_ok, run_underlying hu, Instr.sureAddr, hb, and_self, if_true, run_sizeOf hsz, add_off, Int.toNat_natCast]
    · cases hn
theorem fieldAddr_sound (h : HR w0 G μ H w) {t : TypeId} {x : AV} {f : Nat} {xv : Value} (hx : VR μ x xv)
    (hr : ∀ v, (Instr.fieldAt t xv f).run P w = .ok v w → r = .ok (.value v) w) : XR P w0 G μ H.size (fieldAddrA P t x f H) r := by
  refine XR.onPtr (fun b off hxp => XR.onON (fun o ho => ?_) trivial) trivial
  subst hxp
  obtain ⟨L, hL, rfl⟩ := hx.ptr_inv
  unfold fieldOff at ho
  split at ho
  · rename_i fs hu
    split at ho
    · rename_i f' hf
      split at ho
      · rename_i s hs
        simp only [Option.some.injEq] at ho
        subst ho
        refine XR.rPtr h (u := .pointer (some ⟨L.blk, L.base + off + f'.offset, none⟩)) (by have := VR.ptr (μ := μ) b (off + f'.offset) L hL; rwa [← Nat.add_assoc] at this) (hr _ ?_)
        simp only [Instr.fieldAt, Sem.run_bind, run_underlying hu, Result.andThen_ok, hf, Instr.sureAddr, Sem.run_pure, fieldPlace, run_sizeOf hs, Nat.add_one_ne_zero, if_false, add_off]
      · cases ho
    · cases ho
  · cases ho
theorem part_sound {t : TypeId} {cs : List AV} {x : Array Value} {off : Nat} {v : AV} (hc : LR μ cs x.toList) (hp : partA P t cs off = some v) : ∃ u, VR μ v u ∧ (part t x off).run P w = .ok u w := by
  unfold partA at hp
  split at hp
  · rename_i ha
    split at hp
    · rename_i s hs
      simp only [Option.some.injEq] at hp
      subst hp
      refine ⟨.agg (x.extract off (off + s)), .agg _ _ ?_, by simp [part, run_isAgg ha, run_sizeOf hs]⟩
      rw [Array.toList_extract, List.extract_eq_take_drop, show off + s - off = s by omega]
      exact (hc.drop off).take s
    · cases hp
  · rename_i ha
    obtain ⟨u, hu, hvr⟩ := hc.get off v hp
    simp only [Array.getElem?_toList] at hu
    exact ⟨u, hvr, by simp [part, run_isAgg ha, hu]⟩
  · cases hp
theorem field_sound (h : HR w0 G μ H w) {t : TypeId} {x : AV} {f n : Nat} {xv : Value} (hx : VR μ x xv)
    (hr : ∀ v, (Instr.field t xv f).run P w = .ok v w → r = .ok (.value v) w) : XR P w0 G μ H.size (rOpt (fieldA P t x f) n H) r := by
  refine XR.rOpt h fun v hv => ?_
  unfold fieldA at hv
  split at hv
  · rename_i fs cs hu
    obtain ⟨y, rfl, hy⟩ := hx.agg_inv
    split at hv
    · rename_i f' hf
      obtain ⟨u, hu1, hu2⟩ := part_sound (w := w) hy hv
      exact ⟨u, hu1, hr _ (by simp [Instr.field, run_underlying hu, hf, asAgg, hu2])⟩
    · cases hv
  · cases hv
theorem index_sound (h : HR w0 G μ H w) {t : TypeId} {x i : AV} {xv iv : Value} (hx : VR μ x xv) (hi : VR μ i iv)
    (hr : ∀ v, (Instr.index t xv iv).run P w = .ok v w → r = .ok (.value v) w) : XR P w0 G μ H.size (indexA P t x i H) r := by
  unfold indexA
  split
  · rename_i n e cs i' hu hn
    obtain ⟨k, rfl⟩ := natOf_inv hn
    have hiv := hi.int_inv
    subst hiv
    obtain ⟨y, rfl, hy⟩ := hx.agg_inv
    split
    · rename_i s hs
      refine XR.cond (fun hlt => XR.rOpt h fun v hv => ?_) (fun _ => trivial)
      rw [Nat.blt_eq] at hlt
      obtain ⟨u, hu1, hu2⟩ := part_sound (w := w) hy hv
      refine ⟨u, hu1, hr _ ?_⟩
      have hb : (0 : Int) ≤ (i' : Int) ∧ (i' : Int) < (n : Int) := by omega
      have hu2' : (part e y (i' * s)).run P w = .ok u w := hu2
      simp only [Instr.index, asIntOf, Sem.run_bind, Sem.run_pure, Result.andThen_ok, run_underlying hu, Int.ofNat_eq_natCast, hb, and_self, if_true, run_sizeOf hs, Int.toNat_natCast, hu2']
    · trivial
  · rename_i n N i' hu hn
    obtain ⟨k, rfl⟩ := natOf_inv hn
    have hiv := hi.int_inv
    subst hiv
    obtain ⟨s, rfl, hs1, hs2⟩ := hx.str_inv
    refine XR.cond (fun hlt => ?_) (fun _ => trivial)
    rw [Nat.blt_eq] at hlt
    obtain ⟨b, hb, hbn⟩ := StrR.byte ⟨hs1, hs2⟩ i' hlt
    refine XR.rInt h (m := (b.toNat : Int)) (by rw [hbn]; rfl) (hr _ ?_)
    have hb' : s[i']? = some b := by
      have e : s.size = s.data.size := rfl
      rw [← hb]
      simp only [getElem?_def]
      rfl
    have h0 : (0 : Int) ≤ (i' : Int) := by omega
    simp only [Instr.index, asIntOf, Sem.run_bind, Sem.run_pure, Result.andThen_ok, run_underlying hu, Int.ofNat_eq_natCast, h0, if_true, Int.toNat_natCast, hb']
  · trivial
end
end Go.Proofs.YtabllhhainepgaaGreatDoor.Ab
/-
  The abstract machine: rows of elements, conversions, signs.
-/
namespace Go.Proofs.YtabllhhainepgaaGreatDoor.Ab
open Go.RowKit

/-- What a sequence stands for: elements of s cells. -/
def SeqR (μ : Mu) (s : Nat) (q : Seq) (vs : List Value) : Prop :=
  match q with
  | .emp => vs = []
  | .pk n N => s = 1 ∧ vs.length = n ∧ N < 256 ^ n ∧ ∀ i, i < n → vs[i]? = some (.int .u8 (.ofNat (byteAt N i)))
  | .rs l => LR μ l.flatten vs ∧ ∀ row ∈ l, row.length = s

section
variable {P : Program} {w0 w : World} {G : Nat} {μ : Mu} {H : AH} {r : Result Next}
theorem SeqR.mono {μ ν : Mu} (hm : μ.le ν) {s : Nat} {q : Seq} {vs : List Value} (h : SeqR μ s q vs) : SeqR ν s q vs := by
  cases q with
  | emp => exact h
  | pk n N => exact h
  | rs l => exact ⟨h.1.mono hm, h.2⟩
theorem rowsFrom_length (c : Tr (List AV)) (z : List AV) : ∀ (k i : Nat), (rowsFrom c z k i).length = k
  | 0, _ => rfl
  | k + 1, i => by show (getR c (path i) z :: rowsFrom c z k (Nat.succ i)).length = _; simp [rowsFrom_length c z k]
theorem rowsFrom_spec (c : Tr (List AV)) (z : List AV) {n s : Nat} {arr : Array Value} {o : Nat} (hc : ∀ i, i < n → (getR c (path i) z).length = s ∧ RowR μ arr (o + i * s) (getR c (path i) z)) :
    ∀ (k i : Nat), i + k ≤ n → (∀ row ∈ rowsFrom c z k i, row.length = s) ∧ RowR μ arr (o + i * s) (rowsFrom c z k i).flatten ∧ (rowsFrom c z k i).flatten.length = k * s
  | 0, i, _ => ⟨fun row h => (by cases h), fun j a ha => (by have ha : ([] : List AV)[j]? = some a := ha; simp at ha), (by show ([] : List AV).length = _; simp)⟩
  | k + 1, i, h => by
    obtain ⟨h1, h2⟩ := hc i (by omega)
    obtain ⟨i1, i2, i3⟩ := rowsFrom_spec c z hc k (i + 1) (by omega)
    have e : rowsFrom c z (k + 1) i = getR c (path i) z :: rowsFrom c z k (i + 1) := rfl
    rw [e]
    refine ⟨fun row hrow => ?_, fun j a ha => ?_, ?_⟩
    · rcases List.mem_cons.1 hrow with e | e
      · rw [e]; exact h1
      · exact i1 row e
    · rw [List.flatten_cons] at ha
      by_cases hj : j < s
      · rw [List.getElem?_append_left (by omega)] at ha; exact h2 j a ha
      · rw [List.getElem?_append_right (by omega), h1] at ha
        obtain ⟨v, hv, hr⟩ := i2 _ a ha
        refine ⟨v, ?_, hr⟩
        rw [← hv, Nat.succ_mul]; congr 1; omega
    · rw [List.flatten_cons, List.length_append, h1, i3, Nat.succ_mul]; omega
theorem row_range {b : Nat} {arr : Array Value} (hw : ∀ k, w.cell? ⟨b, k, none⟩ = arr[k]?) {l : List AV} {o : Nat} (h : RowR μ arr o l) : ∃ vs : List Value, vs.length = l.length ∧ LR μ l vs ∧ w.rangeAt b o vs := by
  refine ⟨(List.range l.length).map fun j => (arr[o + j]?).getD undef, by simp, LR.of_get (by simp) fun i a v ha hv => ?_, fun j v hv => ?_⟩
  · have hi := (List.getElem?_eq_some_iff.1 ha).1
    obtain ⟨u, hu, hur⟩ := h i a ha
    rw [List.getElem?_map, List.getElem?_range hi] at hv
    simp only [Option.map_some, Option.some.injEq, hu, Option.getD_some] at hv
    rw [← hv]; exact hur
  · have hj : j < l.length := by have := (List.getElem?_eq_some_iff.1 hv).1; simpa using this
    obtain ⟨u, hu, _⟩ := h j l[j] (List.getElem?_eq_getElem hj)
    rw [List.getElem?_map, List.getElem?_range hj] at hv
    simp only [Option.map_some, Option.some.injEq, hu, Option.getD_some] at hv
    rw [hw, hu, hv]
theorem cell_heap {w1 : World} (h : w1.heap = w.heap) (a : Addr) : w1.cell? a = w.cell? a := by simp [World.cell?, h]
theorem chunkL_spec {s : Nat} : ∀ (k : Nat) (l : List AV), l.length = k * s → (chunkL s k l).flatten = l ∧ ∀ row ∈ chunkL s k l, row.length = s
  | 0, l, h => by
    have : l = [] := List.eq_nil_of_length_eq_zero (by omega)
    subst this
    exact ⟨rfl, fun row hr => by cases hr⟩
  | k + 1, l, h => by
    rw [Nat.succ_mul] at h
    obtain ⟨h1, h2⟩ := chunkL_spec (s := s) k (l.drop s) (by rw [List.length_drop]; omega)
    refine ⟨by simp only [chunkL, List.flatten_cons, h1, List.take_append_drop], fun row hr => ?_⟩
    rcases List.mem_cons.1 hr with e | e
    · rw [e, List.length_take]; omega
    · exact h2 row e
/-- k elements of a slice or a string, as the model reads them. -/
theorem seqOf_sound (h : HR w0 G μ H w) {s k : Nat} {x : AV} {xv : Value} (hx : VR μ x xv) (hlen : ∀ n, lenOfA x = some n → k ≤ n) (hl : (lenOfA x).isSome = true) {q : Seq} (hq : seqOf H s k x = some q) :
    ∃ vs : List Value, vs.length = k * s ∧ SeqR μ s q vs ∧ (∀ w1 : World, w1.heap = w.heap → (Builtin.firstCells s k xv).run P w1 = .ok vs.toArray w1) ∧ ∀ v ∈ vs, v.oneCell' = true := by
  unfold seqOf at hq
  by_cases hk : Nat.beq k 0 = true
  · rw [hk] at hq
    simp only [cond_true, Option.some.injEq] at hq
    rw [Nat.beq_eq] at hk
    subst hk hq
    refine ⟨[], by simp, rfl, fun w1 _ => ?_, by simp⟩
    cases hx with
    | slice b off len cap g L hb => simp [Builtin.firstCells, loadCells, loadCellsFrom]
    | sliceE _ _ a c => simp [Builtin.firstCells, loadCells, loadCellsFrom]
    | nils => simp [Builtin.firstCells]
    | str n N t h1 h2 =>
      have : (t.extract 0 0).data = #[] := by
        apply Array.eq_empty_of_size_eq_zero
        rw [ByteArray.data_extract]; simp
      simp [Builtin.firstCells]
    | _ => simp [lenOfA] at hl
  · rw [Bool.not_eq_true] at hk
    rw [hk] at hq
    simp only [cond_false] at hq
    split at hq
    · rename_i b off len cap g
      obtain ⟨L, hL, rfl⟩ := hx.slice_inv
      split at hq
      · rename_i n N e st hg
        by_cases hc : (Nat.ble (Nat.add off k) n && Nat.beq s 1) = true
        · rw [hc] at hq
          simp only [cond_true, Option.some.injEq] at hq
          rw [Bool.and_eq_true, Nat.ble_eq, Nat.beq_eq] at hc
          obtain ⟨c1, rfl⟩ := hc
          have c1 : off + k ≤ n := c1
          subst hq
          obtain ⟨arr, fz, ho, hN, hsz, hcell, hf, hst⟩ := h.bytes hL hg
          refine ⟨(List.range k).map fun i => .int .u8 (.ofNat (byteAt (cutB (coreB N) off k) i)), by simp, ⟨rfl, by simp, cutB_lt _ _ _, fun i hi => by rw [List.getElem?_map, List.getElem?_range hi]; rfl⟩, ?_⟩
          have hrun := fun (w1 : World) (hw1 : w1.heap = w.heap) => run_loadCells_list (P := P) w1 ⟨L.blk, L.base + off, none⟩ ((List.range k).map fun i => .int .u8 (.ofNat (byteAt (cutB (coreB N) off k) i))) (fun j v hv => by
            have hj : j < k := by have := (List.getElem?_eq_some_iff.1 hv).1; simpa using this
            rw [List.getElem?_map, List.getElem?_range hj] at hv
            simp only [Option.map_some, Option.some.injEq] at hv
            rw [Addr.add_mid, cell_heap hw1, cell_arr ho, Nat.add_assoc, hcell (off + j) (by omega), ← hv, byteAt_cutB hj])
          exact ⟨fun w1 hw1 => by simpa [Builtin.firstCells] using hrun w1 hw1, fun v hv => by simp only [List.mem_map] at hv; obtain ⟨i, _, rfl⟩ := hv; rfl⟩
        · rw [Bool.not_eq_true] at hc; rw [hc] at hq; cases hq
      · rename_i n s' c z e hg
        by_cases hc : (Nat.beq s s' && Nat.beq (Nat.mod off s) 0 && Nat.ble (Nat.add (Nat.div off s) k) n) = true
        · rw [hc] at hq
          simp only [cond_true, Option.some.injEq] at hq
          rw [Bool.and_eq_true, Bool.and_eq_true, Nat.beq_eq, Nat.beq_eq, Nat.ble_eq] at hc
          obtain ⟨⟨rfl, c2⟩, c3⟩ := hc
          have c2 : off % s = 0 := c2
          have c3 : off / s + k ≤ n := c3
          subst hq
          obtain ⟨arr, ho, hsz, hcell⟩ := h.rows hL hg
          obtain ⟨r1, r2, r3⟩ := rowsFrom_spec c z hcell k (off / s) c3
          have hdm := div_mod off s
          rw [show L.base + off / s * s = L.base + off by omega] at r2
          obtain ⟨vs, v1, v2, v3⟩ := row_range (w := w) (b := L.blk) (fun k => cell_arr ho) r2
          refine ⟨vs, by rw [v1, r3], ⟨v2, r1⟩, ?_⟩
          have hrun := fun (w1 : World) (hw1 : w1.heap = w.heap) => run_loadCells_list (P := P) w1 ⟨L.blk, L.base + off, none⟩ vs (fun j v hv => by rw [Addr.add_mid, cell_heap hw1]; exact v3 j v hv)
          have hvl : k * s = vs.length := by rw [v1]; exact r3.symm
          exact ⟨fun w1 hw1 => by simpa [Builtin.firstCells, hvl] using hrun w1 hw1, (h.rowsOne hL hg ho).range (fun k => cell_arr ho) v3⟩
        · rw [Bool.not_eq_true] at hc; rw [hc] at hq
          simp only [cond_false] at hq
          obtain ⟨arr, ho, hsz, hcell⟩ := h.rows hL hg
          split at hq
          · rename_i l hcl
            obtain ⟨vs, v1, v2, v3⟩ := cellsAt_sound h hL (by rw [hg]; exact hcl)
            have v1 : vs.length = k * s := v1
            have hrun := fun (w1 : World) (hw1 : w1.heap = w.heap) => run_loadCells_list (P := P) w1 ⟨L.blk, L.base + off, none⟩ vs (fun j v hv => by rw [Addr.add_mid, cell_heap hw1]; exact v3 j v hv)
            refine ⟨vs, v1, ?_, fun w1 hw1 => by simpa [Builtin.firstCells, v1] using hrun w1 hw1, (h.rowsOne hL hg ho).range (fun k => cell_arr ho) v3⟩
            split at hq
            · rename_i N hp
              simp only [Option.some.injEq] at hq
              subst hq
              cases hs1 : Nat.beq s 1 with
              | false => rw [hs1] at hp; cases hp
              | true =>
                rw [hs1] at hp
                have hs1 := Nat.beq_eq.mp hs1
                subst hs1
                obtain ⟨p1, p2, p3⟩ := v2.packed hp
                rw [v1, Nat.mul_one] at p1 p3
                exact ⟨rfl, by rw [v1, Nat.mul_one], p1, p3⟩
            · simp only [Option.some.injEq] at hq
              subst hq
              obtain ⟨c1, c2⟩ := chunkL_spec (s := s) k l (by rw [v2.length]; exact v1)
              exact ⟨by rw [c1]; exact v2, c2⟩
          · cases hq
      · cases hq
    · rename_i n N
      obtain ⟨t, rfl, h1, h2⟩ := hx.str_inv
      by_cases hc : (Nat.ble k n && Nat.beq s 1) = true
      · rw [hc] at hq
        simp only [cond_true, Option.some.injEq] at hq
        rw [Bool.and_eq_true, Nat.ble_eq, Nat.beq_eq] at hc
        obtain ⟨hc, rfl⟩ := hc
        subst hq
        have hb := fun i (hi : i < k) => StrR.byte (s := t) ⟨h1, h2⟩ i (by omega)
        refine ⟨(List.range k).map fun i => .int .u8 (.ofNat (byteAt (cutB N 0 k) i)), by simp, ⟨rfl, by simp, cutB_lt _ _ _, fun i hi => by rw [List.getElem?_map, List.getElem?_range hi]; rfl⟩, ?_⟩
        have hd : (t.extract 0 k).data = t.data.extract 0 k := ByteArray.data_extract
        have e : ((t.extract 0 k).data.map fun b => Value.int .u8 b.toNat) = ((List.range k).map fun i => Value.int .u8 (.ofNat (byteAt (cutB N 0 k) i))).toArray := by
          apply Array.ext'
          apply List.ext_getElem?
          intro i
          rw [hd]
          by_cases hi : i < k
          · obtain ⟨b, hb1, hb2⟩ := hb i hi
            rw [List.getElem?_map, List.getElem?_range hi]
            simp only [Array.getElem?_toList, Array.getElem?_map, Array.getElem?_extract, Nat.zero_add, Option.map_some]
            rw [if_pos (by omega), hb1, Option.map_some, hb2, byteAt_cutB hi, Nat.zero_add]; rfl
          · rw [List.getElem?_eq_none (by simp; omega), List.getElem?_eq_none (by simp; omega)]
        exact ⟨fun w1 _ => by simp only [Builtin.firstCells, Sem.run_pure, e], fun v hv => by simp only [List.mem_map] at hv; obtain ⟨i, _, rfl⟩ := hv; rfl⟩
      · rw [Bool.not_eq_true] at hc; rw [hc] at hq; cases hq
    · cases hq
/-- The same cells, one by one. -/
theorem seqOf_cells (h : HR w0 G μ H w) {s k b off len cap : Nat} {g : Bool} {L : Loc} (hL : μ b = some L) (hk : k ≠ 0) {q : Seq} (hq : seqOf H s k (.slice b off len cap g) = some q) :
    ∃ vs : List Value, vs.length = k * s ∧ SeqR μ s q vs ∧ ∀ j v, vs[j]? = some v → w.cell? ⟨L.blk, L.base + off + j, none⟩ = some v := by
  unfold seqOf at hq
  rw [beq_ff hk] at hq
  simp only [cond_false] at hq
  split at hq
  · rename_i n N e st hg
    by_cases hc : (Nat.ble (Nat.add off k) n && Nat.beq s 1) = true
    · rw [hc] at hq
      simp only [cond_true, Option.some.injEq] at hq
      rw [Bool.and_eq_true, Nat.ble_eq, Nat.beq_eq] at hc
      obtain ⟨c1, rfl⟩ := hc
      have c1 : off + k ≤ n := c1
      subst hq
      obtain ⟨arr, fz, ho, hN, hsz, hcell, hf, hst⟩ := h.bytes hL hg
      refine ⟨(List.range k).map fun i => .int .u8 (.ofNat (byteAt (cutB (coreB N) off k) i)), by simp, ⟨rfl, by simp, cutB_lt _ _ _, fun i hi => by rw [List.getElem?_map, List.getElem?_range hi]; rfl⟩, ?_⟩
      intro j v hv
      have hj : j < k := by have := (List.getElem?_eq_some_iff.1 hv).1; simpa using this
      rw [List.getElem?_map, List.getElem?_range hj] at hv
      simp only [Option.map_some, Option.some.injEq] at hv
      rw [cell_arr ho, Nat.add_assoc, hcell (off + j) (by omega), ← hv, byteAt_cutB hj]
    · rw [Bool.not_eq_true] at hc; rw [hc] at hq; cases hq
  · rename_i n s' c z e hg
    by_cases hc : (Nat.beq s s' && Nat.beq (Nat.mod off s) 0 && Nat.ble (Nat.add (Nat.div off s) k) n) = true
    · rw [hc] at hq
      simp only [cond_true, Option.some.injEq] at hq
      rw [Bool.and_eq_true, Bool.and_eq_true, Nat.beq_eq, Nat.beq_eq, Nat.ble_eq] at hc
      obtain ⟨⟨rfl, c2⟩, c3⟩ := hc
      have c2 : off % s = 0 := c2
      have c3 : off / s + k ≤ n := c3
      subst hq
      obtain ⟨arr, ho, hsz, hcell⟩ := h.rows hL hg
      obtain ⟨r1, r2, r3⟩ := rowsFrom_spec c z hcell k (off / s) c3
      have hdm := div_mod off s
      rw [show L.base + off / s * s = L.base + off by omega] at r2
      obtain ⟨vs, v1, v2, v3⟩ := row_range (w := w) (b := L.blk) (fun k => cell_arr ho) r2
      exact ⟨vs, by rw [v1, r3], ⟨v2, r1⟩, v3⟩
    · rw [Bool.not_eq_true] at hc; rw [hc] at hq
      simp only [cond_false] at hq
      split at hq
      · rename_i l hcl
        obtain ⟨vs, v1, v2, v3⟩ := cellsAt_sound h hL (by rw [hg]; exact hcl)
        have v1 : vs.length = k * s := v1
        refine ⟨vs, v1, ?_, v3⟩
        split at hq
        · rename_i N hp
          simp only [Option.some.injEq] at hq
          subst hq
          cases hs1 : Nat.beq s 1 with
          | false => rw [hs1] at hp; cases hp
          | true =>
            rw [hs1] at hp
            have hs1 := Nat.beq_eq.mp hs1
            subst hs1
            obtain ⟨p1, p2, p3⟩ := v2.packed hp
            rw [v1, Nat.mul_one] at p1 p3
            exact ⟨rfl, by rw [v1, Nat.mul_one], p1, p3⟩
        · simp only [Option.some.injEq] at hq
          subst hq
          obtain ⟨c1, c2⟩ := chunkL_spec (s := s) k l (by rw [v2.length]; exact v1)
          exact ⟨by rw [c1]; exact v2, c2⟩
      · cases hq
  · cases hq

/-! ### conversions -/
theorem push_all : ∀ (ns : List Int) (s : ByteArray), (ns.foldl (fun r n => r.push (UInt8.ofNat n.toNat)) s).data = s.data ++ (ns.map fun n => UInt8.ofNat n.toNat).toArray
  | [], s => by simp
  | n :: ns, s => by
    rw [List.foldl_cons, push_all ns]
    apply Array.ext'
    simp [ByteArray.push]
theorem ofNat_byte (N i : Nat) : (UInt8.ofNat (byteAt N i)).toNat = byteAt N i := by
  have := byteAt_lt N i
  simp [UInt8.toNat_ofNat']; omega
theorem bytesToString_sound (h : HR w0 G μ H w) {x : AV} {xv : Value} (hx : VR μ x xv) {len : Nat} {q : Seq} (hl : lenOfA x = some len) (hq : seqOf H 1 len x = some q) (hns : ∀ n N, x ≠ .str n N) :
    match q with | .emp => (Conv.bytesToString xv).run P w = .ok (.string .empty) w | .pk n N => ∃ s : ByteArray, (Conv.bytesToString xv).run P w = .ok (.string s) w ∧ StrR n N s | .rs _ => True := by
  obtain ⟨vs, hvl, hvr, hrun, _⟩ := seqOf_sound (P := P) h hx (fun n hn => by rw [hl] at hn; cases hn; exact Nat.le_refl _) (by rw [hl]; rfl) hq
  have hrun := hrun w rfl
  cases hx with
  | nils =>
    simp only [lenOfA, Option.some.injEq] at hl
    subst hl
    simp [seqOf] at hq; subst hq
    simp [Conv.bytesToString]
  | str n N s => exact absurd rfl (hns _ _)
  | sliceE _ _ a c =>
    simp only [lenOfA, Option.some.injEq] at hl
    subst hl
    simp [seqOf] at hq; subst hq
    simp [Conv.bytesToString, loadCells, loadCellsFrom]
  | slice b off len' cap g L hL =>
    simp only [lenOfA, Option.some.injEq] at hl
    subst hl
    have hrun' : (loadCells ⟨L.blk, L.base + off, none⟩ len').run P w = .ok vs.toArray w := by simpa [Builtin.firstCells] using hrun
    cases q with
    | emp =>
      have hvr : vs = [] := hvr
      subst hvr
      have hrun2 : (loadCells ⟨L.blk, L.base + off, none⟩ len').run P w = .ok (([] : List Int).map (Value.int .u8)).toArray w := hrun'
      exact run_bytesToString w _ _ _ [] hrun2
    | pk n N =>
      obtain ⟨_, hn, hN, hb⟩ := hvr
      have hv : vs = ((List.range n).map fun i => ((byteAt N i : Nat) : Int)).map (Value.int .u8) := by
        apply List.ext_getElem?
        intro i
        by_cases hi : i < n
        · rw [hb i hi, List.getElem?_map, List.getElem?_map, List.getElem?_range hi]; rfl
        · rw [List.getElem?_eq_none (by omega), List.getElem?_eq_none (by simp; omega)]
      rw [hv] at hrun'
      refine ⟨_, run_bytesToString w _ _ _ _ hrun', ?_⟩
      have e : ByteArray.empty.data = #[] := rfl
      refine StrR.mk' ?_ hN fun i hi => ⟨UInt8.ofNat (byteAt N i), ?_, ofNat_byte N i⟩
      · rw [push_all, e]; simp
      · rw [push_all, e]
        simp [hi]
    | rs l => trivial
  | _ => simp [lenOfA] at hl
end
end Go.Proofs.YtabllhhainepgaaGreatDoor.Ab
/-
  The abstract machine: conversions, strings, equality, two operands.
-/
namespace Go.Proofs.YtabllhhainepgaaGreatDoor.Ab
open Go.RowKit

section
variable {P : Program} {w0 w : World} {G : Nat} {μ : Mu} {H : AH} {r : Result Next}
/-! ### conversions -/
theorem stringToBytes_sound (h : HR w0 G μ H w) {e : TypeId} {l N : Nat} {s : ByteArray} (hs : StrR l N s)
    (hr : ∀ v w', (Conv.stringToBytes e s).run P w = .ok v w' → r = .ok (.value v) w') :
    XR P w0 G μ H.size (.val (.slice H.size 0 l l true) (H.push (.bytes l (sealB N) e true))) r := by
  have hsz : s.size = l := hs.1
  let cap := (Question.appendCap s.size 0 e).cut (w.tape w.drawn (.appendCap s.size 0 e))
  have hcap : l ≤ cap := by
    show l ≤ s.size + _
    omega
  let arr : Array Value := (s.data.map fun b => .int .u8 b.toNat) ++ Array.replicate (cap - s.size) (.int .u8 0)
  have hasz : arr.size = cap := by simp [arr]; have := hs.1; omega
  let w1 : World := { w with drawn := w.drawn + 1 }
  let w2 : World := { w1 with heap := w.heap.push (.cells arr e) }
  let w3 : World := { w1 with heap := w.heap.push (.cells arr e (cap, cap + 1)) }
  have hfreeze : w2.freeze ⟨w.heap.size, cap, none⟩ 1 = w3 := by
    simp only [World.freeze, Nat.one_ne_zero, if_false, w2, w3]
    congr 1
    apply Array.ext
    · simp
    · intro i h1 h2
      rw [Array.getElem_modify]
      by_cases hi : w.heap.size = i
      · subst hi; simp
      · have : i < w.heap.size := by simp at h2; omega
        simp [hi, Array.getElem_push_lt this]
  have hrun : (Conv.stringToBytes e s).run P w = .ok (.slice (some ⟨w.heap.size, 0, none⟩) s.size cap) w3 := by
    unfold Conv.stringToBytes
    simp only [Sem.run_bind, run_choose, Question.forced, Bool.false_eq_true, if_false, Result.andThen_ok]
    show Result.andThen ((newRow e arr).run P w1) _ = _
    rw [run_newRow]
    simp only [Result.andThen_ok]
    show Result.andThen ((markStringish ⟨w.heap.size, 0, none⟩).run P w2) _ = _
    have hshape : w2.shape? w.heap.size = some (e, cap) := by simp [World.shape?, w2, hasz]
    have hm : (markStringish ⟨w.heap.size, 0, none⟩).run P w2 = .ok () w3 := by
      unfold markStringish
      simp only [Sem.run_bind, run_shape, Result.andThen_ok, hshape, run_freeze, hfreeze]
    rw [hm]
    rfl
  have hpush := h.push (w' := w3) (obj := .cells arr e (cap, cap + 1)) (L := ⟨w.heap.size, 0, cap - l⟩) (o := .bytes l (sealB N) e true) ⟨rfl, rfl, rfl, rfl⟩ rfl
    ⟨arr, (cap, cap + 1), rfl, by rw [core_seal]; exact hs.lt, by simp only; omega, fun i hi => ?_, .inr (by simp only; omega), fun hf => by cases hf⟩
  · refine XR.new hpush (u := .slice (some ⟨w.heap.size, 0, none⟩) s.size cap) ?_ (hr _ _ hrun)
    have := VR.slice0 (μ := μ.up H.size ⟨w.heap.size, 0, cap - l⟩) (b := H.size) (len := l) (cap := l) (g := true) (Mu.up_same _ _ _)
    rw [if_pos rfl, show l + (cap - l) = cap by omega] at this
    rw [hsz]; exact this
  · obtain ⟨b, hb1, hb2⟩ := hs.byte i hi
    have hi' : i < s.data.size := by have := hs.1; omega
    simp only [Nat.zero_add, arr, core_seal]
    rw [Array.getElem?_append_left (by simpa using hi'), Array.getElem?_map, hb1, Option.map_some, hb2]; rfl
theorem conv_sound (h : HR w0 G μ H w) {src dst : TypeId} {x : AV} {xv : Value} (hx : VR μ x xv)
    (hr : ∀ v w', (convert src dst xv).run P w = .ok v w' → r = .ok (.value v) w') : XR P w0 G μ H.size (convA P G src dst x H) r := by
  unfold convA
  split
  · rename_i s d hs hd
    split
    · rename_i k k' n
      have := hx.int_inv
      subst this
      exact XR.rInt h (m := k.wrap n) (wrapA_eq _ _) (hr _ _ (by simp [convert, run_underlying hs, run_underlying hd, Conv.intToInt]))
    · rename_i l N
      obtain ⟨t, rfl, h1, h2⟩ := hx.str_inv
      exact XR.value h (.str _ _ t h1 h2) (hr _ _ (by cases s <;> simp [convert, run_underlying hs, run_underlying hd]))
    · rename_i e l N
      obtain ⟨t, rfl, h1, h2⟩ := hx.str_inv
      refine XR.cond (fun hb => ?_) (fun _ => trivial)
      rw [fNat_eq, pushK_eq]
      refine stringToBytes_sound h (s := t) ⟨h1, h2⟩ (fun v w' hv => hr v w' ?_)
      rw [← hv]
      simp [convert, run_underlying hs, run_underlying hd, run_underlying (byte_und hb)]
    · rename_i e
      refine XR.cond (fun hb => ?_) (fun _ => trivial)
      have := bytesToString_sound (P := P) h hx (len := 0) (q := .emp) rfl rfl (fun _ _ h => by cases h)
      exact XR.value h (.str 0 0 .empty rfl rfl) (hr _ _ (by cases hx; rw [run_convert_bytes_string w src dst e _ _ _ hs (byte_und hb) hd]; exact this))
    · rename_i e _ _
      refine XR.cond (fun hb => ?_) (fun _ => trivial)
      have := bytesToString_sound (P := P) h hx (len := 0) (q := .emp) rfl rfl (fun _ _ h => by cases h)
      exact XR.value h (.str 0 0 .empty rfl rfl) (hr _ _ (by cases hx; rw [run_convert_bytes_string w src dst e _ _ _ hs (byte_und hb) hd]; exact this))
    · rename_i e b off len cap g
      refine XR.cond (fun hb => ?_) (fun _ => trivial)
      have hconv : (convert src dst xv).run P w = (Conv.bytesToString xv).run P w := by
        obtain ⟨L, hL, rfl⟩ := hx.slice_inv
        simp only [convert, Sem.run_bind, run_underlying hs, run_underlying hd, Result.andThen_ok, run_underlying (byte_und hb)]
      have hq' : seqOf H 1 len (.slice b off len 0 false) = seqOf H 1 len (.slice b off len cap g) := rfl
      rw [hq']
      cases hq : seqOf H 1 len (.slice b off len cap g) with
      | none => trivial
      | some q =>
        have := bytesToString_sound (P := P) h hx (len := len) rfl hq (fun _ _ h => by cases h)
        cases q with
        | emp => exact XR.value h (.str 0 0 .empty rfl rfl) (hr _ _ (by rw [hconv]; exact this))
        | pk n N => obtain ⟨t, ht, hst⟩ := this; exact XR.value h (.str _ _ t hst.1 hst.2) (hr _ _ (by rw [hconv]; exact ht))
        | rs l => trivial
    · rename_i e0 e b off len cap g
      refine XR.cond (fun hb => ?_) (fun _ => trivial)
      rw [Bool.and_eq_true, Bool.and_eq_true, Nat.beq_eq, Nat.ble_eq] at hb
      obtain ⟨rfl, hb, hG⟩ := hb
      cases hg : H.get b with
      | bytes n N e' st =>
        show XR P w0 G μ H.size (H.setK b _ _) r
        rw [setK_eq]
        obtain ⟨L, hL, rfl⟩ := hx.slice_inv
        obtain ⟨arr, fz, ho, hN, hsz, hcell, hf, hst⟩ := h.bytes hL hg
        obtain ⟨lo, hi⟩ := fz
        have hlt : L.blk < w.heap.size := (Array.getElem?_eq_some_iff.1 ho).1
        have hob : w.heap[L.blk] = .cells arr e' (lo, hi) := (Array.getElem?_eq_some_iff.1 ho).2
        let fz' : Nat × Nat := if lo == hi then (arr.size, arr.size + 1) else (min lo arr.size, max hi (arr.size + 1))
        have hrun : (markStringish ⟨L.blk, L.base + off, none⟩).run P w = .ok () (w.freeze ⟨L.blk, arr.size, none⟩ 1) := by
          unfold markStringish
          have hshape : w.shape? L.blk = some (e', arr.size) := by simp [World.shape?, ho]
          simp only [Sem.run_bind, run_shape, Result.andThen_ok, hshape, run_freeze]
        have hw : (w.freeze ⟨L.blk, arr.size, none⟩ 1).heap[L.blk]? = some (.cells arr e' fz') := by
          simp only [World.freeze, Nat.one_ne_zero, if_false, Array.getElem?_modify, if_true, ho, Option.map_some, fz']
        have hap : Apart L.blk w (w.freeze ⟨L.blk, arr.size, none⟩ 1) := by
          refine ⟨?_, ?_, ?_, ?_, fun k hk => ?_⟩ <;> simp only [World.freeze, Nat.one_ne_zero, if_false]
          · simp
          · rw [Array.getElem?_modify, if_neg (Ne.symm hk)]
        have hf' : Free fz' arr.size := by
          simp only [fz']
          by_cases e : (lo == hi) = true
          · rw [if_pos e]; exact .inr (Nat.le_refl _)
          · rw [if_neg e]
            rcases hf with hf | hf
            · simp only [Prod.mk.injEq] at hf
              obtain ⟨rfl, rfl⟩ := hf
              simp at e
            · exact .inr (by simp only at hf ⊢; omega)
        have hfin := h.set hL hG (by rw [hg]; intro h; cases h) hap hw (o := .bytes n N e' true) ⟨arr, fz', rfl, hN, hsz, hcell, hf', fun h => by cases h⟩
        refine XR.new ⟨hfin, μ.lx_refl _⟩ hx (hr _ _ ?_)
        rw [hs] at hd
        simp only [Option.some.injEq, TypeDesc.slice.injEq] at hd
        subst hd
        simp only [convert, Sem.run_bind, run_underlying hs, Result.andThen_ok, run_underlying (byte_und hb), beq_self_eq_true, hrun, Sem.run_pure]
      | _ => trivial
    · trivial
  · trivial

/-! ### strings -/
theorem StrR.eq {s t : ByteArray} {n N m M : Nat} (hs : StrR n N s) (ht : StrR m M t) : (s.toList == t.toList) = (Nat.beq n m && Nat.beq N M) := by
  have e1 : s.toList = s.data.toList := ByteArray.toList_eq _
  have e2 : t.toList = t.data.toList := ByteArray.toList_eq _
  rw [e1, e2, Bool.eq_iff_iff, beq_iff_eq, Bool.and_eq_true, Nat.beq_eq, Nat.beq_eq]
  constructor
  · intro e
    refine ⟨?_, ?_⟩
    · rw [← hs.1, ← ht.1, ← Array.length_toList, ← Array.length_toList, e]
    · rw [← hs.2, ← ht.2, e]
  · rintro ⟨rfl, rfl⟩
    exact pack_inj (by simp [hs.1, ht.1]) (by rw [hs.2, ht.2])
theorem strLtF_succ (f la A lb B : Nat) : strLtF (Nat.succ f) la A lb B = (bif Nat.beq lb 0 then false else bif Nat.beq la 0 then true else
      bif Nat.blt (Nat.mod A 256) (Nat.mod B 256) then true else bif Nat.blt (Nat.mod B 256) (Nat.mod A 256) then false else strLtF f (Nat.sub la 1) (Nat.div A 256) (Nat.sub lb 1) (Nat.div B 256)) := rfl
theorem strLt_eq : ∀ (f : Nat) (a b : List UInt8), b.length ≤ f → strLtF (Nat.succ f) a.length (pack a) b.length (pack b) = Op.bytesLess a b := by
  intro f
  induction f with
  | zero =>
    intro a b hb
    have : b = [] := List.length_eq_zero_iff.1 (by omega)
    subst this
    cases a <;> rfl
  | succ f ih =>
    intro a b hb
    cases b with
    | nil => cases a <;> rfl
    | cons y b =>
      cases a with
      | nil => rfl
      | cons x a =>
        have hx : x.toNat < 256 := x.toNat_lt
        have hy : y.toNat < 256 := y.toNat_lt
        have m1 : Nat.mod (pack (x :: a)) 256 = x.toNat := by show pack (x :: a) % 256 = _; simp only [pack]; omega
        have m2 : Nat.mod (pack (y :: b)) 256 = y.toNat := by show pack (y :: b) % 256 = _; simp only [pack]; omega
        have d1 : Nat.div (pack (x :: a)) 256 = pack a := by show pack (x :: a) / 256 = _; simp only [pack]; omega
        have d2 : Nat.div (pack (y :: b)) 256 = pack b := by show pack (y :: b) / 256 = _; simp only [pack]; omega
        have l1 : Nat.sub (x :: a).length 1 = a.length := by simp
        have l2 : Nat.sub (y :: b).length 1 = b.length := by simp
        have z1 : Nat.beq (y :: b).length 0 = false := rfl
        have z2 : Nat.beq (x :: a).length 0 = false := rfl
        have ih' := ih a b (by simpa using hb)
        rw [strLtF_succ]
        rw [z1, z2, m1, m2, d1, d2, l1, l2, ih']
        simp only [cond_false, Op.bytesLess]
        by_cases h1 : x.toNat < y.toNat
        · have e1 : Nat.blt x.toNat y.toNat = true := by rw [Nat.blt_eq]; exact h1
          have e2 : decide (x < y) = true := by rw [decide_eq_true_iff]; exact UInt8.lt_iff_toNat_lt.2 h1
          rw [e1, e2]; rfl
        · have e1 : Nat.blt x.toNat y.toNat = false := by rw [← Bool.not_eq_true, Nat.blt_eq]; exact h1
          have e2 : decide (x < y) = false := by rw [decide_eq_false_iff_not]; exact fun h => h1 (UInt8.lt_iff_toNat_lt.1 h)
          rw [e1, e2]
          by_cases h2 : y.toNat < x.toNat
          · have e3 : Nat.blt y.toNat x.toNat = true := by rw [Nat.blt_eq]; exact h2
            have e4 : (x == y) = false := by rw [← Bool.not_eq_true, beq_iff_eq]; rintro rfl; omega
            rw [e3, e4]; rfl
          · have e3 : Nat.blt y.toNat x.toNat = false := by rw [← Bool.not_eq_true, Nat.blt_eq]; exact h2
            have e4 : (x == y) = true := by rw [beq_iff_eq]; exact UInt8.toNat_inj.1 (by omega)
            rw [e3, e4]; rfl
theorem strLt_sound {s t : ByteArray} {n N m M : Nat} (hs : StrR n N s) (ht : StrR m M t) : strLt n N m M = Op.bytesLess s.toList t.toList := by
  have e1 : s.toList = s.data.toList := ByteArray.toList_eq _
  have e2 : t.toList = t.data.toList := ByteArray.toList_eq _
  rw [e1, e2, ← strLt_eq m _ _ (by simp [ht.1])]
  unfold strLt
  rw [hs.2, ht.2]
  simp only [Array.length_toList, hs.1, ht.1]
theorem StrR.append {s t : ByteArray} {n N m M : Nat} (hs : StrR n N s) (ht : StrR m M t) : StrR (n + m) (N + 256 ^ n * M) (s ++ t) := by
  have hd : (s ++ t).data = s.data ++ t.data := ByteArray.data_append
  refine StrR.mk' (by rw [hd]; simp [hs.1, ht.1]) (join_lt hs.lt ht.lt) fun i hi => ?_
  rw [hd, byteAt_join hs.lt]
  by_cases h : i < n
  · rw [if_pos h, Array.getElem?_append_left (by rw [hs.1]; exact h)]; exact hs.byte i h
  · rw [if_neg h, Array.getElem?_append_right (by rw [hs.1]; omega), hs.1]; exact ht.byte _ (by omega)
theorem strOp_sound (h : HR w0 G μ H w) (op : BinOp) {s t : ByteArray} {n N m M : Nat} (hs : StrR n N s) (ht : StrR m M t)
    (hr : ∀ v, (Op.stringOp op s t).run P w = .ok v w → r = .ok (.value v) w) : XR P w0 G μ H.size (strOp op n N m M H) r := by
  have he := hs.eq ht
  have hlt := strLt_sound hs ht
  cases op
  case add =>
    refine XR.cond (fun hb => ?_) (fun _ => trivial)
    rw [Nat.blt_eq] at hb
    have hb : n + m < 1099511627776 := hb
    refine XR.rStr h (hs.append ht) (hr _ ?_)
    have e1 : s.size = n := hs.1
    have e2 : t.size = m := ht.1
    have hm : ¬ (((s.size + t.size : Nat) : Int) > IntKind.i64.max) := by rw [e1, e2]; simp [IntKind.max, IntKind.signed, IntKind.bits]; omega
    simp only [Op.stringOp, Sem.run_ite, if_neg hm, Sem.run_pure]
  case eql => exact XR.rBool h (c := s.toList == t.toList) he.symm (hr _ (by simp only [Op.stringOp, Sem.run_pure]))
  case neq => exact XR.rBool h (c := !(s.toList == t.toList)) (by rw [he]) (hr _ (by simp only [Op.stringOp, Sem.run_pure]))
  case lss => exact XR.rBool h (c := Op.bytesLess s.toList t.toList) hlt (hr _ (by simp only [Op.stringOp, Sem.run_pure]))
  case leq => exact XR.rBool h (c := Op.bytesLess s.toList t.toList || (s.toList == t.toList)) (by rw [hlt, he]) (hr _ (by simp only [Op.stringOp, Sem.run_pure]))
  case gtr => exact XR.rBool h (c := !(Op.bytesLess s.toList t.toList || (s.toList == t.toList))) (by rw [hlt, he]) (hr _ (by simp only [Op.stringOp, Sem.run_pure]))
  case geq => exact XR.rBool h (c := !(Op.bytesLess s.toList t.toList)) (by rw [hlt]) (hr _ (by simp only [Op.stringOp, Sem.run_pure]))
  all_goals trivial
end
end Go.Proofs.YtabllhhainepgaaGreatDoor.Ab
/-
  The abstract machine: equality, two operands, one operand.
-/
namespace Go.Proofs.YtabllhhainepgaaGreatDoor.Ab
open Go.RowKit

section
variable {P : Program} {w0 w : World} {G : Nat} {μ : Mu} {H : AH} {r : Result Next}
/-- Pointers into two plain rows are not one. -/
theorem run_sameAddr_apart {a b i j : Nat} {x y : Array Value} {t u : TypeId} (ha : w.heap[a]? = some (.cells x t (0, 0))) (hb : w.heap[b]? = some (.cells y u (0, 0))) (hne : a ≠ b) :
    (sameAddr ⟨a, i, none⟩ ⟨b, j, none⟩).run P w = .ok false w := by
  have f1 : ∀ k, w.frozen? ⟨a, k, none⟩ = false := fun k => by simp [World.frozen?, ha]
  have f2 : ∀ k, w.frozen? ⟨b, k, none⟩ = false := fun k => by simp [World.frozen?, hb]
  have s1 : w.shape? a = some (t, x.size) := by simp [World.shape?, ha]
  have s2 : w.shape? b = some (u, y.size) := by simp [World.shape?, hb]
  have hbeq : (a == b) = false := by simp [hne]
  simp only [sameAddr, hbeq, Bool.false_eq_true, if_false, Sem.run_bind, run_frozen, f1, f2, Result.andThen_ok, Bool.false_and, Sem.run_pure, noView, viewAt, run_shape, s1, s2, Option.isSome_some, if_true, Option.isSome_none, mayBeOne, stringish, Bool.and_false, Bool.or_false, Bool.false_or]
theorem plain_block (h : HR w0 G μ H w) {b : Nat} {L : Loc} (hL : μ b = some L) (hp : plainB (H.get b) = true) : ∃ x t, w.heap[L.blk]? = some (.cells x t (0, 0)) ∧ H.get b ≠ .dead := by
  cases hg : H.get b with
  | bytes n N e st =>
    rw [hg] at hp
    obtain ⟨arr, fz, ho, _, _, _, _, hst⟩ := h.bytes hL hg
    have : st = false := by simpa [plainB] using hp
    rw [hst this] at ho
    exact ⟨arr, e, ho, by intro h; cases h⟩
  | rows n s c z e =>
    obtain ⟨arr, ho, _⟩ := h.rows hL hg
    exact ⟨arr, e, ho, by intro h; cases h⟩
  | _ => rw [hg] at hp; simp [plainB] at hp
theorem eqFields_sound {eq : TypeId → AV → AV → Option Bool} {d : Nat} (he : ∀ t x y xv yv b, VR μ x xv → VR μ y yv → eq t x y = some b → (Op.equalIn d t xv yv).run P w = .ok b w)
    {xs ys : List AV} {xa ya : Array Value} (hx : LR μ xs xa.toList) (hy : LR μ ys ya.toList) : ∀ (fs : List Field) (b : Bool), eqFields P eq xs ys fs = some b → (Op.eqFields d xa ya fs).run P w = .ok b w
  | [], b, h => by simp only [eqFields, Option.some.injEq] at h; subst h; simp [Op.eqFields]
  | f :: fs, b, h => by
    simp only [eqFields] at h
    by_cases hn : f.name = "_"
    · rw [if_pos hn] at h
      simp only [Op.eqFields, hn, ne_eq, not_true_eq_false, if_false]
      exact eqFields_sound he hx hy fs b h
    · rw [if_neg hn] at h
      cases hp1 : partA P f.type xs f.offset with
      | none => rw [hp1] at h; cases h
      | some x =>
        cases hp2 : partA P f.type ys f.offset with
        | none => rw [hp1, hp2] at h; cases h
        | some y =>
          rw [hp1, hp2] at h
          simp only [] at h
          obtain ⟨u, hu1, hu2⟩ := part_sound (w := w) hx hp1
          obtain ⟨v, hv1, hv2⟩ := part_sound (w := w) hy hp2
          cases hq : eq f.type x y with
          | none => rw [hq] at h; cases h
          | some c =>
            rw [hq] at h
            have hc := he _ _ _ _ _ _ hu1 hv1 hq
            simp only [Op.eqFields, ne_eq, hn, not_false_eq_true, if_true, Sem.run_bind, hu2, hv2, Result.andThen_ok, hc]
            cases c with
            | false => simp only [Option.some.injEq] at h; subst h; simp
            | true =>
              simp only [] at h
              simp only [Bool.not_true, Bool.false_eq_true, if_false]
              exact eqFields_sound he hx hy fs b h
theorem eqElems_sound {eq : TypeId → AV → AV → Option Bool} {d : Nat} (he : ∀ t x y xv yv b, VR μ x xv → VR μ y yv → eq t x y = some b → (Op.equalIn d t xv yv).run P w = .ok b w)
    {xs ys : List AV} {xa ya : Array Value} (hx : LR μ xs xa.toList) (hy : LR μ ys ya.toList) {e : TypeId} {n : Nat} : ∀ (m i : Nat) (b : Bool), eqElems P eq xs ys e n m i = some b → (Op.eqItems d e n xa ya (List.range' i m)).run P w = .ok b w
  | 0, i, b, h => by simp only [eqElems, Option.some.injEq] at h; subst h; simp [Op.eqItems]
  | m + 1, i, b, h => by
    simp only [eqElems] at h
    cases hp1 : partA P e xs (i * n) with
    | none => rw [hp1] at h; cases h
    | some x =>
      cases hp2 : partA P e ys (i * n) with
      | none => rw [hp1, hp2] at h; cases h
      | some y =>
        rw [hp1, hp2] at h
        simp only [] at h
        obtain ⟨u, hu1, hu2⟩ := part_sound (w := w) hx hp1
        obtain ⟨v, hv1, hv2⟩ := part_sound (w := w) hy hp2
        cases hq : eq e x y with
        | none => rw [hq] at h; cases h
        | some c =>
          rw [hq] at h
          have hc := he _ _ _ _ _ _ hu1 hv1 hq
          simp only [List.range'_succ, Op.eqItems, Sem.run_bind, hu2, hv2, Result.andThen_ok, hc]
          cases c with
          | false => simp only [Option.some.injEq] at h; subst h; simp
          | true =>
            simp only [] at h
            simp only [Bool.not_true, Bool.false_eq_true, if_false]
            exact eqElems_sound he hx hy m (i + 1) b h
theorem cellsOf_size {t : TypeId} {s : Nat} (h : sizeA P t = some s) : P.cellsOf t = s ∧ ∃ i, P.info? t = some i := by
  unfold sizeA at h
  cases hi : P.info? t with
  | none => rw [hi] at h; cases h
  | some i => rw [hi] at h; simp only [Option.map_some, Option.some.injEq] at h; exact ⟨by simp [Program.cellsOf, hi, h], i, rfl⟩
theorem eqA_sound (h : HR w0 G μ H w) : ∀ (d D : Nat) (t : TypeId) (x y : AV) (xv yv : Value) (b : Bool), d ≤ D → VR μ x xv → VR μ y yv → eqA P H d t x y = some b → (Op.equalIn D t xv yv).run P w = .ok b w := by
  intro d
  induction d with
  | zero => intro D t x y xv yv b _ _ _ he; simp [eqA] at he
  | succ d ih =>
    intro D t x y xv yv b hD hx hy he
    obtain ⟨D, rfl⟩ : ∃ D', D = D' + 1 := ⟨D - 1, by omega⟩
    have ih' : ∀ t x y xv yv b, VR μ x xv → VR μ y yv → eqA P H d t x y = some b → (Op.equalIn D t xv yv).run P w = .ok b w := fun t x y xv yv b => ih D t x y xv yv b (by omega)
    simp only [eqA] at he
    cases hu : P.underlying t with
    | none => rw [hu] at he; cases he
    | some u =>
      rw [hu] at he
      simp only [] at he
      split at he
      · rename_i p q
        have e1 := hx.bool_inv; have e2 := hy.bool_inv; subst e1 e2
        simp only [Option.some.injEq] at he; subst he
        simp [Op.equalIn, run_underlying hu]
      · rename_i k0 k p k' q
        have e1 := hx.int_inv; have e2 := hy.int_inv; subst e1 e2
        by_cases hk : k = k'
        · rw [if_pos hk] at he; simp only [Option.some.injEq] at he; subst hk he
          simp [Op.equalIn, run_underlying hu, eqI_eq]
        · rw [if_neg hk] at he; cases he
      · rename_i n N m M
        obtain ⟨s, rfl, s1, s2⟩ := hx.str_inv
        obtain ⟨s', rfl, s3, s4⟩ := hy.str_inv
        simp only [Option.some.injEq] at he; subst he
        have := StrR.eq (s := s) (t := s') ⟨s1, s2⟩ ⟨s3, s4⟩
        simp [Op.equalIn, run_underlying hu, beq_toListBytes, this]
      · cases hx; cases hy
        simp only [Option.some.injEq] at he; subst he
        simp [Op.equalIn, run_underlying hu]
      · obtain ⟨L, hL, rfl⟩ := hy.ptr_inv
        cases hx
        simp only [Option.some.injEq] at he; subst he
        simp [Op.equalIn, run_underlying hu]
      · obtain ⟨L, hL, rfl⟩ := hx.ptr_inv
        cases hy
        simp only [Option.some.injEq] at he; subst he
        simp [Op.equalIn, run_underlying hu]
      · rename_i elem a i b' j
        obtain ⟨L, hL, rfl⟩ := hx.ptr_inv
        obtain ⟨K, hK, rfl⟩ := hy.ptr_inv
        split at he
        · rename_i sz hsz
          have hrun : (Op.equalIn (D + 1) t (.pointer (some ⟨L.blk, L.base + i, none⟩)) (.pointer (some ⟨K.blk, K.base + j, none⟩))).run P w = (sameAddr ⟨L.blk, L.base + i, none⟩ ⟨K.blk, K.base + j, none⟩).run P w := by
            simp [Op.equalIn, run_underlying hu, run_sizeOf hsz]
          rw [hrun]
          by_cases hab : a = b'
          · subst hab
            rw [hL] at hK
            cases hK
            simp only [Nat.beq_refl, cond_true, Option.some.injEq] at he
            subst he
            simp only [sameAddr, beq_self_eq_true, if_true, Sem.run_pure]
            congr 1
            rw [Bool.eq_iff_iff, beq_iff_eq, Nat.beq_eq]
            constructor
            · intro e; injection e with _ e _; omega
            · rintro rfl; rfl
          · rw [beq_ff hab] at he
            simp only [cond_false] at he
            by_cases hp : (plainB (H.get a) && plainB (H.get b')) = true
            · rw [hp] at he
              simp only [cond_true, Option.some.injEq] at he
              subst he
              rw [Bool.and_eq_true] at hp
              obtain ⟨x1, t1, h1, d1⟩ := plain_block h hL hp.1
              obtain ⟨x2, t2, h2, d2⟩ := plain_block h hK hp.2
              exact run_sameAddr_apart h1 h2 (fun e => hab (h.inj _ _ _ _ d1 d2 hL hK e))
            · rw [Bool.not_eq_true] at hp; rw [hp] at he; cases he
        · cases he
      · cases hx; cases hy
        simp only [Option.some.injEq] at he; subst he
        simp [Op.equalIn, run_underlying hu]
      · obtain ⟨v, rfl, hv⟩ := hy.iface_inv
        cases hx
        simp only [Option.some.injEq] at he; subst he
        simp [Op.equalIn, run_underlying hu]
      · obtain ⟨v, rfl, hv⟩ := hx.iface_inv
        cases hy
        simp only [Option.some.injEq] at he; subst he
        simp [Op.equalIn, run_underlying hu]
      · rename_i ms tx vx ty vy
        obtain ⟨v, rfl, hv⟩ := hx.iface_inv
        obtain ⟨v', rfl, hv'⟩ := hy.iface_inv
        by_cases ht : tx = ty
        · subst ht
          simp only [Nat.beq_refl, cond_true] at he
          split at he
          · rename_i i hi
            by_cases hc : i.comparable = true
            · rw [if_pos hc] at he
              have := ih' _ _ _ _ _ _ hv hv' he
              simp only [Op.equalIn, Sem.run_bind, run_underlying hu, Result.andThen_ok, ne_eq, not_true_eq_false, if_false, typeInfo, run_program, hi, Sem.run_pure, hc, Bool.not_true, Bool.false_eq_true, this]
            · rw [if_neg hc] at he; cases he
          · cases he
        · rw [beq_ff ht] at he
          simp only [cond_false, Option.some.injEq] at he
          subst he
          simp [Op.equalIn, run_underlying hu, ht]
      · rename_i fs xs ys
        obtain ⟨xa, rfl, hxa⟩ := hx.agg_inv
        obtain ⟨ya, rfl, hya⟩ := hy.agg_inv
        by_cases hp : P.stoodInHeld t = true
        · rw [if_pos hp] at he; cases he
        · rw [if_neg hp] at he
          rw [Bool.not_eq_true] at hp
          have hf : P.fieldsOf t = fs := by simp [Program.fieldsOf, hu]
          rw [run_equalIn_struct w D t xa ya (by rw [hf]; exact hu) hp, hf]
          exact eqFields_sound ih' hxa hya _ _ he
      · rename_i len elem xs ys
        obtain ⟨xa, rfl, hxa⟩ := hx.agg_inv
        obtain ⟨ya, rfl, hya⟩ := hy.agg_inv
        split at he
        · rename_i n hn
          obtain ⟨hc, i, hi⟩ := cellsOf_size hn
          rw [run_equalIn_array w D xa ya hu hi, hc, List.range_eq_range']
          exact eqElems_sound ih' hxa hya _ _ _ he
        · cases he
      · cases hx; cases hy
        simp only [Option.some.injEq] at he; subst he
        simp only [Op.equalIn, Sem.run_bind, run_underlying hu, Result.andThen_ok]; rfl
      · obtain ⟨L, hL, rfl⟩ := hy.slice_inv
        cases hx
        simp only [Option.some.injEq] at he; subst he
        simp only [Op.equalIn, Sem.run_bind, run_underlying hu, Result.andThen_ok]; rfl
      · cases hx; cases hy
        simp only [Option.some.injEq] at he; subst he
        simp only [Op.equalIn, Sem.run_bind, run_underlying hu, Result.andThen_ok]; rfl
      · obtain ⟨L, hL, rfl⟩ := hx.slice_inv
        cases hy
        simp only [Option.some.injEq] at he; subst he
        simp only [Op.equalIn, Sem.run_bind, run_underlying hu, Result.andThen_ok]; rfl
      · cases hx; cases hy
        simp only [Option.some.injEq] at he; subst he
        simp only [Op.equalIn, Sem.run_bind, run_underlying hu, Result.andThen_ok]; rfl
      · cases hx; cases hy
        simp only [Option.some.injEq] at he; subst he
        simp only [Op.equalIn, Sem.run_bind, run_underlying hu, Result.andThen_ok]; rfl
      · obtain ⟨L, hL, rfl⟩ := hy.map_inv
        cases hx
        simp only [Option.some.injEq] at he; subst he
        simp only [Op.equalIn, Sem.run_bind, run_underlying hu, Result.andThen_ok]; rfl
      · obtain ⟨L, hL, rfl⟩ := hx.map_inv
        cases hy
        simp only [Option.some.injEq] at he; subst he
        simp only [Op.equalIn, Sem.run_bind, run_underlying hu, Result.andThen_ok]; rfl
      · cases hx; cases hy
        simp only [Option.some.injEq] at he; subst he
        simp only [Op.equalIn, Sem.run_bind, run_underlying hu, Result.andThen_ok]; rfl
      · obtain ⟨a, b, rfl, _, _⟩ := hy.func_inv
        cases hx
        simp only [Option.some.injEq] at he; subst he
        simp only [Op.equalIn, Sem.run_bind, run_underlying hu, Result.andThen_ok]; rfl
      · obtain ⟨a, b, rfl, _, _⟩ := hx.func_inv
        cases hy
        simp only [Option.some.injEq] at he; subst he
        simp only [Op.equalIn, Sem.run_bind, run_underlying hu, Result.andThen_ok]; rfl
      · cases he

/-! ### two operands -/
theorem XR.congr {x : X} {r' : Result Next} (h : XR P w0 G μ H.size x r') (e : r = r') : XR P w0 G μ H.size x r := e ▸ h
theorem eq_sound (h : HR w0 G μ H w) (neg : Bool) {t : TypeId} {x y : AV} {xv yv : Value} (hx : VR μ x xv) (hy : VR μ y yv) {n : Nat}
    (hr : ∀ b, (Op.equal t xv yv).run P w = .ok b w → r = .ok (.value (.bool (if neg then !b else b))) w) :
    XR P w0 G μ H.size (rOptB (if neg then (eqA P H 30 t x y).map (!·) else eqA P H 30 t x y) n H) r := by
  refine XR.rOptB h fun b hb => ?_
  cases neg with
  | false => exact hr b (eqA_sound h 30 Op.maxDepth t x y xv yv b (by decide) hx hy hb)
  | true =>
    simp only [if_true] at hb
    cases hq : eqA P H 30 t x y with
    | none => rw [hq] at hb; cases hb
    | some c =>
      rw [hq] at hb
      simp only [Option.map_some, Option.some.injEq] at hb
      subst hb
      exact hr c (eqA_sound h 30 Op.maxDepth t x y xv yv c (by decide) hx hy hq)
end
end Go.Proofs.YtabllhhainepgaaGreatDoor.Ab
