/-
  The abstract machine: slices made, cut and indexed; fields; conversions.
-/
import Derived.Test.YtmapmbfohilklaaGreatAbH
namespace Go.Proofs.YtmapmbfohilklaaGreat.Ab
open Go.RowKit

section
variable {P : Program} {w0 w : World} {G : Nat} {μ : Mu} {H : AH} {r : Result Next}

/-! ### slice literals -/
theorem range_map_size (n : Nat) (f : Nat → Value) : ((Array.range n).map f).size = n := by simp
theorem range_map_get (n : Nat) (f : Nat → Value) (i : Nat) (h : i < n) : ((Array.range n).map f)[i]? = some (f i) := by simp [h]
theorem range0 (f : Nat → Value) : (Array.range 0).map f = #[] := by apply Array.eq_empty_of_size_eq_zero; simp
theorem zeros_row {μ : Mu} {z : List AV} {zc : Array Value} (hz : LR μ z zc.toList) {n i : Nat} (h : i < n) :
    RowR μ ((Array.range (n * z.length)).map fun k => zc[k % zc.size]!) (i * z.length) z := by
  intro j a ha
  have hl := hz.length
  simp only [Array.length_toList] at hl
  have hj : j < z.length := (List.getElem?_eq_some_iff.1 ha).1
  obtain ⟨v, hv, hr⟩ := hz.get j a ha
  refine ⟨v, ?_, hr⟩
  have := mul_step h z.length
  rw [range_map_get _ _ _ (by omega)]
  have e : (i * z.length + j) % zc.size = j := by rw [← hl, Nat.mul_comm, Nat.mul_add_mod, Nat.mod_eq_of_lt hj]
  rw [e]
  simp only [Array.getElem?_toList] at hv
  rw [getElem!_def, hv]
theorem zeros_one {μ : Mu} {z : List AV} {zc : Array Value} (hz : LR μ z zc.toList) (ha : z.all cellB = true) {n : Nat} : One ((Array.range (n * z.length)).map fun k => zc[k % zc.size]!) := fun v hv => by
  have hl := hz.length
  simp only [Array.length_toList] at hl
  simp only [Array.toList_map, List.mem_map] at hv
  obtain ⟨k, hk, rfl⟩ := hv
  have hk' : k < n * z.length := by simpa using hk
  have h0 : 0 < zc.size := by
    rcases Nat.eq_zero_or_pos z.length with e | e
    · rw [e] at hk'; simp at hk'
    · omega
  have hm : k % zc.size < zc.size := Nat.mod_lt _ h0
  have : zc[k % zc.size]! = zc[k % zc.size] := by rw [getElem!_pos zc _ hm]
  rw [this]
  exact hz.one_all ha _ (by rw [Array.mem_toList_iff]; exact Array.getElem_mem hm)
/-- What the rows of a literal are: those below k are as they were. -/
theorem seqRows_sound {μ : Mu} {s : Nat} {z : List AV} (hz : z.length = s) : ∀ (m : Nat) (ps : List (Nat × AV)) (cs : List (Nat × Value)) (i : Nat) (arr : Array Value) (rs : List (List AV)),
    ps.length = cs.length → (∀ (k : Nat) (p : Nat × AV) (c : Nat × Value), ps[k]? = some p → cs[k]? = some c → p.1 = c.1 ∧ VR μ p.2 c.2) →
    arr.size = (i + m) * s → (∀ k, i ≤ k → k < i + m → RowR μ arr (k * s) z) → seqRows z ps m i = some rs →
    ∃ arr', Instr.fill (fun i => some (i * s, s)) arr cs = some arr' ∧ arr'.size = arr.size ∧ rs.length = m ∧ (∀ (k : Nat) (row : List AV), rs[k]? = some row → row.length = s ∧ allCells row = true ∨ row = z) ∧
      (∀ k : Nat, k < i * s → arr'[k]? = arr[k]?) ∧ ∀ (k : Nat) (row : List AV), rs[k]? = some row → RowR μ arr' ((i + k) * s) row := by
  intro m
  induction m with
  | zero =>
    intro ps cs i arr rs hlen hp hsz hrow hq
    cases ps with
    | nil =>
      cases cs with
      | nil =>
        simp only [seqRows, Option.some.injEq] at hq
        subst hq
        exact ⟨arr, rfl, rfl, rfl, fun k row h => by simp at h, fun k _ => rfl, fun k row h => by simp at h⟩
      | cons c cs => simp at hlen
    | cons p ps => simp [seqRows] at hq
  | succ m ih =>
    intro ps cs i arr rs hlen hp hsz hrow hq
    have next : ∀ (arr1 : Array Value) (cs' : List (Nat × Value)) (first : List AV) (rs' : List (List AV)), arr1.size = arr.size → RowR μ arr1 (i * s) first → (first.length = s ∧ allCells first = true ∨ first = z) →
        (∀ k : Nat, k < i * s → arr1[k]? = arr[k]?) → rs = first :: rs' →
        (∃ arr', Instr.fill (fun i => some (i * s, s)) arr1 cs' = some arr' ∧ arr'.size = arr1.size ∧ rs'.length = m ∧ (∀ (k : Nat) (row : List AV), rs'[k]? = some row → row.length = s ∧ allCells row = true ∨ row = z) ∧
          (∀ k : Nat, k < (i + 1) * s → arr'[k]? = arr1[k]?) ∧ ∀ (k : Nat) (row : List AV), rs'[k]? = some row → RowR μ arr' ((i + 1 + k) * s) row) →
        ∃ arr', Instr.fill (fun i => some (i * s, s)) arr1 cs' = some arr' ∧ arr'.size = arr.size ∧ rs.length = m + 1 ∧ (∀ (k : Nat) (row : List AV), rs[k]? = some row → row.length = s ∧ allCells row = true ∨ row = z) ∧
          (∀ k : Nat, k < i * s → arr'[k]? = arr[k]?) ∧ ∀ (k : Nat) (row : List AV), rs[k]? = some row → RowR μ arr' ((i + k) * s) row := by
      rintro arr1 cs' first rs' hs1 hfirst hfl hold rfl ⟨arr', h1, h2, h3, h4, h5, h6⟩
      have hss : (i + 1) * s = i * s + s := Nat.succ_mul i s
      refine ⟨arr', h1, h2.trans hs1, by simp [h3], fun k row hk => ?_, fun k hk => (h5 k (by omega)).trans (hold k hk), fun k row hk => ?_⟩
      · cases k with
        | zero => simp at hk; subst hk; exact hfl
        | succ k => exact h4 k row (by simpa using hk)
      · cases k with
        | zero =>
          simp at hk; subst hk
          intro j a ha
          have hj : j < s := by
            have := (List.getElem?_eq_some_iff.1 ha).1
            rcases hfl with ⟨h, _⟩ | h
            · omega
            · rw [h] at this; omega
          obtain ⟨v, hv, hr⟩ := hfirst j a ha
          exact ⟨v, by rw [Nat.add_zero, h5 _ (by omega)]; exact hv, hr⟩
        | succ k =>
          have := h6 k row (by simpa using hk)
          rw [show i + (k + 1) = i + 1 + k by omega]; exact this
    have hrow' : ∀ k, i + 1 ≤ k → k < i + 1 + m → RowR μ arr (k * s) z := fun k h1 h2 => hrow k (by omega) (by omega)
    cases ps with
    | nil =>
      cases cs with
      | nil =>
        simp only [seqRows] at hq
        cases hq' : seqRows z [] m (i + 1) with
        | none => rw [hq'] at hq; cases hq
        | some rs' =>
          rw [hq'] at hq
          simp only [Option.map_some, Option.some.injEq] at hq
          exact next arr [] z rs' rfl (hrow i (by omega) (by omega)) (.inr rfl) (fun _ _ => rfl) hq.symm (ih [] [] (i + 1) arr rs' rfl hp (by rw [hsz]; congr 1; omega) hrow' hq')
      | cons c cs => simp at hlen
    | cons p ps =>
      cases cs with
      | nil => simp at hlen
      | cons c cs =>
        obtain ⟨j, v⟩ := p
        obtain ⟨j', u⟩ := c
        obtain ⟨hj, hv⟩ := hp 0 _ _ rfl rfl
        simp only at hj hv
        subst hj
        simp only [seqRows] at hq
        by_cases hji : Nat.beq j i = true
        · rw [hji] at hq
          simp only [cond_true] at hq
          rw [Nat.beq_eq] at hji
          subst hji
          cases hc : cellsOfA v with
          | none => rw [hc] at hq; cases hq
          | some l =>
            rw [hc] at hq
            simp only [] at hq
            by_cases hcnd : (Nat.beq l.length z.length && allCells l) = true
            · rw [hcnd] at hq
              simp only [cond_true] at hq
              rw [Bool.and_eq_true, Nat.beq_eq] at hcnd
              obtain ⟨hl, hall⟩ := hcnd
              cases hq' : seqRows z ps m (j + 1) with
              | none => rw [hq'] at hq; cases hq
              | some rs' =>
                rw [hq'] at hq
                simp only [Option.map_some, Option.some.injEq] at hq
                have hlr := hv.cells hc
                have hl1 := hlr.length
                simp only [Array.length_toList] at hl1
                have hjm : (j + (m + 1)) * s = j * s + s + m * s := by rw [Nat.add_mul, Nat.succ_mul]; omega
                have hfit : j * s + u.cells.toList.length ≤ arr.size := by simp; omega
                have hss := splice_size hfit
                have hget := splice_get hfit
                have hstep : Instr.fill (fun i => some (i * s, s)) arr ((j, u) :: cs) = Instr.fill (fun i => some (i * s, s)) (splice arr (j * s) u.cells.toList) cs := by
                  simp only [Instr.fill]
                  rw [if_neg (by simp; omega), zipIdx_foldl _ _ _ (by omega)]
                rw [hstep]
                refine next _ cs l rs' hss (fun k a ha => ?_) (.inl ⟨by omega, hall⟩) (fun k hk => ?_) hq.symm
                  (ih ps cs (j + 1) _ rs' (by simpa using hlen) (fun k p c h1 h2 => hp (k + 1) p c (by simpa using h1) (by simpa using h2)) (by rw [hss, hsz]; congr 1; omega) (fun k h1 h2 a b hab => ?_) hq')
                · obtain ⟨x, hx, hxr⟩ := hlr.get k a ha
                  refine ⟨x, ?_, hxr⟩
                  have := (List.getElem?_eq_some_iff.1 ha).1
                  rw [hget, if_neg (by omega), if_pos (by simp; omega), ← hx]; congr 1; omega
                · rw [hget, if_pos hk]
                · obtain ⟨x, hx, hxr⟩ := hrow' k h1 h2 a b hab
                  refine ⟨x, ?_, hxr⟩
                  have := mul_step h1 s
                  rw [hget, if_neg (by omega), if_neg (by simp; omega)]; exact hx
            · rw [Bool.not_eq_true] at hcnd; rw [hcnd] at hq; cases hq
        · rw [Bool.not_eq_true] at hji
          rw [hji] at hq
          simp only [cond_false] at hq
          cases hq' : seqRows z ((j, v) :: ps) m (i + 1) with
          | none => rw [hq'] at hq; cases hq
          | some rs' =>
            rw [hq'] at hq
            simp only [Option.map_some, Option.some.injEq] at hq
            exact next arr ((j, u) :: cs) z rs' rfl (hrow i (by omega) (by omega)) (.inr rfl) (fun _ _ => rfl) hq.symm (ih _ _ (i + 1) arr rs' hlen hp (by rw [hsz]; congr 1; omega) hrow' hq')

/-- The tree of a list of rows. -/
def treeOf (z : List AV) : List (List AV) → Tr (List AV) → Nat → Tr (List AV)
  | [], c, _ => c
  | r :: l, c, i => treeOf z l (putR (path i) c r z) (i + 1)
theorem setRowsK_eq (z : List AV) (l : List (List AV)) : ∀ (c : Tr (List AV)) (i : Nat) (k : Tr (List AV) → X), setRowsK z l c i k = k (treeOf z l c i) := by
  induction l with
  | nil => intro c i k; rfl
  | cons r l ih =>
    intro c i k
    show setR (path i) c r z (fun c' => fNat (Nat.succ i) fun j => setRowsK z l c' j k) = _
    rw [setR_eq, fNat_eq, ih]; rfl
theorem treeOf_get (d : List AV) (l : List (List AV)) : ∀ (c : Tr (List AV)) (i : Nat) (q : Nat), getR (treeOf d l c i) (path q) d = if i ≤ q ∧ q < i + l.length then (l[q - i]?).getD d else getR c (path q) d := by
  induction l with
  | nil => intro c i q; rw [if_neg (by simp)]; rfl
  | cons r l ih =>
    intro c i q
    show getR (treeOf d l (putR (path i) c r d) (i + 1)) (path q) d = _
    rw [ih, get_putR]
    by_cases h1 : i + 1 ≤ q ∧ q < i + 1 + l.length
    · rw [if_pos h1, if_pos (by simp; omega), show q - i = (q - (i + 1)) + 1 by omega]; simp
    · rw [if_neg h1]
      by_cases h2 : q = i
      · subst h2
        rw [if_pos rfl, if_pos (by simp)]; simp
      · rw [if_neg (fun e => h2 (path_inj e)), if_neg (by simp; omega)]
theorem packRows_spec : ∀ {rs : List (List AV)} {M : Nat}, packRows rs = some M → M < 256 ^ rs.length ∧ ∀ i, i < rs.length → rs[i]? = some [.int .u8 (.ofNat (byteAt M i))]
  | [], M, h => by simp only [packRows, Option.some.injEq] at h; subst h; exact ⟨by simp, fun i hi => by simp at hi⟩
  | row :: l, M, h => by
    unfold packRows at h
    split at h
    · simp_all
    · rename_i v l' heq
      simp only [List.cons.injEq] at heq
      obtain ⟨rfl, rfl⟩ := heq
      split at h
      · rename_i b N hb hp
        simp only [Option.some.injEq] at h
        obtain ⟨rfl, hlt⟩ := byteOfA_inv hb
        obtain ⟨h1, h2⟩ := packRows_spec hp
        subst h
        refine ⟨by simp only [List.length_cons, Nat.pow_succ]; omega, fun i hi => ?_⟩
        have hj := byteAt_join (lo := b) (hi := N) (i := 1) (by simpa using hlt) i
        rw [Nat.pow_one] at hj
        cases i with
        | zero => rw [hj, if_pos (by omega)]; simp [byteAt_eq]; omega
        | succ i => rw [hj, if_neg (by omega)]; simpa using h2 i (by simpa using hi)
      · cases h
    · cases h
theorem byte_zero {e : TypeId} {z : List AV} (hb : isByteA P e = true) (hz : zeroCellsA P e = some z) : z = [.int .u8 (.ofNat 0)] ∧ P.underlying e = some (.int .u8) := by
  unfold isByteA at hb
  rw [hz, Bool.and_eq_true] at hb
  obtain ⟨h1, h2⟩ := hb
  refine ⟨?_, ?_⟩
  · simp only at h2
    unfold zByte at h2
    split at h2
    · rfl
    · cases h2
  · split at h1
    · assumption
    · cases h1
theorem byte_und {e : TypeId} (hb : isByteA P e = true) : P.underlying e = some (.int .u8) := by
  unfold isByteA at hb
  rw [Bool.and_eq_true] at hb
  obtain ⟨h1, _⟩ := hb
  split at h1
  · assumption
  · cases h1
theorem byte_cells {e : TypeId} (hb : isByteA P e = true) : ∃ z, zeroCellsA P e = some z := by
  unfold isByteA at hb
  rw [Bool.and_eq_true] at hb
  obtain ⟨_, h2⟩ := hb
  cases hz : zeroCellsA P e with
  | none => rw [hz] at h2; cases h2
  | some z => exact ⟨z, rfl⟩
theorem byte_size {e : TypeId} (hb : isByteA P e = true) : sizeA P e = some 1 := by
  obtain ⟨z, hz⟩ := byte_cells hb
  have := (zeroCells_spec (w := default) hz).1
  rw [(byte_zero hb hz).1] at this; exact this
theorem VR.slice0 {b blk len cap slack : Nat} {g : Bool} (h : μ b = some ⟨blk, 0, slack⟩) : VR μ (.slice b 0 len cap g) (.slice (some ⟨blk, 0, none⟩) len (cap + if g then slack else 0)) := .slice b 0 len cap g ⟨blk, 0, slack⟩ h
/-- A new row, exact in its capacity. -/
theorem row_new (h : HR w0 G μ H w) {e : TypeId} {arr : Array Value} {o : AObj} (ho : ∀ ν : Mu, μ.le ν → OR ν ⟨w.heap.size, 0, 0⟩ o (.cells arr e)) {len cap : Nat}
    (hr : r = .ok (.value (.slice (some ⟨w.heap.size, 0, none⟩) len cap)) { w with heap := w.heap.push (.cells arr e) }) : XR P w0 G μ H.size (.val (.slice H.size 0 len cap false) (H.push o)) r :=
  XR.new (h.push (L := ⟨w.heap.size, 0, 0⟩) (grew w _) rfl (ho _ (Mu.up_le (h.dom _ (Nat.le_refl _)) _))) (by have := VR.slice0 (μ := μ.up H.size ⟨w.heap.size, 0, 0⟩) (b := H.size) (len := len) (cap := cap) (g := false) (Mu.up_same _ _ _); simpa using this) hr
theorem seq_one {μ : Mu} {z : List AV} {zc : Array Value} (_ : LR μ z zc.toList) (ha : z.all cellB = true) (h0 : 0 < z.length) {len : Nat} {arr : Array Value} (hs : arr.size = len * z.length) {rs : List (List AV)}
    (h4 : ∀ (k : Nat) (row : List AV), rs[k]? = some row → row.length = z.length ∧ allCells row = true ∨ row = z) (h3 : rs.length = len) (h6 : ∀ (k : Nat) (row : List AV), rs[k]? = some row → RowR μ arr (k * z.length) row) : One arr := fun v hv => by
  rw [Array.mem_toList_iff] at hv
  obtain ⟨i, hi, rfl⟩ := Array.getElem_of_mem hv
  have hi' : i < len * z.length := by omega
  have h1 : i / z.length < len := by rw [Nat.div_lt_iff_lt_mul h0]; exact hi'
  have h2 : i % z.length < z.length := Nat.mod_lt _ h0
  have hrow : rs[i / z.length]? = some (rs[i / z.length]'(by omega)) := List.getElem?_eq_getElem (by omega)
  have hlen : (rs[i / z.length]'(by omega)).length = z.length := by
    rcases h4 _ _ hrow with ⟨h, _⟩ | h
    · exact h
    · rw [h]
  have hall : ∀ a ∈ (rs[i / z.length]'(by omega)), cellB a = true := by
    rcases h4 _ _ hrow with ⟨_, h⟩ | h
    · intro a hm
      have key : ∀ l : List AV, allCells l = true → ∀ a ∈ l, cellB a = true := by
        intro l
        induction l with
        | nil => intro _ a ha; cases ha
        | cons x l ih =>
          intro hl a ha
          simp only [allCells, Bool.and_eq_true] at hl
          rcases List.mem_cons.1 ha with e | e
          · rw [e]; exact hl.1
          · exact ih hl.2 a e
      exact key _ h a hm
    · rw [h]; exact fun a hm => List.all_eq_true.1 ha a hm
  obtain ⟨u, hu, hr⟩ := h6 _ _ hrow (i % z.length) _ (List.getElem?_eq_getElem (by omega))
  have e := div_mod i z.length
  rw [← e, Array.getElem?_eq_getElem hi, Option.some.injEq] at hu
  rw [hu]
  exact hr.one (hall _ (List.getElem_mem _))
theorem buildSlice_sound (h : HR w0 G μ H w) {t : TypeId} {len : Nat} {ps : List (Nat × AV)} {cs : Array (Nat × Value)} (hlen : ps.length = cs.toList.length)
    (hp : ∀ (i : Nat) (p : Nat × AV) (c : Nat × Value), ps[i]? = some p → cs.toList[i]? = some c → p.1 = c.1 ∧ VR μ p.2 c.2)
    (hr : ∀ v w', (Instr.buildSlice t len cs).run P w = .ok v w' → r = .ok (.value v) w') : XR P w0 G μ H.size (buildSliceA P t len ps H) r := by
  unfold buildSliceA
  split
  · rename_i e hu
    split
    · rename_i z hz
      refine XR.cond (fun hc => ?_) (fun _ => trivial)
      rw [Bool.and_eq_true, Nat.blt_eq, Nat.ble_eq] at hc
      obtain ⟨hz0, hbig⟩ := hc
      have hbig : len * z.length ≤ 16777216 := hbig
      obtain ⟨hs, zv, hzr, hzl⟩ := zeroCells_spec (w := w) hz
      split
      · rename_i rs hrs
        have hzlen := (hzl μ).length
        simp only [Array.length_toList] at hzlen
        obtain ⟨arr, h1, h2, h3, h4, _, h6⟩ := seqRows_sound (s := z.length) rfl len ps cs.toList 0 ((Array.range (len * z.length)).map fun k => zv.cells[k % zv.cells.size]!) rs hlen hp (by simp) (fun k _ hk => zeros_row (hzl μ) (by omega)) hrs
        have hrun : (Instr.buildSlice t len cs).run P w = .ok (.slice (some ⟨w.heap.size, 0, none⟩) len len) { w with heap := w.heap.push (.cells arr e) } := by
          simp only [Instr.buildSlice, Sem.run_bind, run_underlying hu, Result.andThen_ok, run_sizeOf hs]
          rw [Sem.run_ite, if_neg (by omega)]
          by_cases h0 : len * z.length = 0
          · rw [h0, range0] at h1
            simp only [h0, if_true, Sem.run_bind, Sem.run_pure, Result.andThen_ok, range0, h1, run_newRow]
          · simp only [h0, if_false, Sem.run_bind, hzr, Result.andThen_ok, Sem.run_pure, h1, run_newRow]
        have hr' := hr _ _ hrun
        have hsz : arr.size = len * z.length := by rw [h2]; simp
        refine XR.cond (fun hb => ?_) (fun _ => ?_)
        · obtain ⟨hz1, _⟩ := byte_zero hb hz
          have hzl1 : z.length = 1 := by rw [hz1]; rfl
          cases hpk : packRows rs with
          | none => trivial
          | some M =>
            show XR P w0 G μ H.size (fNat _ _) r
            rw [fNat_eq, pushK_eq]
            obtain ⟨m1, m2⟩ := packRows_spec hpk
            refine row_new h (o := .bytes len (sealB M) e false) (arr := arr) (e := e) (fun ν hν => ⟨arr, (0, 0), rfl, by rw [h3] at m1; rw [core_seal]; exact m1, by simp [hsz, hzl1], fun i hi => ?_, free_none _, fun _ => rfl⟩) hr'
            obtain ⟨v, hv, hvr⟩ := h6 i _ (m2 i (by omega)) 0 _ rfl
            rw [hvr.int_inv, hzl1] at hv
            rw [core_seal]
            simpa using hv
        · rw [setRowsK_eq, pushK_eq]
          have hone : One arr := seq_one (hzl μ) (zeroCells_all hz) hz0 hsz (fun k row hk => (h4 k row hk)) h3 (fun k row hk => by have := h6 k row hk; rwa [Nat.zero_add] at this)
          refine row_new h (o := .rows len z.length (treeOf z rs .nil 0) z e) (arr := arr) (e := e) (fun ν hν => ⟨arr, rfl, by simp [hsz], fun i hi => ?_, hone⟩) hr'
          rw [treeOf_get, if_pos (by omega)]
          have hrow : rs[i]? = some (rs[i]'(by omega)) := List.getElem?_eq_getElem (by omega)
          rw [Nat.sub_zero, hrow, Option.getD_some]
          have := h6 i _ hrow
          simp only [Nat.zero_add] at this ⊢
          refine ⟨?_, this.mono hν⟩
          rcases h4 i _ hrow with ⟨h', _⟩ | h'
          · exact h'
          · rw [h']
      · trivial
    · trivial
  · trivial
theorem makeSlice_sound (h : HR w0 G μ H w) {t : TypeId} {len cap : AV} {lv cv : Value} (hl : VR μ len lv) (hc : VR μ cap cv)
    (hr : ∀ v w', (Instr.makeSlice t lv cv).run P w = .ok v w' → r = .ok (.value v) w') : XR P w0 G μ H.size (makeSliceA P t len cap H) r := by
  unfold makeSliceA
  split
  · rename_i e k l k' c hu
    have hl := hl.int_inv
    have hc := hc.int_inv
    subst hl hc
    split
    · rename_i z hz
      refine XR.cond (fun hcnd => ?_) (fun _ => trivial)
      rw [Bool.and_eq_true, Bool.and_eq_true, Bool.and_eq_true, Nat.ble_eq, Nat.ble_eq, Nat.blt_eq, Nat.ble_eq] at hcnd
      obtain ⟨⟨⟨hlc, hby⟩, hz0⟩, hcm⟩ := hcnd
      have hby : c * P.bytesOf e ≤ 1099511627776 := hby
      obtain ⟨hs, zv, hzr, hzl⟩ := zeroCells_spec (w := w) hz
      have hzlen := (hzl μ).length
      simp only [Array.length_toList] at hzlen
      have hi : ∃ i, P.info? e = some i ∧ i.bytes = P.bytesOf e := by
        unfold sizeA at hs
        cases hq : P.info? e with
        | none => rw [hq] at hs; cases hs
        | some i => exact ⟨i, rfl, by simp [Program.bytesOf, hq]⟩
      obtain ⟨i, hi, hib⟩ := hi
      have w1 : IntKind.i64.wrap (l : Int) = (l : Int) := IntWalk.i64_in _ (by omega)
      have w2 : IntKind.i64.wrap (c : Int) = (c : Int) := IntWalk.i64_in _ (by omega)
      have hbi : ((i.bytes : Nat) : Int) * (c : Int) ≤ 1099511627776 := by rw [hib, ← Int.natCast_mul, Nat.mul_comm]; omega
      have hrun : (Instr.makeSlice t (.int k (Int.ofNat l)) (.int k' (Int.ofNat c))).run P w = .ok (.slice (some ⟨w.heap.size, 0, none⟩) l c) { w with heap := w.heap.push (.cells ((Array.range (c * z.length)).map fun k => zv.cells[k % zv.cells.size]!) e) } := by
        simp only [Instr.makeSlice, Sem.run_bind, run_underlying hu, Result.andThen_ok, asInt, asIntOf, Sem.run_pure, typeInfo, run_program, hi, Int.ofNat_eq_natCast, w1, w2]
        rw [Sem.run_ite, if_neg (by simp only [Bool.or_eq_true, decide_eq_true_eq]; omega)]
        simp only [Sem.run_pure, Result.andThen_ok, Sem.run_bind, run_askRoom, run_sizeOf hs, Int.toNat_natCast]
        by_cases h0 : c * z.length = 0
        · simp only [h0, if_true, Sem.run_bind, Sem.run_pure, Result.andThen_ok, run_newRow, range0]
        · simp only [h0, if_false, Sem.run_bind, hzr, Result.andThen_ok, Sem.run_pure, run_newRow]
      have hr' := hr _ _ hrun
      refine XR.cond (fun hb => ?_) (fun _ => ?_)
      · obtain ⟨hz1, _⟩ := byte_zero hb hz
        have hzl1 : z.length = 1 := by rw [hz1]; rfl
        rw [pushK_eq, rSlice_eq]
        refine row_new h (o := .bytes c 0 e false) (e := e) (fun ν hν => ⟨_, (0, 0), rfl, Nat.pow_pos (by omega), by simp [hzl1], fun i hi => ?_, free_none _, fun _ => rfl⟩) hr'
        have := zeros_row (μ := μ) (hzl μ) hi 0 (.int .u8 (.ofNat 0)) (by rw [hz1]; rfl)
        obtain ⟨v, hv, hvr⟩ := this
        rw [hvr.int_inv, hzl1] at hv
        rw [core_zero, byteAt_zero]
        simpa [hzl1] using hv
      · rw [pushK_eq, rSlice_eq]
        refine row_new h (o := .rows c z.length .nil z e) (e := e) (fun ν hν => ⟨_, rfl, by simp, fun i hi => ?_, zeros_one (hzl μ) (zeroCells_all hz)⟩) hr'
        rw [getR_nil]
        have := (zeros_row (μ := μ) (hzl μ) hi).mono hν
        simp only [Nat.zero_add]
        exact ⟨trivial, this⟩
    · trivial
  · trivial
end
end Go.Proofs.YtmapmbfohilklaaGreat.Ab
