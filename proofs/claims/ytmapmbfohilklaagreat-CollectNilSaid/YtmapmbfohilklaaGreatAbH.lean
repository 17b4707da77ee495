/-
  The abstract machine: stores, new variables, literals.
-/
import Derived.Test.YtmapmbfohilklaaGreatAbG
namespace Go.Proofs.YtmapmbfohilklaaGreat.Ab
open Go.RowKit

section
variable {P : Program} {w0 w : World} {G : Nat} {μ : Mu} {H : AH} {r : Result Next}
theorem VR.cells_one {a : AV} {u : Value} (h : VR μ a u) (hb : cellB a = true) : u.cells = #[u] := by
  cases h <;> first | rfl | (simp [cellB] at hb; done) | (rename_i hv; cases u <;> first | rfl | cases hv)
theorem byte_cellB {v : AV} {x : Nat} (h : byteOfA v = some x) : cellB v = true := by obtain ⟨rfl, _⟩ := byteOfA_inv h; rfl
theorem run_storeVar (t : TypeId) {s : Nat} (hs : sizeA P t = some s) {g o : Nat} {e : TypeId} {fz : Nat × Nat} {arr : Array Value} (hg : w.heap[g]? = some (.cells arr e fz)) (hf : Free fz arr.size)
    {u : Value} (hl : u.cells.toList.length = s) (hb : o + u.cells.toList.length ≤ arr.size) (h1 : ∀ v ∈ u.cells.toList, v.oneCell' = true) : (storeVar t ⟨g, o, none⟩ u).run P w = .ok () (w.setRow g (splice arr o u.cells.toList)) := by
  have := run_storeCells_free P g o e fz u.cells.toList 0 arr w hg hf (by omega) h1
  rw [Nat.add_zero] at this
  have hl' : u.cells.size = s := by simpa using hl
  simp [storeVar, run_sizeOf hs, hl', this]
theorem free_none (n : Nat) : Free (0, 0) n := .inl rfl
theorem put_bytes (h : HR w0 G μ H w) {b : Nat} {L : Loc} (hL : μ b = some L) (hG : G ≤ b) {n N : Nat} {e : TypeId} {st : Bool} (hg : H.get b = .bytes n N e st) {arr : Array Value} {fz : Nat × Nat}
    (ho : w.heap[L.blk]? = some (.cells arr e fz)) (hf : Free fz arr.size) (hst : st = false → fz = (0, 0)) {off M : Nat} {vs : List Value}
    (hb : L.base + off + vs.length ≤ arr.size) (hlt : putB (coreB N) off vs.length M < 256 ^ n) (hsz : L.base + n + L.slack ≤ arr.size) (hc : ∀ i, i < n → (splice arr (L.base + off) vs)[L.base + i]? = some (.int .u8 (.ofNat (byteAt (putB (coreB N) off vs.length M) i)))) :
    HR w0 G μ (H.set b (.bytes n (sealB (putB (coreB N) off vs.length M)) e st)) (w.setRow L.blk (splice arr (L.base + off) vs)) := by
  have hs := splice_size (arr := arr) (k := L.base + off) (vs := vs) hb
  refine h.set hL hG (by rw [hg]; intro h; cases h) (apart_setRow _ _ _) (setRow_heap w _ _ _ e fz ho) ⟨_, fz, rfl, by rw [core_seal]; exact hlt, by rw [hs]; exact hsz, by rw [core_seal]; exact hc, by rw [hs]; exact hf, hst⟩
theorem cellPut_sound (h : HR w0 G μ H w) {b off : Nat} {L : Loc} (hL : μ b = some L) (hG : G ≤ b) {t : TypeId} (hs : sizeA P t = some 1) {v : AV} {u : Value} (hv : VR μ v u)
    (hr : ∀ w', (storeVar t ⟨L.blk, L.base + off, none⟩ u).run P w = .ok () w' → r = .ok .skip w') : XR P w0 G μ H.size (cellPut (H.get b) off b v H) r := by
  cases hg : H.get b with
  | bytes n N e st =>
    refine XR.onB (fun hlt => XR.onON (fun x hx => ?_) trivial) (fun _ => trivial)
    rw [Nat.blt_eq] at hlt
    rw [fNat_eq, setK_eq]
    obtain ⟨arr, fz, ho, hN, hsz, hc, hf, hst⟩ := h.bytes hL hg
    have hcell := hv.cells_one (byte_cellB hx)
    have hcl : u.cells.toList = [u] := by rw [hcell]
    obtain ⟨rfl, hx2⟩ := byteOfA_inv hx
    have hu := hv.int_inv
    have hb : off + [u].length ≤ n := by simp; omega
    obtain ⟨p1, p2, p3⟩ := bytes_put (M := x) (vs := [u]) (off := off) hN hsz hc (by simpa using hx2) (fun i hi => by
      have : i = 0 := by simpa using hi
      subst this; rw [hu]; simp [byteAt_eq]; omega) hb
    have hrun := run_storeVar (P := P) t hs ho hf (o := L.base + off) (u := u) (by rw [hcl]; rfl) (by rw [hcl]; exact p1) (by rw [hcl]; intro v' hv'; simp at hv'; subst hv'; rw [hu]; rfl)
    rw [hcl] at hrun
    have hput := put_bytes h hL hG hg ho hf hst p1 p2 hsz p3
    rw [List.length_singleton] at hput
    exact XR.skip hput (hr _ hrun)
  | rows n s c z e =>
    refine XR.onB (fun hlt => ?_) (fun _ => trivial)
    have hlt : (Nat.blt off (Nat.mul n s) && cellB v) = true := hlt
    rw [Bool.and_eq_true, Nat.blt_eq] at hlt
    obtain ⟨hlt, hcb⟩ := hlt
    obtain ⟨arr, ho, hsz, hc⟩ := h.rows hL hg
    obtain ⟨h1, h2, h3⟩ := row_lt hlt
    have hcell := hv.cells_one hcb
    have hcl : u.cells.toList = [u] := by rw [hcell]
    have hdm := div_mod off s
    obtain ⟨p1, p2⟩ := rows_put (L := L) (new := [v]) (vs := [u]) (i := off / s) (j := off % s) hsz hc h1 (by simp; omega) (.mk1 hv)
    rw [show L.base + off / s * s + off % s = L.base + off by omega] at p1 p2
    have hrun := run_storeVar (P := P) t hs ho (free_none _) (o := L.base + off) (u := u) (by rw [hcl]; rfl) (by rw [hcl]; exact p1) (by rw [hcl]; intro v' hv'; simp at hv'; subst hv'; exact hv.one hcb)
    rw [hcl] at hrun
    have hss := splice_size (arr := arr) (k := L.base + off) (vs := [u]) p1
    have hfin : HR w0 G μ (H.set b (.rows n s (putR (path (off / s)) c (putAt (getR c (path (off / s)) z) (off % s) [v]) z) z e)) (w.setRow L.blk (splice arr (L.base + off) [u])) :=
      h.set hL hG (by rw [hg]; intro h; cases h) (apart_setRow _ _ _) (setRow_heap w _ _ _ e (0, 0) ho) ⟨_, rfl, by rw [hss]; exact hsz, p2, (h.rowsOne hL hg ho).splice (fun v' hv' => by simp at hv'; subst hv'; exact hv.one hcb)⟩
    refine XR.onB (fun hs1 => ?_) (fun _ => ?_)
    · rw [Nat.beq_eq] at hs1
      subst hs1
      rw [setR_eq, setK_eq]
      have e1 : off / 1 = off := Nat.div_one off
      have e2 : off % 1 = 0 := Nat.mod_one off
      have e3 : putAt (getR c (path off) z) 0 [v] = [v] := by
        have := (hc off (by omega)).1
        simp only [putAt, List.take_zero, List.nil_append, List.length_singleton, Nat.zero_add]
        rw [List.drop_of_length_le (by omega)]; rfl
      rw [e1, e2, e3] at hfin
      exact XR.skip hfin (hr _ hrun)
    · rw [setR_eq, setK_eq]
      exact XR.skip hfin (hr _ hrun)
  | _ => trivial
theorem storeA_sound (h : HR w0 G μ H w) {b off : Nat} {L : Loc} (hL : μ b = some L) {t : TypeId} {v : AV} {u : Value} (hv : VR μ v u)
    (hr : ∀ w', (storeVar t ⟨L.blk, L.base + off, none⟩ u).run P w = .ok () w' → r = .ok .skip w') : XR P w0 G μ H.size (storeA P G t b off v H) r := by
  unfold storeA
  split
  · rename_i l s hl hs
    refine XR.cond (fun hc => ?_) (fun _ => trivial)
    rw [Bool.and_eq_true, Nat.beq_eq, Nat.ble_eq] at hc
    obtain ⟨hlen, hG⟩ := hc
    have hlr := hv.cells hl
    have hlen' : u.cells.toList.length = s := by rw [← hlr.length]; exact hlen
    refine XR.cond (fun h0 => ?_) (fun _ => ?_)
    · rw [Nat.beq_eq] at h0
      subst h0
      have hnil : u.cells.toList = [] := List.length_eq_zero_iff.1 hlen'
      have hz : u.cells.size = 0 := by simpa using hlen'
      exact XR.skip h (hr w (by simp [storeVar, run_sizeOf hs, hz, hnil, storeCells]))
    · unfold putCellsK
      cases hg : H.get b with
      | bytes n N e st =>
        refine XR.cond (fun hle => ?_) (fun _ => trivial)
        rw [Nat.ble_eq] at hle
        have hle : off + l.length ≤ n := hle
        cases hp : packA l with
        | none => trivial
        | some M =>
          show XR P w0 G μ H.size (fNat _ _) r
          rw [fNat_eq]; dsimp only; rw [setK_eq]
          obtain ⟨arr, fz, ho, hN, hsz, hcell, hf, hst⟩ := h.bytes hL hg
          obtain ⟨m1, m2, m3⟩ := hlr.packed hp
          obtain ⟨p1, p2, p3⟩ := bytes_put (off := off) hN hsz hcell m1 m3 (by omega)
          have hrun := run_storeVar (P := P) t hs ho hf (o := L.base + off) (u := u) hlen' p1 (packed_one m3)
          rw [m2]
          exact XR.skip (put_bytes h hL hG hg ho hf hst p1 p2 hsz p3) (hr _ hrun)
      | rows n s' c z e =>
        refine XR.cond (fun hle => ?_) (fun _ => trivial)
        rw [Bool.and_eq_true, Bool.and_eq_true, Nat.blt_eq, Nat.ble_eq] at hle
        obtain ⟨⟨hlt, hk⟩, hall⟩ := hle
        have hk : off % s' + l.length ≤ s' := hk
        obtain ⟨arr, ho, hsz, hcell⟩ := h.rows hL hg
        obtain ⟨h1, h2, h3⟩ := row_lt hlt
        have hdm := div_mod off s'
        obtain ⟨p1, p2⟩ := rows_put (L := L) (new := l) (vs := u.cells.toList) (i := off / s') (j := off % s') hsz hcell h1 hk hlr
        rw [show L.base + off / s' * s' + off % s' = L.base + off by omega] at p1 p2
        have hrun := run_storeVar (P := P) t hs ho (free_none _) (o := L.base + off) (u := u) hlen' p1 (hlr.allOne hall)
        have hss := splice_size (arr := arr) (k := L.base + off) (vs := u.cells.toList) p1
        have hfin : HR w0 G μ (H.set b (.rows n s' (putR (path (off / s')) c (putAt (getR c (path (off / s')) z) (off % s') l) z) z e)) (w.setRow L.blk (splice arr (L.base + off) u.cells.toList)) :=
          h.set hL hG (by rw [hg]; intro h; cases h) (apart_setRow _ _ _) (setRow_heap w _ _ _ e (0, 0) ho) ⟨_, rfl, by rw [hss]; exact hsz, p2, (h.rowsOne hL hg ho).splice (hlr.allOne hall)⟩
        refine XR.cond (fun hs1 => ?_) (fun _ => ?_)
        · rw [Nat.beq_eq] at hs1
          rw [setR_eq]; dsimp only; rw [setK_eq]
          have e2 : off % s' = 0 := by omega
          have e3 : putAt (getR c (path (off / s')) z) (off % s') l = l := by
            have := (hcell (off / s') h1).1
            simp only [putAt, e2, List.take_zero, List.nil_append, Nat.zero_add]
            rw [List.drop_of_length_le (by omega)]; simp
          rw [e3] at hfin
          exact XR.skip hfin (hr _ hrun)
        · rw [setR_eq]; dsimp only; rw [setK_eq]
          exact XR.skip hfin (hr _ hrun)
      | _ => trivial
  · trivial
theorem storeX_sound (h : HR w0 G μ H w) {b off : Nat} {L : Loc} (hL : μ b = some L) {t : TypeId} {v : AV} {u : Value} (hv : VR μ v u)
    (hr : ∀ w', (storeVar t ⟨L.blk, L.base + off, none⟩ u).run P w = .ok () w' → r = .ok .skip w') : XR P w0 G μ H.size (storeX P G t b off v H) r := by
  refine XR.onB (fun hG => ?_) (fun _ => trivial)
  rw [Nat.ble_eq] at hG
  cases hk : loadKind P t with
  | zero => trivial
  | succ m =>
    cases m with
    | zero =>
      refine cellPut_sound h hL hG ?_ hv hr
      unfold loadKind at hk
      split at hk
      · rename_i h1 h2; exact h2
      · omega
      · omega
    | succ k => exact storeA_sound h hL hv hr

/-! ### a block for one variable -/
theorem grew (w : World) (o : Obj) : Grew o w { w with heap := w.heap.push o } := ⟨rfl, rfl, rfl, rfl⟩
theorem run_newRow (w : World) (e : TypeId) (c : Array Value) : (newRow e c).run P w = .ok ⟨w.heap.size, 0, none⟩ { w with heap := w.heap.push (.cells c e) } := by simp [newRow]
theorem VR.ptr0 {b blk slack : Nat} (h : μ b = some ⟨blk, 0, slack⟩) : VR μ (.ptr b 0) (.pointer (some ⟨blk, 0, none⟩)) := .ptr b 0 ⟨blk, 0, slack⟩ h
theorem getR_one (l : List AV) (z : List AV) : getR (.node l .nil .nil) (path 0) z = l := rfl
theorem newVar_sound (h : HR w0 G μ H w) {t : TypeId} {v : AV} {u : Value} (hv : VR μ v u)
    (hr : r = .ok (.value (.pointer (some ⟨w.heap.size, 0, none⟩))) { w with heap := w.heap.push (.cells u.cells t) }) : XR P w0 G μ H.size (newVarK P t v H) r := by
  unfold newVarK
  split
  · rename_i l s hl hs
    refine XR.cond (fun hc => ?_) (fun _ => trivial)
    rw [Bool.and_eq_true, Nat.beq_eq] at hc
    obtain ⟨hlen, hall⟩ := hc
    have hlr := hv.cells hl
    have hlen' : u.cells.size = s := by have := hlr.length; simp at this; omega
    refine XR.cond (fun hby => ?_) (fun _ => ?_)
    · cases hp : packA l with
      | none => trivial
      | some M =>
        show XR P w0 G μ H.size (fNat _ _) r
        rw [fNat_eq, pushK_eq]
        obtain ⟨m1, m2, m3⟩ := hlr.packed hp
        have hone : u.cells.toList.length = 1 := by
          unfold isByteA at hby
          rw [Bool.and_eq_true] at hby
          obtain ⟨_, hz⟩ := hby
          unfold zeroCellsA at hz
          rw [hs] at hz
          cases hq : (zeroA P t).bind cellsOfA with
          | none => rw [hq] at hz; simp at hz
          | some z =>
            rw [hq] at hz
            simp only [] at hz
            by_cases hzl : z.length = s ∧ z.all cellB = true
            · rw [if_pos hzl] at hz
              have hzl := hzl.1
              simp only [] at hz
              have : z.length = 1 := by
                unfold zByte at hz
                split at hz
                · rfl
                · cases hz
              simp; omega
            · rw [if_neg hzl] at hz; simp at hz
        refine XR.new (h.push (L := ⟨w.heap.size, 0, 0⟩) (o := .bytes 1 (sealB M) t false) (grew w _) rfl ⟨u.cells, (0, 0), rfl, by rw [hone] at m1; rw [core_seal]; exact m1, by simp at hone ⊢; omega, fun i hi => ?_, free_none _, fun _ => rfl⟩) (VR.ptr0 (slack := 0) (Mu.up_same _ _ _)) hr
        have := m3 i (by omega)
        rw [core_seal]
        simpa using this
    · rw [pushK_eq]
      refine XR.new (h.push (L := ⟨w.heap.size, 0, 0⟩) (o := .rows 1 s (.node l .nil .nil) l t) (grew w _) rfl ⟨u.cells, rfl, by simp; omega, fun i hi => ?_, hlr.allOne hall⟩) (VR.ptr0 (slack := 0) (Mu.up_same _ _ _)) hr
      obtain rfl : i = 0 := by omega
      rw [getR_one]
      refine ⟨hlen, fun j a ha => ?_⟩
      obtain ⟨x, hx, hxr⟩ := hlr.get j a ha
      exact ⟨x, by simpa using hx, hxr.mono (Mu.up_le (h.dom _ (Nat.le_refl _)) _)⟩
  · trivial

/-! ### literals of structs and arrays -/
theorem foldl_set (vs : List Value) : ∀ (k off : Nat) (arr : Array Value), off + k + vs.length ≤ arr.size → (vs.zipIdx k).foldl (fun cs (x : Value × Nat) => cs.setIfInBounds (off + x.2) x.1) arr = splice arr (off + k) vs := by
  induction vs with
  | nil =>
    intro k off arr _
    simp [splice]
  | cons v vs ih =>
    intro k off arr h
    have h' : off + (k + 1) + vs.length ≤ (arr.setIfInBounds (off + k) v).size := by simp at h ⊢; omega
    rw [List.zipIdx_cons, List.foldl_cons, ih (k + 1) off _ h']
    simp only [splice]
    have e := list_seg_step arr.toList (off + k) v vs (by simp at h ⊢; omega)
    congr 1
    simpa [Array.toList_setIfInBounds, Nat.add_assoc] using e
theorem zipIdx_foldl (arr v : Array Value) (off : Nat) (h : off + v.size ≤ arr.size) : v.zipIdx.foldl (fun cs (x : Value × Nat) => cs.setIfInBounds (off + x.2) x.1) arr = splice arr off v.toList := by
  have := foldl_set v.toList 0 off arr (by simpa using h)
  rw [Nat.add_zero] at this
  rw [← this, ← Array.foldl_toList, Array.toList_zipIdx]
theorem LR.splice {l new : List AV} {arr : Array Value} {vs : List Value} {off : Nat} (h : LR μ l arr.toList) (hn : LR μ new vs) (hb : off + new.length ≤ l.length) : LR μ (putAt l off new) (splice arr off vs).toList := by
  have h1 := h.length
  have h2 := hn.length
  unfold putAt Ab.splice
  simp only [List.append_assoc]
  refine (h.take off).append (hn.append ?_)
  rw [h2]
  exact h.drop _
theorem fill_sound {place : Nat → Option (Nat × Nat)} : ∀ (ps : List (Nat × AV)) (cs : List (Nat × Value)) (l : List AV) (arr : Array Value) (l' : List AV),
    ps.length = cs.length → (∀ (i : Nat) (p : Nat × AV) (c : Nat × Value), ps[i]? = some p → cs[i]? = some c → p.1 = c.1 ∧ VR μ p.2 c.2) → LR μ l arr.toList → fillA place l ps = some l' →
    ∃ arr', Instr.fill place arr cs = some arr' ∧ LR μ l' arr'.toList
  | [], [], l, arr, l', _, _, hl, hf => by simp only [fillA, Option.some.injEq] at hf; subst hf; exact ⟨arr, rfl, hl⟩
  | [], _ :: _, _, _, _, hlen, _, _, _ => by simp at hlen
  | _ :: _, [], _, _, _, hlen, _, _, _ => by simp at hlen
  | (i, v) :: ps, (j, u) :: cs, l, arr, l', hlen, hp, hl, hf => by
    obtain ⟨hij, hv⟩ := hp 0 _ _ rfl rfl
    simp only at hij hv
    subst hij
    simp only [fillA] at hf
    cases hpl : place i with
    | none => rw [hpl] at hf; cases hf
    | some q =>
      obtain ⟨off, size⟩ := q
      cases hc : cellsOfA v with
      | none => rw [hpl, hc] at hf; cases hf
      | some new =>
        rw [hpl, hc] at hf
        simp only [] at hf
        by_cases hcnd : (Nat.beq new.length size && Nat.ble (off + size) l.length) = true
        · rw [hcnd] at hf
          simp only [cond_true] at hf
          rw [Bool.and_eq_true, Nat.beq_eq, Nat.ble_eq] at hcnd
          obtain ⟨h1, h2⟩ := hcnd
          have hlr := hv.cells hc
          have hl1 := hlr.length
          have hl2 := hl.length
          simp only [Array.length_toList] at hl1 hl2
          obtain ⟨arr', ha, hb⟩ := fill_sound ps cs (putAt l off new) (splice arr off u.cells.toList) l' (by simpa using hlen) (fun i p c h1 h2 => hp (i + 1) p c (by simpa using h1) (by simpa using h2)) (hl.splice hlr (by omega)) hf
          refine ⟨arr', ?_, hb⟩
          simp only [Instr.fill, hpl]
          rw [if_neg (by simp; omega), zipIdx_foldl _ _ _ (by omega)]
          exact ha
        · rw [Bool.not_eq_true] at hcnd; rw [hcnd] at hf; cases hf
theorem LR.one_all {l : List AV} {vs : List Value} (h : LR μ l vs) (hl : l.all cellB = true) : ∀ v ∈ vs, v.oneCell' = true := fun v hv => by
  obtain ⟨i, hi, rfl⟩ := List.getElem_of_mem hv
  have hlen := h.length
  obtain ⟨u, hu, hr⟩ := h.get i l[i] (List.getElem?_eq_getElem (by omega))
  rw [List.getElem?_eq_getElem hi, Option.some.injEq] at hu
  rw [hu]
  exact hr.one (List.all_eq_true.1 hl _ (List.getElem_mem _))
theorem zeroCells_all {t : TypeId} {z : List AV} (h : zeroCellsA P t = some z) : z.all cellB = true := by
  unfold zeroCellsA at h
  split at h
  · rename_i l s h1 h2
    by_cases e : l.length = s ∧ l.all cellB = true
    · rw [if_pos e] at h
      simp only [Option.some.injEq] at h
      subst h
      exact e.2
    · rw [if_neg e] at h; cases h
  · cases h
theorem zeroCells_spec {t : TypeId} {z : List AV} (h : zeroCellsA P t = some z) : sizeA P t = some z.length ∧ ∃ v, (zeroValue t).run P w = .ok v w ∧ ∀ μ : Mu, LR μ z v.cells.toList := by
  unfold zeroCellsA at h
  split at h
  · rename_i l s h1 h2
    by_cases e : l.length = s ∧ l.all cellB = true
    · rw [if_pos e] at h
      have e := e.1
      simp only [Option.some.injEq] at h
      subst h
      cases hz : zeroA P t with
      | none => rw [hz] at h1; cases h1
      | some a =>
        rw [hz] at h1
        simp only [Option.bind_some] at h1
        obtain ⟨v, hv, hva⟩ := run_zero (w := w) hz
        exact ⟨by rw [h2, e], v, hv, fun μ => (hva ▸ VR.ofConst μ v).cells h1⟩
    · rw [if_neg e] at h; cases h
  · cases h
theorem run_fieldPlaces : ∀ (fs : List Field) (ps : List (Nat × Nat)), fieldPlaces P fs = some ps → (fs.mapM fun f => do pure (f.offset, ← sizeOf f.type) : Sem (List (Nat × Nat))).run P w = .ok ps w
  | [], ps, h => by simp only [fieldPlaces, Option.some.injEq] at h; subst h; simp
  | f :: fs, ps, h => by
    simp only [fieldPlaces] at h
    split at h
    · rename_i s l h1 h2
      simp only [Option.some.injEq] at h
      subst h
      have := run_fieldPlaces fs l h2
      simp only [List.mapM_cons, Sem.run_bind, Sem.run_pure, Result.andThen_ok, run_sizeOf h1, this]
    · cases h
theorem fastA_fill {place : Nat → Option (Nat × Nat)} {tot : Nat} : ∀ (ps : List (Nat × AV)) (off : Nat) (pre suf l : List AV), pre.length = off → (pre ++ suf).length = tot → fastA place tot off ps = some l → fillA place (pre ++ suf) ps = some (pre ++ l)
  | [], off, pre, suf, l, h1, h2, h => by
    simp only [fastA] at h
    by_cases hb : Nat.beq off tot = true
    · rw [hb] at h
      simp only [cond_true, Option.some.injEq] at h
      subst h
      have := Nat.beq_eq.mp hb
      have : suf = [] := List.eq_nil_of_length_eq_zero (by rw [List.length_append] at h2; omega)
      rw [this]; rfl
    · rw [Bool.not_eq_true] at hb; rw [hb] at h; cases h
  | (i, v) :: ps, off, pre, suf, l, h1, h2, h => by
    simp only [fastA] at h
    cases hpl : place i with
    | none => rw [hpl] at h; cases h
    | some q =>
      obtain ⟨o, size⟩ := q
      cases hc : cellsOfA v with
      | none => rw [hpl, hc] at h; cases h
      | some new =>
        rw [hpl, hc] at h
        simp only [] at h
        by_cases hb : (Nat.beq o off && (Nat.beq new.length size && Nat.ble (Nat.add off size) tot)) = true
        · rw [hb] at h
          simp only [cond_true] at h
          rw [Bool.and_eq_true, Bool.and_eq_true, Nat.beq_eq, Nat.beq_eq, Nat.ble_eq] at hb
          obtain ⟨rfl, hn, hle⟩ := hb
          have hle : o + size ≤ tot := hle
          cases hr : fastA place tot (Nat.add o size) ps with
          | none => rw [hr] at h; cases h
          | some r =>
            rw [hr] at h
            simp only [Option.some.injEq] at h
            subst h
            have hsl : suf.length = tot - o := by rw [List.length_append] at h2; omega
            have e1 : putAt (pre ++ suf) o new = (pre ++ new) ++ suf.drop size := by
              unfold putAt
              rw [List.take_left' h1, List.drop_append, h1, hn, List.drop_of_length_le (by omega)]
              simp [Nat.add_sub_cancel_left]
            have ih := fastA_fill ps (Nat.add o size) (pre ++ new) (suf.drop size) r (by rw [List.length_append, h1, hn]; rfl) (by rw [List.length_append, List.length_append, List.length_drop]; omega) hr
            simp only [fillA, hpl, hc]
            have c1 : (Nat.beq new.length size && Nat.ble (o + size) (pre ++ suf).length) = true := by
              rw [Bool.and_eq_true, Nat.beq_eq, Nat.ble_eq, h2]; exact ⟨hn, hle⟩
            rw [c1, cond_true, e1, ih, List.append_assoc]
        · rw [Bool.not_eq_true] at hb; rw [hb] at h; cases h
theorem fillQ_eq (place : Nat → Option (Nat × Nat)) (z : List AV) (ps : List (Nat × AV)) : fillQ place z ps = fillA place z ps := by
  unfold fillQ
  split
  · rename_i l h
    have := fastA_fill ps 0 [] z l rfl rfl h
    simpa using this.symm
  · rfl
theorem build_sound (h : HR w0 G μ H w) {t : TypeId} {ps : List (Nat × AV)} {cs : Array (Nat × Value)} {n : Nat} (hlen : ps.length = cs.toList.length)
    (hp : ∀ (i : Nat) (p : Nat × AV) (c : Nat × Value), ps[i]? = some p → cs.toList[i]? = some c → p.1 = c.1 ∧ VR μ p.2 c.2)
    (hr : ∀ v, (Instr.build t cs).run P w = .ok v w → r = .ok (.value v) w) : XR P w0 G μ H.size (rOpt (buildA P t ps) n H) r := by
  refine XR.rOpt h fun v hv => ?_
  unfold buildA at hv
  simp only [fillQ_eq] at hv
  split at hv
  · rename_i z fs hz hu
    split at hv
    · rename_i places hpl
      obtain ⟨hs, zv, hzr, hzl⟩ := zeroCells_spec (w := w) hz
      cases hf : fillA (places[·]?) z ps with
      | none => rw [hf] at hv; cases hv
      | some l =>
        rw [hf] at hv
        simp only [Option.map_some, Option.some.injEq] at hv
        subst hv
        obtain ⟨arr, ha, hb⟩ := fill_sound ps cs.toList z zv.cells l hlen hp (hzl μ) hf
        refine ⟨.agg arr, .agg l arr hb, hr _ ?_⟩
        have hm := run_fieldPlaces (w := w) fs.toList places hpl
        have hm' : (fs.mapM fun f => do pure (f.offset, ← sizeOf f.type) : Sem (Array (Nat × Nat))).run P w = .ok places.toArray w := by
          rw [Array.mapM_eq_mapM_toList]
          simp only [Sem.run_map, hm, Result.andThen_ok]
        have ha' : Instr.fill (fun x => places.toArray[x]?) zv.cells cs.toList = some arr := by
          rw [← ha]; congr 1; funext x; simp
        simp only [Instr.build, Sem.run_bind, hzr, Result.andThen_ok, run_underlying hu, hm', ha', Sem.run_pure]
    · cases hv
  · rename_i z n e hz hu
    split at hv
    · rename_i s hsz
      obtain ⟨hs, zv, hzr, hzl⟩ := zeroCells_spec (w := w) hz
      cases hf : fillA (fun i => some (Nat.mul i s, s)) z ps with
      | none => rw [hf] at hv; cases hv
      | some l =>
        rw [hf] at hv
        simp only [Option.map_some, Option.some.injEq] at hv
        subst hv
        obtain ⟨arr, ha, hb⟩ := fill_sound ps cs.toList z zv.cells l hlen hp (hzl μ) hf
        refine ⟨.agg arr, .agg l arr hb, hr _ ?_⟩
        have ha : Instr.fill (fun i => some (i * s, s)) zv.cells cs.toList = some arr := ha
        simp [Instr.build, hzr, run_underlying hu, run_sizeOf hsz, ha]
    · cases hv
  · cases hv
end
end Go.Proofs.YtmapmbfohilklaaGreat.Ab
