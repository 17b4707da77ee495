/-
  The abstract machine: maps.
-/
import Derived.Test.YtmapmbfohilklaaGreatAbU3
namespace Go.Proofs.YtmapmbfohilklaaGreat.Ab
open Go.RowKit

section
variable {P : Program} {w0 w : World} {G : Nat} {μ : Mu} {H : AH} {r : Result Next}
theorem clear_sound (h : HR w0 G μ H w) {types : Array TypeId} {t : TypeId} {ts : List TypeId} (ht : types.toList = t :: ts) {m : AV} {mv : Value} (hm : VR μ m mv) (ty : TypeId)
    (hr : ∀ v w', (Builtin.clear_ types ty #[mv]).run P w = .ok v w' → r = .ok (.value v) w') : XR P w0 G μ H.size (clearA P G t m H) r := by
  have ht0 : types[0]? = some t := by rw [← Array.getElem?_toList, ht]; rfl
  unfold clearA
  split
  · rename_i d hu
    cases hm
    refine XR.value h .undef (hr _ _ ?_)
    unfold Builtin.clear_
    simp only [ht0, List.getElem?_toArray, List.getElem?_cons_zero, Sem.run_bind, run_underlying hu, Result.andThen_ok, Sem.run_pure]
    try rfl
  · rename_i d b hu
    refine XR.cond (fun hG => ?_) (fun _ => trivial)
    rw [Nat.ble_eq] at hG
    obtain ⟨L, hL, rfl⟩ := hm.map_inv
    split
    · rename_i es clock hg
      obtain ⟨o, ho, hor⟩ := h.obj b L hL (by rw [hg]; intro h; cases h)
      rw [hg] at hor
      obtain ⟨cs, rfl, her⟩ := hor
      have hrun : (Builtin.clear_ types ty #[.map (some L.blk)]).run P w = .ok (.tuple #[]) { w with heap := w.heap.setIfInBounds L.blk (.map #[] clock) } := by
        unfold Builtin.clear_
        simp only [ht0, List.getElem?_toArray, List.getElem?_cons_zero, Sem.run_bind, run_underlying hu, Result.andThen_ok, run_getObj_at ho, run_setObj' _ ho, Sem.run_pure]
      rw [setK_eq]
      exact XR.new ⟨h.setMap hL hG hg ho ⟨rfl, fun i e c he => by simp at he⟩, μ.lx_refl _⟩ .undef (hr _ _ hrun)
    · trivial
  · rename_i d hu
    cases hm
    refine XR.value h .undef (hr _ _ ?_)
    unfold Builtin.clear_
    simp only [ht0, List.getElem?_toArray, List.getElem?_cons_zero, Sem.run_bind, run_underlying hu, Result.andThen_ok, Sem.run_pure]
    try rfl
  · rename_i d hu
    cases hm
    refine XR.value h .undef (hr _ _ ?_)
    unfold Builtin.clear_
    simp only [ht0, List.getElem?_toArray, List.getElem?_cons_zero, Sem.run_bind, run_underlying hu, Result.andThen_ok, Sem.run_pure]
    try rfl
  · rename_i e b off n c g hu
    refine XR.cond (fun hG => ?_) (fun _ => trivial)
    rw [Nat.ble_eq] at hG
    obtain ⟨L, hL, rfl⟩ := hm.slice_inv
    split
    · rename_i z hz
      obtain ⟨zv, hzv, hzl⟩ := zero_all hz
      have hrun : ∀ w', (storeCells ⟨L.blk, L.base + off, none⟩ (Builtin.zeroCells zv.cells (n + 1)).toList).run P w = .ok () w' → (Builtin.clear_ types ty #[.slice (some ⟨L.blk, L.base + off, none⟩) (n + 1) (c + if g then L.slack else 0)]).run P w = .ok (.tuple #[]) w' := fun w' hst => by
        unfold Builtin.clear_
        simp only [ht0, List.getElem?_toArray, List.getElem?_cons_zero, Sem.run_bind, run_underlying hu, Result.andThen_ok, hzv, hst, Sem.run_pure]
      have hfin : ∀ q, SeqR μ z.length q (Builtin.zeroCells zv.cells (n + 1)).toList → XR P w0 G μ H.size (putSeqK (H.get b) z.length off q (.fail 246) fun o => H.setK b o fun H' => .val (.tuple []) H') r := fun q hq =>
        putSeq_sound h hL hG hq (zeros_ones hz (hzl μ) (n + 1)) fun H' w' hH hst => XR.new ⟨hH, μ.lx_refl _⟩ .undef (hr _ _ (hrun w' hst))
      cases hb : isByteA P e with
      | true =>
        simp only [cond_true]
        refine hfin _ ?_
        have := zeros_bytes hb hz (hzl μ) (n + 1)
        obtain ⟨hz1, _⟩ := byte_zero hb hz
        rw [hz1]; exact this
      | false =>
        simp only [cond_false]
        exact hfin _ (zeros_rows (hzl μ) (n + 1))
    · trivial
  · trivial
theorem range_sound (h : HR w0 G μ H w) (t : TypeId) {x : AV} {xv : Value} (hx : VR μ x xv)
    (hr : ∀ v w', (Instr.range t xv).run P w = .ok v w' → r = .ok (.value v) w') : XR P w0 G μ H.size (rangeA P t x H) r := by
  have mk : ∀ (o : AObj) (obj : Obj), (∀ ν : Mu, μ.le ν → OR ν ⟨w.heap.size, 0, 0⟩ o obj) → (Instr.range t xv).run P w = .ok (.pointer (some ⟨w.heap.size, 0, none⟩)) { w with heap := w.heap.push obj } → XR P w0 G μ H.size (H.pushK o fun H' => .val (.ptr H.size 0) H') r := fun o obj ho hrun => by
    rw [pushK_eq]
    have hp := h.push (L := ⟨w.heap.size, 0, 0⟩) (o := o) (grew w obj) rfl (ho _ (Mu.up_le (h.dom _ (Nat.le_refl _)) _))
    exact XR.new hp (VR.ptr0 (Mu.up_same _ _ _)) (hr _ _ hrun)
  unfold rangeA
  split
  · rename_i n N hu
    obtain ⟨s, rfl, h1, h2⟩ := hx.str_inv
    refine mk _ (.stringIter s 0) (fun ν _ => ⟨rfl, s, rfl, h1, h2⟩) ?_
    unfold Instr.range
    simp only [Sem.run_bind, run_underlying hu, Result.andThen_ok, Sem.run_pure, run_newObj]
  · rename_i k e hu
    cases hx
    refine mk _ (.mapIter none 0 #[] 0) (fun ν _ => ⟨rfl, none, rfl, rfl⟩) ?_
    unfold Instr.range
    simp only [Sem.run_bind, run_underlying hu, Result.andThen_ok, Sem.run_pure, run_newObj]
  · rename_i k e m hu
    split
    · rename_i es clock hg
      obtain ⟨L, hL, rfl⟩ := hx.map_inv
      obtain ⟨o, ho, hor⟩ := h.obj m L hL (by rw [hg]; intro h; cases h)
      rw [hg] at hor
      obtain ⟨cs, rfl, her⟩ := hor
      refine mk _ (.mapIter (some L.blk) clock #[] clock) (fun ν hν => ⟨rfl, some L.blk, rfl, L, hν _ _ hL, rfl⟩) ?_
      unfold Instr.range
      simp only [Sem.run_bind, run_underlying hu, Result.andThen_ok, run_getObj_at ho, Sem.run_pure, run_newObj]
    · trivial
  · trivial
theorem ER.cons_inv {e : AV × AV × Nat} {c : MapEntry} {es : List (AV × AV × Nat)} {cs : List MapEntry} (h : ER μ (e :: es) (c :: cs)) : (VR μ e.1 c.key ∧ VR μ e.2.1 c.val ∧ e.2.2 = c.born) ∧ ER μ es cs :=
  ⟨h.2 0 e c rfl rfl, by have := h.1; simpa using this, fun j x y hx hy => h.2 (j + 1) x y (by simpa using hx) (by simpa using hy)⟩
theorem ER.cons {e : AV × AV × Nat} {c : MapEntry} {es : List (AV × AV × Nat)} {cs : List MapEntry} (h0 : VR μ e.1 c.key ∧ VR μ e.2.1 c.val ∧ e.2.2 = c.born) (h : ER μ es cs) : ER μ (e :: es) (c :: cs) :=
  ⟨by simp [h.1], fun j x y hx hy => by
    cases j with
    | zero => simp at hx hy; subst hx hy; exact h0
    | succ j => exact h.2 j x y (by simpa using hx) (by simpa using hy)⟩
theorem ER.filter (p : Nat → Bool) : ∀ {es : List (AV × AV × Nat)} {cs : List MapEntry}, ER μ es cs → ER μ (es.filter fun e => p e.2.2) (cs.filter fun c => p c.born)
  | [], [], h => h
  | [], _ :: _, h => by have := h.1; simp at this
  | _ :: _, [], h => by have := h.1; simp at this
  | e :: es, c :: cs, h => by
    obtain ⟨h0, h1⟩ := h.cons_inv
    have := ER.filter p h1
    rw [List.filter_cons, List.filter_cons, h0.2.2]
    cases p c.born
    · simpa using this
    · simpa using ER.cons h0 this
theorem ER.all (p : Nat → Bool) : ∀ {es : List (AV × AV × Nat)} {cs : List MapEntry}, ER μ es cs → (es.all fun e => p e.2.2) = (cs.all fun c => p c.born)
  | [], [], h => rfl
  | [], _ :: _, h => by have := h.1; simp at this
  | _ :: _, [], h => by have := h.1; simp at this
  | e :: es, c :: cs, h => by
    obtain ⟨h0, h1⟩ := h.cons_inv
    rw [List.all_cons, List.all_cons, ER.all p h1, h0.2.2]
theorem decode_low {s : ByteArray} {n N pos : Nat} (hs : StrR n N s) (hp : pos < n) (hb : byteAt N pos < 128) : Utf8.decode s pos = (byteAt N pos, 1) := by
  obtain ⟨h1, h2⟩ := hs
  subst h1 h2
  have hg : (s.get! (pos + 0)).toNat = byteAt (pack s.data.toList) pos := by
    rw [byteAt_pack _ _ (by simpa using hp)]
    have : s.get! (pos + 0) = s.data[pos] := by
      show s.data[pos + 0]! = _
      exact getElem!_pos s.data pos hp
    rw [this]; simp
  unfold Utf8.decode
  simp only [hg]
  rw [if_pos hb]
theorem run_setIter {q : Nat} {s : ByteArray} {pos : Nat} (o' : Obj) (h : w.heap[q]? = some (.stringIter s pos)) : (setObj q o').run P w = .ok () { w with heap := w.heap.setIfInBounds q o' } := by
  simp [setObj, Sem.run, h]
theorem run_setMapIter {q : Nat} {m : Option Nat} {a c : Nat} {b : Array Nat} (o' : Obj) (h : w.heap[q]? = some (.mapIter m a b c)) : (setObj q o').run P w = .ok () { w with heap := w.heap.setIfInBounds q o' } := by
  simp [setObj, Sem.run, h]
theorem next_sound (h : HR w0 G μ H w) (t : TypeId) (s : Bool) {x : AV} {xv : Value} (hx : VR μ x xv)
    (hr : ∀ v w', (Instr.next xv s t).run P w = .ok v w' → r = .ok (.value v) w') : XR P w0 G μ H.size (nextA G x s H) r := by
  unfold nextA
  split
  · rename_i b
    obtain ⟨L, hL, rfl⟩ := hx.ptr_inv
    refine XR.cond (fun hG => ?_) (fun _ => trivial)
    rw [Nat.ble_eq] at hG
    split
    · rename_i n N pos hg
      obtain ⟨o, ho, hor⟩ := h.obj b L hL (by rw [hg]; intro h; cases h)
      rw [hg] at hor
      obtain ⟨h0, str, rfl, hs⟩ := hor
      rw [h0, Nat.add_zero] at hr
      have hsz : str.size = n := hs.1
      refine XR.cond (fun hp => ?_) (fun hp => ?_)
      · rw [Nat.blt_eq] at hp
        dsimp only
        refine XR.cond (fun hb => ?_) (fun _ => trivial)
        rw [Nat.blt_eq] at hb
        rw [fNat_eq, fNat_eq, setK_eq]
        have hrun : (Instr.next (.pointer (some ⟨L.blk, 0, none⟩)) true t).run P w = .ok (.tuple #[.bool true, goInt pos, .int .i32 (byteAt N pos)]) { w with heap := w.heap.setIfInBounds L.blk (.stringIter str (pos + 1)) } := by
          unfold Instr.next
          simp only [Sem.run_bind, run_getObj_at ho, Result.andThen_ok, hsz, hp, if_true, decode_low hs hp hb, run_setIter _ ho, Sem.run_pure]
        refine XR.new ⟨h.set hL hG (by rw [hg]; intro e; cases e) (apart_set w L.blk _) (get_setIf ho) ⟨h0, str, rfl, hs⟩, μ.lx_refl _⟩ (.tuple _ #[.bool true, goInt pos, .int .i32 (byteAt N pos)] ?_) (hr _ _ hrun)
        exact .cons _ _ _ _ (.bool true) (.mk2 (.int _ _) (.int _ _))
      · rw [← Bool.not_eq_true, Nat.blt_eq] at hp
        refine XR.value h (.tuple [.bool false] #[.bool false] (.mk1 (.bool false))) (hr _ _ ?_)
        unfold Instr.next
        simp only [Sem.run_bind, run_getObj_at ho, Result.andThen_ok, hsz, hp, if_false, Sem.run_pure]
    · rename_i a c d hg
      obtain ⟨o, ho, hor⟩ := h.obj b L hL (by rw [hg]; intro h; cases h)
      rw [hg] at hor
      obtain ⟨h0, m', rfl, hm⟩ := hor
      have hm : m' = none := hm
      subst hm
      rw [h0, Nat.add_zero] at hr
      refine XR.value h (.tuple [.bool false] #[.bool false] (.mk1 (.bool false))) (hr _ _ ?_)
      unfold Instr.next
      simp only [Sem.run_bind, run_getObj_at ho, Result.andThen_ok, Sem.run_pure]
    · rename_i m since seen last hg
      obtain ⟨o, ho, hor⟩ := h.obj b L hL (by rw [hg]; intro h; cases h)
      rw [hg] at hor
      obtain ⟨h0, m', rfl, K, hK, rfl⟩ := hor
      rw [h0, Nat.add_zero] at hr
      split
      · rename_i es clock hgm
        obtain ⟨o2, ho2, hor2⟩ := h.obj m K hK (by rw [hgm]; intro h; cases h)
        rw [hgm] at hor2
        obtain ⟨cs, rfl, her⟩ := hor2
        refine XR.cond (fun _ => trivial) (fun hall => ?_)
        dsimp only
        have e1 : (es.all fun e => Nat.ble last e.2.2) = cs.all (fun c => decide (c.born ≥ last)) := by
          rw [her.all (fun n => Nat.ble last n), ← Array.all_toList]
          congr 1; funext c
          rw [Bool.eq_iff_iff, Nat.ble_eq, decide_eq_true_iff]
        have e2 : es.isEmpty = cs.isEmpty := by
          have h1 : es.length = cs.size := her.1
          rw [Array.isEmpty, Bool.eq_iff_iff, List.isEmpty_iff_length_eq_zero, decide_eq_true_iff, h1]
        have e3 : (!seen.toArray.isEmpty && !cs.isEmpty && cs.all (fun c => decide (c.born ≥ last))) = false := by
          rw [← e1, ← e2, ← hall]; simp
        have hleft := her.filter (fun n => !(seen.contains n))
        have hold := hleft.filter (fun n => Nat.blt n since)
        have hnew := hleft.filter (fun n => !(Nat.blt n since))
        have c1 : (cs.filter fun c => !seen.toArray.contains c.born).filter (fun c => decide (c.born < since)) = ((cs.toList.filter fun c => !(seen.contains c.born)).filter fun c => Nat.blt c.born since).toArray := by
          apply Array.ext'
          simp only [Array.toList_filter]
          congr 1
          · funext c; rw [Bool.eq_iff_iff, Nat.blt_eq, decide_eq_true_iff]
          · congr 1; funext c; simp
        have c2 : (cs.filter fun c => !seen.toArray.contains c.born).filter (fun c => decide (c.born ≥ since)) = ((cs.toList.filter fun c => !(seen.contains c.born)).filter fun c => !(Nat.blt c.born since)).toArray := by
          apply Array.ext'
          simp only [Array.toList_filter]
          congr 1
          · funext c; rw [Bool.eq_iff_iff, Bool.not_eq_true', ← Bool.not_eq_true, Nat.blt_eq, decide_eq_true_iff]; omega
          · congr 1; funext c; simp
        split
        · rename_i ho' hn'
          rw [ho'] at hold
          rw [hn'] at hnew
          have d1 := List.eq_nil_of_length_eq_zero hold.1.symm
          have d2 := List.eq_nil_of_length_eq_zero hnew.1.symm
          refine XR.value h (.tuple [.bool false] #[.bool false] (.mk1 (.bool false))) (hr _ _ ?_)
          unfold Instr.next
          simp only [Sem.run_bind, run_getObj_at ho, run_getObj_at ho2, Result.andThen_ok, e3, Bool.false_eq_true, if_false, c1, c2, d1, d2, run_choose, Question.forced]
          simp
        · rename_i e ho' hn'
          rw [ho'] at hold
          rw [hn'] at hnew
          have d2 := List.eq_nil_of_length_eq_zero hnew.1.symm
          obtain ⟨c, d1⟩ : ∃ c, ((cs.toList.filter fun c => !(seen.contains c.born)).filter fun c => Nat.blt c.born since) = [c] := by
            generalize ((cs.toList.filter fun c => !(seen.contains c.born)).filter fun c => Nat.blt c.born since) = l at hold
            match l, hold.1 with
            | [c], _ => exact ⟨c, rfl⟩
            | [], h => simp at h
            | _ :: _ :: _, h => simp at h
          rw [d1] at hold
          obtain ⟨k1, k2, k3⟩ := hold.2 0 e c rfl rfl
          have hrun : (Instr.next (.pointer (some ⟨L.blk, 0, none⟩)) false t).run P w = .ok (.tuple #[.bool true, c.key, c.val]) { w with heap := w.heap.setIfInBounds L.blk (.mapIter (some K.blk) since (seen.toArray.push c.born) clock) } := by
            unfold Instr.next
            simp only [Sem.run_bind, run_getObj_at ho, run_getObj_at ho2, Result.andThen_ok, e3, Bool.false_eq_true, if_false, c1, c2, d1, d2, run_choose, Question.forced]
            simp [run_setMapIter _ ho]
          rw [setK_eq]
          refine XR.new ⟨h.set hL hG (by rw [hg]; intro e; cases e) (apart_set w L.blk _) (get_setIf ho) ⟨h0, some K.blk, ?_, K, hK, rfl⟩, μ.lx_refl _⟩ (.tuple _ #[.bool true, c.key, c.val] ?_) (hr _ _ hrun)
          · rw [← k3]; simp
          · exact .cons _ _ _ _ (.bool true) (.mk2 k1 k2)
        · trivial
      · trivial
    · trivial
  · trivial
end
end Go.Proofs.YtmapmbfohilklaaGreat.Ab
