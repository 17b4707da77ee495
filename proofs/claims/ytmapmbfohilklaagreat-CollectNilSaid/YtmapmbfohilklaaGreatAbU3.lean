/-
  The abstract machine: maps are written.
-/
import Derived.Test.YtmapmbfohilklaaGreatAbU2
namespace Go.Proofs.YtmapmbfohilklaaGreat.Ab
open Go.RowKit

section
variable {P : Program} {w0 w : World} {G : Nat} {μ : Mu} {H : AH} {r : Result Next}
theorem run_setObj' {q : Nat} {es : Array MapEntry} {clock : Nat} (o' : Obj) (h : w.heap[q]? = some (.map es clock)) : (setObj q o').run P w = .ok () { w with heap := w.heap.setIfInBounds q o' } := by
  simp [setObj, Sem.run, h]
theorem apart_set (w : World) (q : Nat) (o : Obj) : Apart q w { w with heap := w.heap.setIfInBounds q o } :=
  ⟨rfl, rfl, rfl, by simp, fun k hk => by simp only [Array.getElem?_setIfInBounds]; rw [if_neg (fun e => hk e.symm)]⟩
theorem get_setIf {q : Nat} {o o' : Obj} (h : w.heap[q]? = some o) : (w.heap.setIfInBounds q o')[q]? = some o' := by
  rw [Array.getElem?_setIfInBounds, if_pos rfl, if_pos (Array.getElem?_eq_some_iff.1 h).1]
/-- A map is written. -/
theorem HR.setMap (h : HR w0 G μ H w) {b : Nat} {L : Loc} (hL : μ b = some L) (hG : G ≤ b) {es : List (AV × AV × Nat)} {clock : Nat} (hg : H.get b = .map es clock) {cs : Array MapEntry} (ho : w.heap[L.blk]? = some (.map cs clock))
    {es' : List (AV × AV × Nat)} {c' : Nat} {cs' : Array MapEntry} (he : ER μ es' cs'.toList) : HR w0 G μ (H.set b (.map es' c')) { w with heap := w.heap.setIfInBounds L.blk (.map cs' c') } :=
  h.set hL hG (by rw [hg]; intro e; cases e) (apart_set w L.blk _) (get_setIf ho) ⟨cs', rfl, he⟩
theorem ER.push {es : List (AV × AV × Nat)} {cs : List MapEntry} (h : ER μ es cs) {k v : AV} {kv vv : Value} (hk : VR μ k kv) (hv : VR μ v vv) (n : Nat) : ER μ (es ++ [(k, v, n)]) (cs ++ [{ key := kv, val := vv, born := n }]) := by
  refine ⟨by simp [h.1], fun i e c he hc => ?_⟩
  by_cases hi : i < es.length
  · rw [List.getElem?_append_left hi] at he
    rw [List.getElem?_append_left (by rw [← h.1]; exact hi)] at hc
    exact h.2 i e c he hc
  · rw [List.getElem?_append_right (by omega)] at he
    rw [List.getElem?_append_right (by rw [← h.1]; omega), ← h.1] at hc
    cases hj : i - es.length with
    | zero =>
      rw [hj] at he hc
      simp at he hc
      subst he hc
      exact ⟨hk, hv, rfl⟩
    | succ j => rw [hj] at he; simp at he
theorem ER.set {es : List (AV × AV × Nat)} {cs : List MapEntry} (h : ER μ es cs) {i : Nat} {e : AV × AV × Nat} {f : MapEntry → MapEntry} (hf : ∀ c, cs[i]? = some c → VR μ e.1 (f c).key ∧ VR μ e.2.1 (f c).val ∧ e.2.2 = (f c).born) : ER μ (es.set i e) (cs.modify i f) := by
  refine ⟨by simp [h.1], fun j x c hx hc => ?_⟩
  rw [List.getElem?_set] at hx
  rw [List.getElem?_modify] at hc
  by_cases hj : i = j
  · subst hj
    rw [if_pos rfl] at hx
    simp only [if_pos] at hc
    split at hx
    · simp only [Option.some.injEq] at hx
      subst hx
      cases hq : cs[i]? with
      | none => rw [hq] at hc; cases hc
      | some c0 =>
        rw [hq] at hc
        simp at hc
        subst hc
        exact hf c0 hq
    · cases hx
  · rw [if_neg hj] at hx
    simp only [if_neg hj] at hc
    have hc : cs[j]? = some c := by simpa using hc
    exact h.2 j x c hx hc
theorem ER.erase {es : List (AV × AV × Nat)} {cs : List MapEntry} (h : ER μ es cs) (i : Nat) : ER μ (es.eraseIdx i) (cs.eraseIdx i) := by
  refine ⟨by rw [List.length_eraseIdx, List.length_eraseIdx, h.1], fun j x c hx hc => ?_⟩
  rw [List.getElem?_eraseIdx] at hx hc
  split at hx
  · rename_i hj
    rw [if_pos hj] at hc
    exact h.2 j x c hx hc
  · rename_i hj
    rw [if_neg hj] at hc
    exact h.2 (j + 1) x c hx hc
theorem key_desc {key : TypeId} {k : AV} (hkey : keyA P 20 key k = true) : ∃ d, P.underlying key = some d := by
  cases hq : P.underlying key with
  | none => unfold keyA at hkey; rw [hq] at hkey; cases hkey
  | some d => exact ⟨d, rfl⟩
theorem keyStays {k e : AV} {kv ev : Value} (hk : VR μ k kv) (he : VR μ e ev) (h : sameK e k = true) : (Instr.keyThatStays ev kv).run P w = .ok kv w := by
  have hs : Instr.sameBits 10000 ev kv = true := sameK_sound 9999 he hk h
  unfold Instr.keyThatStays
  rw [hs]; rfl
theorem mapUpdate_sound (h : HR w0 G μ H w) (t : TypeId) {m k x : AV} {mv kv xv : Value} (hm : VR μ m mv) (hk : VR μ k kv) (hx : VR μ x xv)
    (hr : ∀ w', (Instr.mapUpdate t mv kv xv).run P w = .ok () w' → r = .ok .skip w') : XR P w0 G μ H.size (mapUpdateA P G t m k x H) r := by
  unfold mapUpdateA
  split
  · rename_i key elem b hu
    refine XR.cond (fun hc => ?_) (fun _ => trivial)
    rw [Bool.and_eq_true, Nat.ble_eq] at hc
    obtain ⟨hkey, hG⟩ := hc
    obtain ⟨L, hL, rfl⟩ := hm.map_inv
    obtain ⟨kd, hkd⟩ := key_desc hkey
    split
    · rename_i es clock hg
      obtain ⟨o, ho, hor⟩ := h.obj b L hL (by rw [hg]; intro h; cases h)
      rw [hg] at hor
      obtain ⟨cs, rfl, her⟩ := hor
      have hck := check_sound (P := P) (w := w) false 20 9980 key k kv hk hkey
      have hrun : (Instr.mapUpdate t (.map (some L.blk)) kv xv).run P w = (do
          match ← Instr.findKey key kv cs.toList with
          | some (i, _) => do
            let key ← Instr.keyThatStays (((cs[i]?).map (·.key)).getD kv) kv
            setObj L.blk (.map (cs.modify i fun e => { e with key, val := xv }) clock)
          | none => setObj L.blk (.map (cs.push { key := kv, val := xv, born := clock }) (clock + 1)) : Sem Unit).run P w := by
        unfold Instr.mapUpdate
        simp only [Sem.run_bind, run_underlying hu, run_getObj_at ho, Result.andThen_ok, hck]
        try rfl
      split
      · rename_i i v hf
        obtain ⟨g, g1, g2⟩ := find_sound (P := P) h hkd hk her hf
        cases g with
        | none => exact g2.elim
        | some p =>
          obtain ⟨j, u⟩ := p
          obtain ⟨rfl, hv⟩ := g2
          rw [Sem.run_bind, g1, Result.andThen_ok] at hrun
          split
          · rename_i e he
            refine XR.cond (fun hsk => ?_) (fun _ => trivial)
            have hi : i < es.length := (List.getElem?_eq_some_iff.1 he).1
            obtain ⟨c0, hc0⟩ : ∃ c0, cs.toList[i]? = some c0 := ⟨_, List.getElem?_eq_getElem (by rw [← her.1]; exact hi)⟩
            obtain ⟨k1, k2, k3⟩ := her.2 i e c0 he hc0
            have hc0' : cs[i]? = some c0 := by simpa using hc0
            simp only [hc0', Option.map_some, Option.getD_some, Sem.run_bind, keyStays hk k1 hsk, Result.andThen_ok] at hrun
            rw [run_setObj' _ ho] at hrun
            rw [setK_eq]
            refine XR.skip (h.setMap hL hG hg ho ?_) (hr _ hrun)
            rw [Array.toList_modify]
            exact her.set fun c hc => by rw [hc0] at hc; cases hc; exact ⟨hk, hx, k3⟩
          · trivial
      · rename_i hf
        obtain ⟨g, g1, g2⟩ := find_sound (P := P) h hkd hk her hf
        cases g with
        | some p => exact g2.elim
        | none =>
          rw [Sem.run_bind, g1, Result.andThen_ok] at hrun
          simp only [] at hrun
          rw [run_setObj' _ ho] at hrun
          rw [fNat_eq, setK_eq]
          refine XR.skip (h.setMap hL hG hg ho ?_) (hr _ hrun)
          rw [Array.toList_push]
          exact her.push hk hx clock
      · trivial
    · trivial
  · trivial
theorem mapEntry_sound (h : HR w0 G μ H w) (t : TypeId) {m k : AV} {mv kv : Value} (hm : VR μ m mv) (hk : VR μ k kv)
    (hr : ∀ v w', (Instr.mapEntry t mv kv).run P w = .ok v w' → r = .ok (.value v) w') : XR P w0 G μ H.size (mapEntryA P G t m k H) r := by
  unfold mapEntryA
  split
  · rename_i key elem b hu
    refine XR.cond (fun hc => ?_) (fun _ => trivial)
    rw [Bool.and_eq_true, Nat.ble_eq] at hc
    obtain ⟨hkey, hG⟩ := hc
    obtain ⟨L, hL, rfl⟩ := hm.map_inv
    obtain ⟨kd, hkd⟩ := key_desc hkey
    split
    · rename_i es clock hg
      obtain ⟨o, ho, hor⟩ := h.obj b L hL (by rw [hg]; intro h; cases h)
      rw [hg] at hor
      obtain ⟨cs, rfl, her⟩ := hor
      have hck := check_sound (P := P) (w := w) false 20 9980 key k kv hk hkey
      have hrun : (Instr.mapEntry t (.map (some L.blk)) kv).run P w = (do
          match ← Instr.findKey key kv cs.toList with
          | some (i, v) => do
            let key ← Instr.keyThatStays (((cs[i]?).map (·.key)).getD kv) kv
            setObj L.blk (.map (cs.modify i fun e => { e with key }) clock)
            pure (.tuple #[v, goInt (((cs[i]?).map (·.born)).getD 0)])
          | none => do
            let zero ← zeroValue elem
            setObj L.blk (.map (cs.push { key := kv, val := zero, born := clock }) (clock + 1))
            pure (.tuple #[zero, goInt clock]) : Sem Value).run P w := by
        unfold Instr.mapEntry
        simp only [Sem.run_bind, run_underlying hu, run_getObj_at ho, Result.andThen_ok, hck]
        try rfl
      split
      · rename_i i v hf
        obtain ⟨g, g1, g2⟩ := find_sound (P := P) h hkd hk her hf
        cases g with
        | none => exact g2.elim
        | some p =>
          obtain ⟨j, u⟩ := p
          obtain ⟨rfl, hv⟩ := g2
          rw [Sem.run_bind, g1, Result.andThen_ok] at hrun
          split
          · rename_i e he
            refine XR.cond (fun hsk => ?_) (fun _ => trivial)
            have hi : i < es.length := (List.getElem?_eq_some_iff.1 he).1
            obtain ⟨c0, hc0⟩ : ∃ c0, cs.toList[i]? = some c0 := ⟨_, List.getElem?_eq_getElem (by rw [← her.1]; exact hi)⟩
            obtain ⟨k1, k2, k3⟩ := her.2 i e c0 he hc0
            have hc0' : cs[i]? = some c0 := by simpa using hc0
            simp only [hc0', Option.map_some, Option.getD_some, Sem.run_bind, keyStays hk k1 hsk, Result.andThen_ok, run_setObj' _ ho, Sem.run_pure] at hrun
            rw [setK_eq]
            refine XR.new ⟨h.setMap hL hG hg ho ?_, μ.lx_refl _⟩ (.tuple _ #[u, goInt c0.born] (.mk2 hv (by rw [k3]; exact .int _ _))) (hr _ _ hrun)
            rw [Array.toList_modify]
            exact her.set fun c hc => by rw [hc0] at hc; cases hc; exact ⟨hk, k2, k3⟩
          · trivial
      · rename_i hf
        obtain ⟨g, g1, g2⟩ := find_sound (P := P) h hkd hk her hf
        cases g with
        | some p => exact g2.elim
        | none =>
          split
          · rename_i z hz
            obtain ⟨zv, z1, z2⟩ := run_zero (w := w) hz
            have hzv : VR μ z zv := by rw [← z2]; exact VR.ofConst μ zv
            rw [Sem.run_bind, g1, Result.andThen_ok] at hrun
            simp only [Sem.run_bind, z1, Result.andThen_ok, run_setObj' _ ho, Sem.run_pure] at hrun
            rw [fNat_eq, setK_eq]
            refine XR.new ⟨h.setMap hL hG hg ho ?_, μ.lx_refl _⟩ (.tuple _ #[zv, goInt clock] (.mk2 hzv (.int _ _))) (hr _ _ hrun)
            rw [Array.toList_push]
            exact her.push hk hzv clock
          · trivial
      · trivial
    · trivial
  · trivial
theorem findBorn_sound {n : Nat} : ∀ {es : List (AV × AV × Nat)} {cs : List MapEntry} {i j : Nat} {e : AV × AV × Nat}, ER μ es cs → findBorn n es i = some (j, e) → ∃ k, j = i + k ∧ es[k]? = some e ∧ cs.findIdx? (fun e => (e.born : Int) == (n : Int)) = some k
  | [], cs, i, j, e, _, h => by cases h
  | x :: es, [], i, j, e, he, h => by have := he.1; simp at this
  | x :: es, c :: cs, i, j, e, he, h => by
    obtain ⟨e1, e2, e3⟩ := he.2 0 x c rfl rfl
    have he' : ER μ es cs := ⟨by have := he.1; simpa using this, fun j x y hx hy => he.2 (j + 1) x y (by simpa using hx) (by simpa using hy)⟩
    simp only [findBorn] at h
    by_cases hb : x.2.2 = n
    · have : Nat.beq x.2.2 n = true := by rw [Nat.beq_eq]; exact hb
      rw [this] at h
      simp only [cond_true, Option.some.injEq, Prod.mk.injEq] at h
      refine ⟨0, h.1.symm, by simp [h.2], ?_⟩
      rw [List.findIdx?_cons]
      have : ((c.born : Int) == (n : Int)) = true := by rw [← e3, hb]; simp
      simp [this]
    · rw [beq_ff hb] at h
      simp only [cond_false] at h
      obtain ⟨k, k1, k2, k3⟩ := findBorn_sound he' h
      refine ⟨k + 1, by omega, by simpa using k2, ?_⟩
      rw [List.findIdx?_cons]
      have : ((c.born : Int) == (n : Int)) = false := by
        rw [← e3]
        simp only [beq_eq_false_iff_ne]
        intro hh
        exact hb (by omega)
      simp [this, k3]
theorem entryStore_sound (h : HR w0 G μ H w) (t : TypeId) {m s x : AV} {mv sv xv : Value} (hm : VR μ m mv) (hs : VR μ s sv) (hx : VR μ x xv)
    (hr : ∀ w', (Instr.entryStore t mv sv xv).run P w = .ok () w' → r = .ok .skip w') : XR P w0 G μ H.size (entryStoreA G m s x H) r := by
  unfold entryStoreA
  split
  · rename_i b k n
    refine XR.cond (fun hG => ?_) (fun _ => trivial)
    rw [Nat.ble_eq] at hG
    obtain ⟨L, hL, rfl⟩ := hm.map_inv
    have := hs.int_inv
    subst this
    split
    · rename_i es clock hg
      obtain ⟨o, ho, hor⟩ := h.obj b L hL (by rw [hg]; intro h; cases h)
      rw [hg] at hor
      obtain ⟨cs, rfl, her⟩ := hor
      split
      · rename_i i e hf
        obtain ⟨k', k1, k2, k3⟩ := findBorn_sound her hf
        have : i = k' := by omega
        subst this
        have hrun : (Instr.entryStore t (.map (some L.blk)) (.int k (Int.ofNat n)) xv).run P w = (setObj L.blk (.map (cs.modify i fun e => { e with val := xv }) clock)).run P w := by
          unfold Instr.entryStore
          have : cs.findIdx? (fun e => (e.born : Int) == (n : Int)) = some i := by obtain ⟨cl⟩ := cs; simpa using k3
          simp only [Sem.run_bind, run_getObj_at ho, Result.andThen_ok, asInt, asIntOf, Sem.run_pure, Int.ofNat_eq_natCast, this]
        rw [run_setObj' _ ho] at hrun
        rw [setK_eq]
        refine XR.skip (h.setMap hL hG hg ho ?_) (hr _ hrun)
        rw [Array.toList_modify]
        exact her.set fun c hc => by obtain ⟨q1, q2, q3⟩ := her.2 i e c k2 hc; exact ⟨q1, hx, q3⟩
      · trivial
    · trivial
  · trivial
theorem delete_sound (h : HR w0 G μ H w) {types : Array TypeId} {t : TypeId} {ts : List TypeId} (ht : types.toList = t :: ts) {m k : AV} {mv kv : Value} (hm : VR μ m mv) (hk : VR μ k kv) (ty : TypeId)
    (hr : ∀ v w', (Builtin.delete_ types ty #[mv, kv]).run P w = .ok v w' → r = .ok (.value v) w') : XR P w0 G μ H.size (deleteA P G t m k H) r := by
  have ht0 : types[0]? = some t := by rw [← Array.getElem?_toList, ht]; rfl
  unfold deleteA
  split
  · rename_i key e hu
    refine XR.cond (fun hkey => ?_) (fun _ => trivial)
    cases hm
    have hck := check_sound (P := P) (w := w) true 20 9980 key k kv hk hkey
    refine XR.value h .undef (hr _ _ ?_)
    unfold Builtin.delete_
    simp only [ht0, List.getElem?_toArray, List.getElem?_cons_zero, List.getElem?_cons_succ, Sem.run_bind, run_underlying hu, Result.andThen_ok, hck, Sem.run_pure]
    try rfl
  · rename_i key e b hu
    refine XR.cond (fun hc => ?_) (fun _ => trivial)
    rw [Bool.and_eq_true, Nat.ble_eq] at hc
    obtain ⟨hkey, hG⟩ := hc
    obtain ⟨L, hL, rfl⟩ := hm.map_inv
    obtain ⟨kd, hkd⟩ := key_desc hkey
    split
    · rename_i es clock hg
      obtain ⟨o, ho, hor⟩ := h.obj b L hL (by rw [hg]; intro h; cases h)
      rw [hg] at hor
      obtain ⟨cs, rfl, her⟩ := hor
      have hck := check_sound (P := P) (w := w) cs.isEmpty 20 9980 key k kv hk hkey
      have hrun : (Builtin.delete_ types ty #[.map (some L.blk), kv]).run P w = (do
          match ← Instr.findKey key kv cs.toList with
          | some (i, _) => setObj L.blk (.map (cs.eraseIdxIfInBounds i) clock)
          | none => setObj L.blk (.map cs clock)
          pure (.tuple #[]) : Sem Value).run P w := by
        unfold Builtin.delete_
        simp only [ht0, List.getElem?_toArray, List.getElem?_cons_zero, List.getElem?_cons_succ, Sem.run_bind, run_underlying hu, run_getObj_at ho, Result.andThen_ok, hck]
        try rfl
      split
      · rename_i i v hf
        obtain ⟨g, g1, g2⟩ := find_sound (P := P) h hkd hk her hf
        cases g with
        | none => exact g2.elim
        | some p =>
          obtain ⟨j, u⟩ := p
          obtain ⟨rfl, hv⟩ := g2
          rw [Sem.run_bind, g1, Result.andThen_ok] at hrun
          simp only [Sem.run_bind, run_setObj' _ ho, Result.andThen_ok, Sem.run_pure] at hrun
          rw [setK_eq]
          refine XR.new ⟨h.setMap hL hG hg ho ?_, μ.lx_refl _⟩ .undef (hr _ _ hrun)
          have : (cs.eraseIdxIfInBounds i).toList = cs.toList.eraseIdx i := by
            rw [Array.eraseIdxIfInBounds]
            split
            · simp
            · rename_i hh
              rw [List.eraseIdx_of_length_le (by simpa using hh)]
          rw [this]
          exact her.erase i
      · rename_i hf
        obtain ⟨g, g1, g2⟩ := find_sound (P := P) h hkd hk her hf
        cases g with
        | some p => exact g2.elim
        | none =>
          rw [Sem.run_bind, g1, Result.andThen_ok] at hrun
          simp only [Sem.run_bind, run_setObj' _ ho, Result.andThen_ok, Sem.run_pure] at hrun
          have hw : { w with heap := w.heap.setIfInBounds L.blk (.map cs clock) } = w := by
            have : w.heap.setIfInBounds L.blk (.map cs clock) = w.heap := by
              apply Array.ext_getElem?
              intro q
              rw [Array.getElem?_setIfInBounds]
              split
              · rename_i e; subst e
                rw [if_pos (Array.getElem?_eq_some_iff.1 ho).1, ho]
              · rfl
            rw [this]
          rw [hw] at hrun
          exact XR.value h .undef (hr _ _ hrun)
      · trivial
    · trivial
  · trivial
end
end Go.Proofs.YtmapmbfohilklaaGreat.Ab
