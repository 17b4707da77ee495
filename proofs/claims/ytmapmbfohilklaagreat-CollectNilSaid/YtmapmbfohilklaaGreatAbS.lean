/-
  The abstract machine: length, capacity, interfaces, methods, calls.
-/
import Derived.Test.YtmapmbfohilklaaGreatAbR
namespace Go.Proofs.YtmapmbfohilklaaGreat.Ab
open Go.RowKit

section
variable {P : Program} {w0 w : World} {G : Nat} {μ : Mu} {H : AH} {r : Result Next}
theorem run_getObj_at {g : Nat} {o : Obj} (h : w.heap[g]? = some o) (hn : ∀ c e f, o ≠ .cells c e f := by intros; simp) : (getObj g).run P w = .ok o w := by
  cases o <;> first | (exact absurd rfl (hn _ _ _)) | simp [getObj, Sem.run, h]
theorem len_sound (h : HR w0 G μ H w) {types : Array TypeId} {t : TypeId} {ts : List TypeId} (ht : types.toList = t :: ts) {x : AV} {xv : Value} (hx : VR μ x xv) (ty : TypeId)
    (hr : ∀ v w', (Builtin.len_ types ty #[xv]).run P w = .ok v w' → r = .ok (.value v) w') : XR P w0 G μ H.size (lenA P t x H) r := by
  have e0 : types[0]? = some t := by rw [← Array.getElem?_toList, ht]; rfl
  unfold lenA
  split
  · rename_i hu
    obtain ⟨s, rfl, h1, h2⟩ := hx.str_inv
    exact XR.value h (.int _ _) (hr _ _ (by
      unfold Builtin.len_
      simp only [e0, List.getElem?_toArray, List.getElem?_cons_zero, Sem.run_bind, run_underlying hu, Result.andThen_ok, Sem.run_pure, ← h1]; rfl))
  · rename_i n e hu
    exact XR.value h (.int _ _) (hr _ _ (by
      unfold Builtin.len_
      simp only [e0, List.getElem?_toArray, List.getElem?_cons_zero, Sem.run_bind, run_underlying hu, Result.andThen_ok, Sem.run_pure]; rfl))
  · rename_i arr hu
    split
    · rename_i n e hu2
      exact XR.value h (.int _ _) (hr _ _ (by
        unfold Builtin.len_
        simp only [e0, List.getElem?_toArray, List.getElem?_cons_zero, Sem.run_bind, run_underlying hu, run_underlying hu2, Result.andThen_ok, Sem.run_pure]; rfl))
    · trivial
  · rename_i e hu
    cases hx
    exact XR.value h (.int _ _) (hr _ _ (by
      unfold Builtin.len_
      simp only [e0, List.getElem?_toArray, List.getElem?_cons_zero, Sem.run_bind, run_underlying hu, Result.andThen_ok, Sem.run_pure]; rfl))
  · rename_i e hu
    cases hx
    exact XR.value h (.int _ _) (hr _ _ (by
      unfold Builtin.len_
      simp only [e0, List.getElem?_toArray, List.getElem?_cons_zero, Sem.run_bind, run_underlying hu, Result.andThen_ok, Sem.run_pure]; rfl))
  · rename_i e b off n c g hu
    obtain ⟨L, hL, rfl⟩ := hx.slice_inv
    exact XR.value h (.int _ _) (hr _ _ (by
      unfold Builtin.len_
      simp only [e0, List.getElem?_toArray, List.getElem?_cons_zero, Sem.run_bind, run_underlying hu, Result.andThen_ok, Sem.run_pure]; rfl))
  · rename_i k e hu
    cases hx
    exact XR.value h (.int _ _) (hr _ _ (by
      unfold Builtin.len_
      simp only [e0, List.getElem?_toArray, List.getElem?_cons_zero, Sem.run_bind, run_underlying hu, Result.andThen_ok, Sem.run_pure]; rfl))
  · rename_i k e b hu
    split
    · rename_i es clock hg
      obtain ⟨L, hL, rfl⟩ := hx.map_inv
      obtain ⟨o, ho, hor⟩ := h.obj b L hL (by rw [hg]; intro h; cases h)
      rw [hg] at hor
      obtain ⟨cs, rfl, her⟩ := hor
      have hlen := her.1
      simp only [Array.length_toList] at hlen
      refine XR.rInt h (m := (cs.size : Int)) (by rw [← hlen]; rfl) (hr _ _ (by
        unfold Builtin.len_
        simp only [e0, List.getElem?_toArray, List.getElem?_cons_zero, Sem.run_bind, run_underlying hu, Result.andThen_ok, Sem.run_pure, run_getObj_at ho]; rfl))
    · trivial
  · trivial
theorem ltI_eq (x y : Int) : ltI x y = decide (x < y) := by
  rw [Bool.eq_iff_iff, decide_eq_true_iff]
  cases x <;> cases y <;> unfold ltI <;> simp [Nat.blt_eq] <;> omega
theorem mins_sound (max : Bool) (k : IntKind) : ∀ (l : List AV) (m : List Value) (x : Int) (v : AV), LR μ l m → minI max k x l = some v → ∃ y, v = .int k y ∧ (m.foldlM (if max then Builtin.max2 else Builtin.min2) (.int k x)).run P w = .ok (.int k y) w
  | [], m, x, v, hl, h => by
    cases hl
    simp only [minI, Option.some.injEq] at h
    subst h
    exact ⟨x, rfl, rfl⟩
  | a :: l, m, x, v, hl, h => by
    cases hl with | cons _ u _ m hu hl =>
    cases a with
    | int k' y =>
      simp only [minI] at h
      by_cases hk : k = k'
      · rw [if_pos hk] at h
        subst hk
        have hu := hu.int_inv
        subst hu
        obtain ⟨z, hz1, hz2⟩ := mins_sound max k l m _ v hl h
        refine ⟨z, hz1, ?_⟩
        rw [List.foldlM_cons]
        cases max
        · simp only [Bool.false_eq_true, if_false, cond_false] at hz2 ⊢
          rw [Sem.run_bind]
          have e : (Builtin.min2 (.int k x) (.int k y)).run P w = .ok (.int k (bif ltI y x then y else x)) w := by
            unfold Builtin.min2
            rw [Sem.run_pure]
            congr 2
            by_cases hlt : y < x
            · have : ltI y x = true := by rw [ltI_eq]; simpa using hlt
              rw [if_pos hlt, this]; rfl
            · have : ltI y x = false := by rw [ltI_eq]; simpa using hlt
              rw [if_neg hlt, this]; rfl
          rw [e, Result.andThen_ok]; exact hz2
        · simp only [if_true, cond_true] at hz2 ⊢
          rw [Sem.run_bind]
          have e : (Builtin.max2 (.int k x) (.int k y)).run P w = .ok (.int k (bif ltI x y then y else x)) w := by
            unfold Builtin.max2
            rw [Sem.run_pure]
            congr 2
            by_cases hlt : y > x
            · have : ltI x y = true := by rw [ltI_eq]; simpa using hlt
              rw [if_pos hlt, this]; rfl
            · have : ltI x y = false := by rw [ltI_eq]; simpa using hlt
              rw [if_neg hlt, this]; rfl
          rw [e, Result.andThen_ok]; exact hz2
      · rw [if_neg hk] at h; cases h
    | _ => simp [minI] at h
theorem typeAssert_sound (h : HR w0 G μ H w) {x : AV} {xv : Value} (hx : VR μ x xv) (xt t : TypeId) (ok : Bool)
    (hr : ∀ v w', (Instr.typeAssert xv xt t ok).run P w = .ok v w' → r = .ok (.value v) w') : XR P w0 G μ H.size (typeAssertA P x t ok H) r := by
  unfold typeAssertA
  split
  · trivial
  · rename_i u hu
    have holds : ∀ (y : AV) (yv : Value), VR μ y yv → (Instr.typeAssert xv xt t ok).run P w = .ok (if ok then .tuple #[yv, .bool true] else yv) w → XR P w0 G μ H.size (bif ok then .val (.tuple [y, .bool true]) H else .val y H) r := fun y yv hy hrun => by
      cases ok
      · exact XR.value h hy (hr _ _ hrun)
      · exact XR.value h (.tuple _ #[yv, .bool true] (.mk2 hy (.bool true))) (hr _ _ hrun)
    have fails : (∀ zv, (zeroValue t).run P w = .ok zv w → ok = true → (Instr.typeAssert xv xt t ok).run P w = .ok (.tuple #[zv, .bool false]) w) → XR P w0 G μ H.size (bif ok then (match zeroA P t with | some z => .val (.tuple [z, .bool false]) H | none => .fail 251) else .fail 252) r := fun hf => by
      refine XR.cond (fun hok => ?_) (fun _ => trivial)
      split
      · rename_i z hz
        obtain ⟨zv, h1, h2⟩ := run_zero (w := w) hz
        exact XR.value h (.tuple _ #[zv, .bool false] (.mk2 (by rw [← h2]; exact VR.ofConst μ zv) (.bool false))) (hr _ _ (hf zv h1 hok))
      · trivial
    split
    · rename_i y heq
      split at heq
      · cases heq
      · rename_i want tt v
        obtain ⟨vv, rfl, hv⟩ := hx.iface_inv
        cases hi : P.info? tt with
        | none => rw [hi] at heq; cases heq
        | some i =>
          rw [hi] at heq
          cases hm : missA want i.methods with
          | true => simp [hm] at heq
          | false =>
            simp only [hm, cond_false, Option.some.injEq] at heq
            subst heq
            have hm' : Instr.missingMethod want i.methods = none := by
              unfold missA at hm
              cases hq : Instr.missingMethod want i.methods with
              | none => rfl
              | some s => rw [hq] at hm; cases hm
            refine holds _ _ hx ?_
            unfold Instr.typeAssert
            simp only [Sem.run_bind, run_underlying hu, Result.andThen_ok, typeInfo, run_program, hi, Sem.run_pure, hm']
      · cases heq
      · rename_i tt v hni
        obtain ⟨vv, rfl, hv⟩ := hx.iface_inv
        cases hb : Nat.beq tt t with
        | false => rw [hb] at heq; cases heq
        | true =>
          rw [hb] at heq
          simp only [cond_true, Option.some.injEq] at heq
          subst heq
          rw [Nat.beq_eq] at hb
          refine holds _ _ hv ?_
          unfold Instr.typeAssert
          rw [Sem.run_bind, run_underlying hu, Result.andThen_ok]
          cases u <;> first | (simp only [hb, if_true, Sem.run_pure]; done) | (exfalso; exact hni _ _ _ rfl rfl) | (exfalso; exact hni _ rfl)
      · cases heq
    · rename_i heq
      refine fails fun zv hz hok => ?_
      subst hok
      split at heq
      · cases hx
        unfold Instr.typeAssert
        simp only [Sem.run_bind, run_underlying hu, Result.andThen_ok, if_true, hz, Sem.run_pure]
      · rename_i want tt v
        obtain ⟨vv, rfl, hv⟩ := hx.iface_inv
        cases hi : P.info? tt with
        | none => rw [hi] at heq; cases heq
        | some i =>
          rw [hi] at heq
          cases hm : missA want i.methods with
          | false => simp [hm] at heq
          | true =>
            obtain ⟨s, hs⟩ : ∃ s, Instr.missingMethod want i.methods = some s := by
              unfold missA at hm
              cases hq : Instr.missingMethod want i.methods with
              | none => rw [hq] at hm; cases hm
              | some s => exact ⟨s, rfl⟩
            unfold Instr.typeAssert
            simp only [Sem.run_bind, run_underlying hu, Result.andThen_ok, typeInfo, run_program, hi, Sem.run_pure, hs, if_true, hz]
      · rename_i hni
        cases hx
        unfold Instr.typeAssert
        rw [Sem.run_bind, run_underlying hu, Result.andThen_ok]
        cases u <;> first | (simp only [Sem.run_bind, if_true, hz, Result.andThen_ok, Sem.run_pure]; done) | (exfalso; exact hni _ rfl)
      · rename_i tt v hni
        obtain ⟨vv, rfl, hv⟩ := hx.iface_inv
        cases hb : Nat.beq tt t with
        | true => rw [hb] at heq; simp at heq
        | false =>
          have hne : ¬ tt = t := fun e => by rw [e] at hb; simp at hb
          unfold Instr.typeAssert
          rw [Sem.run_bind, run_underlying hu, Result.andThen_ok]
          cases u <;> first | (simp only [hne, if_false, Sem.run_bind, if_true, hz, Result.andThen_ok, Sem.run_pure]; done) | (exfalso; exact hni _ _ _ rfl rfl) | (exfalso; exact hni _ rfl)
      · cases heq
    · trivial
end
end Go.Proofs.YtmapmbfohilklaaGreat.Ab
