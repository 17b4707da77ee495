/-
  The abstract machine: keys that may be asked for.
-/
import Derived.Test.YtmapmbfohilklaaGreatAbU0
namespace Go.Proofs.YtmapmbfohilklaaGreat.Ab
open Go.RowKit

section
variable {P : Program} {w0 w : World} {G : Nat} {μ : Mu} {H : AH} {r : Result Next}
theorem run_forIn_list {α : Type} {f : α → PUnit → Sem (ForInStep PUnit)} : ∀ (l : List α), (∀ x ∈ l, (f x ()).run P w = .ok (.yield ()) w) → (forIn l () f).run P w = .ok () w
  | [], _ => rfl
  | x :: l, h => by
    rw [List.forIn_cons, Sem.run_bind, h x (by simp), Result.andThen_ok]
    exact run_forIn_list l fun y hy => h y (by simp [hy])
theorem keyElems_all {chk : TypeId → AV → Bool} {cs : List AV} {e : TypeId} {n : Nat} : ∀ (left i : Nat), keyElems chk P cs e n left i = true → ∀ j, i ≤ j → j < i + left → ∃ v, partA P e cs (j * n) = some v ∧ chk e v = true
  | 0, i, _, j, h1, h2 => by omega
  | m + 1, i, h, j, h1, h2 => by
    simp only [keyElems, Bool.and_eq_true] at h
    by_cases hj : j = i
    · subst hj
      have := h.1
      cases hp : partA P e cs (j * n) with
      | none => rw [hp] at this; cases this
      | some v => rw [hp] at this; exact ⟨v, rfl, this⟩
    · exact keyElems_all m (i + 1) h.2 j (by omega) (by omega)
theorem keyFields_all {chk : TypeId → AV → Bool} {cs : List AV} : ∀ (fs : List Field), keyFields chk P cs fs = true → ∀ f ∈ fs, f.name ≠ "_" → ∃ v, partA P f.type cs f.offset = some v ∧ chk f.type v = true
  | [], _, f, hf, _ => by cases hf
  | g :: fs, h, f, hf, hn => by
    simp only [keyFields, Bool.and_eq_true] at h
    rcases List.mem_cons.1 hf with rfl | hm
    · have := h.1
      rw [if_neg hn] at this
      cases hp : partA P f.type cs f.offset with
      | none => rw [hp] at this; cases this
      | some v => rw [hp] at this; exact ⟨v, rfl, this⟩
    · exact keyFields_all fs h.2 f hm hn
theorem check_sound (em : Bool) : ∀ (d n : Nat) (t : TypeId) (v : AV) (vv : Value), VR μ v vv → keyA P d t v = true → (Instr.checkKey em (d + n) t vv).run P w = .ok () w
  | 0, _, _, _, _, _, h => by cases h
  | d + 1, n, t, v, vv, hv, h => by
    rw [show d + 1 + n = (d + n) + 1 by omega]
    unfold keyA at h
    split at h
    · rename_i hu
      have := hv.int_inv
      subst this
      simp only [Instr.checkKey, Sem.run_bind, run_underlying hu, Result.andThen_ok, Sem.run_pure]
    · rename_i hu
      simp only [Instr.checkKey, Sem.run_bind, run_underlying hu, Result.andThen_ok]
      cases vv <;> rfl
    · rename_i hu
      obtain ⟨s, rfl, _, _⟩ := hv.str_inv
      simp only [Instr.checkKey, Sem.run_bind, run_underlying hu, Result.andThen_ok, Sem.run_pure]
    · rename_i hu
      have := hv.bool_inv
      subst this
      simp only [Instr.checkKey, Sem.run_bind, run_underlying hu, Result.andThen_ok, Sem.run_pure]
    · rename_i hu
      obtain ⟨L, hL, rfl⟩ := hv.ptr_inv
      simp only [Instr.checkKey, Sem.run_bind, run_underlying hu, Result.andThen_ok, Sem.run_pure]
    · rename_i len e cs hu
      obtain ⟨x, rfl, hx⟩ := hv.agg_inv
      split at h
      · rename_i sz hs
        simp only [Instr.checkKey, Sem.run_bind, run_underlying hu, Result.andThen_ok, Std.Legacy.Range.forIn_eq_forIn_range']
        refine (congrArg (fun q => Result.andThen q _) (run_forIn_list _ fun j hj => ?_)).trans rfl
        have hj' : j < len := by simpa [Std.Legacy.Range.size] using hj
        obtain ⟨v, hp, hk⟩ := keyElems_all len 0 h j (by omega) (by omega)
        obtain ⟨u, hu1, hu2⟩ := part_sound (w := w) hx hp
        simp only [Sem.run_bind, run_sizeOf hs, Result.andThen_ok, hu2, check_sound em d n e v u hu1 hk, Sem.run_pure]
      · cases h
    · rename_i fs cs hu
      obtain ⟨x, rfl, hx⟩ := hv.agg_inv
      simp only [Instr.checkKey, Sem.run_bind, run_underlying hu, Result.andThen_ok]
      rw [← Array.forIn_toList]
      refine (congrArg (fun q => Result.andThen q _) (run_forIn_list _ fun f hf => ?_)).trans rfl
      by_cases hn : f.name = "_"
      · simp [hn]
      · obtain ⟨v, hp, hk⟩ := keyFields_all fs.toList h f hf hn
        obtain ⟨u, hu1, hu2⟩ := part_sound (w := w) hx hp
        simp [hn, Sem.run_bind, Result.andThen_ok, hu2, check_sound em d n f.type v u hu1 hk, Sem.run_pure]
    · cases h
theorem lookup_tail (h : HR w0 G μ H w) {t key elem : TypeId} (hu : P.underlying t = some (.map key elem)) {x k : AV} {xv kv : Value} (hk : VR μ k kv) (hkey : keyA P 20 key k = true) (ok : Bool) {es : List (AV × AV × Nat)} {cs : Array MapEntry} (he : ER μ es cs.toList)
    (hrun : (Instr.lookup t xv kv ok).run P w = (do
      Instr.checkKey cs.isEmpty 10000 key kv
      let (v, o) ← match ← Instr.findKey key kv cs.toList with
        | some (_, v) => pure (v, true)
        | none => pure (← zeroValue elem, false)
      pure (if ok then .tuple #[v, .bool o] else v) : Sem Value).run P w)
    (hr : ∀ v w', (Instr.lookup t xv kv ok).run P w = .ok v w' → r = .ok (.value v) w') :
    XR P w0 G μ H.size (match findA P H key (eqA P H 30) k es 0 with
        | some (some (_, v)) => bif ok then .val (.tuple [v, .bool true]) H else .val v H
        | some none => match zeroA P elem with
          | some z => bif ok then .val (.tuple [z, .bool false]) H else .val z H
          | none => .fail 210
        | none => .fail 211) r := by
  have hck := check_sound (P := P) (w := w) cs.isEmpty 20 9980 key k kv hk hkey
  split
  · rename_i i v hf
    obtain ⟨kd, hkd⟩ : ∃ d, P.underlying key = some d := by
      cases hq : P.underlying key with
      | none => unfold keyA at hkey; rw [hq] at hkey; cases hkey
      | some d => exact ⟨d, rfl⟩
    obtain ⟨g, g1, g2⟩ := find_sound (P := P) h hkd hk he hf
    cases g with
    | none => exact g2.elim
    | some p =>
      obtain ⟨j, u⟩ := p
      obtain ⟨_, hv⟩ := g2
      have := hrun
      rw [Sem.run_bind, hck, Result.andThen_ok, Sem.run_bind, g1, Result.andThen_ok] at this
      simp only [Sem.run_bind, Sem.run_pure, Result.andThen_ok] at this
      cases ok
      · exact XR.value h hv (hr _ _ this)
      · exact XR.value h (.tuple _ #[u, .bool true] (.mk2 hv (.bool true))) (hr _ _ this)
  · rename_i hf
    obtain ⟨kd, hkd⟩ : ∃ d, P.underlying key = some d := by
      cases hq : P.underlying key with
      | none => unfold keyA at hkey; rw [hq] at hkey; cases hkey
      | some d => exact ⟨d, rfl⟩
    obtain ⟨g, g1, g2⟩ := find_sound (P := P) h hkd hk he hf
    cases g with
    | some p => exact g2.elim
    | none =>
      split
      · rename_i z hz
        obtain ⟨zv, z1, z2⟩ := run_zero (w := w) hz
        have hzv : VR μ z zv := by rw [← z2]; exact VR.ofConst μ zv
        have := hrun
        rw [Sem.run_bind, hck, Result.andThen_ok, Sem.run_bind, g1, Result.andThen_ok] at this
        simp only [Sem.run_bind, z1, Sem.run_pure, Result.andThen_ok] at this
        cases ok
        · exact XR.value h hzv (hr _ _ this)
        · exact XR.value h (.tuple _ #[zv, .bool false] (.mk2 hzv (.bool false))) (hr _ _ this)
      · trivial
  · trivial
theorem lookup_sound (h : HR w0 G μ H w) (t : TypeId) {x k : AV} {xv kv : Value} (hx : VR μ x xv) (hk : VR μ k kv) (ok : Bool)
    (hr : ∀ v w', (Instr.lookup t xv kv ok).run P w = .ok v w' → r = .ok (.value v) w') : XR P w0 G μ H.size (lookupA P t x k ok H) r := by
  unfold lookupA
  split
  · rename_i key elem hu
    refine XR.cond (fun hkey => ?_) (fun _ => trivial)
    split
    · rename_i es hes
      split at hes
      · simp only [Option.some.injEq] at hes
        subst hes
        cases hx
        refine lookup_tail (x := .nilm) h hu hk hkey ok (es := []) (cs := #[]) ⟨rfl, fun i e c he _ => by simp at he⟩ ?_ hr
        unfold Instr.lookup
        simp only [Sem.run_bind, run_underlying hu, Result.andThen_ok, Sem.run_pure]
        try rfl
      · rename_i b
        obtain ⟨L, hL, rfl⟩ := hx.map_inv
        split at hes
        · rename_i es' clock hg
          simp only [Option.some.injEq] at hes
          subst hes
          obtain ⟨o, ho, hor⟩ := h.obj b L hL (by rw [hg]; intro h; cases h)
          rw [hg] at hor
          obtain ⟨cs, rfl, her⟩ := hor
          refine lookup_tail (x := .map b) h hu hk hkey ok (cs := cs) her ?_ hr
          unfold Instr.lookup
          simp only [Sem.run_bind, run_underlying hu, run_getObj_at ho, Result.andThen_ok, Sem.run_pure]
          rfl
        · cases hes
      · cases hes
    · trivial
  · trivial
end
end Go.Proofs.YtmapmbfohilklaaGreat.Ab
