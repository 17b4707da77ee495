/-
  The abstract machine: each operation.
-/
import Derived.Test.YtmapmbfohilklaaGreatAbU
namespace Go.Proofs.YtmapmbfohilklaaGreat.Ab
open Go.RowKit

section
variable {P : Program} {w0 w : World} {G : Nat} {μ : Mu} {H : AH} {r : Result Next}
theorem builtin_sound (h : HR w0 G μ H w) (b : Builtin) (types : Array TypeId) (ty : TypeId) (cs : Array Bool) {args : List AV} {cargs : Array Value} (ha : LR μ args cargs.toList) : XR P w0 G μ H.size (builtinA P G b types.toList args H) ((builtin b types ty cs cargs).run P w) := by
  have two : ∀ {s x : AV}, LR μ [s, x] cargs.toList → ∃ sv xv, cargs = #[sv, xv] ∧ VR μ s sv ∧ VR μ x xv := fun hl => by
    obtain ⟨sv, xv, he, h1, h2⟩ := hl.two
    exact ⟨sv, xv, by apply Array.ext'; rw [he], h1, h2⟩
  have one : ∀ {s : AV}, LR μ [s] cargs.toList → ∃ sv, cargs = #[sv] ∧ VR μ s sv := fun hl => by
    obtain ⟨sv, he, h1⟩ := hl.one
    exact ⟨sv, by apply Array.ext'; rw [he], h1⟩
  generalize hts : types.toList = tl
  cases b with
  | append =>
    match tl, args, hts, ha with
    | t :: t2 :: ts, [s, x], hts, ha =>
      obtain ⟨sv, xv, rfl, h1, h2⟩ := two ha
      exact append_sound h hts h1 h2 ty fun v w' hv => run_v hv
    | [], _, _, _ => exact trivial
    | [_], _, _, _ => exact trivial
    | _ :: _ :: _, [], _, _ => exact trivial
    | _ :: _ :: _, [_], _, _ => exact trivial
    | _ :: _ :: _, _ :: _ :: _ :: _, _, _ => exact trivial
  | copy =>
    match tl, args, hts, ha with
    | t :: ts, [s, x], hts, ha =>
      obtain ⟨sv, xv, rfl, h1, h2⟩ := two ha
      exact copy_sound h hts h1 h2 ty fun v w' hv => run_v hv
    | [], _, _, _ => exact trivial
    | _ :: _, [], _, _ => exact trivial
    | _ :: _, [_], _, _ => exact trivial
    | _ :: _, _ :: _ :: _ :: _, _, _ => exact trivial
  | len =>
    match tl, args, hts, ha with
    | t :: ts, [x], hts, ha =>
      obtain ⟨xv, rfl, h1⟩ := one ha
      exact len_sound h hts h1 ty fun v w' hv => run_v hv
    | [], _, _, _ => exact trivial
    | _ :: _, [], _, _ => exact trivial
    | _ :: _, _ :: _ :: _, _, _ => exact trivial
  | cap =>
    match tl, args, hts, ha with
    | t :: ts, [x], hts, ha =>
      obtain ⟨xv, rfl, h1⟩ := one ha
      have e0 : types[0]? = some t := by rw [← Array.getElem?_toList, hts]; rfl
      show XR P w0 G μ H.size (match (generalizing := false) P.underlying t, x with | some (.slice _), .nils => _ | some (.slice _), .slice _ _ _ c false => _ | some (.array n _), _ => _ | _, _ => _) _
      split
      · cases h1
        exact XR.value h (.int _ _) (run_v (by
          unfold Builtin.cap_
          simp only [e0, List.getElem?_toArray, List.getElem?_cons_zero, Sem.run_bind, run_underlying (by assumption), Result.andThen_ok, Sem.run_pure]; rfl))
      · obtain ⟨L, hL, rfl⟩ := h1.slice_inv
        exact XR.value h (.int _ _) (run_v (by
          unfold Builtin.cap_
          simp only [e0, List.getElem?_toArray, List.getElem?_cons_zero, Sem.run_bind, run_underlying (by assumption), Result.andThen_ok, Sem.run_pure]; rfl))
      · exact XR.value h (.int _ _) (run_v (by
          unfold Builtin.cap_
          simp only [e0, List.getElem?_toArray, List.getElem?_cons_zero, Sem.run_bind, run_underlying (by assumption), Result.andThen_ok, Sem.run_pure]; rfl))
      · trivial
    | [], _, _, _ => exact trivial
    | _ :: _, [], _, _ => exact trivial
    | _ :: _, _ :: _ :: _, _, _ => exact trivial
  | min =>
    refine XR.rOpt h fun v hv => ?_
    cases args with
    | nil => cases hv
    | cons a l =>
      cases a with
      | int k x =>
        generalize hc : cargs.toList = cl at ha
        cases ha with | cons _ u _ m hu hl =>
        obtain ⟨y, rfl, hy⟩ := mins_sound (P := P) (w := w) false k l m x v hl hv
        have := hu.int_inv
        subst this
        refine ⟨_, .int k y, run_v ?_⟩
        unfold Builtin.min_
        rw [hc]; exact hy
      | _ => cases hv
  | max =>
    refine XR.rOpt h fun v hv => ?_
    cases args with
    | nil => cases hv
    | cons a l =>
      cases a with
      | int k x =>
        generalize hc : cargs.toList = cl at ha
        cases ha with | cons _ u _ m hu hl =>
        obtain ⟨y, rfl, hy⟩ := mins_sound (P := P) (w := w) true k l m x v hl hv
        have := hu.int_inv
        subst this
        refine ⟨_, .int k y, run_v ?_⟩
        unfold Builtin.max_
        rw [hc]; exact hy
      | _ => cases hv
  | delete =>
    match tl, args, hts, ha with
    | t :: ts, [s, x], hts, ha =>
      obtain ⟨sv, xv, rfl, h1, h2⟩ := two ha
      exact delete_sound h hts h1 h2 ty fun v w' hv => run_v hv
    | [], _, _, _ => exact trivial
    | _ :: _, [], _, _ => exact trivial
    | _ :: _, [_], _, _ => exact trivial
    | _ :: _, _ :: _ :: _ :: _, _, _ => exact trivial
  | clear =>
    match tl, args, hts, ha with
    | t :: ts, [x], hts, ha =>
      obtain ⟨xv, rfl, h1⟩ := one ha
      exact clear_sound h hts h1 ty fun v w' hv => run_v hv
    | [], _, _, _ => exact trivial
    | _ :: _, [], _, _ => exact trivial
    | _ :: _, _ :: _ :: _, _, _ => exact trivial
  | _ => exact trivial
theorem nilAhead_sound (h : HR w0 G μ H w) {t : TypeId} {v : AV} {vv : Value} (hv : VR μ v vv) {name : String} (ha : aheadB P t v name = true) (n : Nat) : (nilAhead (n + 1) t vv name).run P w = .ok (some false) w := by
  unfold aheadB at ha
  cases hi : P.info? t with
  | none => rw [hi] at ha; cases ha
  | some i =>
    rw [hi] at ha
    simp only [] at ha
    cases hf : i.methods.find? (·.name == name) with
    | none => rw [hf] at ha; cases ha
    | some m =>
      rw [hf] at ha
      simp only [] at ha
      cases hp : m.path.toList with
      | cons a l => rw [hp] at ha; cases ha
      | nil =>
        rw [hp] at ha
        cases hmf : m.func with
        | none => rw [hmf] at ha; cases ha
        | some q =>
          obtain ⟨g, ptr⟩ := q
          rw [hmf] at ha
          cases ptr with
          | true =>
            unfold nilAhead
            simp only [Sem.run_bind, typeInfo, run_program, hi, Result.andThen_ok, Sem.run_pure, hf, hp, followBlind, hmf]
          | false =>
            unfold nilAhead
            simp only [Sem.run_bind, typeInfo, run_program, hi, Result.andThen_ok, Sem.run_pure, hf, hp, followBlind, hmf]
            simp only [] at ha
            cases hu : P.underlying t with
            | none => rw [hu] at ha; simp at ha
            | some u =>
              rw [run_underlying hu, Result.andThen_ok]
              rw [hu] at ha
              cases u <;> first | rfl | skip
              cases v <;> first | (simp at ha; done) | skip
              obtain ⟨L, hL, rfl⟩ := hv.ptr_inv
              rfl
theorem invoke_sound (h : HR w0 G μ H w) {x : AV} {xv : Value} (hx : VR μ x xv) {name : String} {args : List AV} {cargs : Array Value} (ha : LR μ args cargs.toList) : XR P w0 G μ H.size (invokeV P x name args H) ((callMethod xv name cargs).run P w) := by
  unfold invokeV
  split
  · rename_i t v
    obtain ⟨vv, rfl, hv⟩ := hx.iface_inv
    split
    · rename_i f recv hm
      obtain ⟨u, hu1, hu2⟩ := method_sound h hv hm (P.types.size + 99)
      have hc := callA_sound (P := P) h (f := f) (args := recv :: args) (cargs := #[u] ++ cargs) (by simpa using .cons _ _ _ _ hu2 ha)
      refine XR.congr hc ?_
      unfold callMethod
      simp only [Sem.run_bind, run_program, Result.andThen_ok]
      rw [show P.types.size + Made.depth = P.types.size + 99 + 1 from rfl, hu1, Result.andThen_ok]
    · trivial
  · trivial
theorem yield_sound (h : HR w0 G μ H w) {l : Nat} {L : Loc} (hL : μ l = some L) {args : List AV} {cargs : Array Value} (ha : LR μ args cargs.toList) : XR P w0 G μ H.size (.round l args H) ((Instr.yield L.blk cargs).run P w) := by
  refine ⟨L, cargs, w, hL, ha, h, fun lo hlo hsz => ?_⟩
  unfold Instr.yield Instr.getLoop
  simp only [Sem.run_bind, run_getObj_at hlo, Result.andThen_ok, Sem.run_pure, hsz, ne_eq, not_true_eq_false, if_false]
theorem callV_sound (h : HR w0 G μ H w) {x : AV} {xv : Value} (hx : VR μ x xv) {args : List AV} {cargs : Array Value} (ha : LR μ args cargs.toList) : XR P w0 G μ H.size (callV P x args H) ((do let d ← Deferred.ofValue xv cargs; invoke d.target d.args : Sem Next).run P w) := by
  unfold callV
  split
  · obtain ⟨x, y, rfl, h1, h2⟩ := hx.func_inv
    refine XR.congr (callA_sound (P := P) h (cargs := x ++ cargs ++ y) (by simpa using h1.append (ha.append h2))) ?_
    simp only [Deferred.ofValue, Sem.run_bind, Sem.run_pure, Result.andThen_ok, invoke]
  · obtain ⟨L, hL, rfl⟩ := hx.yield_inv
    refine XR.congr (yield_sound h hL ha) ?_
    simp only [Deferred.ofValue, Sem.run_bind, Sem.run_pure, Result.andThen_ok, invoke]
    simp
  · trivial
theorem evs_sound {tm : TM} {ρ : Operand → Value} (hρ : ∀ x, VR μ (ev tm x) (ρ x)) : ∀ l : List Operand, LR μ (evs tm l) (l.map ρ)
  | [] => .nil
  | x :: l => .cons _ _ _ _ (hρ x) (evs_sound hρ l)
theorem evsArr_sound {tm : TM} {ρ : Operand → Value} (hρ : ∀ x, VR μ (ev tm x) (ρ x)) (l : Array Operand) : LR μ (evs tm l.toList) (l.map ρ).toList := by rw [Array.toList_map]; exact evs_sound hρ _
theorem evsParts_sound {tm : TM} {ρ : Operand → Value} (hρ : ∀ x, VR μ (ev tm x) (ρ x)) : ∀ l : List (Nat × Operand), (evsParts tm l).length = l.length ∧ ∀ (i : Nat) (p : Nat × AV) (c : Nat × Operand), (evsParts tm l)[i]? = some p → l[i]? = some c → p.1 = c.1 ∧ VR μ p.2 (ρ c.2)
  | [] => ⟨rfl, fun i p c h => by simp [evsParts] at h⟩
  | x :: l => by
    obtain ⟨h1, h2⟩ := evsParts_sound hρ l
    refine ⟨by show ((x.1, ev tm x.2) :: evsParts tm l).length = _; simp [h1], fun i p c hp hc => ?_⟩
    cases i with
    | zero =>
      have hp : some (x.1, ev tm x.2) = some p := hp
      simp only [List.getElem?_cons_zero, Option.some.injEq] at hc
      cases hp; cases hc
      exact ⟨rfl, hρ _⟩
    | succ i => exact h2 i p c hp (by simpa using hc)
theorem evO_sound {tm : TM} {ρ : Operand → Value} (hρ : ∀ x, VR μ (ev tm x) (ρ x)) (o : Option Operand) : OVR μ (o.map (ev tm)) (o.map ρ) := by
  cases o with
  | none => trivial
  | some x => exact hρ x
theorem moveX_sound (h : HR w0 G μ H w) {x : AV} {xv : Value} (hx : VR μ x xv) : XR P w0 G μ H.size (moveX x H) ((pure (Next.value xv) : Sem Next).run P w) :=
  XR.onJunk (fun _ => XR.value h (.junk _) rfl) (XR.value h hx rfl)
theorem callX_sound (h : HR w0 G μ H w) {tm : TM} {ρ : Operand → Value} (hρ : ∀ x, VR μ (ev tm x) (ρ x)) (c : Call) (ty : TypeId) : XR P w0 G μ H.size (callX c P G tm H) ((do let d ← resolve ρ c ty; invoke d.target d.args : Sem Next).run P w) := by
  have ha := evsArr_sound hρ c.args
  unfold callX
  cases hc : c.callee with
  | value f =>
    refine XR.congr (callV_sound h (hρ f) ha) ?_
    simp only [resolve, hc]
  | invoke x name =>
    refine XR.congr (invoke_sound h (hρ x) (name := name) ha) ?_
    simp only [resolve, hc, Sem.run_bind, Sem.run_pure, Result.andThen_ok, invoke]
    have e1 : (#[ρ x] ++ c.args.map ρ)[0]? = some (ρ x) := by rw [Array.getElem?_append_left (by simp)]; rfl
    have e2 : (#[ρ x] ++ c.args.map ρ).extract 1 (#[ρ x] ++ c.args.map ρ).size = c.args.map ρ := by
      apply Array.ext'; simp; rw [List.take_of_length_le (by simp)]
    rw [e1, e2]
  | builtin b =>
    unfold resolve
    rw [hc]
    simp only [Sem.run_bind, Sem.run_pure, Result.andThen_ok, invoke]
    exact builtin_sound h b c.argTypes ty _ ha
theorem buildSliceOp (h : HR w0 G μ H w) {tm : TM} {ρ : Operand → Value} (hρ : ∀ x, VR μ (ev tm x) (ρ x)) (t : TypeId) (n : Nat) (ps : Array (Nat × Operand)) (f : Nat × Operand → Nat × Value) (hf : ∀ p, f p = (p.1, ρ p.2)) :
    XR P w0 G μ H.size (buildSliceA P t n (evsParts tm ps.toList) H) ((do pure (Next.value (← Instr.buildSlice t n (ps.map f))) : Sem Next).run P w) := by
  obtain ⟨h1, h2⟩ := evsParts_sound hρ ps.toList
  exact buildSlice_sound h (by simpa using h1) (fun i p c hp hc => by
    rw [Array.toList_map, List.getElem?_map] at hc
    cases hq : ps.toList[i]? with
    | none => rw [hq] at hc; cases hc
    | some q =>
      rw [hq] at hc
      simp only [Option.map_some, Option.some.injEq] at hc
      subst hc
      rw [hf]
      exact h2 i p q hp hq) fun v w' hv => run_v hv
theorem opA_sound (h : HR w0 G μ H w) {tm : TM} {ρ : Operand → Value} (hρ : ∀ x, VR μ (ev tm x) (ρ x)) (o : Oper) : XR P w0 G μ H.size (opA P G o tm H) ((execOp ρ o).run P w) := by
  unfold opA execOp
  cases hop : o.op with
  | move x => exact moveX_sound h (hρ x)
  | assign x => exact moveX_sound h (hρ x)
  | pick c a b =>
    refine XR.onBool (fun t ht => ?_) trivial
    have hc := hρ c
    rw [ht] at hc
    have hc := hc.bool_inv
    cases t
    · refine XR.congr (moveX_sound h (hρ b)) ?_
      simp only [hc, asBool, Sem.run_bind, Sem.run_pure, Result.andThen_ok, Bool.false_eq_true, if_false]
    · refine XR.congr (moveX_sound h (hρ a)) ?_
      simp only [hc, asBool, Sem.run_bind, Sem.run_pure, Result.andThen_ok, if_true]
  | alloc t =>
    refine XR.onOV (fun z hz => ?_) trivial
    obtain ⟨zv, h1, h2⟩ := run_zero (w := w) hz
    refine newVar_sound h (by rw [← h2]; exact VR.ofConst μ zv) (run_v ?_)
    simp only [Instr.alloc, Sem.run_bind, h1, Result.andThen_ok, newVar, run_newRow, Sem.run_pure]
  | box t x =>
    refine newVar_sound h (hρ x) (run_v ?_)
    simp only [Instr.box, newVar, Sem.run_bind, run_newRow, Result.andThen_ok, Sem.run_pure]
  | build t ps =>
    obtain ⟨h1, h2⟩ := evsParts_sound hρ ps.toList
    exact build_sound h (cs := ps.map fun (i, x) => (i, ρ x)) (by simpa using h1) (fun i p c hp hc => by
      simp only [Array.toList_map, List.getElem?_map] at hc
      cases hq : ps.toList[i]? with
      | none => rw [hq] at hc; cases hc
      | some q =>
        rw [hq] at hc
        simp only [Option.map_some, Option.some.injEq] at hc
        subst hc
        exact h2 i p q hp hq) fun v hv => run_v hv
  | buildSlice t n ps => exact buildSliceOp h hρ t n ps _ (fun _ => rfl)
  | load t a =>
    refine XR.onPtr (fun b off hp => ?_) trivial
    have ha := hρ a
    rw [hp] at ha
    obtain ⟨L, hL, hv⟩ := ha.ptr_inv
    refine loadX_sound h hL fun v hl => run_v ?_
    simp only [Instr.loadAt, hv, Instr.sureAddr, asAddr, Sem.run_bind, Sem.run_pure, Result.andThen_ok, hl]
  | store t a x =>
    refine XR.onPtr (fun b off hp => ?_) trivial
    have ha := hρ a
    rw [hp] at ha
    obtain ⟨L, hL, hv⟩ := ha.ptr_inv
    refine storeX_sound h hL (hρ x) fun w' hl => run_u ?_
    simp only [Instr.storeAt, hv, Instr.sureAddr, asAddr, Sem.run_bind, Sem.run_pure, Result.andThen_ok, hl]
  | nilCheck x =>
    have hx := hρ x
    refine XR.onPtr (fun b off hp => ?_) ?_
    · rw [hp] at hx
      obtain ⟨L, hL, hv⟩ := hx.ptr_inv
      simp only [hv]
      exact XR.value h (.ptr b off L hL) rfl
    · unfold nilSlow
      split
      · rename_i f a b he
        rw [he] at hx
        obtain ⟨y, z, hv, h1, h2⟩ := hx.func_inv
        simp only [hv]
        exact XR.value h (.func _ _ _ _ _ h1 h2) rfl
      · rename_i l he
        rw [he] at hx
        obtain ⟨L, hL, hv⟩ := hx.yield_inv
        simp only [hv]
        exact XR.value h (.yield _ _ hL) rfl
      · rename_i t v he
        rw [he] at hx
        obtain ⟨u, hv, h1⟩ := hx.iface_inv
        simp only [hv]
        exact XR.value h (.iface _ _ _ h1) rfl
      · rename_i name t v he
        rw [he] at hx
        obtain ⟨u, y, hv, h1⟩ := hx.meth_inv
        obtain ⟨vv, rfl, h2⟩ := h1.iface_inv
        refine XR.cond (fun ha => ?_) (fun _ => trivial)
        simp only [hv]
        refine XR.value h (.meth name _ _ y h1) ?_
        have := nilAhead_sound (P := P) h h2 ha (P.types.size + 99)
        simp only [List.getElem?_toArray, List.getElem?_cons_zero, Sem.run_bind, run_program, Result.andThen_ok]
        rw [show P.types.size + Made.depth = P.types.size + 99 + 1 from rfl, this, Result.andThen_ok]
        simp
      · trivial
  | binOp op t x y g => exact bin_sound h op t x y (hρ x) (hρ y) fun v w' hv => run_v hv
  | unOp op t x => exact un_sound h op (hρ x) fun v w' hv => run_v hv
  | convert s d x =>
    refine XR.onInt (fun k n hk => XR.onK (fun k' hkk => ?_) ?_) (conv_sound h (hρ x) fun v w' hv => run_v hv)
    · have hx := hρ x
      rw [hk] at hx
      have hx := hx.int_inv
      unfold convKind at hkk
      split at hkk
      · rename_i ss k2 hs hd
        simp only [Option.some.injEq] at hkk
        subst hkk
        refine XR.rInt h (m := k2.wrap n) (wrapZ_eq _ _) (run_v ?_)
        unfold convert
        simp only [Sem.run_bind, run_underlying hs, run_underlying hd, Result.andThen_ok, hx, Conv.intToInt, Sem.run_pure]
      · cases hkk
    · exact conv_sound h (by have := hρ x; rw [hk] at this; exact this) fun v w' hv => run_v hv
  | makeInterface t x => exact makeIface_sound h t (hρ x) fun v w' hv => run_v hv
  | makeFunc fn a b => exact makeFunc_sound h fn (evsArr_sound hρ a) (evsArr_sound hρ b) fun v w' hv => run_v hv
  | makeMap t r => exact makeMap_sound h t (evO_sound hρ r) fun v w' hv => run_v hv
  | makeSlice t l c => exact makeSlice_sound h (hρ l) (hρ c) fun v w' hv => run_v hv
  | slice t x lo hi mx => exact slice_sound h (hρ x) (evO_sound hρ lo) (evO_sound hρ hi) (evO_sound hρ mx) fun v hv => run_v hv
  | fieldAddr s x f => exact fieldAddr_sound h (hρ x) fun v hv => run_v hv
  | field t x f => exact field_sound h (hρ x) fun v hv => run_v hv
  | indexAddr t x i => exact indexAddr_sound h (hρ x) (hρ i) fun v hv => run_v hv
  | index t x i => exact index_sound h (hρ x) (hρ i) fun v hv => run_v hv
  | lookup t x k ok => exact lookup_sound h t (hρ x) (hρ k) ok fun v w' hv => run_v hv
  | insert t m k x => exact mapUpdate_sound h t (hρ m) (hρ k) (hρ x) fun w' hv => run_u hv
  | mapUpdate t m k x => exact mapUpdate_sound h t (hρ m) (hρ k) (hρ x) fun w' hv => run_u hv
  | mapEntry t m k => exact mapEntry_sound h t (hρ m) (hρ k) fun v w' hv => run_v hv
  | entryStore t m s x => exact entryStore_sound h t (hρ m) (hρ s) (hρ x) fun w' hv => run_u hv
  | range t x => exact range_sound h t (hρ x) fun v w' hv => run_v hv
  | next it s => exact next_sound h o.type s (hρ it) fun v w' hv => run_v hv
  | typeAssert x xt t ok => exact typeAssert_sound h (hρ x) xt t ok fun v w' hv => run_v hv
  | extract x i => exact extract_sound h i (hρ x) fun v w' hv => run_v hv
  | call c => exact callX_sound h hρ c o.type
  | _ => exact trivial
end
end Go.Proofs.YtmapmbfohilklaaGreat.Ab
