/-
  The abstract machine: frames, steps, the run.
-/
import Derived.Test.YtmapmbfohilklaaGreatAbX3
import Derived.RangeFuncLeaves
import Derived.RangeFuncRecord
namespace Go.Proofs.YtmapmbfohilklaaGreat.Ab
open Go.RowKit

section
variable {P : Program} {w0 w : World} {G N0 N : Nat} {μ : Mu} {H : AH}
/-! ### a function is entered -/
def argTree : List AV → Tr AV → Nat → Tr AV
  | [], t, _ => t
  | a :: l, t, i => argTree l (putV (path i) t a .junk) (i + 1)
theorem argsK_eq (l : List AV) : ∀ (t : Tr AV) (i : Nat) (k : Tr AV → X), argsK l t i k = k (argTree l t i) := by
  induction l with
  | nil => intro t i k; rfl
  | cons a l ih =>
    intro t i k
    show setV (path i) t a .junk (fun t' => fNat (Nat.succ i) fun j => argsK l t' j k) = _
    rw [setV_eq, fNat_eq, ih]; rfl
theorem argTree_get (l : List AV) : ∀ (t : Tr AV) (i q : Nat), getV (argTree l t i) (path q) .junk = if i ≤ q ∧ q < i + l.length then (l[q - i]?).getD .junk else getV t (path q) .junk := by
  induction l with
  | nil => intro t i q; rw [if_neg (by simp)]; rfl
  | cons a l ih =>
    intro t i q
    show getV (argTree l (putV (path i) t a .junk) (i + 1)) (path q) .junk = _
    rw [ih, get_putV]
    by_cases h1 : q = i
    · subst h1
      rw [if_neg (by omega), if_pos rfl, if_pos ⟨Nat.le_refl _, by simp⟩]; simp
    · rw [if_neg (c := path q = path i) (fun e => h1 (path_inj e))]
      by_cases h2 : i + 1 ≤ q ∧ q < i + 1 + l.length
      · rw [if_pos h2, if_pos ⟨by omega, by simp; omega⟩]
        obtain ⟨d, hd⟩ : ∃ d, q - i = d + 1 := ⟨q - i - 1, by omega⟩
        rw [hd, List.getElem?_cons_succ, show q - (i + 1) = d by omega]
      · rw [if_neg h2, if_neg (by simp; omega)]
theorem getV_empty (p : List Bool) : getV .nil p .junk = .junk := rfl
theorem SR.enter {args : List AV} {cargs : Array Value} (h : LR μ args cargs.toList) (mask n : Nat) (hn : n ≤ (cargs ++ Array.replicate (n - cargs.size) undef).size) : SR μ n ⟨mask, .nil, argTree args .nil 0⟩ (cargs ++ Array.replicate (n - cargs.size) undef) := by
  refine ⟨hn, fun t => ?_⟩
  rw [getT_eq]
  by_cases hl : isLocal mask t = true
  · rw [if_pos hl]; exact .junk _
  · rw [if_neg hl, argTree_get]
    have hlen := h.length
    simp only [Array.length_toList] at hlen
    by_cases ht : t < args.length
    · rw [if_pos (by omega), Nat.sub_zero, List.getElem?_eq_getElem ht, Option.getD_some]
      obtain ⟨v, hv, hr⟩ := h.get t _ (List.getElem?_eq_getElem ht)
      rw [Array.getD_eq_getD_getElem?, Array.getElem?_append_left (by omega), ← Array.getElem?_toList, hv]
      exact hr
    · rw [if_neg (by omega)]; exact .junk _

/-! ### frames -/
theorem WT.mono {ops : Array Oper} {n A sure : Nat} {fl : List (Nat × Oper)} {c : List (Nat × Nat)} {S : Nat → Prop} {l : List Nat} {tm : TM} {tmps : Array Value} {ν : Mu} {M : Nat} (h : WT P G ops N0 N n A fl sure c S l μ tm tmps) (hm : μ.lx N ν) (hM : N ≤ M) : WT P G ops N0 M n A fl sure c S l ν tm tmps :=
  ⟨h.so, h.ds, h.lin, h.len, fun t ht => (h.sl t ht).mono hm.1, h.dw, fun i b hi hg => let ⟨a1, a2, a3⟩ := h.gh i b hi hg; ⟨by rw [hm.2 b a3]; exact a1, a2, Nat.lt_of_lt_of_le a3 hM⟩, h.gd⟩
/-- The blocks of a frame's loops over functions, that its deferred calls name. -/
inductive DfR (μ : Mu) : List Nat → List Deferred → Prop
  | nil : DfR μ [] []
  | cons (b : Nat) (L : Loc) (h : μ b = some L) {d : List Nat} {ds : List Deferred} (t : DfR μ d ds) : DfR μ (b :: d) ({ target := .collected L.blk, args := #[] } :: ds)
theorem DfR.mono {μ ν : Mu} (hm : μ.le ν) {d : List Nat} {ds : List Deferred} (h : DfR μ d ds) : DfR ν d ds := by
  induction h with
  | nil => exact .nil
  | cons b L h _ ih => exact .cons b L (hm _ _ h) ih
/-- The round that a frame is. -/
def RoR (μ : Mu) (r k : Option Nat) : Prop :=
  match r, k with
  | none, none => True
  | some l, some k => ∃ L, μ l = some L ∧ L.blk = k
  | _, _ => False
theorem RoR.mono {μ ν : Mu} (hm : μ.le ν) {r k : Option Nat} (h : RoR μ r k) : RoR ν r k := by
  cases r <;> cases k <;> first | exact h | (obtain ⟨L, h1, h2⟩ := h; exact ⟨L, hm _ _ h1, h2⟩)
theorem RoR.none_inv {k : Option Nat} (h : RoR μ none k) : k = none := by cases k <;> first | rfl | exact h.elim
theorem RoR.some_inv {l : Nat} {k : Option Nat} (h : RoR μ (some l) k) : ∃ L, μ l = some L ∧ k = some L.blk := by
  cases k with
  | none => exact h.elim
  | some k => obtain ⟨L, h1, h2⟩ := h; exact ⟨L, h1, by rw [h2]⟩
/-- A frame, and blocks below N; its own that have no place yet are N0 at least. -/
inductive FR (P : Program) (G N0 N : Nat) (μ : Mu) : AF → Frame → Prop
  | run (n : Nat) (tm : TM) (l : List AItem) (b : Frame) (a : Act) (m : List Item) (d : List Nat) (r : Option Nat) (hk : b.kind = .normal) (hd : a.defers = b.defers) (hdf : DfR μ d b.defers) (hro : RoR μ r b.roundOf) (hs : SR μ n tm a.tmps) (hi : IR μ l m) : FR P G N0 N μ (.mk b.fn n tm l false d r) (b.atR a m)
  | ret (n : Nat) (tm : TM) (l : List AItem) (b : Frame) (a : Act) (m : List Item) (d : List Nat) (hk : b.kind = .normal) (hdf : DfR μ d a.defers) (hs : SR μ n tm a.tmps) : FR P G N0 N μ (.mk b.fn n tm l true d none) { b.atR a m with mode := .returning }
  | dwait (ops : Array Oper) (items : List PItem) (lst : List Nat) (n : Nat) (tm : TM) (l : List AItem) (b : Frame) (a : Act) (m : List Item) (d : List Nat) (r : Option Nat) (hk : b.kind = .normal) (hd : a.defers = b.defers) (hdf : DfR μ d b.defers) (hro : RoR μ r b.roundOf) (hs : DWait P G ops N0 N n items lst μ tm a.tmps) (hi : IR μ l m) :
      FR P G N0 N μ (.mk b.fn n tm (.dwait ops items :: l) false d r) (b.atR a (.inRegion ops lst :: m))
  | drun (ops : Array Oper) (chk : List Oper) (items : List PItem) (lst : List Nat) (n : Nat) (tm : TM) (l : List AItem) (b : Frame) (a : Act) (m : List Item) (d : List Nat) (r : Option Nat) (hk : b.kind = .normal) (hd : a.defers = b.defers) (hdf : DfR μ d b.defers) (hro : RoR μ r b.roundOf) (hs : DRun P G ops N0 N n chk items lst μ tm a.tmps) (hi : IR μ l m) :
      FR P G N0 N μ (.mk b.fn n tm (.dreg ops chk items :: l) false d r) (b.atR a (.inRegion ops lst :: m))
theorem FR.mono {μ ν : Mu} {M : Nat} (hm : μ.lx N ν) (hM : N ≤ M) {f : AF} {fr : Frame} (h : FR P G N0 N μ f fr) : FR P G N0 M ν f fr := by
  cases h with
  | run n tm l b a m d r hk hd hdf hro hs hi => exact .run n tm l b a m d r hk hd (hdf.mono hm.1) (hro.mono hm.1) (hs.mono hm.1) (hi.mono hm.1)
  | ret n tm l b a m d hk hdf hs => exact .ret n tm l b a m d hk (hdf.mono hm.1) (hs.mono hm.1)
  | dwait ops items lst n tm l b a m d r hk hd hdf hro hs hi =>
    obtain ⟨x, is, A, fl, sure, c, S, l', o, h1, h2, h3, h4, h5⟩ := hs
    exact .dwait ops items lst n tm l b a m d r hk hd (hdf.mono hm.1) (hro.mono hm.1) ⟨x, is, A, fl, sure, c, S, l', o, h1, h2, h3, h4, h5.mono hm hM⟩ (hi.mono hm.1)
  | drun ops chk items lst n tm l b a m d r hk hd hdf hro hs hi =>
    obtain ⟨is, A, fl, sure, c, S, h1, h2, h3⟩ := hs
    exact .drun ops chk items lst n tm l b a m d r hk hd (hdf.mono hm.1) (hro.mono hm.1) ⟨is, A, fl, sure, c, S, h1, h2.mono hm hM, h3⟩ (hi.mono hm.1)
/-- Callers: what of theirs has no place yet lies below N. -/
inductive CR (P : Program) (G : Nat) (μ : Mu) : Nat → List AF → List Frame → Prop
  | nil (N : Nat) : CR P G μ N [] []
  | cons (N0 N : Nat) {f : AF} {fr : Frame} {cs : List AF} {ccs : List Frame} (hN : N0 ≤ N) (h : FR P G N0 N μ f fr) (hr : f.ret = false) (t : CR P G μ N0 cs ccs) : CR P G μ N (f :: cs) (fr :: ccs)
theorem CR.mono {μ ν : Mu} {N : Nat} {cs : List AF} {ccs : List Frame} (h : CR P G μ N cs ccs) : ∀ {M : Nat}, μ.lx N ν → N ≤ M → CR P G ν M cs ccs := by
  induction h with
  | nil => exact fun _ _ => .nil _
  | cons N0 N hN h hr _ ih => exact fun hm hM => .cons N0 _ (Nat.le_trans hN hM) (h.mono hm hM) hr (ih (hm.weak hN) (Nat.le_refl _))
def lastFn : Nat → List AF → Nat
  | f, [] => f
  | _, c :: cs => lastFn c.fn cs
variable {base : List Frame} {f0 : Nat}
/-- What a run comes to. -/
def XS (P : Program) (w0 : World) (G : Nat) (base : List Frame) (f0 : Nat) (m : Machine) (x : X) : Prop :=
  match x with
  | .done v H => ∃ (μ : Mu) (w : World) (fr : Frame) (u : Value), Steps P m (lone fr base w) ∧ fr.fn = f0 ∧ fr.leaving P w (.returned u) ∧ VR μ v u ∧ HR w0 G μ H w
  | .next f cs H => ∃ (μ : Mu) (N0 : Nat) (fr : Frame) (ccs : List Frame) (w : World), Steps P m (lone fr (ccs ++ base) w) ∧ N0 ≤ H.size ∧ FR P G N0 H.size μ f fr ∧ CR P G μ N0 cs ccs ∧ HR w0 G μ H w ∧ lastFn f.fn cs = f0
  | _ => True
theorem XS.step {m m' : Machine} {x : X} (h : Steps P m m') (hx : XS P w0 G base f0 m' x) : XS P w0 G base f0 m x := by
  cases x with
  | done v H => obtain ⟨μ, w, fr, u, h1, h2⟩ := hx; exact ⟨μ, w, fr, u, h.trans h1, h2⟩
  | next f cs H => obtain ⟨μ, N0, fr, ccs, w, h1, h2⟩ := hx; exact ⟨μ, N0, fr, ccs, w, h.trans h1, h2⟩
  | _ => trivial
/-- A way to go on that is right. -/
def Good (P : Program) (w0 : World) (G : Nat) (base : List Frame) (f0 : Nat) (ih : Cont) : Prop :=
  ∀ (μ : Mu) (N0 fn n : Nat) (tm : TM) (todo : List AItem) (ret : Bool) (d : List Nat) (r : Option Nat) (cs : List AF) (H : AH) (fr : Frame) (ccs : List Frame) (w : World),
    N0 ≤ H.size → FR P G N0 H.size μ (.mk fn n tm todo ret d r) fr → CR P G μ N0 cs ccs → HR w0 G μ H w → lastFn fn cs = f0 → XS P w0 G base f0 (lone fr (ccs ++ base) w) (ih fn n tm todo ret d r cs H)
/-- A hook that is right. -/
def HookOK (P : Program) (w0 : World) (G : Nat) (K : Hooks) : Prop :=
  ∀ (f : Nat) (h : Hook), K f = some h → ∀ (args : List AV) (H : AH) (v : AV) (H' : AH), h args H = some (v, H') → ∀ (μ : Mu) (w : World) (cargs : Array Value), HR w0 G μ H w → LR μ args cargs.toList →
    Calls P f cargs w fun e w' => ∃ (u : Value) (μ' : Mu), e = .returned u ∧ VR μ' v u ∧ HR w0 G μ' H' w' ∧ μ.lx H.size μ' ∧ H.size ≤ H'.size
theorem putK_XS {n : Nat} {tm : TM} {d : Option Tmp} {v : AV} {f : TM → X} {m : Machine} (h : (∀ x, d = some x → x < n) → XS P w0 G base f0 m (f (tm.putO d v))) : XS P w0 G base f0 m (putK n tm d v f) := by
  cases d with
  | none => exact h (fun x hx => by cases hx)
  | some d =>
    show XS P w0 G base f0 m (Bool.rec (motive := fun _ => Nat → TM → AV → (TM → X) → X) (fun _ _ _ _ => .fail 1) (fun d tm v k => putT tm d v k) (Nat.blt d n) d tm v f)
    cases hb : Nat.blt d n with
    | false => trivial
    | true =>
      show XS P w0 G base f0 m (putT tm d v f)
      rw [putT_eq]
      exact h (fun x hx => by cases hx; rwa [Nat.blt_eq] at hb)
/-- A caller goes on. -/
theorem fin_sound {ih : Cont} (hg : Good P w0 G base f0 ih) {c : AF} {fr : Frame} {v : AV} {u : Value} {cs : List AF} {ccs : List Frame} (hN : N0 ≤ H.size) (hf : FR P G N0 H.size μ c fr) (hcr : c.ret = false) (hv : VR μ v u) (hc : CR P G μ N0 cs ccs) (hh : HR w0 G μ H w) (hl : lastFn c.fn cs = f0) :
    XS P w0 G base f0 (lone (fr.finish u) (ccs ++ base) w) (finA P G ih c v cs H) := by
  obtain ⟨fn, n, tm, todo, ret, d, r⟩ := c
  cases hf with
  | run _ _ _ b a m _ _ hk hd hdf hro hs hi =>
    cases hi with
    | nil => exact trivial
    | reg ops i hr t =>
      rename_i rest l m
      cases rest with
      | nil => exact trivial
      | cons o rest =>
        obtain ⟨ho, hr', hrange⟩ := range_drop hr
        rw [hrange, Frame.finish_atR, ho]
        refine putK_XS fun hdst => ?_
        exact hg μ N0 b.fn n _ _ false d r cs H _ ccs w hN (.run n _ _ b _ _ d r hk (by show (a.put o.dst u).defers = b.defers; cases o.dst <;> exact hd) hdf hro (hs.putAct hdst hv) (.reg ops (i + 1) hr' t)) hc hh hl
    | inRF l L hL t => exact hg μ N0 b.fn n tm _ false d r cs H (b.atR a _) ccs w hN (.run n _ _ b _ _ d r hk hd hdf hro hs (.endRF l L hL t)) hc hh hl
    | _ => exact trivial
  | ret _ _ _ b a m _ hk hdf hs => cases hcr
  | drun ops chk items lst _ _ l b a m _ _ hk hd hdf hro hs hi => exact trivial
  | dwait ops items lst _ _ l b a m _ _ hk hd hdf hro hs hi =>
    obtain ⟨x, is, A, fl, sure, c, S, l', o, rfl, hbu, ho, hf, hw⟩ := hs
    obtain ⟨o', rest, ho', hA, hr, hcase⟩ := build_cons hbu
    rw [ho] at ho'
    cases ho'
    rcases hcase with ⟨hf', hf2, _⟩ | ⟨_, hrd, hbr, rfl⟩
    · unfold floatB at hf; rw [hf', hf2] at hf; cases hf
    · rw [Frame.finish_atR, ho]
      show XS P w0 G base f0 _ (putK n tm o.dst v fun tm => ih b.fn n tm (.dreg ops _ rest :: l) false d r cs H)
      refine putK_XS fun hdst => ?_
      have hw1 := hw.acted (N' := H.size) ho hA hr hdst (μ.lx_refl _) (Nat.le_refl _) hv
      refine hg μ N0 b.fn n _ _ false d r cs H _ ccs w hN (.drun ops _ rest l' n _ l b _ m d r hk (by show (a.put o.dst u).defers = b.defers; cases o.dst <;> exact hd) hdf hro ⟨is, _, _, _, _, _, hbr, hw1, fun j oj hj hoj hhp => ?_⟩ hi) hc hh hl
      obtain ⟨oj', k1, k2, _, k3, k4⟩ := hw1.ds.fls j hj
      rw [hoj] at k1
      cases k1
      exact List.mem_filter.2 ⟨List.mem_map.2 ⟨_, k4, rfl⟩, hhp⟩
/-- A function is entered. -/
theorem enter_sound {ih : Cont} (hg : Good P w0 G base f0 ih) {f : Nat} {args : List AV} {cargs : Array Value} {cs : List AF} {ccs : List Frame} (ha : LR μ args cargs.toList) (hc : CR P G μ H.size cs ccs) (hh : HR w0 G μ H w) (hl : lastFn f cs = f0) :
    XS P w0 G base f0 (lone (Frame.enter P f cargs .normal) (ccs ++ base) w) (enterA P ih f args cs H) := by
  unfold enterA
  cases hb : bodyOf P f with
  | none => trivial
  | some c =>
    show XS P w0 G base f0 _ (argsK args .nil 0 fun tr => fNat (slotsOf P f) fun n => fNat (maskOf P f) fun mask => ih f n (.mk mask .nil tr) [.code c] false [] none cs H)
    rw [argsK_eq, fNat_eq, fNat_eq]
    have he : Frame.enter P f cargs .normal = ({ (default : Frame) with fn := f, kind := .normal } : Frame).atR ⟨cargs ++ Array.replicate (slotsOf P f - cargs.size) undef, []⟩ [.code c] := by
      unfold bodyOf at hb
      unfold Frame.enter Frame.atR slotsOf
      simp only [hb, Option.getD_some]
      rfl
    rw [he]
    exact hg μ H.size f (slotsOf P f) _ _ false [] none cs H _ ccs w (Nat.le_refl _) (.run _ _ _ ({ (default : Frame) with fn := f, kind := .normal }) _ _ [] none rfl rfl .nil trivial (SR.enter ha _ _ (by simp; omega)) (.code c .nil)) hc hh hl
/-- What a frame yields. -/
def resG (tmps : Array Value) : ResultVar → Sem Value
  | .tmp t => pure (tmps.getD t undef)
  | .cell a t => do loadVar t (← asAddr (tmps.getD a undef))
theorem results_eq (fn : Func) (tmps : Array Value) : results fn tmps = (do let vs ← fn.results.mapM (resG tmps); pure (if h : vs.size = 1 then vs[0] else .tuple vs)) := by
  have e : (fun x : ResultVar => match x with | .tmp t => (pure (tmps.getD t undef) : Sem Value) | .cell a t => do loadVar t (← asAddr (tmps.getD a undef))) = resG tmps := by funext x; cases x <;> rfl
  rw [← e]; rfl
theorem resA_sound {n : Nat} {tm : TM} {tmps : Array Value} (hs : SR μ n tm tmps) (hh : HR w0 G μ H w) : ∀ (l : List ResultVar) (vs : List AV), resA P tm H l = some vs →
    ∃ us : List Value, (l.mapM (resG tmps)).run P w = .ok us w ∧ LR μ vs us
  | [], vs, h => by
    simp only [resA, Option.some.injEq] at h
    subst h
    exact ⟨[], rfl, .nil⟩
  | .tmp t :: l, vs, h => by
    simp only [resA] at h
    cases hr : resA P tm H l with
    | none => rw [hr] at h; cases h
    | some r =>
      rw [hr] at h
      simp only [Option.some.injEq] at h
      subst h
      obtain ⟨us, h1, h2⟩ := resA_sound hs hh l r hr
      refine ⟨tmps.getD t undef :: us, ?_, .cons _ _ _ _ (hs.2 t) h2⟩
      rw [List.mapM_cons]
      simp only [resG, Sem.run_bind, Sem.run_pure, Result.andThen_ok]
      rw [show (l.mapM (resG tmps)).run P w = .ok us w from h1, Result.andThen_ok]
  | .cell a t :: l, vs, h => by
    simp only [resA] at h
    have ha := hs.2 a
    split at h
    · rename_i b off he
      rw [he] at ha
      obtain ⟨L, hL, hv⟩ := ha.ptr_inv
      split at h
      · rename_i v r hld hr
        simp only [Option.some.injEq] at h
        subst h
        obtain ⟨us, h1, h2⟩ := resA_sound hs hh l r hr
        obtain ⟨u, hu1, hu2⟩ := loadA_sound (P := P) hh hL hld
        refine ⟨u :: us, ?_, .cons _ _ _ _ hu2 h2⟩
        have hadr : (asAddr (tmps.getD a undef)).run P w = .ok ⟨L.blk, L.base + off, none⟩ w := by rw [hv]; rfl
        rw [List.mapM_cons, Sem.run_bind]
        have e0 : (resG tmps (.cell a t)).run P w = .ok u w := by unfold resG; rw [Sem.run_bind, hadr, Result.andThen_ok, hu1]
        rw [e0, Result.andThen_ok, Sem.run_bind, h1, Result.andThen_ok]; rfl
      · cases h
    · cases h
theorem results_sound {n : Nat} {tm : TM} {tmps : Array Value} (hs : SR μ n tm tmps) (hh : HR w0 G μ H w) {fn : Func} {vs : List AV} (h : resA P tm H fn.results.toList = some vs) : ∃ u, (results fn tmps).run P w = .ok u w ∧ VR μ (oneOf vs) u := by
  obtain ⟨us, h1, h2⟩ := resA_sound (P := P) hs hh _ _ h
  have hm : (fn.results.mapM (resG tmps)).run P w = .ok us.toArray w := by
    rw [Array.mapM_eq_mapM_toList, map_eq_pure_bind, Sem.run_bind, h1]; rfl
  refine ⟨if h : us.toArray.size = 1 then us.toArray[0] else .tuple us.toArray, ?_, ?_⟩
  · rw [results_eq, Sem.run_bind, hm, Result.andThen_ok]; rfl
  · unfold oneOf
    split
    · obtain ⟨u, rfl, hu⟩ := h2.one
      simpa using hu
    · rename_i hne
      have : us.toArray.size ≠ 1 := fun e => by
        have := h2.length
        match vs, this with
        | [v], _ => exact hne v rfl
        | [], h => simp at e; rw [e] at h; simp at h
        | _ :: _ :: _, h => simp at e; rw [e] at h; simp at h
      rw [dif_neg this]
      exact .tuple _ _ (by simpa using h2)
theorem ret_sound {ih : Cont} (hg : Good P w0 G base f0 ih) {n : Nat} {tm : TM} {l : List AItem} {b : Frame} {a : Act} {m : List Item} {d : List Nat} {cs : List AF} {ccs : List Frame} (hk : b.kind = .normal) (hdf : DfR μ d a.defers) (hs : SR μ n tm a.tmps) (hN : N0 ≤ H.size) (hc : CR P G μ N0 cs ccs) (hh : HR w0 G μ H w) (hl : lastFn b.fn cs = f0) :
    XS P w0 G base f0 (lone { b.atR a m with mode := .returning } (ccs ++ base) w) (retA ih P G b.fn n tm l d none cs H) := by
  unfold retA
  split
  · rename_i bb ds
    generalize hds : a.defers = ads at hdf
    cases hdf with
    | cons _ L hL t =>
    rename_i dd
    split
    · rename_i hg'
      obtain ⟨o, ho, hor⟩ := hh.obj bb L hL (by rw [hg']; intro e; cases e)
      rw [hg'] at hor
      have hor : o = .deferred (some []) := hor
      subst hor
      show XS P w0 G base f0 _ (onB (Nat.ble G bb) _ _)
      cases hG : Nat.ble G bb with
      | false => trivial
      | true =>
        rw [Nat.ble_eq] at hG
        show XS P w0 G base f0 _ (H.setK bb (.deferred false) fun H' => ih b.fn n tm l true ds none cs H')
        rw [setK_eq]
        have hst : step P (lone { b.atR a m with mode := .returning } (ccs ++ base) w) = .next (lone { b.atR { a with defers := dd } m with mode := .returning } (ccs ++ base) (w.putObj L.blk (.deferred none))) := by
          have := step_collected (P := P) (fr := { b.atR a m with mode := .returning }) (cs := ccs ++ base) (w := w) (d := { target := .collected L.blk, args := #[] }) (r := L.blk) (ds := dd) (calls := []) (by simp) hds rfl (run_takeDeferred ho)
          rw [this]; rfl
        refine XS.step (.one hst) ?_
        have hh' : HR w0 G μ (H.set bb (.deferred false)) (w.putObj L.blk (.deferred none)) :=
          hh.set hL hG (by rw [hg']; intro e; cases e) ⟨rfl, rfl, rfl, by simp, fun k hk => World.putObj_heap_other hk⟩ (World.putObj_heap_same (hh.lt bb L hL)) rfl
        exact hg μ N0 b.fn n tm l true ds none cs _ _ ccs _ hN (.ret n tm l b { a with defers := dd } m ds hk t hs) hc hh' hl
    · trivial
  · have hd : a.defers = [] := by
      generalize a.defers = ads at hdf
      cases hdf; rfl
    split
    · trivial
    · rename_i fn hfn
      cases hr : resA P tm H (resultsOf P b.fn) with
      | none => trivial
      | some vs =>
        have hr' : resA P tm H fn.results.toList = some vs := by
          unfold resultsOf at hr
          rw [hfn] at hr; exact hr
        obtain ⟨u, hu, hv⟩ := results_sound (P := P) hs hh hr'
        have hleave : ({ b.atR a m with mode := .returning } : Frame).leaving P w (.returned u) := ⟨rfl, hd, hk, fn, hfn, hu⟩
        show XS P w0 G base f0 _ (match (generalizing := false) cs with | [] => .done (oneOf vs) H | c :: cs => finA P G ih c (oneOf vs) cs H)
        cases hc with
        | nil _ => exact ⟨μ, w, _, u, .refl _ _, hl, hleave, hv, hh⟩
        | cons M _ hM hf hcr t => exact XS.step (.one (step_leave_returned hleave)) (fin_sound hg (Nat.le_trans hM hN) (hf.mono (μ.lx_refl _) hN) hcr hv t hh hl)
end
end Go.Proofs.YtmapmbfohilklaaGreat.Ab
