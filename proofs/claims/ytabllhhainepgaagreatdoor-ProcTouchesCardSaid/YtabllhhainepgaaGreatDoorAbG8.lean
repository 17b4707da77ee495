/-
  An abstract machine that Lean's kernel can run: frames, steps, the run is right. This text speaks of no program.
-/
import Derived.Test.YtabllhhainepgaaGreatDoorAbG7
import Derived.RangeFuncLeaves
import Derived.RangeFuncRecord
import Derived.RangeFuncIn
/-
  The abstract machine: frames, steps, the run.
-/
set_option linter.unusedVariables false
set_option linter.unusedSimpArgs false
namespace Go.Proofs.YtabllhhainepgaaGreatDoor.Ab
open Go.RowKit

section
variable {P : Program} {w0 w : World} {G N0 N : Nat} {μ : Mu} {H : AH}
/-! ### a function is entered -/
def argTree : List AV → Tr AV → Nat → Tr AV
  | [], t, _ => t
  | a :: l, t, i => argTree l (putV (path i) t a .junk) (i + 1)
theorem argsK_eq (l : List AV) : ∀ (t : Tr AV) (i : Nat) (k : Tr AV → X), argsK l t i k = k (argTree l t i) := by
  induction l with
  | nil => intro t i k; rfl
  | cons a l ih =>
    intro t i k
    show setV (path i) t a .junk (fun t' => fNat (Nat.succ i) fun j => argsK l t' j k) = _
    rw [setV_eq, fNat_eq, ih]; rfl
theorem argTree_get (l : List AV) : ∀ (t : Tr AV) (i q : Nat), getV (argTree l t i) (path q) .junk = if i ≤ q ∧ q < i + l.length then (l[q - i]?).getD .junk else getV t (path q) .junk := by
  induction l with
  | nil => intro t i q; rw [if_neg (by simp)]; rfl
  | cons a l ih =>
    intro t i q
    show getV (argTree l (putV (path i) t a .junk) (i + 1)) (path q) .junk = _
    rw [ih, get_putV]
    by_cases h1 : q = i
    · subst h1
      rw [if_neg (by omega), if_pos rfl, if_pos ⟨Nat.le_refl _, by simp⟩]; simp
    · rw [if_neg (c := path q = path i) (fun e => h1 (path_inj e))]
      by_cases h2 : i + 1 ≤ q ∧ q < i + 1 + l.length
      · rw [if_pos h2, if_pos ⟨by omega, by simp; omega⟩]
        obtain ⟨d, hd⟩ : ∃ d, q - i = d + 1 := ⟨q - i - 1, by omega⟩
        rw [hd, List.getElem?_cons_succ, show q - (i + 1) = d by omega]
      · rw [if_neg h2, if_neg (by simp; omega)]
theorem getV_empty (p : List Bool) : getV .nil p .junk = .junk := rfl
theorem SR.enter {args : List AV} {cargs : Array Value} (h : LR μ args cargs.toList) (mask n : Nat) (hn : n ≤ (cargs ++ Array.replicate (n - cargs.size) undef).size) : SR μ n ⟨mask, .nil, argTree args .nil 0⟩ (cargs ++ Array.replicate (n - cargs.size) undef) := by
  refine ⟨hn, fun t => ?_⟩
  rw [getT_eq]
  by_cases hl : isLocal mask t = true
  · rw [if_pos hl]; exact .junk _
  · rw [if_neg hl, argTree_get]
    have hlen := h.length
    simp only [Array.length_toList] at hlen
    by_cases ht : t < args.length
    · rw [if_pos (by omega), Nat.sub_zero, List.getElem?_eq_getElem ht, Option.getD_some]
      obtain ⟨v, hv, hr⟩ := h.get t _ (List.getElem?_eq_getElem ht)
      rw [Array.getD_eq_getD_getElem?, Array.getElem?_append_left (by omega), ← Array.getElem?_toList, hv]
      exact hr
    · rw [if_neg (by omega)]; exact .junk _

/-! ### frames -/
theorem WT.mono {ops : Array Oper} {n A sure : Nat} {fl : List (Nat × Oper)} {c : List (Nat × Nat)} {S : Nat → Prop} {l : List Nat} {tm : TM} {tmps : Array Value} {ν : Mu} {M : Nat} (h : WT P G ops N0 N n A fl sure c S l μ tm tmps) (hm : μ.lx N ν) (hM : N ≤ M) : WT P G ops N0 M n A fl sure c S l ν tm tmps :=
  ⟨h.so, h.ds, h.lin, h.len, fun t ht => (h.sl t ht).mono hm.1, h.dw, fun i b hi hg => let ⟨a1, a2, a3⟩ := h.gh i b hi hg; ⟨by rw [hm.2 b a3]; exact a1, a2, Nat.lt_of_lt_of_le a3 hM⟩, h.gd⟩
/-- The blocks of a frame's loops over functions, that its deferred calls name. -/
inductive DfR (μ : Mu) : List Nat → List Deferred → Prop
  | nil : DfR μ [] []
  | cons (b : Nat) (L : Loc) (h : μ b = some L) {d : List Nat} {ds : List Deferred} (t : DfR μ d ds) : DfR μ (b :: d) ({ target := .collected L.blk, args := #[] } :: ds)
theorem DfR.mono {μ ν : Mu} (hm : μ.le ν) {d : List Nat} {ds : List Deferred} (h : DfR μ d ds) : DfR ν d ds := by
  induction h with
  | nil => exact .nil
  | cons b L h _ ih => exact .cons b L (hm _ _ h) ih
/-- The round that a frame is. -/
def RoR (μ : Mu) (r k : Option Nat) : Prop :=
  match r, k with
  | none, none => True
  | some l, some k => ∃ L, μ l = some L ∧ L.blk = k
  | _, _ => False
theorem RoR.mono {μ ν : Mu} (hm : μ.le ν) {r k : Option Nat} (h : RoR μ r k) : RoR ν r k := by
  cases r <;> cases k <;> first | exact h | (obtain ⟨L, h1, h2⟩ := h; exact ⟨L, hm _ _ h1, h2⟩)
theorem RoR.none_inv {k : Option Nat} (h : RoR μ none k) : k = none := by cases k <;> first | rfl | exact h.elim
theorem RoR.some_inv {l : Nat} {k : Option Nat} (h : RoR μ (some l) k) : ∃ L, μ l = some L ∧ k = some L.blk := by
  cases k with
  | none => exact h.elim
  | some k => obtain ⟨L, h1, h2⟩ := h; exact ⟨L, h1, by rw [h2]⟩
/-- A frame, and blocks below N; its own that have no place yet are N0 at least. -/
inductive FR (P : Program) (G N0 N : Nat) (μ : Mu) : AF → Frame → Prop
  | run (n : Nat) (tm : TM) (l : List AItem) (b : Frame) (a : Act) (m : List Item) (d : List Nat) (r : Option Nat) (hk : b.kind = .normal) (hd : a.defers = b.defers) (hdf : DfR μ d b.defers) (hro : RoR μ r b.roundOf) (hs : SR μ n tm a.tmps) (hi : IR μ l m) : FR P G N0 N μ (.mk b.fn n tm l false d r) (b.atR a m)
  | ret (n : Nat) (tm : TM) (l : List AItem) (b : Frame) (a : Act) (m : List Item) (d : List Nat) (hk : b.kind = .normal) (hdf : DfR μ d a.defers) (hs : SR μ n tm a.tmps) : FR P G N0 N μ (.mk b.fn n tm l true d none) { b.atR a m with mode := .returning }
  | dwait (ops : Array Oper) (items : List PItem) (lst : List Nat) (n : Nat) (tm : TM) (l : List AItem) (b : Frame) (a : Act) (m : List Item) (d : List Nat) (r : Option Nat) (hk : b.kind = .normal) (hd : a.defers = b.defers) (hdf : DfR μ d b.defers) (hro : RoR μ r b.roundOf) (hs : DWait P G ops N0 N n items lst μ tm a.tmps) (hi : IR μ l m) :
      FR P G N0 N μ (.mk b.fn n tm (.dwait ops items :: l) false d r) (b.atR a (.inRegion ops lst :: m))
  | drun (ops : Array Oper) (chk : List Oper) (items : List PItem) (lst : List Nat) (n : Nat) (tm : TM) (l : List AItem) (b : Frame) (a : Act) (m : List Item) (d : List Nat) (r : Option Nat) (hk : b.kind = .normal) (hd : a.defers = b.defers) (hdf : DfR μ d b.defers) (hro : RoR μ r b.roundOf) (hs : DRun P G ops N0 N n chk items lst μ tm a.tmps) (hi : IR μ l m) :
      FR P G N0 N μ (.mk b.fn n tm (.dreg ops chk items :: l) false d r) (b.atR a (.inRegion ops lst :: m))
theorem FR.mono {μ ν : Mu} {M : Nat} (hm : μ.lx N ν) (hM : N ≤ M) {f : AF} {fr : Frame} (h : FR P G N0 N μ f fr) : FR P G N0 M ν f fr := by
  cases h with
  | run n tm l b a m d r hk hd hdf hro hs hi => exact .run n tm l b a m d r hk hd (hdf.mono hm.1) (hro.mono hm.1) (hs.mono hm.1) (hi.mono hm.1)
  | ret n tm l b a m d hk hdf hs => exact .ret n tm l b a m d hk (hdf.mono hm.1) (hs.mono hm.1)
  | dwait ops items lst n tm l b a m d r hk hd hdf hro hs hi =>
    obtain ⟨x, is, A, fl, sure, c, S, l', o, h1, h2, h3, h4, h5⟩ := hs
    exact .dwait ops items lst n tm l b a m d r hk hd (hdf.mono hm.1) (hro.mono hm.1) ⟨x, is, A, fl, sure, c, S, l', o, h1, h2, h3, h4, h5.mono hm hM⟩ (hi.mono hm.1)
  | drun ops chk items lst n tm l b a m d r hk hd hdf hro hs hi =>
    obtain ⟨is, A, fl, sure, c, S, h1, h2, h3⟩ := hs
    exact .drun ops chk items lst n tm l b a m d r hk hd (hdf.mono hm.1) (hro.mono hm.1) ⟨is, A, fl, sure, c, S, h1, h2.mono hm hM, h3⟩ (hi.mono hm.1)
/-- Callers: what of theirs has no place yet lies below N. -/
inductive CR (P : Program) (G : Nat) (μ : Mu) : Nat → List AF → List Frame → Prop
  | nil (N : Nat) : CR P G μ N [] []
  | cons (N0 N : Nat) {f : AF} {fr : Frame} {cs : List AF} {ccs : List Frame} (hN : N0 ≤ N) (h : FR P G N0 N μ f fr) (hr : f.ret = false) (t : CR P G μ N0 cs ccs) : CR P G μ N (f :: cs) (fr :: ccs)
theorem CR.mono {μ ν : Mu} {N : Nat} {cs : List AF} {ccs : List Frame} (h : CR P G μ N cs ccs) : ∀ {M : Nat}, μ.lx N ν → N ≤ M → CR P G ν M cs ccs := by
  induction h with
  | nil => exact fun _ _ => .nil _
  | cons N0 N hN h hr _ ih => exact fun hm hM => .cons N0 _ (Nat.le_trans hN hM) (h.mono hm hM) hr (ih (hm.weak hN) (Nat.le_refl _))
def lastFn : Nat → List AF → Nat
  | f, [] => f
  | _, c :: cs => lastFn c.fn cs
variable {base : List Frame} {f0 : Nat}
/-- What a run comes to. -/
def XS (P : Program) (w0 : World) (G : Nat) (base : List Frame) (f0 : Nat) (m : Machine) (x : X) : Prop :=
  match x with
  | .fork y z => XS P w0 G base f0 m y ∨ XS P w0 G base f0 m z
  | .done v H => ∃ (μ : Mu) (w : World) (fr : Frame) (u : Value), Steps P m (lone fr base w) ∧ fr.fn = f0 ∧ fr.leaving P w (.returned u) ∧ VR μ v u ∧ HR w0 G μ H w
  | .next f cs H => ∃ (μ : Mu) (N0 : Nat) (fr : Frame) (ccs : List Frame) (w : World), Steps P m (lone fr (ccs ++ base) w) ∧ N0 ≤ H.size ∧ FR P G N0 H.size μ f fr ∧ CR P G μ N0 cs ccs ∧ HR w0 G μ H w ∧ lastFn f.fn cs = f0
  | _ => True
theorem XS.step {m m' : Machine} {x : X} (h : Steps P m m') (hx : XS P w0 G base f0 m' x) : XS P w0 G base f0 m x := by
  induction x with
  | fork y z ihy ihz => exact Or.imp ihy ihz hx
  | done v H => obtain ⟨μ, w, fr, u, h1, h2⟩ := hx; exact ⟨μ, w, fr, u, h.trans h1, h2⟩
  | next f cs H => obtain ⟨μ, N0, fr, ccs, w, h1, h2⟩ := hx; exact ⟨μ, N0, fr, ccs, w, h.trans h1, h2⟩
  | _ => trivial
/-- A way to go on that is right. -/
def Good (P : Program) (w0 : World) (G : Nat) (base : List Frame) (f0 : Nat) (ih : Cont) : Prop :=
  ∀ (μ : Mu) (N0 fn n : Nat) (tm : TM) (todo : List AItem) (ret : Bool) (d : List Nat) (r : Option Nat) (cs : List AF) (H : AH) (fr : Frame) (ccs : List Frame) (w : World),
    N0 ≤ H.size → FR P G N0 H.size μ (.mk fn n tm todo ret d r) fr → CR P G μ N0 cs ccs → HR w0 G μ H w → lastFn fn cs = f0 → XS P w0 G base f0 (lone fr (ccs ++ base) w) (ih fn n tm todo ret d r cs H)
/-- A hook that is right. -/
def HookOK (P : Program) (w0 : World) (G : Nat) (K : Hooks) : Prop :=
  ∀ (f : Nat) (h : Hook), K f = some h → ∀ (args : List AV) (H : AH) (v : AV) (H' : AH), h args H = some (v, H') → ∀ (μ : Mu) (w : World) (cargs : Array Value), HR w0 G μ H w → LR μ args cargs.toList →
    Calls P f cargs w fun e w' => ∃ (u : Value) (μ' : Mu), e = .returned u ∧ VR μ' v u ∧ HR w0 G μ' H' w' ∧ μ.lx H.size μ' ∧ H.size ≤ H'.size
theorem putK_XS {n : Nat} {tm : TM} {d : Option Tmp} {v : AV} {f : TM → X} {m : Machine} (h : (∀ x, d = some x → x < n) → XS P w0 G base f0 m (f (tm.putO d v))) : XS P w0 G base f0 m (putK n tm d v f) := by
  cases d with
  | none => exact h (fun x hx => by cases hx)
  | some d =>
    show XS P w0 G base f0 m (Bool.rec (motive := fun _ => Nat → TM → AV → (TM → X) → X) (fun _ _ _ _ => .fail 1) (fun d tm v k => putT tm d v k) (Nat.blt d n) d tm v f)
    cases hb : Nat.blt d n with
    | false => trivial
    | true =>
      show XS P w0 G base f0 m (putT tm d v f)
      rw [putT_eq]
      exact h (fun x hx => by cases hx; rwa [Nat.blt_eq] at hb)
/-- A caller goes on. -/
theorem fin_sound {ih : Cont} (hg : Good P w0 G base f0 ih) {c : AF} {fr : Frame} {v : AV} {u : Value} {cs : List AF} {ccs : List Frame} (hN : N0 ≤ H.size) (hf : FR P G N0 H.size μ c fr) (hcr : c.ret = false) (hv : VR μ v u) (hc : CR P G μ N0 cs ccs) (hh : HR w0 G μ H w) (hl : lastFn c.fn cs = f0) :
    XS P w0 G base f0 (lone (fr.finish u) (ccs ++ base) w) (finA P G ih c v cs H) := by
  obtain ⟨fn, n, tm, todo, ret, d, r⟩ := c
  cases hf with
  | run _ _ _ b a m _ _ hk hd hdf hro hs hi =>
    cases hi with
    | nil => exact trivial
    | reg ops i hr t =>
      rename_i rest l m
      cases rest with
      | nil => exact trivial
      | cons o rest =>
        obtain ⟨ho, hr', hrange⟩ := range_drop hr
        rw [hrange, Frame.finish_atR, ho]
        refine putK_XS fun hdst => ?_
        exact hg μ N0 b.fn n _ _ false d r cs H _ ccs w hN (.run n _ _ b _ _ d r hk (by show (a.put o.dst u).defers = b.defers; cases o.dst <;> exact hd) hdf hro (hs.putAct hdst hv) (.reg ops (i + 1) hr' t)) hc hh hl
    | inRF l L hL t => exact hg μ N0 b.fn n tm _ false d r cs H (b.atR a _) ccs w hN (.run n _ _ b _ _ d r hk hd hdf hro hs (.endRF l L hL t)) hc hh hl
    | _ => exact trivial
  | ret _ _ _ b a m _ hk hdf hs => cases hcr
  | drun ops chk items lst _ _ l b a m _ _ hk hd hdf hro hs hi => exact trivial
  | dwait ops items lst _ _ l b a m _ _ hk hd hdf hro hs hi =>
    obtain ⟨x, is, A, fl, sure, c, S, l', o, rfl, hbu, ho, hf, hw⟩ := hs
    obtain ⟨o', rest, ho', hA, hr, hcase⟩ := build_cons hbu
    rw [ho] at ho'
    cases ho'
    rcases hcase with ⟨hf', hf2, _⟩ | ⟨_, hrd, hbr, rfl⟩
    · unfold floatB at hf; rw [hf', hf2] at hf; cases hf
    · rw [Frame.finish_atR, ho]
      show XS P w0 G base f0 _ (putK n tm o.dst v fun tm => ih b.fn n tm (.dreg ops _ rest :: l) false d r cs H)
      refine putK_XS fun hdst => ?_
      have hw1 := hw.acted (N' := H.size) ho hA hr hdst (μ.lx_refl _) (Nat.le_refl _) hv
      refine hg μ N0 b.fn n _ _ false d r cs H _ ccs w hN (.drun ops _ rest l' n _ l b _ m d r hk (by show (a.put o.dst u).defers = b.defers; cases o.dst <;> exact hd) hdf hro ⟨is, _, _, _, _, _, hbr, hw1, fun j oj hj hoj hhp => ?_⟩ hi) hc hh hl
      obtain ⟨oj', k1, k2, _, k3, k4⟩ := hw1.ds.fls j hj
      rw [hoj] at k1
      cases k1
      exact List.mem_filter.2 ⟨List.mem_map.2 ⟨_, k4, rfl⟩, hhp⟩
/-- A function is entered. -/
theorem enter_sound {ih : Cont} (hg : Good P w0 G base f0 ih) {f : Nat} {args : List AV} {cargs : Array Value} {cs : List AF} {ccs : List Frame} (ha : LR μ args cargs.toList) (hc : CR P G μ H.size cs ccs) (hh : HR w0 G μ H w) (hl : lastFn f cs = f0) :
    XS P w0 G base f0 (lone (Frame.enter P f cargs .normal) (ccs ++ base) w) (enterA P ih f args cs H) := by
  unfold enterA
  cases hb : bodyOf P f with
  | none => trivial
  | some c =>
    show XS P w0 G base f0 _ (argsK args .nil 0 fun tr => fNat (slotsOf P f) fun n => fNat (maskOf P f) fun mask => ih f n (.mk mask .nil tr) [.code c] false [] none cs H)
    rw [argsK_eq, fNat_eq, fNat_eq]
    have he : Frame.enter P f cargs .normal = ({ (default : Frame) with fn := f, kind := .normal } : Frame).atR ⟨cargs ++ Array.replicate (slotsOf P f - cargs.size) undef, []⟩ [.code c] := by
      unfold bodyOf at hb
      unfold Frame.enter Frame.atR slotsOf
      simp only [hb, Option.getD_some]
      rfl
    rw [he]
    exact hg μ H.size f (slotsOf P f) _ _ false [] none cs H _ ccs w (Nat.le_refl _) (.run _ _ _ ({ (default : Frame) with fn := f, kind := .normal }) _ _ [] none rfl rfl .nil trivial (SR.enter ha _ _ (by simp; omega)) (.code c .nil)) hc hh hl
/-- What a frame yields. -/
def resG (tmps : Array Value) : ResultVar → Sem Value
  | .tmp t => pure (tmps.getD t undef)
  | .cell a t => do loadVar t (← asAddr (tmps.getD a undef))
theorem results_eq (fn : Func) (tmps : Array Value) : results fn tmps = (do let vs ← fn.results.mapM (resG tmps); pure (if h : vs.size = 1 then vs[0] else .tuple vs)) := by
  have e : (fun x : ResultVar => match x with | .tmp t => (pure (tmps.getD t undef) : Sem Value) | .cell a t => do loadVar t (← asAddr (tmps.getD a undef))) = resG tmps := by funext x; cases x <;> rfl
  rw [← e]; rfl
theorem resA_sound {n : Nat} {tm : TM} {tmps : Array Value} (hs : SR μ n tm tmps) (hh : HR w0 G μ H w) : ∀ (l : List ResultVar) (vs : List AV), resA P tm H l = some vs →
    ∃ us : List Value, (l.mapM (resG tmps)).run P w = .ok us w ∧ LR μ vs us
  | [], vs, h => by
    simp only [resA, Option.some.injEq] at h
    subst h
    exact ⟨[], rfl, .nil⟩
  | .tmp t :: l, vs, h => by
    simp only [resA] at h
    cases hr : resA P tm H l with
    | none => rw [hr] at h; cases h
    | some r =>
      rw [hr] at h
      simp only [Option.some.injEq] at h
      subst h
      obtain ⟨us, h1, h2⟩ := resA_sound hs hh l r hr
      refine ⟨tmps.getD t undef :: us, ?_, .cons _ _ _ _ (hs.2 t) h2⟩
      rw [List.mapM_cons]
      simp only [resG, Sem.run_bind, Sem.run_pure, Result.andThen_ok]
      rw [show (l.mapM (resG tmps)).run P w = .ok us w from h1, Result.andThen_ok]
  | .cell a t :: l, vs, h => by
    simp only [resA] at h
    have ha := hs.2 a
    split at h
    · rename_i b off he
      rw [he] at ha
      obtain ⟨L, hL, hv⟩ := ha.ptr_inv
      split at h
      · rename_i v r hld hr
        simp only [Option.some.injEq] at h
        subst h
        obtain ⟨us, h1, h2⟩ := resA_sound hs hh l r hr
        obtain ⟨u, hu1, hu2⟩ := loadA_sound (P := P) hh hL hld
        refine ⟨u :: us, ?_, .cons _ _ _ _ hu2 h2⟩
        have hadr : (asAddr (tmps.getD a undef)).run P w = .ok ⟨L.blk, L.base + off, none⟩ w := by rw [hv]; rfl
        rw [List.mapM_cons, Sem.run_bind]
        have e0 : (resG tmps (.cell a t)).run P w = .ok u w := by unfold resG; rw [Sem.run_bind, hadr, Result.andThen_ok, hu1]
        rw [e0, Result.andThen_ok, Sem.run_bind, h1, Result.andThen_ok]; rfl
      · cases h
    · cases h
theorem results_sound {n : Nat} {tm : TM} {tmps : Array Value} (hs : SR μ n tm tmps) (hh : HR w0 G μ H w) {fn : Func} {vs : List AV} (h : resA P tm H fn.results.toList = some vs) : ∃ u, (results fn tmps).run P w = .ok u w ∧ VR μ (oneOf vs) u := by
  obtain ⟨us, h1, h2⟩ := resA_sound (P := P) hs hh _ _ h
  have hm : (fn.results.mapM (resG tmps)).run P w = .ok us.toArray w := by
    rw [Array.mapM_eq_mapM_toList, map_eq_pure_bind, Sem.run_bind, h1]; rfl
  refine ⟨if h : us.toArray.size = 1 then us.toArray[0] else .tuple us.toArray, ?_, ?_⟩
  · rw [results_eq, Sem.run_bind, hm, Result.andThen_ok]; rfl
  · unfold oneOf
    split
    · obtain ⟨u, rfl, hu⟩ := h2.one
      simpa using hu
    · rename_i hne
      have : us.toArray.size ≠ 1 := fun e => by
        have := h2.length
        match vs, this with
        | [v], _ => exact hne v rfl
        | [], h => simp at e; rw [e] at h; simp at h
        | _ :: _ :: _, h => simp at e; rw [e] at h; simp at h
      rw [dif_neg this]
      exact .tuple _ _ (by simpa using h2)
theorem ret_sound {ih : Cont} (hg : Good P w0 G base f0 ih) {n : Nat} {tm : TM} {l : List AItem} {b : Frame} {a : Act} {m : List Item} {d : List Nat} {cs : List AF} {ccs : List Frame} (hk : b.kind = .normal) (hdf : DfR μ d a.defers) (hs : SR μ n tm a.tmps) (hN : N0 ≤ H.size) (hc : CR P G μ N0 cs ccs) (hh : HR w0 G μ H w) (hl : lastFn b.fn cs = f0) :
    XS P w0 G base f0 (lone { b.atR a m with mode := .returning } (ccs ++ base) w) (retA ih P G b.fn n tm l d none cs H) := by
  unfold retA
  split
  · rename_i bb ds
    generalize hds : a.defers = ads at hdf
    cases hdf with
    | cons _ L hL t =>
    rename_i dd
    split
    · rename_i hg'
      obtain ⟨o, ho, hor⟩ := hh.obj bb L hL (by rw [hg']; intro e; cases e)
      rw [hg'] at hor
      have hor : o = .deferred (some []) := hor
      subst hor
      show XS P w0 G base f0 _ (onB (Nat.ble G bb) _ _)
      cases hG : Nat.ble G bb with
      | false => trivial
      | true =>
        rw [Nat.ble_eq] at hG
        show XS P w0 G base f0 _ (H.setK bb (.deferred false) fun H' => ih b.fn n tm l true ds none cs H')
        rw [setK_eq]
        have hst : step P (lone { b.atR a m with mode := .returning } (ccs ++ base) w) = .next (lone { b.atR { a with defers := dd } m with mode := .returning } (ccs ++ base) (w.putObj L.blk (.deferred none))) := by
          have := step_collected (P := P) (fr := { b.atR a m with mode := .returning }) (cs := ccs ++ base) (w := w) (d := { target := .collected L.blk, args := #[] }) (r := L.blk) (ds := dd) (calls := []) (by simp) hds rfl (run_takeDeferred ho)
          rw [this]; rfl
        refine XS.step (.one hst) ?_
        have hh' : HR w0 G μ (H.set bb (.deferred false)) (w.putObj L.blk (.deferred none)) :=
          hh.set hL hG (by rw [hg']; intro e; cases e) ⟨rfl, rfl, rfl, by simp, fun k hk => World.putObj_heap_other hk⟩ (World.putObj_heap_same (hh.lt bb L hL)) rfl
        exact hg μ N0 b.fn n tm l true ds none cs _ _ ccs _ hN (.ret n tm l b { a with defers := dd } m ds hk t hs) hc hh' hl
    · trivial
  · have hd : a.defers = [] := by
      generalize a.defers = ads at hdf
      cases hdf; rfl
    split
    · trivial
    · rename_i fn hfn
      cases hr : resA P tm H (resultsOf P b.fn) with
      | none => trivial
      | some vs =>
        have hr' : resA P tm H fn.results.toList = some vs := by
          unfold resultsOf at hr
          rw [hfn] at hr; exact hr
        obtain ⟨u, hu, hv⟩ := results_sound (P := P) hs hh hr'
        have hleave : ({ b.atR a m with mode := .returning } : Frame).leaving P w (.returned u) := ⟨rfl, hd, hk, fn, hfn, hu⟩
        show XS P w0 G base f0 _ (match (generalizing := false) cs with | [] => .done (oneOf vs) H | c :: cs => finA P G ih c (oneOf vs) cs H)
        cases hc with
        | nil _ => exact ⟨μ, w, _, u, .refl _ _, hl, hleave, hv, hh⟩
        | cons M _ hM hf hcr t => exact XS.step (.one (step_leave_returned hleave)) (fin_sound hg (Nat.le_trans hM hN) (hf.mono (μ.lx_refl _) hN) hcr hv t hh hl)
end
end Go.Proofs.YtabllhhainepgaaGreatDoor.Ab
/-
  The abstract machine: the run.
-/
namespace Go.Proofs.YtabllhhainepgaaGreatDoor.Ab
open Go.RowKit

section
variable {P : Program} {w0 w : World} {G N0 : Nat} {μ : Mu} {H : AH} {base : List Frame} {f0 : Nat} {K : Hooks}
theorem step_scope {b : Frame} {a : Act} {k : List Item} {cs : List Frame} {c : Code} : step P (lone (b.atR a (.code (.scope c) :: k)) cs w) = .next (lone (b.atR a (.code c :: .inScope c :: k)) cs w) :=
  step_lone_go (by simp [stepG, stepG.exec, Frame.atR])
theorem step_inScope {b : Frame} {a : Act} {k : List Item} {cs : List Frame} {c : Code} : step P (lone (b.atR a (.inScope c :: k)) cs w) = .next (lone (b.atR a k) cs w) :=
  step_lone_go (by simp [stepG, stepG.exec, Frame.atR])
theorem callF_sound {ih : Cont} (hg : Good P w0 G base f0 ih) (hK : HookOK P w0 G K) {f : Nat} {args : List AV} {cargs : Array Value} {c : AF} {fr : Frame} {cs : List AF} {ccs : List Frame} (ha : LR μ args cargs.toList) (hN : N0 ≤ H.size) (hf : FR P G N0 H.size μ c fr) (hcr : c.ret = false) (hc : CR P G μ N0 cs ccs) (hh : HR w0 G μ H w) (hl : lastFn c.fn cs = f0) :
    XS P w0 G base f0 (lone (Frame.enter P f cargs .normal) (fr :: (ccs ++ base)) w) (callF ih P K G f args c cs H) := by
  unfold callF
  cases hk : K f with
  | none => exact enter_sound (ccs := fr :: ccs) hg ha (.cons N0 _ hN hf hcr hc) hh hl
  | some h =>
    show XS P w0 G base f0 _ (onVH (h args H) (fun v H' => finA P G ih c v cs H') (fun _ => enterA P ih f args (c :: cs) H))
    cases hv : h args H with
    | none => exact enter_sound (ccs := fr :: ccs) hg ha (.cons N0 _ hN hf hcr hc) hh hl
    | some p =>
      obtain ⟨v, H'⟩ := p
      obtain ⟨e, w', fr', ⟨u, μ', he, h1, h2, h3, h4⟩, hcomes, _, hleave⟩ := hK f h hk args H v H' hv μ w cargs hh ha (fr :: (ccs ++ base))
      subst he
      have hcomes : Steps P (lone (Frame.enter P f cargs .normal) (fr :: (ccs ++ base)) w) (lone fr' (fr :: (ccs ++ base)) w') := hcomes
      exact XS.step (hcomes.trans (.one (step_leave_returned hleave))) (fin_sound hg (Nat.le_trans hN h4) (hf.mono h3 h4) hcr h1 (hc.mono (h3.weak hN) (Nat.le_refl _)) h2 hl)
/-- Slots with a loop's parameters laid. -/
noncomputable def roundPut : List (Tmp × AV) → TM → TM
  | [], t => t
  | p :: l, t => roundPut l (t.put p.1 p.2)
theorem roundTm_XS {n : Nat} {k : TM → X} {m : Machine} : ∀ (l : List (Tmp × AV)) (t : TM), ((∀ p ∈ l, p.1 < n) → XS P w0 G base f0 m (k (roundPut l t))) → XS P w0 G base f0 m (roundTm l n t k)
  | [], t, h => h (fun p hp => by cases hp)
  | p :: l, t, h => by
    show XS P w0 G base f0 m (onB (Nat.blt p.1 n) (fun _ => putT t p.1 p.2 fun t' => roundTm l n t' k) (fun _ => .fail 420))
    cases hb : Nat.blt p.1 n with
    | false => trivial
    | true =>
      show XS P w0 G base f0 m (putT t p.1 p.2 fun t' => roundTm l n t' k)
      rw [putT_eq]
      refine roundTm_XS l _ fun hl => h fun q hq => ?_
      rcases List.mem_cons.1 hq with rfl | hq
      · rwa [Nat.blt_eq] at hb
      · exact hl q hq
theorem round_SR {n : Nat} : ∀ (ps : List Tmp) (args : List AV) (cargs : List Value) (t : TM) (tmps : Array Value), LR μ args cargs → SR μ n t tmps → (∀ p ∈ ps.zip args, p.1 < n) →
    SR μ n (roundPut (ps.zip args) t) ((ps.zip cargs).foldl (fun tmps p => tmps.setIfInBounds p.1 p.2) tmps)
  | [], args, cargs, t, tmps, _, hs, _ => hs
  | p :: ps, [], [], t, tmps, _, hs, _ => hs
  | p :: ps, a :: args, u :: cargs, t, tmps, h, hs, hp => by
    cases h with | cons _ _ _ _ h0 h1 =>
    rw [List.zip_cons_cons, List.zip_cons_cons, List.foldl_cons]
    exact round_SR ps args cargs _ _ h1 (hs.put (hp (p, a) (by simp)) h0) fun q hq => hp q (by simp [hq])
  | p :: ps, [], _ :: _, t, tmps, h, _, _ => by cases h
  | p :: ps, _ :: _, [], t, tmps, h, _, _ => by cases h
/-- A round begins. -/
theorem roundA_sound {ih : Cont} (hg : Good P w0 G base f0 ih) {l : Nat} {L : Loc} {args : List AV} {cargs : Array Value} {c : AF} {fr : Frame} {cs : List AF} {ccs : List Frame} {w w' : World}
    (hst : ∀ lo : Loop, w'.heap[L.blk]? = some (.loop lo) → cargs.size = lo.params.size → step P (lone fr (ccs ++ base) w) =
        .next (lone (Frame.round L.blk lo.fn ((lo.params.zip cargs).foldl (fun tmps (t, a) => tmps.setIfInBounds t a) lo.tmps) lo.assign lo.body .normal) (fr :: (ccs ++ base)) w'))
    (hL : μ l = some L) (ha : LR μ args cargs.toList) (hN : N0 ≤ H.size) (hf : FR P G N0 H.size μ c fr) (hcr : c.ret = false) (hc : CR P G μ N0 cs ccs) (hh : HR w0 G μ H w') (hl : lastFn c.fn cs = f0) :
    XS P w0 G base f0 (lone fr (ccs ++ base) w) (roundA ih l args (c :: cs) H) := by
  unfold roundA
  split
  · rename_i st p fn mask tr n ps asg body D hgl
    obtain ⟨o, ho, hor⟩ := hh.obj l L hL (by rw [hgl]; intro e; cases e)
    rw [hgl] at hor
    obtain ⟨tmps, K', rfl, hK, hs⟩ := hor
    cases hb : Nat.beq args.length ps.size with
    | false => simp only [onB]; trivial
    | true =>
      simp only [onB]
      have hsz : cargs.size = ps.size := by
        have h1 : args.length = cargs.size := ha.length
        rw [← h1]; exact beqN hb
      refine XS.step (.one (hst _ ho hsz)) ?_
      refine roundTm_XS _ _ fun hlt => ?_
      have he : (ps.zip cargs).foldl (fun tmps (t, a) => tmps.setIfInBounds t a) tmps = (ps.toList.zip cargs.toList).foldl (fun tmps p => tmps.setIfInBounds p.1 p.2) tmps := by
        rw [← Array.foldl_toList, Array.toList_zip]
      have hs' := round_SR ps.toList args cargs.toList _ _ ha hs hlt
      rw [← he] at hs'
      have hfr : Frame.round L.blk fn ((ps.zip cargs).foldl (fun tmps (t, a) => tmps.setIfInBounds t a) tmps) asg body .normal = ({ (default : Frame) with fn := fn, kind := .normal, roundOf := some L.blk } : Frame).atR ⟨(ps.zip cargs).foldl (fun tmps (t, a) => tmps.setIfInBounds t a) tmps, []⟩ [.code asg, .beginRound, .code body] := rfl
      show XS P w0 G base f0 (lone (Frame.round L.blk fn ((ps.zip cargs).foldl (fun tmps (t, a) => tmps.setIfInBounds t a) tmps) asg body .normal) ((fr :: ccs) ++ base) w') _
      rw [hfr]
      exact hg μ H.size fn n _ _ false [] (some l) (c :: cs) H _ (fr :: ccs) w' (Nat.le_refl _) (.run n _ _ ({ (default : Frame) with fn := fn, kind := .normal, roundOf := some L.blk }) _ _ [] (some l) rfl rfl .nil ⟨L, hL, rfl⟩ hs' (.code _ (.beginRound (.code _ .nil)))) (.cons N0 _ hN hf hcr hc) hh hl
  · trivial
theorem regA_sound {ih : Cont} (hg : Good P w0 G base f0 ih) (hK : HookOK P w0 G K) {ops : Array Oper} {i : Nat} {rest : List Oper} (hr : rest = ops.toList.drop i) {n : Nat} {tm : TM} {l : List AItem} {b : Frame} {a : Act} {m : List Item} {d : List Nat} {r : Option Nat} {cs : List AF} {ccs : List Frame} (hk : b.kind = .normal) (hd : a.defers = b.defers) (hdf : DfR μ d b.defers) (hro : RoR μ r b.roundOf) (hs : SR μ n tm a.tmps) (hi : IR μ l m) (hN : N0 ≤ H.size) (hc : CR P G μ N0 cs ccs) (hh : HR w0 G μ H w) (hl : lastFn b.fn cs = f0) :
    XS P w0 G base f0 (lone (b.atR a (.inRegion ops (List.range' i (ops.size - i)) :: m)) (ccs ++ base) w) (regA ops rest ih P K G l b.fn n tm d r cs H) := by
  have hx := reg_sound (P := P) (w0 := w0) (G := G) (N0 := N0) (ops := ops) (n := n) hk (k := m) (cs := ccs ++ base) rest i μ tm a H w hr hs hd hh hN
  unfold regA
  generalize regRun P G n ops rest tm H = x at hx
  induction x with
  | fork y z ihy ihz => exact Or.imp ihy ihz hx
  | fin tm' H' =>
    obtain ⟨μ', a', w', h1, h2, h3, h4, h5, h6⟩ := hx
    exact XS.step h1 (hg μ' N0 b.fn n tm' l false d r cs H' _ ccs w' h6 (.run n tm' l b a' m d r hk h3 (hdf.mono h5.1) (hro.mono h5.1) h2 (hi.mono h5.1)) (hc.mono h5 (Nat.le_refl _)) h4 hl)
  | enterR f args rest' tm' H' =>
    obtain ⟨μ', a', w', i', cargs, h1, h2, h3, h4, h5, h6, h7, _, h8⟩ := hx
    exact XS.step h1 (callF_sound hg hK h7 h8 (.run n tm' _ b a' _ d r hk h4 (hdf.mono h6.1) (hro.mono h6.1) h3 (.reg ops i' h2 (hi.mono h6.1))) rfl (hc.mono h6 (Nat.le_refl _)) h5 hl)
  | roundR lp args rest' tm' H' =>
    obtain ⟨μ', a', w', w'', i', cargs, L, h1, h2, h3, h4, h5, h6, h7, h8, h9, h10⟩ := hx
    exact XS.step h1 (roundA_sound hg h2 h8 h9 h10 (.run n tm' _ b a' _ d r hk h5 (hdf.mono h7.1) (hro.mono h7.1) h4 (.reg ops i' h3 (hi.mono h7.1))) rfl (hc.mono h7 (Nat.le_refl _)) h6 hl)
  | next => exact hx.elim
  | done => exact hx.elim
  | _ => trivial
theorem dregA_sound {ih : Cont} (hg : Good P w0 G base f0 ih) (hK : HookOK P w0 G K) {ops : Array Oper} {is : List Nat} {p : List PItem} {A : Nat} {fl : List (Nat × Oper)} {sure : Nat} {c : List (Nat × Nat)} {S : Nat → Prop} {lst : List Nat} (hbu : build P ops is A fl sure c = some p) {n : Nat} {tm : TM} {l : List AItem} {b : Frame} {a : Act} {m : List Item} {d : List Nat} {r : Option Nat} {cs : List AF} {ccs : List Frame} (hk : b.kind = .normal) (hd : a.defers = b.defers) (hdf : DfR μ d b.defers) (hro : RoR μ r b.roundOf)
    (hw : WT P G ops N0 H.size n A fl sure c S lst μ tm a.tmps) (hdi : DI P G ops A S tm H) (hi : IR μ l m) (hN : N0 ≤ H.size) (hc : CR P G μ N0 cs ccs) (hh : HR w0 G μ H w) (hl : lastFn b.fn cs = f0) :
    XS P w0 G base f0 (lone (b.atR a (.inRegion ops lst :: m)) (ccs ++ base) w) (dregA ops p ih P K G l b.fn n tm d r cs H) := by
  have hx := dreg_sound (P := P) (w0 := w0) (G := G) (N0 := N0) (ops := ops) (n := n) hk (k := m) (cs := ccs ++ base) is p A fl sure c S lst μ tm a H w hbu hw hdi hh hd hN
  unfold dregA
  cases hrr : dregRun P G n ops p tm H with
  | fin tm' H' =>
    rw [hrr] at hx
    obtain ⟨μ', a', w', h1, h2, h3, h4, h5, h6⟩ := hx
    exact XS.step h1 (hg μ' N0 b.fn n tm' l false d r cs H' _ ccs w' h6 (.run n tm' l b a' m d r hk h3 (hdf.mono h5.1) (hro.mono h5.1) h2 (hi.mono h5.1)) (hc.mono h5 (Nat.le_refl _)) h4 hl)
  | enterD f args rest' tm' H' =>
    rw [hrr] at hx
    obtain ⟨μ', a', w', lst', cargs, h1, h3, h4, h5, h6, h7, _, h8⟩ := hx
    exact XS.step h1 (callF_sound hg hK h7 h8 (.dwait ops rest' lst' n tm' l b a' m d r hk h4 (hdf.mono h6.1) (hro.mono h6.1) h3 (hi.mono h6.1)) rfl (hc.mono h6 (Nat.le_refl _)) h5 hl)
  | roundD lp args rest' tm' H' =>
    rw [hrr] at hx
    obtain ⟨μ', a', w', w'', lst', cargs, L, h1, h2, h3, h4, h5, h6, h7, h8, h9⟩ := hx
    exact XS.step h1 (roundA_sound hg h2 h7 h8 h9 (.dwait ops rest' lst' n tm' l b a' m d r hk h4 (hdf.mono h6.1) (hro.mono h6.1) h3 (hi.mono h6.1)) rfl (hc.mono h6 (Nat.le_refl _)) h5 hl)
  | next => rw [hrr] at hx; exact hx.elim
  | done => rw [hrr] at hx; exact hx.elim
  | _ => trivial
theorem WT.start {ops : Array Oper} (hso : slotsOk ops = true) {n : Nat} {tm : TM} {tmps : Array Value} (hs : SR μ n tm tmps) {lst : List Nat} (hl : Lin ops (fun _ => False) lst) (N : Nat) : WT P G ops N0 N n 0 [] 0 [] (fun _ => False) lst μ tm tmps := by
  have h0 : ∀ i, ¬ Ahead 0 (fun _ => False) i := fun i h => by have := h.1; simp at this
  exact ⟨hso, ⟨fun _ h => h.elim, fun _ _ h => h.elim, (fun i o h => by simp at h), fun i h => absurd h (h0 i), (fun x hx => by cases hx), (fun x hx => by cases hx), (fun i h => by simp at h), Cl.nil⟩, hl, hs.1, fun t _ => hs.2 t, fun i o h => absurd h (h0 i), fun i b h => absurd h (h0 i), fun i j b h => absurd h (h0 i)⟩
theorem exit_none {id : Nat} : ∀ {l : List AItem} {m : List Item}, IR μ l m → exitA id l = none → exitTo id m = none := by
  intro l m h
  induction h with
  | nil => intro _; rfl
  | inBlock id' t ih =>
    intro h
    simp only [exitA] at h
    by_cases e : id' = id
    · subst e
      have : Nat.beq id' id' = true := by simp
      rw [this] at h
      cases h
    · rw [beq_ff e] at h
      simp only [exitTo]
      have : (id' == id) = false := by simpa using e
      rw [this]; exact ih h
  | _ => rename_i ih; intro h; exact ih h
theorem goto_none {g : Nat} : ∀ {l : List AItem} {m : List Item}, IR μ l m → gotoA g l = none → gotoIn g m = none := by
  intro l m h
  induction h with
  | nil => intro _; rfl
  | inScope c t ih =>
    intro h
    simp only [gotoA] at h
    cases hf : findLabel c g with
    | some rest => rw [hf] at h; cases h
    | none =>
      rw [hf] at h
      simp only [gotoIn, hf]
      exact ih h
  | _ => rename_i ih; intro h; exact ih h
/-- A frame ends: its round, or (with a return) it is on its way out. -/
theorem leave_sound {ih : Cont} (hg : Good P w0 G base f0 ih) {jump : Option Code} {isRet : Bool} {n : Nat} {tm : TM} {b : Frame} {a : Act} {m : List Item} {d : List Nat} {r : Option Nat} {cs : List AF} {ccs : List Frame} (hk : b.kind = .normal) (hd : a.defers = b.defers) (hdf : DfR μ d b.defers) (hro : RoR μ r b.roundOf) (hs : SR μ n tm a.tmps) (hN : N0 ≤ H.size) (hc : CR P G μ N0 cs ccs) (hh : HR w0 G μ H w) (hl : lastFn b.fn cs = f0)
    (h1 : isRet = true → b.roundOf = none → step P (lone (b.atR a m) (ccs ++ base) w) = .next (lone { b.atR a m with mode := .returning } (ccs ++ base) w))
    (h2 : ∀ (k : Nat) (v : Value) (w' : World) (c : Frame) (cs' : List Frame), b.roundOf = some k → ccs ++ base = c :: cs' → (Instr.endRound k jump).run P w = .ok v w' → step P (lone (b.atR a m) (ccs ++ base) w) = .next (lone (c.finish v) cs' w')) :
    XS P w0 G base f0 (lone (b.atR a m) (ccs ++ base) w) (leaveA P G ih jump isRet b.fn n tm d r cs H) := by
  unfold leaveA
  cases r with
  | none =>
    simp only []
    cases isRet with
    | false => trivial
    | true => exact XS.step (.one (h1 rfl hro.none_inv)) (hg μ N0 b.fn n tm [] true d none cs H _ ccs w hN (.ret n tm [] b a m d hk (by rw [hd]; exact hdf) hs) hc hh hl)
  | some lp =>
    simp only []
    obtain ⟨L, hL, hro'⟩ := hro.some_inv
    split
    · rename_i st p fn mask tr n' ps asg body D c cs' hgl
      obtain ⟨o, ho, hor⟩ := hh.obj lp L hL (by rw [hgl]; intro e; cases e)
      rw [hgl] at hor
      obtain ⟨tmps, K', rfl, hK, hs'⟩ := hor
      cases hG : Nat.ble G lp with
      | false => simp only [onB]; trivial
      | true =>
        simp only [onB]
        rw [Nat.ble_eq] at hG
        cases hc with
        | cons M _ hM hf hcr t =>
        rename_i fr ccs
        have hh' : ∀ (st : LoopState) (q : Option Code), HR w0 G μ (H.set lp (.loop st q fn mask tr n' ps asg body D)) (w.putObj L.blk (.loop { state := st, pending := q, fn, tmps, params := ps, assign := asg, body, defers := K'.blk })) := fun st q =>
          hh.set hL hG (by rw [hgl]; intro e; cases e) ⟨rfl, rfl, rfl, by simp, fun k hk => World.putObj_heap_other hk⟩ (World.putObj_heap_same (hh.lt lp L hL)) ⟨tmps, K', rfl, hK, hs'⟩
        have her := run_endRound (P := P) jump ho
        have hst := h2 L.blk _ _ fr (ccs ++ base) hro' rfl her
        cases jump with
        | none =>
          show XS P w0 G base f0 _ (H.setK lp (.loop .ready none fn mask tr n' ps asg body D) fun H' => finA P G ih c (.bool true) cs' H')
          rw [setK_eq]
          exact XS.step (.one hst) (fin_sound (H := H.set lp _) hg (Nat.le_trans hM hN) (hf.mono (μ.lx_refl _) hN) hcr (.bool true) t (hh' .ready none) hl)
        | some j =>
          show XS P w0 G base f0 _ (H.setK lp (.loop .done (some j) fn mask tr n' ps asg body D) fun H' => finA P G ih c (.bool false) cs' H')
          rw [setK_eq]
          exact XS.step (.one hst) (fin_sound (H := H.set lp _) hg (Nat.le_trans hM hN) (hf.mono (μ.lx_refl _) hN) hcr (.bool false) t (hh' .done (some j)) hl)
    · trivial
/-- It enters no function. -/
def NE (x : X) : Prop := match x with | .enter .. => False | _ => True
theorem NE.cond {b : Bool} {f e : X} (h1 : NE f) (h2 : NE e) : NE (bif b then f else e) := by cases b <;> first | exact h2 | exact h1
theorem NE.rInt (k : IntKind) (m : Int) : NE (rInt k m H) := by unfold Ab.rInt; rw [fInt_eq]; exact trivial
theorem NE.push {ob : AObj} {v : AV} : NE (H.pushK ob fun H' => .val v H') := by rw [pushK_eq]; exact trivial
theorem extern_ne (f : Nat) (args : List AV) : NE (externA P f args H) := by
  unfold externA
  repeat' (first | exact trivial | exact NE.rInt _ _ | exact NE.push | refine NE.cond ?_ ?_ | split)
theorem extern_stays {g f : Nat} {l : List AV} {H3 : AH} (args : List AV) (_ : True) : externA P f args H ≠ .enter g l H3 := fun h => by
  have := extern_ne (P := P) (H := H) f args
  rw [h] at this; exact this
/-- A loop over a function calls it. -/
theorem callV_begin {f : Operand} {n : Nat} {tm : TM} {a : Act} {l : Nat} {L : Loc} {g : Nat} {args : List AV} {H3 : AH} (hh : HR w0 G μ H w) (hs : SR μ n tm a.tmps) (hL : μ l = some L) (h : callV P (ev tm f) [.yield l] H = .enter g args H3) :
    ∃ (d : Deferred) (cargs : Array Value) (w' : World), (resolve a.eval (rangeCall f L.blk) 0).run P w = .ok d w ∧ (invoke d.target d.args).run P w = .ok (.enter g cargs) w' ∧ LR μ args cargs.toList ∧ HR w0 G μ H3 w' ∧ H3 = H := by
  have hx := hs.eval f
  have hsnd := callV_sound (P := P) hh hx (args := [.yield l]) (cargs := #[.func (.yield L.blk) #[] #[]]) (.cons _ _ _ _ (.yield l L hL) .nil)
  rw [h] at hsnd
  obtain ⟨cargs, w', hr, h1, h2, h3⟩ := hsnd
  unfold callV at h
  split at h
  · rename_i f' a' c' he
    rw [he] at hx
    obtain ⟨first, cap, hxv, _, _⟩ := hx.func_inv
    have hH : H3 = H := by
      unfold callA at h
      cases hok : callOk P f' with
      | false =>
        rw [hok] at h
        simp only [onB] at h
        exact absurd h (extern_stays _ trivial)
      | true => rw [hok] at h; simp only [onB, X.enter.injEq] at h; exact h.2.2.symm
    rw [hxv] at hr
    simp only [Deferred.ofValue, Sem.run_bind, Sem.run_pure, Result.andThen_ok] at hr
    refine ⟨{ target := .fn (.func f') cap, args := first ++ #[.func (.yield L.blk) #[] #[]] }, cargs, w', ?_, hr, h1, h2, hH⟩
    unfold resolve rangeCall
    have e1 : (#[Operand.const (.func (.yield L.blk) #[] #[])] : Array Operand).map a.eval = #[.func (.yield L.blk) #[] #[]] := by simp [Act.eval]
    simp only [hxv, e1, Deferred.ofValue, Sem.run_pure]
  · cases h
  · cases h
theorem rangeFn_sound {ih : Cont} (hg : Good P w0 G base f0 ih) (hK : HookOK P w0 G K) {f : Operand} {ps : Array Tmp} {asg body : Code} {n : Nat} {tm : TM} {l : List AItem} {b : Frame} {a : Act} {m : List Item} {d : List Nat} {r : Option Nat} {cs : List AF} {ccs : List Frame} (hk : b.kind = .normal) (hd : a.defers = b.defers) (hdf : DfR μ d b.defers) (hro : RoR μ r b.roundOf) (hs : SR μ n tm a.tmps) (hi : IR μ l m) (hN : N0 ≤ H.size) (hc : CR P G μ N0 cs ccs) (hh : HR w0 G μ H w) (hl : lastFn b.fn cs = f0) :
    XS P w0 G base f0 (lone (b.atR a (.code (.rangeFunc f ps asg body) :: m)) (ccs ++ base) w) (rangeFn ih P K G f ps asg body l b.fn n tm d r cs H) := by
  unfold rangeFn
  cases r with
  | none =>
    have hb := hro.none_inv
    simp only []
    rw [pushK_eq, fNat_eq, fNat_eq, pushK_eq]
    have hp1 := hh.push (L := ⟨w.heap.size, 0, 0⟩) (o := .deferred true) (grew w (.deferred (some []))) rfl rfl
    generalize hw1 : ({ w with heap := w.heap.push (.deferred (some [])) } : World) = w1 at hp1
    have hs1 : w1.heap.size = w.heap.size + 1 := by rw [← hw1]; simp
    have hsz1 : (H.push (.deferred true)).size = H.size + 1 := rfl
    have hD : (μ.up H.size ⟨w.heap.size, 0, 0⟩) H.size = some ⟨w.heap.size, 0, 0⟩ := Mu.up_same _ _ _
    generalize μ.up H.size ⟨w.heap.size, 0, 0⟩ = μ1 at hp1 hD
    obtain ⟨hh1, hx1⟩ := hp1
    have hup := Mu.up_le (hh1.dom _ (Nat.le_refl _)) ⟨w1.heap.size, 0, 0⟩
    have hp2 := hh1.push (L := ⟨w1.heap.size, 0, 0⟩) (o := .loop .ready none b.fn tm.mask tm.tr n ps asg body H.size)
      (grew w1 (.loop { state := .ready, pending := none, fn := b.fn, tmps := a.tmps, params := ps, assign := asg, body, defers := w.heap.size })) rfl
      ⟨a.tmps, ⟨w.heap.size, 0, 0⟩, rfl, hup _ _ hD, (hs.clear).mono (hx1.1.trans hup)⟩
    generalize hw2 : ({ w1 with heap := w1.heap.push (.loop { state := .ready, pending := none, fn := b.fn, tmps := a.tmps, params := ps, assign := asg, body, defers := w.heap.size }) } : World) = w2 at hp2
    have hD2 := hup _ _ hD
    have hL2 : (μ1.up (H.push (.deferred true)).size ⟨w1.heap.size, 0, 0⟩) (H.push (.deferred true)).size = some ⟨w1.heap.size, 0, 0⟩ := Mu.up_same _ _ _
    generalize μ1.up (H.push (.deferred true)).size ⟨w1.heap.size, 0, 0⟩ = μ2 at hp2 hD2 hL2
    obtain ⟨hh2, hx2⟩ := hp2
    have hx := hx1.trans (hx2.weak (by rw [hsz1]; omega))
    have hsz2 : ((H.push (.deferred true)).push (.loop .ready none b.fn tm.mask tm.tr n ps asg body H.size)).size = H.size + 2 := rfl
    generalize (H.push (.deferred true)).push (.loop .ready none b.fn tm.mask tm.tr n ps asg body H.size) = H2 at hh2 hsz2 ⊢
    have he : (Instr.enterLoop b.fn a.tmps ps asg body b.roundOf).run P w = .ok (w1.heap.size, [{ target := .collected w.heap.size, args := #[] }]) w2 := by
      rw [hb, run_enterLoop_outer, hs1, ← hw2, ← hw1]; rfl
    have hL2' : μ2 (Nat.succ H.size) = some ⟨w1.heap.size, 0, 0⟩ := hL2
    cases hcv : callV P (ev tm f) [.yield (Nat.succ H.size)] H2 with
    | enter g args H3 =>
      obtain ⟨dd, cargs, w3, h1, h2, h3, h4, rfl⟩ := callV_begin hh2 (hs.mono hx.1) hL2' hcv
      have hst := stepR_rangeFunc (P := P) (b := b) (a := a) (k := m) (cs := ccs ++ base) (w := w) he h1 h2
      refine XS.step (.one hst) ?_
      have hfr : b.atR { a with defers := [{ target := .collected w.heap.size, args := #[] }] ++ a.defers } (.inRangeFunc w1.heap.size :: m) =
          ({ b with defers := { target := .collected w.heap.size, args := #[] } :: b.defers } : Frame).atR { a with defers := { target := .collected w.heap.size, args := #[] } :: a.defers } (.inRangeFunc w1.heap.size :: m) := rfl
      rw [hfr]
      exact callF_sound hg hK h3 (by omega) (.run n tm _ ({ b with defers := { target := .collected w.heap.size, args := #[] } :: b.defers } : Frame) { a with defers := { target := .collected w.heap.size, args := #[] } :: a.defers } _ (H.size :: d) none hk (by show _ :: a.defers = _ :: b.defers; rw [hd]) (.cons H.size ⟨w.heap.size, 0, 0⟩ hD2 (hdf.mono hx.1)) (hro.mono hx.1) (hs.mono hx.1) (.inRF _ ⟨w1.heap.size, 0, 0⟩ hL2' (hi.mono hx.1))) rfl (hc.mono (hx.weak hN) (Nat.le_refl _)) h4 hl
    | _ => trivial
  | some lp =>
    obtain ⟨K0, hK0, hb⟩ := hro.some_inv
    simp only []
    split
    · rename_i st p fn mask tr n' ps' asg' body' D hgl
      obtain ⟨o, ho, hor⟩ := hh.obj lp K0 hK0 (by rw [hgl]; intro e; cases e)
      rw [hgl] at hor
      obtain ⟨tmps, K', rfl, hD, hs'⟩ := hor
      rw [pushK_eq, fNat_eq]
      have hup := Mu.up_le (hh.dom _ (Nat.le_refl _)) ⟨w.heap.size, 0, 0⟩
      have hp2 := hh.push (L := ⟨w.heap.size, 0, 0⟩) (o := .loop .ready none b.fn tm.mask tm.tr n ps asg body D)
        (grew w (.loop { state := .ready, pending := none, fn := b.fn, tmps := a.tmps, params := ps, assign := asg, body, defers := K'.blk })) rfl
        ⟨a.tmps, K', rfl, hup _ _ hD, (hs.clear).mono hup⟩
      generalize hw2 : ({ w with heap := w.heap.push (.loop { state := .ready, pending := none, fn := b.fn, tmps := a.tmps, params := ps, assign := asg, body, defers := K'.blk }) } : World) = w2 at hp2
      have hL2 : (μ.up H.size ⟨w.heap.size, 0, 0⟩) H.size = some ⟨w.heap.size, 0, 0⟩ := Mu.up_same _ _ _
      generalize μ.up H.size ⟨w.heap.size, 0, 0⟩ = μ2 at hp2 hL2
      obtain ⟨hh2, hx⟩ := hp2
      have hsz2 : (H.push (.loop .ready none b.fn tm.mask tm.tr n ps asg body D)).size = H.size + 1 := rfl
      generalize H.push (.loop .ready none b.fn tm.mask tm.tr n ps asg body D) = H2 at hh2 hsz2 ⊢
      have he : (Instr.enterLoop b.fn a.tmps ps asg body b.roundOf).run P w = .ok (w.heap.size, []) w2 := by
        rw [hb]
        unfold Instr.enterLoop
        simp only [Sem.run_bind, run_getLoop ho, Result.andThen_ok, Sem.run_pure, run_newObj, ← hw2]
      cases hcv : callV P (ev tm f) [.yield H.size] H2 with
      | enter g args H3 =>
        obtain ⟨dd, cargs, w3, h1, h2, h3, h4, rfl⟩ := callV_begin hh2 (hs.mono hx.1) hL2 hcv
        have hst := stepR_rangeFunc (P := P) (b := b) (a := a) (k := m) (cs := ccs ++ base) (w := w) he h1 h2
        refine XS.step (.one hst) ?_
        exact callF_sound hg hK h3 (by omega) (.run n tm _ b { a with defers := [] ++ a.defers } _ d (some lp) hk hd (hdf.mono hx.1) (hro.mono hx.1) (hs.mono hx.1) (.inRF _ ⟨w.heap.size, 0, 0⟩ hL2 (hi.mono hx.1))) rfl (hc.mono (hx.weak hN) (Nat.le_refl _)) h4 hl
      | _ => trivial
    · trivial
theorem code_sound {ih : Cont} (hg : Good P w0 G base f0 ih) (hK : HookOK P w0 G K) (c : Code) : ∀ (μ : Mu) (N0 n : Nat) (tm : TM) (l : List AItem) (b : Frame) (a : Act) (m : List Item) (d : List Nat) (r : Option Nat) (cs : List AF) (ccs : List Frame) (H : AH) (w : World), b.kind = .normal → a.defers = b.defers → DfR μ d b.defers → RoR μ r b.roundOf → SR μ n tm a.tmps → IR μ l m → N0 ≤ H.size → CR P G μ N0 cs ccs → HR w0 G μ H w → lastFn b.fn cs = f0 →
    XS P w0 G base f0 (lone (b.atR a (.code c :: m)) (ccs ++ base) w) (codeA c ih P K G l b.fn n tm d r cs H) := by
  induction c with
  | skip => intro μ N0 n tm l b a m d r cs ccs H w hk hd hdf hro hs hi hN hc hh hl; exact XS.step (.one stepR_skip) (hg μ N0 b.fn n tm l false d r cs H _ ccs w hN (.run n tm l b a m d r hk hd hdf hro hs hi) hc hh hl)
  | region id ops draw =>
    intro μ N0 n tm l b a m d r cs ccs H w hk hd hdf hro hs hi hN hc hh hl
    cases draw with
    | false =>
      refine XS.step (.one stepR_region) ?_
      have := regA_sound hg hK (ops := ops) (i := 0) (rest := ops.toList) (by simp) hk hd hdf hro hs hi hN hc hh hl
      rw [Nat.sub_zero, ← List.range_eq_range'] at this
      exact this
    | true =>
      show XS P w0 G base f0 _ (onPlan (plan P ops) (fun p => dregA ops p ih P K G l b.fn n tm d r cs H) (.failAt 451 ((ops.getD 0 default).pos)))
      cases hp : plan P ops with
      | none => trivial
      | some p =>
        unfold plan at hp
        split at hp
        · rename_i hso
          rw [Bool.and_eq_true] at hso
          obtain ⟨hmx, hso⟩ := hso
          refine XS.step (.one stepR_region_draw) ?_
          rw [hmx]
          exact dregA_sound hg hK hp hk hd hdf hro (WT.start hso hs (schedule_lin hso _) _) (fun j o hj => by have := hj.1; simp at this) hi hN hc (hh.drawn (r := 0) ⟨rfl, rfl, rfl, rfl, fun _ _ => rfl⟩ rfl) hl
        · cases hp
  | seq x y ihx ihy => intro μ N0 n tm l b a m d r cs ccs H w hk hd hdf hro hs hi hN hc hh hl; exact XS.step (.one stepR_seq) (ihx μ N0 n tm (.code y :: l) b a (.code y :: m) d r cs ccs H w hk hd hdf hro hs (.code y hi) hN hc hh hl)
  | cond c x y ihx ihy =>
    intro μ N0 n tm l b a m d r cs ccs H w hk hd hdf hro hs hi hN hc hh hl
    have he := hs.eval c
    show XS P w0 G base f0 _ (onBool (ev tm c) _ _)
    cases hq : ev tm c with
    | bool t =>
      rw [hq] at he
      have he := he.bool_inv
      refine XS.step (.one (stepR_cond he)) ?_
      cases t
      · exact ihy μ N0 n tm l b a m d r cs ccs H w hk hd hdf hro hs hi hN hc hh hl
      · exact ihx μ N0 n tm l b a m d r cs ccs H w hk hd hdf hro hs hi hN hc hh hl
    | _ => trivial
  | block id c ihc => intro μ N0 n tm l b a m d r cs ccs H w hk hd hdf hro hs hi hN hc hh hl; exact XS.step (.one stepR_block) (ihc μ N0 n tm (.inBlock id :: l) b a (.inBlock id :: m) d r cs ccs H w hk hd hdf hro hs (.inBlock id hi) hN hc hh hl)
  | loop c ihc => intro μ N0 n tm l b a m d r cs ccs H w hk hd hdf hro hs hi hN hc hh hl; exact XS.step (.one stepR_loop) (ihc μ N0 n tm (.inLoop c :: l) b a (.inLoop c :: m) d r cs ccs H w hk hd hdf hro hs (.inLoop c hi) hN hc hh hl)
  | rangeFunc f ps x y _ _ => intro μ N0 n tm l b a m d r cs ccs H w hk hd hdf hro hs hi hN hc hh hl; exact rangeFn_sound hg hK hk hd hdf hro hs hi hN hc hh hl
  | exit id =>
    intro μ N0 n tm l b a m d r cs ccs H w hk hd hdf hro hs hi hN hc hh hl
    show XS P w0 G base f0 _ (onItems (exitA id l) _ _)
    cases hq : exitA id l with
    | none => exact leave_sound (isRet := false) hg hk hd hdf hro hs hN hc hh hl (fun h => by cases h) (fun k v w' c cs' hb hcs hr => by rw [hcs]; exact stepR_round_exit hb hk (exit_none hi hq) hr)
    | some l' =>
      obtain ⟨m', h1, h2⟩ := exit_sound hi hq
      exact XS.step (.one (stepR_exit h1)) (hg μ N0 b.fn n tm l' false d r cs H _ ccs w hN (.run n tm l' b a m' d r hk hd hdf hro hs h2) hc hh hl)
  | scope c ihc => intro μ N0 n tm l b a m d r cs ccs H w hk hd hdf hro hs hi hN hc hh hl; exact XS.step (.one step_scope) (ihc μ N0 n tm (.inScope c :: l) b a (.inScope c :: m) d r cs ccs H w hk hd hdf hro hs (.inScope c hi) hN hc hh hl)
  | label g => intro μ N0 n tm l b a m d r cs ccs H w hk hd hdf hro hs hi hN hc hh hl; exact XS.step (.one stepR_label) (hg μ N0 b.fn n tm l false d r cs H _ ccs w hN (.run n tm l b a m d r hk hd hdf hro hs hi) hc hh hl)
  | goto g =>
    intro μ N0 n tm l b a m d r cs ccs H w hk hd hdf hro hs hi hN hc hh hl
    show XS P w0 G base f0 _ (onItems (gotoA g l) _ _)
    cases hq : gotoA g l with
    | none => exact leave_sound (isRet := false) hg hk hd hdf hro hs hN hc hh hl (fun h => by cases h) (fun k v w' c cs' hb hcs hr => by rw [hcs]; exact stepR_round_goto hb hk (goto_none hi hq) hr)
    | some l' =>
      obtain ⟨m', h1, h2⟩ := goto_sound hi hq
      exact XS.step (.one (stepR_goto h1)) (hg μ N0 b.fn n tm l' false d r cs H _ ccs w hN (.run n tm l' b a m' d r hk hd hdf hro hs h2) hc hh hl)
  | ret => intro μ N0 n tm l b a m d r cs ccs H w hk hd hdf hro hs hi hN hc hh hl; exact leave_sound (isRet := true) (m := .code .ret :: m) hg hk hd hdf hro hs hN hc hh hl (fun _ hb => stepR_ret hb) (fun k v w' c cs' hb hcs hr => by rw [hcs]; exact stepR_round_ret hb hk hr)
  | refuse s => intro μ N0 n tm l b a m d r cs ccs H w hk hd hdf hro hs hi hN hc hh hl; exact trivial
theorem step_sound {ih : Cont} (hg : Good P w0 G base f0 ih) (hK : HookOK P w0 G K) : Good P w0 G base f0 (stepA ih P K G) := by
  intro μ N0 fn n tm todo ret d r cs H fr ccs w hN hf hc hh hl
  cases hf with
  | ret _ _ _ b a m _ hk hdf hs => exact ret_sound (l := todo) hg hk hdf hs hN hc hh hl
  | dwait ops items lst _ _ l b a m _ _ hk hd hdf hro hs hi => exact trivial
  | drun ops chk items lst _ _ l b a m _ _ hk hd hdf hro hs hi =>
    obtain ⟨is, A, fl, sure, c, S, h1, h2, h3⟩ := hs
    show XS P w0 G base f0 _ (onB (chksB P G ops tm H chk) (fun _ => dregA ops items ih P K G l b.fn n tm d r cs H) _)
    cases hq : chksB P G ops tm H chk with
    | false => trivial
    | true =>
      refine dregA_sound hg hK h1 hk hd hdf hro h2 (fun j o hj hoj hwj => ?_) hi hN hc hh hl
      obtain ⟨oj', k1, k2, _, k3, k4⟩ := h2.ds.fls j hj
      rw [hoj] at k1
      cases k1
      cases hhp : heapOp o.op with
      | false => exact h2.val hj hoj hwj hhp _
      | true => exact chk_val (chks_get hq o (h3 j o hj hoj hhp)) hwj k2
  | run _ _ _ b a m _ _ hk hd hdf hro hs hi =>
    cases hi with
    | nil => exact leave_sound (isRet := true) (m := []) hg hk hd hdf hro hs hN hc hh hl (fun _ hb => stepR_end hb) (fun k v w' c cs' hb hcs hr => by rw [hcs]; exact stepR_round_end hb hk hr)
    | code c t => exact code_sound hg hK c μ N0 n tm _ b a _ d r cs ccs H w hk hd hdf hro hs t hN hc hh hl
    | inBlock id t => exact XS.step (.one stepR_inBlock) (hg μ N0 b.fn n tm _ false d r cs H _ ccs w hN (.run n tm _ b a _ d r hk hd hdf hro hs t) hc hh hl)
    | inLoop c t => exact XS.step (.one stepR_inLoop) (code_sound hg hK c μ N0 n tm _ b a _ d r cs ccs H w hk hd hdf hro hs (.inLoop c t) hN hc hh hl)
    | inScope c t => exact XS.step (.one step_inScope) (hg μ N0 b.fn n tm _ false d r cs H _ ccs w hN (.run n tm _ b a _ d r hk hd hdf hro hs t) hc hh hl)
    | reg ops i hr t => exact regA_sound hg hK hr hk hd hdf hro hs t hN hc hh hl
    | inRF b' L hb t => exact trivial
    | endRF b' L hb t =>
      rename_i m'
      show XS P w0 G base f0 _ (endRFA b' ih G _ b.fn n tm d r cs H)
      unfold endRFA
      split
      · rename_i st p fn mask tr n' ps asg body D hgl
        obtain ⟨o, ho, hor⟩ := hh.obj b' L hb (by rw [hgl]; intro e; cases e)
        rw [hgl] at hor
        obtain ⟨tmps, K', rfl, hK', hs'⟩ := hor
        cases hG : Nat.ble G b' with
        | false => simp only [onB]; trivial
        | true =>
          simp only [onB]
          rw [Nat.ble_eq] at hG
          have hh' : HR w0 G μ (H.set b' (.loop .exhausted p fn mask tr n' ps asg body D)) (w.putObj L.blk (.loop { state := .exhausted, pending := p, fn, tmps, params := ps, assign := asg, body, defers := K'.blk })) :=
            hh.set hb hG (by rw [hgl]; intro e; cases e) ⟨rfl, rfl, rfl, by simp, fun k hk => World.putObj_heap_other hk⟩ (World.putObj_heap_same (hh.lt b' L hb)) ⟨tmps, K', rfl, hK', hs'⟩
          have fin : st ≠ .busy → XS P w0 G base f0 (lone (b.atR a (.endRangeFunc L.blk :: m')) (ccs ++ base) w) (H.setK b' (.loop .exhausted p fn mask tr n' ps asg body D) fun H' => onC p (fun c => ih b.fn n tm (.code c :: _) false d r cs H') (ih b.fn n tm _ false d r cs H')) := fun hst => by
            rw [setK_eq]
            have her := run_endLoop (P := P) ho hst
            refine XS.step (.one (stepR_endRangeFunc her)) ?_
            cases p with
            | none => exact hg μ N0 b.fn n tm _ false d r cs _ _ ccs _ hN (.run n tm _ b a _ d r hk hd hdf hro hs t) hc hh' hl
            | some c => exact hg μ N0 b.fn n tm _ false d r cs _ _ ccs _ hN (.run n tm _ b a _ d r hk hd hdf hro hs (.code c t)) hc hh' hl
          split
          · trivial
          · rename_i hst; exact fin hst
      · trivial
    | beginRound t =>
      rename_i m'
      show XS P w0 G base f0 _ (beginA r ih G _ b.fn n tm d cs H)
      unfold beginA
      split
      · trivial
      · rename_i lp
        obtain ⟨L, hL, hro'⟩ := hro.some_inv
        split
        · rename_i p fn mask tr n' ps asg body D hgl
          obtain ⟨o, ho, hor⟩ := hh.obj lp L hL (by rw [hgl]; intro e; cases e)
          rw [hgl] at hor
          obtain ⟨tmps, K', rfl, hK', hs'⟩ := hor
          cases hG : Nat.ble G lp with
          | false => simp only [onB]; trivial
          | true =>
            simp only [onB]
            rw [Nat.ble_eq] at hG
            rw [setK_eq]
            have hh' : HR w0 G μ (H.set lp (.loop .busy p fn mask tr n' ps asg body D)) (w.putObj L.blk (.loop { state := .busy, pending := p, fn, tmps, params := ps, assign := asg, body, defers := K'.blk })) :=
              hh.set hL hG (by rw [hgl]; intro e; cases e) ⟨rfl, rfl, rfl, by simp, fun k hk => World.putObj_heap_other hk⟩ (World.putObj_heap_same (hh.lt lp L hL)) ⟨tmps, K', rfl, hK', hs'⟩
            exact XS.step (.one (stepR_beginRound hro' (run_beginRound ho rfl))) (hg μ N0 b.fn n tm _ false d (some lp) cs _ _ ccs _ hN (.run n tm _ b a _ d (some lp) hk hd hdf hro hs t) hc hh' hl)
        · trivial
theorem run_sound (hK : HookOK P w0 G K) : ∀ s : Nat, Good P w0 G base f0 (runA s P K G)
  | 0 => fun μ N0 fn n tm todo ret d r cs H fr ccs w hN hf hc hh hl => ⟨μ, N0, fr, ccs, w, .refl _ _, hN, hf, hc, hh, hl⟩
  | s + 1 => step_sound (run_sound hK s) hK
/-- What the abstract machine runs to, the model's runs to. -/
theorem callRun_sound (hK : HookOK P w0 G K) {s f : Nat} {args : List AV} {cargs : Array Value} {v : AV} {H' : AH} (hr : callRun P K G s f args H = .done v H') (ha : LR μ args cargs.toList) (hh : HR w0 G μ H w) :
    Calls P f cargs w fun e w' => ∃ (u : Value) (μ' : Mu), e = .returned u ∧ VR μ' v u ∧ HR w0 G μ' H' w' := fun cs => by
  have := enter_sound (P := P) (w0 := w0) (G := G) (base := cs) (f0 := f) (run_sound hK s) ha (.nil _) hh rfl
  unfold callRun at hr
  rw [hr] at this
  obtain ⟨μ', w', fr, u, h1, h2, h3, h4, h5⟩ := this
  exact ⟨.returned u, w', fr, ⟨u, μ', rfl, h4, h5⟩, h1, h2, h3⟩
theorem HR.start (w : World) : HR w 0 (fun _ => none) ⟨0, .nil⟩ w :=
  ⟨⟨rfl, rfl, rfl, Nat.le_refl _, fun _ _ => rfl⟩, fun _ _ => rfl, fun _ _ h => (by cases h), fun _ _ _ h => (by cases h), fun _ _ _ _ _ _ h => (by cases h), fun _ _ h => (by cases h), fun _ _ => rfl, Nat.le_refl _⟩
end
end Go.Proofs.YtabllhhainepgaaGreatDoor.Ab
