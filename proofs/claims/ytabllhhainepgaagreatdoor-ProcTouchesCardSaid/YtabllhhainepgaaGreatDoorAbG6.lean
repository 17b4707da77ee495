/-
  An abstract machine that Lean's kernel can run: what an operation hangs on. This text speaks of no program.
-/
import Derived.Test.YtabllhhainepgaaGreatDoorAbG5
/-
  The abstract machine: slots, frames.
-/
set_option linter.unusedVariables false
set_option linter.unusedSimpArgs false
namespace Go.Proofs.YtabllhhainepgaaGreatDoor.Ab
open Go.RowKit

/-! ### slots -/
noncomputable def TM.put (m : TM) (d : Nat) (v : AV) : TM := if isLocal m.mask d = true then ⟨m.mask, .cons d v m.lo, m.tr⟩ else ⟨m.mask, m.lo, putV (path d) m.tr v .junk⟩
theorem putT_eq (m : TM) (d : Nat) (v : AV) (k : TM → X) : putT m d v k = k (m.put d v) := by
  obtain ⟨mask, lo, tr⟩ := m
  unfold putT TM.put
  cases hl : isLocal mask d with
  | false => simp only [hl]; rw [setV_eq]; simp
  | true => simp only [hl]; simp
theorem getT_eq (mask : Nat) (lo : Lo) (tr : Tr AV) (t : Nat) : getT ⟨mask, lo, tr⟩ t = if isLocal mask t = true then getL lo t else getV tr (path t) .junk := by
  unfold getT
  cases hl : isLocal mask t with
  | false => simp only [hl]; simp
  | true => simp only [hl]; simp
theorem getL_cons (d : Nat) (v : AV) (l : Lo) (t : Nat) : getL (.cons d v l) t = if t = d then v else getL l t := by
  show Bool.rec (motive := fun _ => (Nat → AV) → Nat → AV → AV) (fun ih n _ => ih n) (fun _ _ v => v) (Nat.beq d t) (getL l) t v = _
  by_cases h : t = d
  · subst h
    have : Nat.beq t t = true := by simp
    rw [this, if_pos rfl]
  · have : Nat.beq d t = false := beq_ff (fun e => h e.symm)
    rw [this, if_neg h]
theorem get_put (m : TM) (d : Nat) (v : AV) (t : Nat) : getT (m.put d v) t = if t = d then v else getT m t := by
  obtain ⟨mask, lo, tr⟩ := m
  unfold TM.put
  by_cases hd : isLocal mask d = true
  · rw [if_pos hd, getT_eq, getT_eq]
    by_cases ht : isLocal mask t = true
    · rw [if_pos ht, if_pos ht, getL_cons]
    · rw [if_neg ht, if_neg ht, if_neg (fun e => ht (by rw [e]; exact hd))]
  · rw [if_neg hd, getT_eq, getT_eq]
    by_cases ht : isLocal mask t = true
    · rw [if_pos ht, if_pos ht, if_neg (fun e => hd (by rw [← e]; exact ht))]
    · rw [if_neg ht, if_neg ht, get_putV]
      by_cases e : t = d
      · rw [if_pos (by rw [e]), if_pos e]
      · rw [if_neg (fun e' => e (path_inj e')), if_neg e]
def TM.clear (m : TM) : TM := ⟨m.mask, .nil, m.tr⟩
theorem clearT_eq (m : TM) (k : TM → X) : clearT m k = k m.clear := rfl
section
variable {P : Program} {w0 w : World} {G : Nat} {μ : Mu} {H : AH} {r : Result Next}
theorem SR.put {n : Nat} {tm : TM} {tmps : Array Value} (h : SR μ n tm tmps) {d : Nat} (hd : d < n) {v : AV} {u : Value} (hv : VR μ v u) : SR μ n (tm.put d v) (tmps.setIfInBounds d u) := by
  have h1 := h.1
  refine ⟨by simp; exact h.1, fun t => ?_⟩
  rw [get_put]
  by_cases e : t = d
  · subst e
    rw [if_pos rfl]
    have : (tmps.setIfInBounds t u).getD t undef = u := by
      rw [Array.getD_eq_getD_getElem?, Array.getElem?_setIfInBounds, if_pos rfl, if_pos (by omega)]; rfl
    rw [this]; exact hv
  · rw [if_neg e]
    have : (tmps.setIfInBounds d u).getD t undef = tmps.getD t undef := by
      rw [Array.getD_eq_getD_getElem?, Array.getD_eq_getD_getElem?, Array.getElem?_setIfInBounds, if_neg (fun e' => e e'.symm)]
    rw [this]; exact h.2 t
theorem SR.clear {n : Nat} {tm : TM} {tmps : Array Value} (h : SR μ n tm tmps) : SR μ n tm.clear tmps := by
  obtain ⟨mask, lo, tr⟩ := tm
  refine ⟨h.1, fun t => ?_⟩
  have := h.2 t
  rw [getT_eq] at this
  show VR μ (getT ⟨mask, .nil, tr⟩ t) _
  rw [getT_eq]
  by_cases hl : isLocal mask t = true
  · rw [if_pos hl]; exact .junk _
  · rw [if_neg hl] at this ⊢; exact this
theorem SR.eval {n : Nat} {tm : TM} {a : Act} (h : SR μ n tm a.tmps) (x : Operand) : VR μ (ev tm x) (a.eval x) := by
  cases x with
  | tmp t => exact h.2 t
  | const v => exact VR.ofConst μ v
  | global g => exact .junk _
  | func f => exact .func f [] [] #[] #[] .nil .nil
/-- putK: the slot, where there is one. -/
noncomputable def TM.putO (m : TM) (d : Option Tmp) (v : AV) : TM := match d with | some d => m.put d v | none => m
theorem SR.putAct {n : Nat} {tm : TM} {a : Act} (h : SR μ n tm a.tmps) {d : Option Tmp} (hd : ∀ x, d = some x → x < n) {v : AV} {u : Value} (hv : VR μ v u) : SR μ n (tm.putO d v) (a.put d u).tmps := by
  cases d with
  | none => exact h
  | some d => exact h.put (hd d rfl) hv

/-! ### what waits in a frame -/
inductive IR (μ : Mu) : List AItem → List Item → Prop
  | nil : IR μ [] []
  | code (c : Code) {l : List AItem} {m : List Item} (t : IR μ l m) : IR μ (.code c :: l) (.code c :: m)
  | inBlock (id : Nat) {l : List AItem} {m : List Item} (t : IR μ l m) : IR μ (.inBlock id :: l) (.inBlock id :: m)
  | inLoop (c : Code) {l : List AItem} {m : List Item} (t : IR μ l m) : IR μ (.inLoop c :: l) (.inLoop c :: m)
  | inScope (c : Code) {l : List AItem} {m : List Item} (t : IR μ l m) : IR μ (.inScope c :: l) (.inScope c :: m)
  | reg (ops : Array Oper) (i : Nat) {rest : List Oper} (hr : rest = ops.toList.drop i) {l : List AItem} {m : List Item} (t : IR μ l m) : IR μ (.reg ops rest :: l) (.inRegion ops (List.range' i (ops.size - i)) :: m)
  | inRF (b : Nat) (L : Loc) (hb : μ b = some L) {l : List AItem} {m : List Item} (t : IR μ l m) : IR μ (.inRF b :: l) (.inRangeFunc L.blk :: m)
  | endRF (b : Nat) (L : Loc) (hb : μ b = some L) {l : List AItem} {m : List Item} (t : IR μ l m) : IR μ (.endRF b :: l) (.endRangeFunc L.blk :: m)
  | beginRound {l : List AItem} {m : List Item} (t : IR μ l m) : IR μ (.beginRound :: l) (.beginRound :: m)
theorem IR.mono {μ ν : Mu} (hm : μ.le ν) {l : List AItem} {m : List Item} (h : IR μ l m) : IR ν l m := by
  induction h with
  | nil => exact .nil
  | code c _ ih => exact .code c ih
  | inBlock id _ ih => exact .inBlock id ih
  | inLoop c _ ih => exact .inLoop c ih
  | inScope c _ ih => exact .inScope c ih
  | reg ops i hr _ ih => exact .reg ops i hr ih
  | inRF b L hb _ ih => exact .inRF b L (hm _ _ hb) ih
  | endRF b L hb _ ih => exact .endRF b L (hm _ _ hb) ih
  | beginRound _ ih => exact .beginRound ih
theorem exit_sound {id : Nat} : ∀ {l : List AItem} {m : List Item} {l' : List AItem}, IR μ l m → exitA id l = some l' → ∃ m', exitTo id m = some m' ∧ IR μ l' m' := by
  intro l m l' h
  induction h with
  | nil => intro h; cases h
  | inBlock id' t ih =>
    intro h
    simp only [exitA] at h
    by_cases e : id' = id
    · subst e
      have : Nat.beq id' id' = true := by simp
      rw [this] at h
      simp only [cond_true, Option.some.injEq] at h
      subst h
      exact ⟨_, by simp [exitTo], t⟩
    · rw [beq_ff e] at h
      obtain ⟨m', h1, h2⟩ := ih h
      exact ⟨m', by simp [exitTo, e, h1], h2⟩
  | _ => rename_i ih; intro h; obtain ⟨m', h1, h2⟩ := ih h; exact ⟨m', h1, h2⟩
theorem goto_sound {g : Nat} : ∀ {l : List AItem} {m : List Item} {l' : List AItem}, IR μ l m → gotoA g l = some l' → ∃ m', gotoIn g m = some m' ∧ IR μ l' m' := by
  intro l m l' h
  induction h with
  | nil => intro h; cases h
  | inScope c t ih =>
    intro h
    simp only [gotoA] at h
    cases hf : findLabel c g with
    | some rest =>
      rw [hf] at h
      simp only [Option.some.injEq] at h
      subst h
      exact ⟨_, by simp [gotoIn, hf], .code _ (.inScope _ t)⟩
    | none =>
      rw [hf] at h
      obtain ⟨m', h1, h2⟩ := ih h
      exact ⟨m', by simp [gotoIn, hf, h1], h2⟩
  | _ => rename_i ih; intro h; obtain ⟨m', h1, h2⟩ := ih h; exact ⟨m', h1, h2⟩
end
end Go.Proofs.YtabllhhainepgaaGreatDoor.Ab
/-
  The abstract machine: what an operation hangs on, and what an operation that floats leaves behind.
-/
namespace Go.Proofs.YtabllhhainepgaaGreatDoor.Ab
open Go.RowKit

/-! ### an operation hangs on its operands -/
theorem evs_congr {tm tm' : TM} : ∀ l : List Operand, (∀ x ∈ l, ev tm x = ev tm' x) → evs tm l = evs tm' l
  | [], _ => rfl
  | x :: l, h => by
    show ev tm x :: evs tm l = ev tm' x :: evs tm' l
    rw [h x (by simp), evs_congr l fun y hy => h y (by simp [hy])]
theorem evsParts_congr {tm tm' : TM} : ∀ l : List (Nat × Operand), (∀ x ∈ l.map (·.2), ev tm x = ev tm' x) → evsParts tm l = evsParts tm' l
  | [], _ => rfl
  | x :: l, h => by
    show (x.1, ev tm x.2) :: evsParts tm l = (x.1, ev tm' x.2) :: evsParts tm' l
    rw [h x.2 (by simp), evsParts_congr l fun y hy => h y (by rw [List.map_cons]; exact List.mem_cons_of_mem _ hy)]
theorem opA_congr {P : Program} {G : Nat} {H : AH} {tm tm' : TM} (o : Oper) (h : ∀ x ∈ o.op.operands, ev tm x = ev tm' x) : opA P G o tm H = opA P G o tm' H := by
  obtain ⟨dst, op, type, pos, after, guard⟩ := o
  cases op <;> (try simp only [Op.operands] at h) <;> simp only [opA]
  case build t ps => rw [evsParts_congr ps.toList fun x hx => h x (by simpa using hx)]
  case buildSlice t n ps => rw [evsParts_congr ps.toList fun x hx => h x (by simpa using hx)]
  case makeFunc fn a b =>
    rw [evs_congr a.toList fun x hx => h x (by simp at hx; simp [hx]), evs_congr b.toList fun x hx => h x (by simp at hx; simp [hx])]
  case pick c a b =>
    rw [h c (by simp)]
    cases ev tm' c <;> first | rfl | (rename_i q; cases q <;> simp only [onBool] <;> rw [h _ (by simp)])
  case makeMap t r => cases r <;> simp_all
  case slice t x lo hi mx => cases lo <;> cases hi <;> cases mx <;> simp_all
  case call c =>
    obtain ⟨callee, args, types⟩ := c
    simp only [Call.operands] at h
    have ha : evs tm args.toList = evs tm' args.toList := evs_congr _ fun x hx => h x (by simp at hx; simp [hx])
    unfold callX
    cases callee <;> simp_all
  all_goals (first | rfl | (simp_all; done))

/-! ### an operation that floats -/
/-- It leaves the heap as it was, or one block more. -/
def Flo (H : AH) (alloc : Bool) (x : X) : Prop :=
  match x with
  | .val v H1 => (H1 = H ∧ (alloc = true → (match v with | .int _ _ => True | .str _ _ => True | _ => False))) ∨ (alloc = true ∧ ∃ ob, H1 = H.push ob ∧ (v = .ptr H.size 0 ∨ (∃ l c g, v = .slice H.size 0 l c g) ∨ v = .map H.size))
  | .enter .. => False
  | .round .. => False
  | .fork .. => False
  | _ => True
section
variable {P : Program} {G : Nat} {H : AH}
theorem Flo.val (v : AV) : Flo H false (.val v H) := .inl ⟨rfl, fun h => by cases h⟩
theorem Flo.fail {a : Bool} (n : Nat) : Flo H a (.fail n) := trivial
theorem Flo.rInt {a : Bool} (k : IntKind) (n : Int) : Flo H a (rInt k n H) := by unfold Ab.rInt; rw [fInt_eq]; exact .inl ⟨rfl, fun _ => trivial⟩
theorem Flo.rStr {a : Bool} (k n : Nat) : Flo H a (rStr k n H) := by unfold Ab.rStr; rw [fNat_eq, fNat_eq]; exact .inl ⟨rfl, fun _ => trivial⟩
theorem Flo.rBool (b : Bool) : Flo H false (rBool b H) := by cases b <;> exact Flo.val _
theorem Flo.rPtr (b o : Nat) : Flo H false (rPtr b o H) := by unfold Ab.rPtr; rw [fNat_eq, fNat_eq]; exact Flo.val _
theorem Flo.rSlice (b o l c : Nat) (g : Bool) : Flo H false (rSlice b o l c g H) := by rw [rSlice_eq]; exact Flo.val _
theorem Flo.rOpt (o : Option AV) (n : Nat) : Flo H false (rOpt o n H) := by cases o <;> first | exact trivial | exact Flo.val _
theorem Flo.rOptB (o : Option Bool) (n : Nat) : Flo H false (rOptB o n H) := by cases o <;> first | exact trivial | exact Flo.rBool _
theorem Flo.pushP {ob : AObj} : Flo H true (H.pushK ob fun H' => .val (.ptr H.size 0) H') := by rw [pushK_eq]; exact .inr ⟨rfl, ob, rfl, .inl rfl⟩
theorem Flo.pushM {ob : AObj} : Flo H true (H.pushK ob fun H' => .val (.map H.size) H') := by rw [pushK_eq]; exact .inr ⟨rfl, ob, rfl, .inr (.inr rfl)⟩
theorem Flo.pushS {ob : AObj} {l c : Nat} {g : Bool} : Flo H true (H.pushK ob fun H' => .val (.slice H.size 0 l c g) H') := by rw [pushK_eq]; exact .inr ⟨rfl, ob, rfl, .inr (.inl ⟨l, c, g, rfl⟩)⟩
theorem Flo.pushR {ob : AObj} {l c : Nat} {g : Bool} : Flo H true (H.pushK ob fun H' => Ab.rSlice H.size 0 l c g H') := by rw [pushK_eq, rSlice_eq]; exact .inr ⟨rfl, ob, rfl, .inr (.inl ⟨l, c, g, rfl⟩)⟩
variable {a : Bool}
theorem Flo.onInt {v : AV} {f : IntKind → Int → X} {e : X} (h1 : ∀ k n, v = .int k n → Flo H a (f k n)) (h2 : Flo H a e) : Flo H a (onInt v f e) := by
  cases v <;> first | exact h2 | exact h1 _ _ rfl
theorem Flo.onBool {v : AV} {f : Bool → X} {e : X} (h1 : ∀ b, v = .bool b → Flo H a (f b)) (h2 : Flo H a e) : Flo H a (onBool v f e) := by
  cases v <;> first | exact h2 | exact h1 _ rfl
theorem Flo.onPtr {v : AV} {f : Nat → Nat → X} {e : X} (h1 : ∀ b o, v = .ptr b o → Flo H a (f b o)) (h2 : Flo H a e) : Flo H a (onPtr v f e) := by
  cases v <;> first | exact h2 | exact h1 _ _ rfl
theorem Flo.onSlice {v : AV} {f : Nat → Nat → Nat → Nat → Bool → X} {e : X} (h1 : ∀ b o l c g, v = .slice b o l c g → Flo H a (f b o l c g)) (h2 : Flo H a e) : Flo H a (onSlice v f e) := by
  cases v <;> first | exact h2 | exact h1 _ _ _ _ _ rfl
theorem Flo.onJunk {v : AV} {f : X} {e : X} (h1 : v = .junk → Flo H a f) (h2 : Flo H a e) : Flo H a (onJunk v f e) := by
  cases v <;> first | exact h2 | exact h1 rfl
theorem Flo.onON {o : Option Nat} {f : Nat → X} {e : X} (h1 : ∀ n, Flo H a (f n)) (h2 : Flo H a e) : Flo H a (onON o f e) := by
  cases o <;> first | exact h2 | exact h1 _
theorem Flo.onOV {o : Option AV} {f : AV → X} {e : X} (h1 : ∀ n, Flo H a (f n)) (h2 : Flo H a e) : Flo H a (onOV o f e) := by
  cases o <;> first | exact h2 | exact h1 _
theorem Flo.onOL {o : Option (List AV)} {f : List AV → X} {e : X} (h1 : ∀ n, Flo H a (f n)) (h2 : Flo H a e) : Flo H a (onOL o f e) := by
  cases o <;> first | exact h2 | exact h1 _
theorem Flo.onK {o : Option IntKind} {f : IntKind → X} {e : X} (h1 : ∀ n, Flo H a (f n)) (h2 : Flo H a e) : Flo H a (onK o f e) := by
  cases o <;> first | exact h2 | exact h1 _
theorem Flo.onB {b : Bool} {f e : Unit → X} (h1 : Flo H a (f ())) (h2 : Flo H a (e ())) : Flo H a (onB b f e) := by
  cases b <;> first | exact h2 | exact h1
theorem Flo.onNat {n : Int} {f : Nat → X} {e : X} (h1 : ∀ m : Nat, Flo H a (f m)) (h2 : Flo H a e) : Flo H a (onNat n f e) := by
  cases n with
  | ofNat m => exact h1 m
  | negSucc m => exact h2
theorem Flo.cond {b : Bool} {f e : X} (h1 : Flo H a f) (h2 : Flo H a e) : Flo H a (bif b then f else e) := by
  cases b <;> first | exact h2 | exact h1
theorem Flo.fNat {n : Nat} {f : Nat → X} (h : ∀ n, Flo H a (f n)) : Flo H a (fNat n f) := by rw [fNat_eq]; exact h n
theorem Flo.setRows (z : List AV) (l : List (List AV)) : ∀ (c : Tr (List AV)) (i : Nat) (k : Tr (List AV) → X), (∀ c, Flo H a (k c)) → Flo H a (setRowsK z l c i k) := by
  induction l with
  | nil => intro c i k h; exact h c
  | cons r l ih =>
    intro c i k h
    show Flo H a (setR (path i) c r z fun c' => Ab.fNat (Nat.succ i) fun j => setRowsK z l c' j k)
    rw [setR_eq, fNat_eq]
    exact ih _ _ _ h
theorem Flo.intOp (op : BinOp) (k : IntKind) (x y : Int) : Flo H false (intOp op k x y H) := by
  cases op <;> simp only [Ab.intOp, rWrap, on2] <;>
    first
      | exact Flo.rInt _ _
      | exact Flo.rBool _
      | exact Flo.fNat (fun _ => Flo.fNat (fun _ => Flo.onB (Flo.rInt _ _) trivial))
      | (refine Flo.onNat (fun _ => ?_) trivial
         refine Flo.onNat (fun _ => ?_) trivial
         refine Flo.onB ?_ trivial
         exact Flo.rInt _ _)
      | (refine Flo.onNat (fun _ => ?_) trivial
         refine Flo.onB ?_ trivial
         exact Flo.rInt _ _)
theorem Flo.strOp (op : BinOp) (la A lb B : Nat) : Flo H false (strOp op la A lb B H) := by
  unfold Ab.strOp
  split
  · exact Flo.cond (Flo.rStr _ _) trivial
  all_goals first | exact Flo.rBool _ | exact trivial
theorem Flo.binA (op : BinOp) (t : TypeId) (x y : Operand) (u v : AV) : Flo H false (binA P op t x y u v H) := by
  unfold Ab.binA
  refine Flo.onInt (fun _ _ _ => Flo.onInt (fun _ _ _ => Flo.onB (Flo.intOp _ _ _ _) trivial) trivial) ?_
  unfold binSlow
  split
  · exact trivial
  · exact Flo.strOp _ _ _ _ _
  · refine Flo.cond ?_ trivial
    split <;> first | exact Flo.rOptB _ _ | exact trivial
  · refine Flo.cond trivial ?_
    split <;> first | exact Flo.rOptB _ _ | exact trivial
  · split <;> first | exact Flo.rOptB _ _ | exact trivial
theorem Flo.unA (op : UnOp) (x : AV) : Flo H false (unA op x H) := by
  unfold Ab.unA
  split
  · exact Flo.rInt _ _
  · refine Flo.cond trivial (Flo.cond (Flo.rInt _ _) trivial)
  · exact Flo.rBool _
  · exact trivial
theorem Flo.newVar (t : TypeId) (v : AV) : Flo H true (newVarK P t v H) := by
  unfold newVarK
  split
  · refine Flo.cond (Flo.cond ?_ Flo.pushP) trivial
    split
    · exact Flo.fNat fun _ => Flo.pushP
    · exact trivial
  · exact trivial
theorem Flo.buildSlice (t : TypeId) (n : Nat) (ps : List (Nat × AV)) : Flo H true (buildSliceA P t n ps H) := by
  unfold buildSliceA
  split
  · split
    · refine Flo.cond ?_ trivial
      split
      · refine Flo.cond ?_ (Flo.setRows _ _ _ _ _ fun _ => Flo.pushS)
        split
        · exact Flo.fNat fun _ => Flo.pushS
        · exact trivial
      · exact trivial
    · exact trivial
  · exact trivial
theorem Flo.makeSlice (t : TypeId) (l c : AV) : Flo H true (makeSliceA P t l c H) := by
  unfold makeSliceA
  split
  · split
    · exact Flo.cond (Flo.cond Flo.pushR Flo.pushR) trivial
    · exact trivial
  · exact trivial
theorem Flo.makeMap (t : TypeId) (r : Option AV) : Flo H true (makeMapX P t r H) := by
  unfold makeMapX
  split
  · exact Flo.pushM
  · split
    · exact Flo.pushM
    · exact trivial
theorem Flo.convA (s d : TypeId) (x : AV) (hs : rowConv P s d = false) : Flo H true (convA P G s d x H) := by
  unfold Ab.convA
  split
  · rename_i ss dd h1 h2
    split
    · exact Flo.rInt _ _
    · exact .inl ⟨rfl, fun _ => trivial⟩
    · exact Flo.cond (Flo.fNat fun _ => Flo.pushS) trivial
    · exact Flo.cond (.inl ⟨rfl, fun _ => trivial⟩) trivial
    · exact Flo.cond (.inl ⟨rfl, fun _ => trivial⟩) trivial
    · refine Flo.cond ?_ trivial
      split
      · exact .inl ⟨rfl, fun _ => trivial⟩
      · exact .inl ⟨rfl, fun _ => trivial⟩
      · exact trivial
    · simp [rowConv, h1, h2] at hs
    · exact trivial
  · exact trivial
theorem Flo.slice (t : TypeId) (x : AV) (lo hi mx : Option AV) : Flo H false (sliceA P t x lo hi mx H) := by
  unfold sliceA
  split
  · split
    · refine Flo.cond ?_ trivial
      split
      · exact Flo.rSlice _ _ _ _ _
      · exact trivial
    · exact trivial
  · split
    · split
      · exact Flo.rSlice _ _ _ _ _
      · exact trivial
    · split
      · split
        · exact Flo.rSlice _ _ _ _ _
        · exact trivial
      · exact trivial
    · split
      · exact Flo.rStr _ _
      · exact trivial
    · split
      · exact Flo.val _
      · exact trivial
    · split
      · exact Flo.val _
      · exact trivial
    · split
      · exact Flo.cond (Flo.cond (by rw [fNat_eq]; exact Flo.val _) (Flo.rSlice _ _ _ _ _)) (Flo.rSlice _ _ _ _ _)
      · exact trivial
    · exact trivial
theorem Flo.load (t : TypeId) (b off : Nat) : Flo H false (loadX P t b off H) := by
  unfold loadX
  cases loadKind P t with
  | zero => exact trivial
  | succ m =>
    cases m with
    | zero =>
      show Flo H false (cellX (H.get b) off H)
      unfold cellX
      cases H.get b <;> simp only [onCells] <;> first
        | exact trivial
        | exact Flo.onB (Flo.rInt _ _) trivial
        | (refine Flo.onB ?_ trivial
           generalize getR _ _ _ = l
           generalize Nat.mod _ _ = i
           clear b off
           induction l generalizing i with
           | nil => exact trivial
           | cons v l ih =>
             cases i with
             | zero => exact Flo.onJunk (fun _ => trivial) (Flo.val _)
             | succ i => exact ih i)
    | succ k =>
      cases k with
      | zero => exact Flo.val _
      | succ k => exact Flo.onOL (fun _ => Flo.val _) trivial
theorem Flo.lookup (t : TypeId) (x k : AV) (ok : Bool) : Flo H false (lookupA P t x k ok H) := by
  unfold lookupA
  repeat' (first | exact trivial | exact Flo.val _ | refine Flo.cond ?_ ?_ | split)
theorem Flo.typeAssert (x : AV) (t : TypeId) (ok : Bool) : Flo H false (typeAssertA P x t ok H) := by
  unfold typeAssertA
  repeat' (first | exact trivial | exact Flo.val _ | refine Flo.cond ?_ ?_ | split)
theorem float_shape {o : Oper} {tm : TM} (hf : isFloatP P o.op = true) : Flo H (isAlloc o.op) (opA P G o tm H) := by
  obtain ⟨dst, op, type, pos, after, guard⟩ := o
  cases op <;> first | (simp only [isFloatP, isFloat, Bool.false_eq_true] at hf; done) | (simp only [isAlloc, opA])
  case move x => exact Flo.onJunk (fun _ => Flo.val _) (Flo.val _)
  case assign x => exact Flo.onJunk (fun _ => Flo.val _) (Flo.val _)
  case pick c a b =>
    refine Flo.onBool (fun c _ => ?_) trivial
    cases c <;> exact Flo.onJunk (fun _ => Flo.val _) (Flo.val _)
  case alloc t => exact Flo.onOV (fun z => Flo.newVar t z) trivial
  case box t x => exact Flo.newVar _ _
  case build t ps => exact Flo.rOpt _ _
  case buildSlice t n ps => exact Flo.buildSlice _ _ _
  case load t x => exact Flo.onPtr (fun _ _ _ => Flo.load _ _ _) trivial
  case nilCheck x =>
    refine Flo.onPtr (fun _ _ _ => Flo.val _) ?_
    unfold nilSlow
    repeat' (first | exact trivial | exact Flo.val _ | refine Flo.cond ?_ ?_ | split)
  case binOp op t x y g => exact Flo.binA _ _ _ _ _ _
  case unOp op t x => exact Flo.unA _ _
  case convert s d x =>
    have hs : rowConv P s d = false := by simpa [isFloatP] using hf
    refine Flo.onInt (fun k n _ => Flo.onK (fun k => Flo.rInt _ _) (Flo.convA s d _ hs)) (Flo.convA s d _ hs)
  case makeInterface t x =>
    unfold ifaceX
    repeat' (first | exact trivial | exact Flo.val _ | refine Flo.cond ?_ ?_ | split)
  case makeFunc fn a b =>
    unfold makeFuncX
    repeat' (first | exact trivial | exact Flo.val _ | refine Flo.cond ?_ ?_ | split)
  case makeMap t r => exact Flo.makeMap _ _
  case makeSlice t l c => exact Flo.makeSlice _ _ _
  case slice t x lo hi mx => exact Flo.slice _ _ _ _ _
  case fieldAddr s x f => exact Flo.onPtr (fun _ _ _ => Flo.onON (fun _ => Flo.rPtr _ _) trivial) trivial
  case field t x f => exact Flo.rOpt _ _
  case indexAddr t x i =>
    unfold indexAddrA
    exact Flo.onInt (fun _ _ _ => Flo.onNat (fun _ => Flo.onSlice (fun _ _ _ _ _ _ => Flo.onON (fun _ => Flo.onB (Flo.rPtr _ _) trivial) trivial)
      (Flo.onPtr (fun _ _ _ => Flo.onON (fun _ => Flo.onON (fun _ => Flo.onB (Flo.rPtr _ _) trivial) trivial) trivial) trivial)) trivial) trivial
  case index t x i =>
    unfold indexA
    repeat' (first | exact trivial | exact Flo.rOpt _ _ | exact Flo.rInt _ _ | refine Flo.cond ?_ ?_ | split)
  case lookup t x k ok => exact Flo.lookup _ _ _ _
  case typeAssert x xt t ok => exact Flo.typeAssert _ _ _
  case extract x i => exact Flo.rOpt _ _
  case call c =>
    obtain ⟨callee, args, types⟩ := c
    cases callee with
    | value f => simp [isFloatP, isFloat] at hf
    | invoke r n => simp [isFloatP, isFloat] at hf
    | builtin b =>
      simp only [callX]
      unfold builtinA
      cases b <;> simp only [isFloatP, isFloat, Bool.false_eq_true, reduceCtorEq] at hf ⊢ <;>
        repeat' (first | contradiction | exact trivial | exact Flo.rOpt _ _ | exact Flo.rInt _ _ | exact Flo.val _ | refine Flo.cond ?_ ?_ | split | unfold lenA)
  all_goals trivial
/-! ### what does not hang on the heap -/
/-- Where it yields a value, it yields it on every heap, and leaves the heap as it was. -/
def Pur (f : AH → X) : Prop := ∀ H v H1, f H = .val v H1 → H1 = H ∧ ∀ H2, f H2 = .val v H2
theorem Pur.val (v : AV) : Pur (fun H => .val v H) := fun H u H1 h => by cases h; exact ⟨rfl, fun _ => rfl⟩
theorem Pur.fail (n : Nat) : Pur (fun _ => .fail n) := fun H u H1 h => by cases h
theorem Pur.rInt (k : IntKind) (n : Int) : Pur (rInt k n) := by
  have : Ab.rInt k n = fun H => .val (.int k n) H := by funext H; unfold Ab.rInt; rw [fInt_eq]
  rw [this]; exact Pur.val _
theorem Pur.rStr (k n : Nat) : Pur (rStr k n) := by
  have : Ab.rStr k n = fun H => .val (.str k n) H := by funext H; unfold Ab.rStr; rw [fNat_eq, fNat_eq]
  rw [this]; exact Pur.val _
theorem Pur.rBool (b : Bool) : Pur (rBool b) := by cases b <;> exact Pur.val _
theorem Pur.rPtr (b o : Nat) : Pur (rPtr b o) := by
  have : Ab.rPtr b o = fun H => .val (.ptr b o) H := by funext H; unfold Ab.rPtr; rw [fNat_eq, fNat_eq]
  rw [this]; exact Pur.val _
theorem Pur.rSlice (b o l c : Nat) (g : Bool) : Pur (rSlice b o l c g) := by
  have : Ab.rSlice b o l c g = fun H => .val (.slice b o l c g) H := by funext H; rw [rSlice_eq]
  rw [this]; exact Pur.val _
theorem Pur.rOpt (o : Option AV) (n : Nat) : Pur (rOpt o n) := by cases o <;> first | exact Pur.val _ | exact Pur.fail _
theorem Pur.onInt {v : AV} {f : IntKind → Int → AH → X} {e : AH → X} (h1 : ∀ k n, v = .int k n → Pur (f k n)) (h2 : Pur e) : Pur (fun H => onInt v (fun k n => f k n H) (e H)) := by
  cases v <;> first | exact h2 | exact h1 _ _ rfl
theorem Pur.onBool {v : AV} {f : Bool → AH → X} {e : AH → X} (h1 : ∀ b, Pur (f b)) (h2 : Pur e) : Pur (fun H => onBool v (fun b => f b H) (e H)) := by
  cases v <;> first | exact h2 | exact h1 _
theorem Pur.onPtr {v : AV} {f : Nat → Nat → AH → X} {e : AH → X} (h1 : ∀ b o, Pur (f b o)) (h2 : Pur e) : Pur (fun H => onPtr v (fun b o => f b o H) (e H)) := by
  cases v <;> first | exact h2 | exact h1 _ _
theorem Pur.onSlice {v : AV} {f : Nat → Nat → Nat → Nat → Bool → AH → X} {e : AH → X} (h1 : ∀ b o l c g, Pur (f b o l c g)) (h2 : Pur e) : Pur (fun H => onSlice v (fun b o l c g => f b o l c g H) (e H)) := by
  cases v <;> first | exact h2 | exact h1 _ _ _ _ _
theorem Pur.onJunk {v : AV} {f e : AH → X} (h1 : Pur f) (h2 : Pur e) : Pur (fun H => onJunk v (f H) (e H)) := by
  cases v <;> first | exact h2 | exact h1
theorem Pur.onON {o : Option Nat} {f : Nat → AH → X} {e : AH → X} (h1 : ∀ n, Pur (f n)) (h2 : Pur e) : Pur (fun H => onON o (fun n => f n H) (e H)) := by
  cases o <;> first | exact h2 | exact h1 _
theorem Pur.onB {b : Bool} {f e : AH → X} (h1 : Pur f) (h2 : Pur e) : Pur (fun H => onB b (fun _ => f H) (fun _ => e H)) := by
  cases b <;> first | exact h2 | exact h1
theorem Pur.onNat {n : Int} {f : Nat → AH → X} {e : AH → X} (h1 : ∀ m, Pur (f m)) (h2 : Pur e) : Pur (fun H => onNat n (fun m => f m H) (e H)) := by
  cases n with
  | ofNat m => exact h1 m
  | negSucc m => exact h2
theorem Pur.cond {b : Bool} {f e : AH → X} (h1 : Pur f) (h2 : Pur e) : Pur (fun H => bif b then f H else e H) := by
  cases b <;> first | exact h2 | exact h1
theorem Pur.intOp (op : BinOp) (k : IntKind) (x y : Int) : Pur (intOp op k x y) := by
  show Pur (fun H => Ab.intOp op k x y H)
  cases op <;> simp only [Ab.intOp, rWrap, on2, fNat_eq] <;>
    first
      | exact Pur.rInt _ _
      | exact Pur.rBool _
      | exact Pur.onB (Pur.rInt _ _) (Pur.fail _)
      | exact Pur.onNat (fun _ => Pur.onNat (fun _ => Pur.onB (Pur.rInt _ _) (Pur.fail _)) (Pur.fail _)) (Pur.fail _)
      | exact Pur.onNat (fun _ => Pur.onB (Pur.rInt _ _) (Pur.fail _)) (Pur.fail _)
theorem Pur.strOp (op : BinOp) (la A lb B : Nat) : Pur (strOp op la A lb B) := by
  show Pur (fun H => Ab.strOp op la A lb B H)
  cases op <;> simp only [Ab.strOp] <;> first | exact Pur.rBool _ | exact Pur.fail _ | exact Pur.cond (Pur.rStr _ _) (Pur.fail _)
theorem Pur.binA (op : BinOp) (h1 : op ≠ .eql) (h2 : op ≠ .neq) (t : TypeId) (x y : Operand) (u v : AV) : Pur (binA P op t x y u v) := by
  unfold Ab.binA
  refine Pur.onInt (fun k m _ => Pur.onInt (fun k' n _ => Pur.onB (Pur.intOp _ _ _ _) (Pur.fail _)) (Pur.fail _)) ?_
  show Pur (fun H => binSlow P op t x y u v H)
  unfold binSlow
  split
  · exact Pur.fail _
  · exact Pur.strOp _ _ _ _ _
  · refine Pur.cond ?_ (Pur.fail _)
    split <;> first | exact absurd rfl h1 | exact absurd rfl h2 | exact Pur.fail _
  · refine Pur.cond (Pur.fail _) ?_
    split <;> first | exact absurd rfl h1 | exact absurd rfl h2 | exact Pur.fail _
  · split <;> first | exact absurd rfl h1 | exact absurd rfl h2 | exact Pur.fail _
theorem Pur.slice (t : TypeId) (x : AV) (lo hi mx : Option AV) : Pur (sliceA P t x lo hi mx) := by
  unfold sliceA
  split
  · split
    · refine Pur.cond ?_ (Pur.fail _)
      split
      · exact Pur.rSlice _ _ _ _ _
      · exact Pur.fail _
    · exact Pur.fail _
  · split
    · split
      · exact Pur.rSlice _ _ _ _ _
      · exact Pur.fail _
    · split
      · split
        · exact Pur.rSlice _ _ _ _ _
        · exact Pur.fail _
      · exact Pur.fail _
    · split
      · exact Pur.rStr _ _
      · exact Pur.fail _
    · split
      · exact Pur.val _
      · exact Pur.fail _
    · split
      · exact Pur.val _
      · exact Pur.fail _
    · split
      · exact Pur.cond (Pur.cond (by simp only [fNat_eq]; exact Pur.val _) (Pur.rSlice _ _ _ _ _)) (Pur.rSlice _ _ _ _ _)
      · exact Pur.fail _
    · exact Pur.fail _
theorem pure_any {o : Oper} {tm : TM} (hf : isFloatP P o.op = true) (hh : heapOp o.op = false) : Pur (opA P G o tm) := by
  obtain ⟨dst, op, type, pos, after, guard⟩ := o
  cases op <;> first | (simp only [isFloatP, isFloat, Bool.false_eq_true] at hf; done) | (simp only [heapOp, Bool.true_eq_false] at hh; done) | (show Pur (fun H => opA P G _ tm H); simp only [opA])
  case move x => exact Pur.onJunk (Pur.val _) (Pur.val _)
  case assign x => exact Pur.onJunk (Pur.val _) (Pur.val _)
  case pick c a b =>
    refine Pur.onBool (f := fun c H => Bool.rec (motive := fun _ => TM → Operand → Operand → AH → X) (fun tm _ b H => moveX (ev tm b) H) (fun tm a _ H => moveX (ev tm a) H) c tm a b H) (fun c => ?_) (Pur.fail _)
    cases c <;> exact Pur.onJunk (Pur.val _) (Pur.val _)
  case build t ps => exact Pur.rOpt _ _
  case nilCheck x =>
    refine Pur.onPtr (fun _ _ => Pur.val _) ?_
    unfold nilSlow
    split
    · exact Pur.val _
    · exact Pur.val _
    · exact Pur.val _
    · exact Pur.cond (Pur.val _) (Pur.fail _)
    · exact Pur.fail _
  case binOp op t x y g => exact Pur.binA op (fun e => by subst e; simp [heapOp] at hh) (fun e => by subst e; simp [heapOp] at hh) _ _ _ _ _
  case unOp op t x =>
    unfold unA
    split
    · exact Pur.rInt _ _
    · exact Pur.cond (Pur.fail _) (Pur.cond (Pur.rInt _ _) (Pur.fail _))
    · exact Pur.rBool _
    · exact Pur.fail _
  case makeInterface t x =>
    unfold ifaceX
    split <;> first | exact Pur.val _ | exact Pur.fail _
  case makeFunc fn a b =>
    unfold makeFuncX
    split <;> first | exact Pur.val _ | exact Pur.fail _
  case slice t x lo hi mx => exact Pur.slice _ _ _ _ _
  case fieldAddr s x f => exact Pur.onPtr (fun _ _ => Pur.onON (fun _ => Pur.rPtr _ _) (Pur.fail _)) (Pur.fail _)
  case field t x f => exact Pur.rOpt _ _
  case indexAddr t x i =>
    unfold indexAddrA
    exact Pur.onInt (fun _ _ _ => Pur.onNat (fun _ => Pur.onSlice (fun _ _ _ _ _ => Pur.onON (fun _ => Pur.onB (Pur.rPtr _ _) (Pur.fail _)) (Pur.fail _))
      (Pur.onPtr (fun _ _ => Pur.onON (fun _ => Pur.onON (fun _ => Pur.onB (Pur.rPtr _ _) (Pur.fail _)) (Pur.fail _)) (Pur.fail _)) (Pur.fail _))) (Pur.fail _)) (Pur.fail _)
  case index t x i =>
    unfold indexA
    split
    · split
      · exact Pur.cond (Pur.rOpt _ _) (Pur.fail _)
      · exact Pur.fail _
    · exact Pur.cond (Pur.rInt _ _) (Pur.fail _)
    · exact Pur.fail _
  case typeAssert x xt t ok =>
    unfold typeAssertA
    split
    · exact Pur.fail _
    · split
      · exact Pur.cond (Pur.val _) (Pur.val _)
      · refine Pur.cond ?_ (Pur.fail _)
        split
        · exact Pur.val _
        · exact Pur.fail _
      · exact Pur.fail _
  case extract x i => exact Pur.rOpt _ _
end
end Go.Proofs.YtabllhhainepgaaGreatDoor.Ab
/-
  The abstract machine: blocks made ahead of their time come to their place.
-/
namespace Go.Proofs.YtabllhhainepgaaGreatDoor.Ab
open Go.RowKit

theorem beqN {a b : Nat} (h : Nat.beq a b = true) : a = b := Nat.beq_eq.mp h
mutual
theorem beq_sound : ∀ a b : AV, AV.beq a b = true → a = b
  | .junk, b, h => by cases b <;> simp [AV.beq] at h; rfl
  | .any, b, h => by cases b <;> simp [AV.beq] at h; rfl
  | .bool x, b, h => by cases b <;> simp [AV.beq] at h; rw [h]
  | .int k m, b, h => by
    cases b <;> simp only [AV.beq, Bool.false_eq_true] at h
    rw [Bool.and_eq_true, decide_eq_true_iff, eqI_eq, beq_iff_eq] at h
    rw [h.1, h.2]
  | .str x y, b, h => by cases b <;> simp [AV.beq] at h; rw [h.1, h.2]
  | .nilp, b, h => by cases b <;> simp [AV.beq] at h; rfl
  | .ptr x y, b, h => by cases b <;> simp [AV.beq] at h; rw [h.1, h.2]
  | .nils, b, h => by cases b <;> simp [AV.beq] at h; rfl
  | .slice x y z u g, b, h => by cases b <;> simp [AV.beq] at h; obtain ⟨⟨⟨⟨h1, h2⟩, h3⟩, h4⟩, h5⟩ := h; rw [h1, h2, h3, h4, h5]
  | .sliceE x y, b, h => by cases b <;> simp [AV.beq] at h; rw [h.1, h.2]
  | .nilm, b, h => by cases b <;> simp [AV.beq] at h; rfl
  | .map x, b, h => by cases b <;> simp [AV.beq] at h; rw [h]
  | .nilf, b, h => by cases b <;> simp [AV.beq] at h; rfl
  | .func f x y, b, h => by
    cases b <;> simp [AV.beq] at h
    obtain ⟨⟨h1, h2⟩, h3⟩ := h
    rw [h1, beqL_sound _ _ h2, beqL_sound _ _ h3]
  | .yield x, b, h => by cases b <;> simp [AV.beq] at h; rw [h]
  | .meth n v, b, h => by cases b <;> simp [AV.beq] at h; rw [h.1, beq_sound _ _ h.2]
  | .nili, b, h => by cases b <;> simp [AV.beq] at h; rfl
  | .iface t v, b, h => by cases b <;> simp [AV.beq] at h; rw [h.1, beq_sound _ _ h.2]
  | .agg l, b, h => by cases b <;> simp [AV.beq] at h; rw [beqL_sound _ _ h]
  | .tuple l, b, h => by cases b <;> simp [AV.beq] at h; rw [beqL_sound _ _ h]
theorem beqL_sound : ∀ l m : List AV, beqL l m = true → l = m
  | [], m, h => by cases m <;> simp [beqL] at h; rfl
  | a :: l, m, h => by
    cases m <;> simp [beqL] at h
    rw [beq_sound _ _ h.1, beqL_sound _ _ h.2]
end

theorem beqQ_sound {a b : AV} (h : beqQ a b = true) : a = b := by
  unfold beqQ at h
  cases a with
  | int k m =>
    cases b with
    | int k' n =>
      have h : (Nat.beq (kindCode k) (kindCode k') && eqI2 m n) = true := h
      rw [Bool.and_eq_true, eqI2_eq, beq_iff_eq] at h
      rw [kindCode_inj (Nat.beq_eq.mp h.1), h.2]
    | _ => cases h
  | _ => exact beq_sound _ _ h
section
variable {w0 w w' : World} {G : Nat} {μ ν ξ : Mu} {H : AH}
/-- What stands for something names blocks that have a place. -/
theorem VR.under {n : Nat} (hn : ∀ c, n ≤ c → μ c = none) {a : AV} {v : Value} (h : VR μ a v) : a.under n = true := by
  have lt : ∀ {b : Nat} {L : Loc}, μ b = some L → Nat.blt b n = true := fun {b L} h => by
    rw [Nat.blt_eq]
    rcases Nat.lt_or_ge b n with h' | h'
    · exact h'
    · rw [hn b h'] at h; cases h
  refine VR.rec (motive_1 := fun a v _ => a.under n = true) (motive_2 := fun l m _ => underL n l = true) ?_ ?_ ?_ ?_ ?_ ?_ ?_ ?_ ?_ ?_ ?_ ?_ ?_ ?_ ?_ ?_ ?_ ?_ ?_ ?_ ?_ ?_ h
  · exact fun v => rfl
  · exact fun b => rfl
  · exact fun k n => rfl
  · exact fun n N s h1 h2 => rfl
  · rfl
  · exact fun b off L h => lt h
  · rfl
  · exact fun b off len cap g L h => lt h
  · exact fun b off a c L h ha => lt h
  · rfl
  · exact fun b L h => lt h
  · rfl
  · exact fun f a c x y _ _ ha hc => by simp only [AV.under, ha, hc, Bool.and_self]
  · exact fun l L h => lt h
  · exact fun name r v y _ h => by simp only [AV.under, h]
  · rfl
  · exact fun t a v _ h => by simp only [AV.under, h]
  · exact fun l x _ h => by simp only [AV.under, h]
  · exact fun l x _ h => by simp only [AV.under, h]
  · exact fun v h => rfl
  · rfl
  · exact fun a v l m _ _ h t => by simp only [underL, h, t, Bool.and_self]
theorem VR.tr {n : Nat} (ht : ∀ c K, c < n → ν c = some K → ξ c = some K) {a : AV} {v : Value} (h : VR ν a v) : a.under n = true → VR ξ a v := by
  have lt : ∀ {b : Nat}, Nat.blt b n = true → b < n := fun {b} h => by rwa [Nat.blt_eq] at h
  refine VR.rec (motive_1 := fun a v _ => a.under n = true → VR ξ a v) (motive_2 := fun l m _ => underL n l = true → LR ξ l m) ?_ ?_ ?_ ?_ ?_ ?_ ?_ ?_ ?_ ?_ ?_ ?_ ?_ ?_ ?_ ?_ ?_ ?_ ?_ ?_ ?_ ?_ h
  · exact fun v _ => .junk v
  · exact fun b _ => .bool b
  · exact fun k n _ => .int k n
  · exact fun n N s h1 h2 _ => .str n N s h1 h2
  · exact fun _ => .nilp
  · exact fun b off L h hu => .ptr b off L (ht _ _ (lt hu) h)
  · exact fun _ => .nils
  · exact fun b off len cap g L h hu => .slice b off len cap g L (ht _ _ (lt hu) h)
  · exact fun b off a c L h ha hu => .sliceE b off a c L (ht _ _ (lt hu) h) ha
  · exact fun _ => .nilm
  · exact fun b L h hu => .map b L (ht _ _ (lt hu) h)
  · exact fun _ => .nilf
  · exact fun f a c x y _ _ ha hc hu => by
      simp only [AV.under, Bool.and_eq_true] at hu
      exact .func f a c x y (ha hu.1) (hc hu.2)
  · exact fun l L h hu => .yield l L (ht _ _ (lt hu) h)
  · exact fun name r v y _ h hu => .meth name r v y (h (by simpa only [AV.under] using hu))
  · exact fun _ => .nili
  · exact fun t a v _ h hu => .iface t a v (h (by simpa only [AV.under] using hu))
  · exact fun l x _ h hu => .agg l x (h (by simpa only [AV.under] using hu))
  · exact fun l x _ h hu => .tuple l x (h (by simpa only [AV.under] using hu))
  · exact fun v h _ => .any v h
  · exact fun _ => .nil
  · exact fun a v l m _ _ h t hu => by
      simp only [underL, Bool.and_eq_true] at hu
      exact .cons a v l m (h hu.1) (t hu.2)
theorem underL_get {n : Nat} : ∀ {l : List AV}, underL n l = true → ∀ (i : Nat) (a : AV), l[i]? = some a → a.under n = true
  | [], _, i, a, h => by simp at h
  | b :: l, hu, 0, a, h => by simp only [underL, Bool.and_eq_true] at hu; simp at h; rw [← h]; exact hu.1
  | b :: l, hu, i + 1, a, h => by simp only [underL, Bool.and_eq_true] at hu; exact underL_get hu.2 i a (by simpa using h)
theorem OR.tr {n : Nat} (hn : ∀ c, n ≤ c → μ c = none) (ht : ∀ c K, c < n → ν c = some K → ξ c = some K) {L : Loc} {o : AObj} {obj0 obj : Obj} (h0 : OR μ L o obj0) (h : OR ν L o obj) : OR ξ L o obj := by
  have lt : ∀ {b : Nat} {L : Loc}, μ b = some L → b < n := fun {b L} h => by
    rcases Nat.lt_or_ge b n with h' | h'
    · exact h'
    · rw [hn b h'] at h; cases h
  cases o with
  | dead => trivial
  | bytes n N e st => exact h
  | rows n s c z e =>
    obtain ⟨arr, h1, h2, h3, h4⟩ := h
    obtain ⟨arr0, _, _, h30, _⟩ := h0
    refine ⟨arr, h1, h2, fun i hi => ⟨(h3 i hi).1, fun j a ha => ?_⟩, h4⟩
    obtain ⟨v, hv, hr⟩ := (h3 i hi).2 j a ha
    obtain ⟨v0, _, hr0⟩ := (h30 i hi).2 j a ha
    exact ⟨v, hv, hr.tr ht (hr0.under hn)⟩
  | map es clock =>
    obtain ⟨cs, h1, h2, h3⟩ := h
    obtain ⟨cs0, _, h20, h30⟩ := h0
    refine ⟨cs, h1, h2, fun i e c he hc => ?_⟩
    obtain ⟨a1, a2, a3⟩ := h3 i e c he hc
    have hi : i < es.length := (List.getElem?_eq_some_iff.1 he).1
    obtain ⟨c0, hc0⟩ : ∃ c0, cs0.toList[i]? = some c0 := ⟨_, List.getElem?_eq_getElem (by omega)⟩
    obtain ⟨b1, b2, _⟩ := h30 i e c0 he hc0
    exact ⟨a1.tr ht (b1.under hn), a2.tr ht (b2.under hn), a3⟩
  | strIter n N pos => exact h
  | mapIter m since seen stepped =>
    obtain ⟨h0', m', h1, h2⟩ := h
    obtain ⟨_, m0, _, h20⟩ := h0
    refine ⟨h0', m', h1, ?_⟩
    cases m with
    | none => exact h2
    | some b => obtain ⟨K, h3, h4⟩ := h2; obtain ⟨K0, h30, _⟩ := h20; exact ⟨K, ht _ _ (lt h30) h3, h4⟩
  | loop st p fn mask tr n' ps asg body d =>
    obtain ⟨tmps, K, h1, h2, h3, h4⟩ := h
    obtain ⟨tmps0, K0, _, h20, _, h40⟩ := h0
    exact ⟨tmps, K, h1, ht _ _ (lt h20) h2, h3, fun t => (h4 t).tr ht ((h40 t).under hn)⟩
  | deferred t => exact h
theorem objBeq_sound {n : Nat} (ht : ∀ c K, c < n → ν c = some K → ξ c = some K) {L : Loc} {o o' : AObj} {obj : Obj} (hb : objBeq n o o' = true) (h : OR ν L o obj) : OR ξ L o' obj := by
  unfold objBeq at hb
  split at hb
  · rename_i n1 N1 e1 st1 n2 N2 e2 st2
    simp only [Bool.and_eq_true] at hb
    obtain ⟨⟨⟨b1, b2⟩, b3⟩, b4⟩ := hb
    have := beqN b1; have := beqN b2; have := beqN b3
    subst n2 N2 e2
    obtain ⟨arr, fz, h1, h2, h3, h4, h5, h6⟩ := h
    refine ⟨arr, fz, h1, h2, h3, h4, h5, fun hs => h6 ?_⟩
    rw [hs] at b4
    simpa using b4
  · rename_i n1 s1 c1 z1 e1 n2 s2 c2 z2 e2
    simp only [Bool.and_eq_true] at hb
    obtain ⟨⟨⟨b1, b2⟩, b3⟩, b4⟩ := hb
    have := beqN b1; have := beqN b2; have := beqN b3
    subst n2 s2 e2
    obtain ⟨arr, h1, h2, h3, h4⟩ := h
    unfold rowsBeq at b4
    rw [List.all_eq_true] at b4
    refine ⟨arr, h1, h2, fun i hi => ?_, h4⟩
    have := b4 i (by simpa using hi)
    rw [Bool.and_eq_true] at this
    have he := beqL_sound _ _ this.1
    rw [← he]
    exact ⟨(h3 i hi).1, fun j a ha => let ⟨v, hv, hr⟩ := (h3 i hi).2 j a ha; ⟨v, hv, hr.tr ht (underL_get this.2 j a ha)⟩⟩
  · rename_i a b
    have := beqN hb
    subst b
    obtain ⟨cs, h1, h2, h3⟩ := h
    exact ⟨cs, h1, h2, fun i e c he => by simp at he⟩
  · cases hb
theorem objBeq_dead {n : Nat} {o o' : AObj} (hb : objBeq n o o' = true) : o ≠ .dead ∧ o' ≠ .dead := by
  unfold objBeq at hb
  split at hb <;> first | (cases hb; done) | exact ⟨by simp, by simp⟩
/-- A block that was made ahead comes to its place. -/
theorem HR.place (h : HR w0 G μ H w) {ob : AObj} (h' : HR w0 G ν (H.push ob) w') (hx : μ.lx H.size ν) {b : Nat} (hb : b < H.size) (hμ : μ b = none) (hob : objBeq H.size ob (H.get b) = true) {L : Loc} (hL : ν H.size = some L) :
    ∃ ξ : Mu, HR w0 G ξ H w' ∧ μ.le ξ ∧ (∀ c, c < H.size → c ≠ b → ξ c = μ c) ∧ ξ b = some L := by
  refine ⟨fun c => if c = b then some L else if c = H.size then none else ν c, ?_, ?_, ?_, by simp⟩
  · have hdead := objBeq_dead hob
    have ht : ∀ c K, c < H.size → ν c = some K → (if c = b then some L else if c = H.size then none else ν c) = some K := fun c K hc hK => by
      have : c ≠ b := fun e => by rw [hx.2 c hc, e, hμ] at hK; cases hK
      rw [if_neg this, if_neg (by omega)]; exact hK
    have hgs : (H.push ob).get H.size = ob := by rw [get_push, if_pos rfl]
    have hsz : (H.push ob).size = H.size + 1 := rfl
    have hlt : ∀ c K, c ≠ b → (if c = b then some L else if c = H.size then none else ν c) = some K → c < H.size ∧ ν c = some K ∧ μ c = some K ∧ (H.push ob).get c = H.get c := fun c K hc hK => by
      rw [if_neg hc] at hK
      by_cases e : c = H.size
      · rw [if_pos e] at hK; cases hK
      · rw [if_neg e] at hK
        have hlt : c < H.size := by
          rcases Nat.lt_or_ge c H.size with g | g
          · exact g
          · rw [h'.dom c (by rw [hsz]; omega)] at hK; cases hK
        exact ⟨hlt, hK, by rw [← hx.2 c hlt]; exact hK, by rw [get_push, if_neg e]⟩
    refine ⟨h'.below, ?_, ?_, ?_, ?_, ?_, h.live, h.gs⟩
    · intro c hc
      rw [if_neg (by omega)]
      by_cases e : c = H.size
      · rw [if_pos e]
      · rw [if_neg e]; exact h'.dom c (by rw [hsz]; omega)
    · intro c K hK hd
      by_cases e : c = b
      · rw [if_pos e] at hK
        cases hK
        obtain ⟨obj, ho, hr⟩ := h'.obj H.size L hL (by rw [hgs]; exact hdead.1)
        rw [hgs] at hr
        exact ⟨obj, ho, by rw [e]; exact objBeq_sound ht hob hr⟩
      · obtain ⟨h1, h2, h3, h4⟩ := hlt c K e hK
        obtain ⟨obj, ho, hr⟩ := h'.obj c K h2 (by rw [h4]; exact hd)
        obtain ⟨obj0, _, hr0⟩ := h.obj c K h3 hd
        rw [h4] at hr
        exact ⟨obj, ho, hr0.tr h.dom ht hr⟩
    · intro c K hc hK
      by_cases e : c = b
      · rw [if_pos e] at hK
        cases hK
        exact h'.own H.size L h.gs hL
      · obtain ⟨h1, h2, h3, h4⟩ := hlt c K e hK
        exact h'.own c K hc h2
    · intro c d K K' hc hd hK hK' he
      by_cases e : c = b
      · by_cases e' : d = b
        · rw [e, e']
        · obtain ⟨h1, h2, h3, h4⟩ := hlt d K' e' hK'
          rw [if_pos e] at hK
          cases hK
          have := h'.inj H.size d L K' (by rw [hgs]; exact hdead.1) (by rw [h4]; exact hd) hL h2 he
          omega
      · obtain ⟨h1, h2, h3, h4⟩ := hlt c K e hK
        by_cases e' : d = b
        · rw [if_pos e'] at hK'
          cases hK'
          have := h'.inj c H.size K L (by rw [h4]; exact hc) (by rw [hgs]; exact hdead.1) h2 hL he
          omega
        · obtain ⟨g1, g2, g3, g4⟩ := hlt d K' e' hK'
          exact h'.inj c d K K' (by rw [h4]; exact hc) (by rw [g4]; exact hd) h2 g2 he
    · intro c K hK
      by_cases e : c = b
      · rw [if_pos e] at hK
        cases hK
        exact h'.lt H.size L hL
      · obtain ⟨h1, h2, h3, h4⟩ := hlt c K e hK
        exact h'.lt c K h2
  · intro c K hK
    have : c ≠ b := fun e => by rw [e, hμ] at hK; cases hK
    have hlt : c < H.size := by
      rcases Nat.lt_or_ge c H.size with g | g
      · exact g
      · rw [h.dom c g] at hK; cases hK
    simp only [if_neg this, if_neg (show c ≠ H.size by omega)]
    rw [hx.2 c hlt]; exact hK
  · intro c hc hne
    simp only [if_neg hne, if_neg (show c ≠ H.size by omega)]
    exact hx.2 c hc
end
end Go.Proofs.YtabllhhainepgaaGreatDoor.Ab
/-
  The abstract machine: no operation makes the heap smaller.
-/
namespace Go.Proofs.YtabllhhainepgaaGreatDoor.Ab
open Go.RowKit

def Siz (n : Nat) (x : X) : Prop :=
  match x with
  | .fork a b => Siz n a ∧ Siz n b
  | .val _ H => n ≤ H.size
  | .enter _ _ H => n ≤ H.size
  | .round _ _ H => n ≤ H.size
  | _ => True
section
variable {P : Program} {G n : Nat} {H : AH}
theorem Siz.forkL {α : Type} {f : α → X} : ∀ (e : α) (l : List α), (∀ x, Siz n (f x)) → Siz n (Ab.forkL f e l)
  | e, [], h => h e
  | e, e' :: l, h => ⟨h e, Siz.forkL e' l h⟩
theorem Siz.val {v : AV} (h : n ≤ H.size) : Siz n (.val v H) := h
theorem Siz.rInt (h : n ≤ H.size) (k : IntKind) (m : Int) : Siz n (rInt k m H) := by unfold Ab.rInt; rw [fInt_eq]; exact h
theorem Siz.rSlice (h : n ≤ H.size) (b o l c : Nat) (g : Bool) : Siz n (rSlice b o l c g H) := by rw [rSlice_eq]; exact h
theorem Siz.rOpt (h : n ≤ H.size) (o : Option AV) (m : Nat) : Siz n (rOpt o m H) := by cases o <;> first | exact trivial | exact h
theorem Siz.push (h : n ≤ H.size) {ob : AObj} {k : AH → X} (hk : ∀ H' : AH, n ≤ H'.size → Siz n (k H')) : Siz n (H.pushK ob k) := by rw [pushK_eq]; exact hk _ (Nat.le_succ_of_le h)
theorem Siz.set (h : n ≤ H.size) {b : Nat} {ob : AObj} {k : AH → X} (hk : ∀ H' : AH, n ≤ H'.size → Siz n (k H')) : Siz n (H.setK b ob k) := by rw [setK_eq]; exact hk _ h
theorem Siz.cond {b : Bool} {f e : X} (h1 : Siz n f) (h2 : Siz n e) : Siz n (bif b then f else e) := by cases b <;> first | exact h2 | exact h1
theorem Siz.onB {b : Bool} {f e : Unit → X} (h1 : Siz n (f ())) (h2 : Siz n (e ())) : Siz n (onB b f e) := by cases b <;> first | exact h2 | exact h1
theorem Siz.onON {o : Option Nat} {f : Nat → X} {e : X} (h1 : ∀ n', Siz n (f n')) (h2 : Siz n e) : Siz n (onON o f e) := by cases o <;> first | exact h2 | exact h1 _
theorem Siz.onPtr {v : AV} {f : Nat → Nat → X} {e : X} (h1 : ∀ b o, Siz n (f b o)) (h2 : Siz n e) : Siz n (onPtr v f e) := by cases v <;> first | exact h2 | exact h1 _ _
theorem Siz.onInt {v : AV} {f : IntKind → Int → X} {e : X} (h1 : ∀ k n', Siz n (f k n')) (h2 : Siz n e) : Siz n (onInt v f e) := by cases v <;> first | exact h2 | exact h1 _ _
theorem Siz.onK {o : Option IntKind} {f : IntKind → X} {e : X} (h1 : ∀ n', Siz n (f n')) (h2 : Siz n e) : Siz n (onK o f e) := by cases o <;> first | exact h2 | exact h1 _
theorem Siz.fNat {m : Nat} {f : Nat → X} (h : ∀ m, Siz n (f m)) : Siz n (fNat m f) := by rw [fNat_eq]; exact h m
theorem Siz.setR {p : List Bool} {t : Tr (List AV)} {x d : List AV} {k : Tr (List AV) → X} (h : ∀ c, Siz n (k c)) : Siz n (setR p t x d k) := by rw [setR_eq]; exact h _
theorem Siz.setRows (z : List AV) (l : List (List AV)) : ∀ (c : Tr (List AV)) (i : Nat) (k : Tr (List AV) → X), (∀ c, Siz n (k c)) → Siz n (setRowsK z l c i k) := by
  induction l with
  | nil => intro c i k h; exact h c
  | cons r l ih =>
    intro c i k h
    show Siz n (Ab.setR (path i) c r z fun c' => Ab.fNat (Nat.succ i) fun j => setRowsK z l c' j k)
    rw [setR_eq, fNat_eq]
    exact ih _ _ _ h
theorem Siz.putCells {o : AObj} {off : Nat} {l : List AV} {bad : X} {k : AObj → X} (hb : Siz n bad) (h : ∀ o, Siz n (k o)) : Siz n (putCellsK o off l bad k) := by
  unfold putCellsK
  split
  · refine Siz.cond ?_ hb
    split
    · exact Siz.fNat fun _ => h _
    · exact hb
  · exact Siz.cond (Siz.cond (Siz.setR fun _ => h _) (Siz.setR fun _ => h _)) hb
  · exact hb
theorem Siz.putSeq {o : AObj} {s' off : Nat} {q : Seq} {bad : X} {k : AObj → X} (hb : Siz n bad) (h : ∀ o, Siz n (k o)) : Siz n (putSeqK o s' off q bad k) := by
  unfold putSeqK
  split
  · exact h _
  · exact Siz.cond (Siz.fNat fun _ => h _) hb
  · exact Siz.cond (Siz.setRows _ _ _ _ _ fun _ => h _) (Siz.cond (Siz.setR fun _ => h _) hb)
  · exact Siz.cond (Siz.setR fun _ => h _) hb
  · exact hb
theorem Siz.grown {e : TypeId} {s t : Nat} {old new : Seq} {bad : X} {k : AObj → X} (hb : Siz n bad) (h : ∀ o, Siz n (k o)) : Siz n (grownK P e s t old new bad k) := by
  unfold grownK
  split
  · exact Siz.cond (Siz.fNat fun _ => h _) hb
  · exact Siz.cond (Siz.fNat fun _ => Siz.fNat fun _ => h _) hb
  · split
    · exact Siz.cond (Siz.fNat fun _ => Siz.setRows _ _ _ _ _ fun _ => h _) hb
    · exact hb
  · split
    · exact Siz.cond (Siz.fNat fun _ => Siz.setRows _ _ _ _ _ fun _ => Siz.setRows _ _ _ _ _ fun _ => h _) hb
    · exact hb
  · exact hb
theorem Siz.storeA (h : n ≤ H.size) (t : TypeId) (b off : Nat) (v : AV) : Siz n (storeA P G t b off v H) := by
  unfold Ab.storeA
  split
  · exact Siz.cond (Siz.cond h (Siz.putCells trivial fun _ => Siz.set h fun _ h => h)) trivial
  · exact trivial
theorem Siz.cellPut (h : n ≤ H.size) (o : AObj) (off b : Nat) (v : AV) : Siz n (cellPut o off b v H) := by
  unfold Ab.cellPut
  cases o <;> simp only [onCells] <;> first
    | exact trivial
    | exact Siz.onB (Siz.onON (fun _ => Siz.fNat fun _ => Siz.set h fun _ h => h) trivial) trivial
    | exact Siz.onB (Siz.onB (Siz.setR fun _ => Siz.set h fun _ h => h) (Siz.setR fun _ => Siz.set h fun _ h => h)) trivial
theorem Siz.store (h : n ≤ H.size) (t : TypeId) (b off : Nat) (v : AV) : Siz n (storeX P G t b off v H) := by
  unfold storeX
  refine Siz.onB ?_ trivial
  cases loadKind P t with
  | zero => exact trivial
  | succ m => cases m with
    | zero => exact Siz.cellPut h _ _ _ _
    | succ k => exact Siz.storeA h _ _ _ _
theorem Siz.appendTo (h : n ≤ H.size) (e : TypeId) (s : Nat) (sl x : AV) (k : Nat) (q : Seq) : Siz n (appendTo P G e s sl x k q H) := by
  unfold Ab.appendTo
  split
  · exact Siz.cond h (Siz.cond (Siz.grown trivial fun _ => Siz.push h fun _ h => Siz.rSlice h _ _ _ _ _) trivial)
  · refine Siz.cond (Siz.cond (Siz.putSeq trivial fun _ => Siz.set h fun _ h => Siz.rSlice h _ _ _ _ _) trivial) (Siz.cond ?_ trivial)
    split
    · exact trivial
    · refine Siz.cond ?_ (Siz.grown trivial fun _ => Siz.push h fun _ h => Siz.rSlice h _ _ _ _ _)
      split
      · refine Siz.cond ?_ (Siz.cond ?_ trivial)
        · split
          · exact Siz.setRows _ _ _ _ _ fun _ => Siz.fNat fun _ => Siz.set h fun _ h => Siz.push h fun _ h => h
          · exact trivial
        · split
          · exact Siz.setRows _ _ _ _ _ fun _ => Siz.setRows _ _ _ _ _ fun _ => Siz.fNat fun _ => Siz.set h fun _ h => Siz.push h fun _ h => h
          · exact Siz.setRows _ _ _ _ _ fun _ => Siz.fNat fun _ => Siz.set h fun _ h => Siz.push h fun _ h => h
          · exact trivial
      · refine Siz.cond ?_ trivial
        split
        · exact Siz.fNat fun _ => Siz.fNat fun _ => Siz.set h fun _ h => Siz.push h fun _ h => h
        · exact trivial
      · exact trivial
  · refine Siz.cond ?_ trivial
    split
    · exact Siz.cond (Siz.setRows _ _ _ _ _ fun _ => Siz.set h fun _ h => Siz.push h fun _ h => h) trivial
    · exact trivial
  · exact trivial
theorem Siz.lenA (h : n ≤ H.size) (t : TypeId) (x : AV) : Siz n (lenA P t x H) := by
  unfold Ab.lenA
  repeat' (first | exact trivial | exact h | exact Siz.rInt h _ _ | split)
theorem Siz.delete (h : n ≤ H.size) (t : TypeId) (m k : AV) : Siz n (deleteA P G t m k H) := by
  unfold deleteA
  repeat' (first | exact trivial | exact h | refine Siz.cond ?_ ?_ | exact (Siz.set h (fun _ h => h)) | split)
theorem Siz.clear (h : n ≤ H.size) (t : TypeId) (m : AV) : Siz n (clearA P G t m H) := by
  unfold clearA
  repeat' (first | exact trivial | exact h | refine Siz.cond ?_ ?_ | exact (Siz.set h (fun _ h => h)) | (refine Siz.putSeq trivial (fun _ => ?_); exact (Siz.set h (fun _ h => h))) | split)
theorem Siz.builtin (h : n ≤ H.size) (b : Builtin) (types : List TypeId) (args : List AV) : Siz n (builtinA P G b types args H) := by
  unfold builtinA
  repeat' (first | contradiction | exact trivial | exact h | exact Siz.rOpt h _ _ | exact Siz.rInt h _ _ | exact Siz.lenA h _ _ | exact Siz.delete h _ _ _ | exact Siz.clear h _ _ | exact Siz.appendTo h _ _ _ _ _ _ | refine Siz.cond ?_ ?_ | dsimp only | (refine Siz.putSeq trivial (fun _ => ?_); exact (Siz.set h (fun _ h => Siz.rInt h _ _))) | split)
theorem Siz.callA (h : n ≤ H.size) (f : Nat) (args : List AV) : Siz n (callA P f args H) := by
  unfold Ab.callA
  refine Siz.onB h ?_
  unfold externA
  repeat' (first | exact trivial | exact Siz.rInt h _ _ | exact (Siz.push h (fun _ h => h)) | refine Siz.cond ?_ ?_ | split)
theorem Siz.mapUpdate (h : n ≤ H.size) (t : TypeId) (m k v : AV) : Siz n (mapUpdateA P G t m k v H) := by
  unfold mapUpdateA
  repeat' (first | exact trivial | exact h | refine Siz.cond ?_ ?_ | exact (Siz.set h (fun _ h => h)) | (refine Siz.fNat (fun _ => ?_); exact (Siz.set h (fun _ h => h))) | split)
theorem Siz.conv (h : n ≤ H.size) (s d : TypeId) (x : AV) : Siz n (convA P G s d x H) := by
  unfold convA
  repeat' (first | exact trivial | exact h | exact Siz.rInt h _ _ | refine Siz.cond ?_ ?_ | exact (Siz.set h (fun _ h => h)) | (refine Siz.fNat (fun _ => ?_); exact (Siz.push h (fun _ h => h))) | split)
theorem Flo.siz {a : Bool} {x : X} (h : Flo H a x) : Siz H.size x := by
  cases x <;> first | trivial | exact h.elim | skip
  rcases h with ⟨h, _⟩ | ⟨_, ob, h, _⟩
  · subst h; exact Nat.le_refl _
  · subst h; exact Nat.le_succ _
theorem siz_sound {o : Oper} {tm : TM} : Siz H.size (opA P G o tm H) := by
  have h : H.size ≤ H.size := Nat.le_refl _
  by_cases hf : isFloatP P o.op = true
  · exact (float_shape hf).siz
  · obtain ⟨dst, op, type, pos, after, guard⟩ := o
    cases op <;> first | (exfalso; exact hf rfl) | simp only [opA]
    all_goals first | exact trivial | skip
    case insert t m k x => exact Siz.mapUpdate h _ _ _ _
    case store t a x => exact Siz.onPtr (fun _ _ => Siz.store h _ _ _ _) trivial
    case convert s d x => exact Siz.onInt (fun _ _ => Siz.onK (fun _ => Siz.rInt h _ _) (Siz.conv h _ _ _)) (Siz.conv h _ _ _)
    case mapUpdate t m k x => exact Siz.mapUpdate h _ _ _ _
    case mapEntry t m k =>
      unfold mapEntryA
      repeat' (first | exact trivial | exact h | refine Siz.cond ?_ ?_ | exact (Siz.set h (fun _ h => h)) | (refine Siz.fNat (fun _ => ?_); exact (Siz.set h (fun _ h => h))) | split)
    case entryStore t m s x =>
      unfold entryStoreA
      repeat' (first | exact trivial | exact h | refine Siz.cond ?_ ?_ | exact (Siz.set h (fun _ h => h)) | split)
    case range t x =>
      unfold rangeA
      repeat' (first | exact trivial | exact h | refine Siz.cond ?_ ?_ | exact (Siz.push h (fun _ h => h)) | split)
    case entry it =>
      unfold entryA
      repeat' (first | exact trivial | exact h | refine Siz.cond ?_ ?_ | split)
    case next it s =>
      unfold nextA
      repeat' (first | exact trivial | exact h | dsimp only | refine Siz.cond ?_ ?_ | (refine Siz.forkL _ _ (fun _ => ?_); exact (Siz.set h (fun _ h => h))) | exact (Siz.set h (fun _ h => h)) | (refine Siz.fNat (fun _ => Siz.fNat (fun _ => ?_)); exact (Siz.set h (fun _ h => h))) | split)
    case call c =>
      obtain ⟨callee, args, types⟩ := c
      cases callee with
      | value f =>
        simp only [callX]
        unfold callV
        split
        · exact Siz.callA h _ _
        · exact h
        · exact trivial
      | invoke r m =>
        simp only [callX]
        unfold invokeV
        split
        · split
          · exact Siz.callA h _ _
          · exact trivial
        · exact trivial
      | builtin b => exact Siz.builtin h _ _ _
end
end Go.Proofs.YtabllhhainepgaaGreatDoor.Ab
