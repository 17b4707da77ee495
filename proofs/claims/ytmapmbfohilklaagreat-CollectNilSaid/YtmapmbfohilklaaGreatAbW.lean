/-
  The abstract machine: slots, frames.
-/
import Derived.Test.YtmapmbfohilklaaGreatAbV
namespace Go.Proofs.YtmapmbfohilklaaGreat.Ab
open Go.RowKit

/-! ### slots -/
noncomputable def TM.put (m : TM) (d : Nat) (v : AV) : TM := if isLocal m.mask d = true then ⟨m.mask, .cons d v m.lo, m.tr⟩ else ⟨m.mask, m.lo, putV (path d) m.tr v .junk⟩
theorem putT_eq (m : TM) (d : Nat) (v : AV) (k : TM → X) : putT m d v k = k (m.put d v) := by
  obtain ⟨mask, lo, tr⟩ := m
  unfold putT TM.put
  cases hl : isLocal mask d with
  | false => simp only [hl]; rw [setV_eq]; simp
  | true => simp only [hl]; simp
theorem getT_eq (mask : Nat) (lo : Lo) (tr : Tr AV) (t : Nat) : getT ⟨mask, lo, tr⟩ t = if isLocal mask t = true then getL lo t else getV tr (path t) .junk := by
  unfold getT
  cases hl : isLocal mask t with
  | false => simp only [hl]; simp
  | true => simp only [hl]; simp
theorem getL_cons (d : Nat) (v : AV) (l : Lo) (t : Nat) : getL (.cons d v l) t = if t = d then v else getL l t := by
  show Bool.rec (motive := fun _ => (Nat → AV) → Nat → AV → AV) (fun ih n _ => ih n) (fun _ _ v => v) (Nat.beq d t) (getL l) t v = _
  by_cases h : t = d
  · subst h
    have : Nat.beq t t = true := by simp
    rw [this, if_pos rfl]
  · have : Nat.beq d t = false := beq_ff (fun e => h e.symm)
    rw [this, if_neg h]
theorem get_put (m : TM) (d : Nat) (v : AV) (t : Nat) : getT (m.put d v) t = if t = d then v else getT m t := by
  obtain ⟨mask, lo, tr⟩ := m
  unfold TM.put
  by_cases hd : isLocal mask d = true
  · rw [if_pos hd, getT_eq, getT_eq]
    by_cases ht : isLocal mask t = true
    · rw [if_pos ht, if_pos ht, getL_cons]
    · rw [if_neg ht, if_neg ht, if_neg (fun e => ht (by rw [e]; exact hd))]
  · rw [if_neg hd, getT_eq, getT_eq]
    by_cases ht : isLocal mask t = true
    · rw [if_pos ht, if_pos ht, if_neg (fun e => hd (by rw [← e]; exact ht))]
    · rw [if_neg ht, if_neg ht, get_putV]
      by_cases e : t = d
      · rw [if_pos (by rw [e]), if_pos e]
      · rw [if_neg (fun e' => e (path_inj e')), if_neg e]
def TM.clear (m : TM) : TM := ⟨m.mask, .nil, m.tr⟩
theorem clearT_eq (m : TM) (k : TM → X) : clearT m k = k m.clear := rfl
section
variable {P : Program} {w0 w : World} {G : Nat} {μ : Mu} {H : AH} {r : Result Next}
theorem SR.put {n : Nat} {tm : TM} {tmps : Array Value} (h : SR μ n tm tmps) {d : Nat} (hd : d < n) {v : AV} {u : Value} (hv : VR μ v u) : SR μ n (tm.put d v) (tmps.setIfInBounds d u) := by
  have h1 := h.1
  refine ⟨by simp; exact h.1, fun t => ?_⟩
  rw [get_put]
  by_cases e : t = d
  · subst e
    rw [if_pos rfl]
    have : (tmps.setIfInBounds t u).getD t undef = u := by
      rw [Array.getD_eq_getD_getElem?, Array.getElem?_setIfInBounds, if_pos rfl, if_pos (by omega)]; rfl
    rw [this]; exact hv
  · rw [if_neg e]
    have : (tmps.setIfInBounds d u).getD t undef = tmps.getD t undef := by
      rw [Array.getD_eq_getD_getElem?, Array.getD_eq_getD_getElem?, Array.getElem?_setIfInBounds, if_neg (fun e' => e e'.symm)]
    rw [this]; exact h.2 t
theorem SR.clear {n : Nat} {tm : TM} {tmps : Array Value} (h : SR μ n tm tmps) : SR μ n tm.clear tmps := by
  obtain ⟨mask, lo, tr⟩ := tm
  refine ⟨h.1, fun t => ?_⟩
  have := h.2 t
  rw [getT_eq] at this
  show VR μ (getT ⟨mask, .nil, tr⟩ t) _
  rw [getT_eq]
  by_cases hl : isLocal mask t = true
  · rw [if_pos hl]; exact .junk _
  · rw [if_neg hl] at this ⊢; exact this
theorem SR.eval {n : Nat} {tm : TM} {a : Act} (h : SR μ n tm a.tmps) (x : Operand) : VR μ (ev tm x) (a.eval x) := by
  cases x with
  | tmp t => exact h.2 t
  | const v => exact VR.ofConst μ v
  | global g => exact .junk _
  | func f => exact .func f [] [] #[] #[] .nil .nil
/-- putK: the slot, where there is one. -/
noncomputable def TM.putO (m : TM) (d : Option Tmp) (v : AV) : TM := match d with | some d => m.put d v | none => m
theorem SR.putAct {n : Nat} {tm : TM} {a : Act} (h : SR μ n tm a.tmps) {d : Option Tmp} (hd : ∀ x, d = some x → x < n) {v : AV} {u : Value} (hv : VR μ v u) : SR μ n (tm.putO d v) (a.put d u).tmps := by
  cases d with
  | none => exact h
  | some d => exact h.put (hd d rfl) hv

/-! ### what waits in a frame -/
inductive IR (μ : Mu) : List AItem → List Item → Prop
  | nil : IR μ [] []
  | code (c : Code) {l : List AItem} {m : List Item} (t : IR μ l m) : IR μ (.code c :: l) (.code c :: m)
  | inBlock (id : Nat) {l : List AItem} {m : List Item} (t : IR μ l m) : IR μ (.inBlock id :: l) (.inBlock id :: m)
  | inLoop (c : Code) {l : List AItem} {m : List Item} (t : IR μ l m) : IR μ (.inLoop c :: l) (.inLoop c :: m)
  | inScope (c : Code) {l : List AItem} {m : List Item} (t : IR μ l m) : IR μ (.inScope c :: l) (.inScope c :: m)
  | reg (ops : Array Oper) (i : Nat) {rest : List Oper} (hr : rest = ops.toList.drop i) {l : List AItem} {m : List Item} (t : IR μ l m) : IR μ (.reg ops rest :: l) (.inRegion ops (List.range' i (ops.size - i)) :: m)
  | inRF (b : Nat) (L : Loc) (hb : μ b = some L) {l : List AItem} {m : List Item} (t : IR μ l m) : IR μ (.inRF b :: l) (.inRangeFunc L.blk :: m)
  | endRF (b : Nat) (L : Loc) (hb : μ b = some L) {l : List AItem} {m : List Item} (t : IR μ l m) : IR μ (.endRF b :: l) (.endRangeFunc L.blk :: m)
  | beginRound {l : List AItem} {m : List Item} (t : IR μ l m) : IR μ (.beginRound :: l) (.beginRound :: m)
theorem IR.mono {μ ν : Mu} (hm : μ.le ν) {l : List AItem} {m : List Item} (h : IR μ l m) : IR ν l m := by
  induction h with
  | nil => exact .nil
  | code c _ ih => exact .code c ih
  | inBlock id _ ih => exact .inBlock id ih
  | inLoop c _ ih => exact .inLoop c ih
  | inScope c _ ih => exact .inScope c ih
  | reg ops i hr _ ih => exact .reg ops i hr ih
  | inRF b L hb _ ih => exact .inRF b L (hm _ _ hb) ih
  | endRF b L hb _ ih => exact .endRF b L (hm _ _ hb) ih
  | beginRound _ ih => exact .beginRound ih
theorem exit_sound {id : Nat} : ∀ {l : List AItem} {m : List Item} {l' : List AItem}, IR μ l m → exitA id l = some l' → ∃ m', exitTo id m = some m' ∧ IR μ l' m' := by
  intro l m l' h
  induction h with
  | nil => intro h; cases h
  | inBlock id' t ih =>
    intro h
    simp only [exitA] at h
    by_cases e : id' = id
    · subst e
      have : Nat.beq id' id' = true := by simp
      rw [this] at h
      simp only [cond_true, Option.some.injEq] at h
      subst h
      exact ⟨_, by simp [exitTo], t⟩
    · rw [beq_ff e] at h
      obtain ⟨m', h1, h2⟩ := ih h
      exact ⟨m', by simp [exitTo, e, h1], h2⟩
  | _ => rename_i ih; intro h; obtain ⟨m', h1, h2⟩ := ih h; exact ⟨m', h1, h2⟩
theorem goto_sound {g : Nat} : ∀ {l : List AItem} {m : List Item} {l' : List AItem}, IR μ l m → gotoA g l = some l' → ∃ m', gotoIn g m = some m' ∧ IR μ l' m' := by
  intro l m l' h
  induction h with
  | nil => intro h; cases h
  | inScope c t ih =>
    intro h
    simp only [gotoA] at h
    cases hf : findLabel c g with
    | some rest =>
      rw [hf] at h
      simp only [Option.some.injEq] at h
      subst h
      exact ⟨_, by simp [gotoIn, hf], .code _ (.inScope _ t)⟩
    | none =>
      rw [hf] at h
      obtain ⟨m', h1, h2⟩ := ih h
      exact ⟨m', by simp [gotoIn, hf, h1], h2⟩
  | _ => rename_i ih; intro h; obtain ⟨m', h1, h2⟩ := ih h; exact ⟨m', h1, h2⟩
end
end Go.Proofs.YtmapmbfohilklaaGreat.Ab
