/-
  An abstract machine that Lean's kernel can run: regions. This text speaks of no program.
-/
import Derived.Test.YtabllhhainepgaaGreatDoorAbG6
import Derived.Calls
import Derived.AtR
import Derived.Orders
/-
  The abstract machine: regions in their written order.
-/
set_option linter.unusedVariables false
set_option linter.unusedSimpArgs false
namespace Go.Proofs.YtabllhhainepgaaGreatDoor.Ab
open Go.RowKit

section
variable {P : Program} {w0 w : World} {G N0 : Nat} {μ : Mu} {H : AH} {r : Result Next}
theorem wantA_sound {ops : Array Oper} {n : Nat} {tm : TM} {tmps : Array Value} (hs : SR μ n tm tmps) {o : Oper} {b : Bool} (h : wantA ops tm o = some b) : Region.wanted o (yielded ops tmps) = b := by
  unfold wantA at h
  unfold Region.wanted
  cases hg : o.guard with
  | none => rw [hg] at h; simpa using h
  | some g =>
    obtain ⟨j, want⟩ := g
    rw [hg] at h
    simp only [] at h ⊢
    unfold yielded
    cases hd : (ops[j]?).bind (·.dst) with
    | none =>
      rw [hd] at h
      simp only [Option.some.injEq] at h
      subst h
      simp
    | some d =>
      rw [hd] at h
      simp only [Option.bind_some] at h ⊢
      have hv := hs.2 d
      rw [Array.getD_eq_getD_getElem?] at hv
      cases hq : tmps[d]? with
      | none =>
        rw [hq] at hv
        simp only [Option.getD_none] at hv
        split at h
        · rename_i b' he
          rw [he] at hv
          cases hv
        · cases h
        · cases h
        · simp only [Option.some.injEq] at h; subst h; simp
      | some u =>
        rw [hq] at hv
        simp only [Option.getD_some] at hv
        split at h
        · rename_i b' he
          rw [he] at hv
          have := hv.bool_inv
          subst this
          simp only [Option.some.injEq] at h
          subst h
          simp
        · cases h
        · cases h
        · rename_i h1 h2 h3
          simp only [Option.some.injEq] at h
          subst h
          cases u with
          | bool b' =>
            generalize hgt : getT tm d = g at hv h1 h2 h3
            cases hv
            · exact absurd rfl h2
            · exact absurd rfl (h1 _)
            · exact absurd rfl h3
          | _ => simp
/-- What a region comes to. -/
def RS (P : Program) (w0 : World) (G N0 : Nat) (μ : Mu) (ops : Array Oper) (n : Nat) (b : Frame) (k : List Item) (cs : List Frame) (m : Machine) (x : X) : Prop :=
  match x with
  | .fork y z => RS P w0 G N0 μ ops n b k cs m y ∨ RS P w0 G N0 μ ops n b k cs m z
  | .fin tm H => ∃ (μ' : Mu) (a : Act) (w : World), Steps P m (lone (b.atR a k) cs w) ∧ SR μ' n tm a.tmps ∧ a.defers = b.defers ∧ HR w0 G μ' H w ∧ μ.lx N0 μ' ∧ N0 ≤ H.size
  | .enterR f args rest tm H => ∃ (μ' : Mu) (a : Act) (w : World) (i : Nat) (cargs : Array Value), Steps P m (lone (Frame.enter P f cargs .normal) (b.atR a (.inRegion ops (List.range' i (ops.size - i)) :: k) :: cs) w) ∧
      rest = ops.toList.drop i ∧ SR μ' n tm a.tmps ∧ a.defers = b.defers ∧ HR w0 G μ' H w ∧ μ.lx N0 μ' ∧ LR μ' args cargs.toList ∧ callOk P f = true ∧ N0 ≤ H.size
  | .roundR l args rest tm H => ∃ (μ' : Mu) (a : Act) (w w' : World) (i : Nat) (cargs : Array Value) (L : Loc), Steps P m (lone (b.atR a (.inRegion ops (List.range' i (ops.size - i)) :: k)) cs w) ∧
      (∀ lo : Loop, w'.heap[L.blk]? = some (.loop lo) → cargs.size = lo.params.size → step P (lone (b.atR a (.inRegion ops (List.range' i (ops.size - i)) :: k)) cs w) =
        .next (lone (Frame.round L.blk lo.fn ((lo.params.zip cargs).foldl (fun tmps (t, a) => tmps.setIfInBounds t a) lo.tmps) lo.assign lo.body .normal) (b.atR a (.inRegion ops (List.range' i (ops.size - i)) :: k) :: cs) w')) ∧
      rest = ops.toList.drop i ∧ SR μ' n tm a.tmps ∧ a.defers = b.defers ∧ HR w0 G μ' H w' ∧ μ.lx N0 μ' ∧ μ' l = some L ∧ LR μ' args cargs.toList ∧ N0 ≤ H.size
  | .next .. => False
  | .done .. => False
  | _ => True
theorem RS.step {ops : Array Oper} {n : Nat} {b : Frame} {k : List Item} {cs : List Frame} {m m' : Machine} {x : X} {μ' : Mu} (h : Steps P m m') (hm : μ.lx N0 μ') (hx : RS P w0 G N0 μ' ops n b k cs m' x) : RS P w0 G N0 μ ops n b k cs m x := by
  induction x with
  | fork y z ihy ihz => exact Or.imp ihy ihz hx
  | fin tm H => obtain ⟨ν, a, w, h1, h2, h3, h4, h5, h6⟩ := hx; exact ⟨ν, a, w, h.trans h1, h2, h3, h4, hm.trans h5, h6⟩
  | enterR f args rest tm H => obtain ⟨ν, a, w, i, cargs, h1, h2, h3, h4, h5, h6, h7⟩ := hx; exact ⟨ν, a, w, i, cargs, h.trans h1, h2, h3, h4, h5, hm.trans h6, h7⟩
  | roundR l args rest tm H => obtain ⟨ν, a, w, w', i, cargs, L, h1, h2, h3, h4, h5, h6, h7, h8⟩ := hx; exact ⟨ν, a, w, w', i, cargs, L, h.trans h1, h2, h3, h4, h5, h6, hm.trans h7, h8⟩
  | next => exact hx
  | done => exact hx
  | _ => trivial
theorem putK_sound {ops : Array Oper} {n : Nat} {b : Frame} {k : List Item} {cs : List Frame} {m : Machine} {tm : TM} {d : Option Tmp} {v : AV} {f : TM → X}
    (h : (∀ x, d = some x → x < n) → RS P w0 G N0 μ ops n b k cs m (f (tm.putO d v))) : RS P w0 G N0 μ ops n b k cs m (putK n tm d v f) := by
  cases d with
  | none => exact h (fun x hx => by cases hx)
  | some d =>
    show RS P w0 G N0 μ ops n b k cs m (Bool.rec (motive := fun _ => Nat → TM → AV → (TM → X) → X) (fun _ _ _ _ => .fail 1) (fun d tm v k => putT tm d v k) (Nat.blt d n) d tm v f)
    cases hb : Nat.blt d n with
    | false => trivial
    | true =>
      show RS P w0 G N0 μ ops n b k cs m (putT tm d v f)
      rw [putT_eq]
      exact h (fun x hx => by cases hx; rwa [Nat.blt_eq] at hb)
theorem range_drop {ops : Array Oper} {i : Nat} {o : Oper} {rest : List Oper} (h : o :: rest = ops.toList.drop i) : ops[i]? = some o ∧ rest = ops.toList.drop (i + 1) ∧ List.range' i (ops.size - i) = i :: List.range' (i + 1) (ops.size - (i + 1)) := by
  have h1 : ops.toList[i]? = some o := by
    have := congrArg (fun l => l[0]?) h
    simpa using this.symm
  have hi : i < ops.size := by have := (List.getElem?_eq_some_iff.1 h1).1; simpa using this
  refine ⟨by simpa using h1, ?_, ?_⟩
  · have := congrArg List.tail h
    simpa [List.drop_drop] using this
  · rw [show ops.size - i = (ops.size - (i + 1)) + 1 by omega, List.range'_succ]
/-- An operation carried out, in a region's place i. -/
theorem op_step {ops : Array Oper} {b : Frame} (hb : b.kind = .normal) {a : Act} {k : List Item} {cs : List Frame} {i : Nat} {l : List Nat} {o : Oper} (ho : ops[i]? = some o) (hnd : ∀ c, o.op ≠ .defer c) (hw : Region.wanted o (yielded ops a.tmps) = true) {x : X} (hx : XR P w0 G μ H.size x ((execOp a.eval o).run P w)) :
    match (generalizing := false) x with
    | .val v H' => ∃ (μ' : Mu) (w' : World) (u : Value), step P (lone (b.atR a (.inRegion ops (i :: l) :: k)) cs w) = .next (lone (b.atR (a.put o.dst u) (.inRegion ops l :: k)) cs w') ∧ VR μ' v u ∧ HR w0 G μ' H' w' ∧ μ.lx H.size μ'
    | .enter f args H' => ∃ (cargs : Array Value) (w' : World), step P (lone (b.atR a (.inRegion ops (i :: l) :: k)) cs w) = .next (lone (Frame.enter P f cargs .normal) (b.atR a (.inRegion ops (i :: l) :: k) :: cs) w') ∧ LR μ args cargs.toList ∧ HR w0 G μ H' w' ∧ callOk P f = true
    | .round r args H' => ∃ (L : Loc) (cargs : Array Value) (w' : World), μ r = some L ∧ LR μ args cargs.toList ∧ HR w0 G μ H' w' ∧
        ∀ lo : Loop, w'.heap[L.blk]? = some (.loop lo) → cargs.size = lo.params.size → step P (lone (b.atR a (.inRegion ops (i :: l) :: k)) cs w) =
          .next (lone (Frame.round L.blk lo.fn ((lo.params.zip cargs).foldl (fun tmps (t, a) => tmps.setIfInBounds t a) lo.tmps) lo.assign lo.body .normal) (b.atR a (.inRegion ops (i :: l) :: k) :: cs) w')
    | _ => True := by
  have hg := stepGR_op (P := P) (b := b) (k := k) (cs := cs) (w := w) (rest := l) ho hw
  rw [Oper.semAt_eq _ _ _ hnd] at hg
  have hfin : ∀ v, (b.atR a (.inRegion ops (i :: l) :: k)).finish v = b.atR (a.put o.dst v) (.inRegion ops l :: k) := by
    intro v; rw [Frame.finish_atR, ho]; rfl
  cases x with
  | val v H' =>
    obtain ⟨μ', w', u, hr, h1, h2, h3⟩ := hx
    rcases hr with hr | ⟨hr, hu⟩
    · refine ⟨μ', w', u, step_lone_go ?_, h1, h2, h3⟩
      rw [hg, ← hfin]; simp [stepG.apply, hr]
    · refine ⟨μ', w', u, step_lone_go ?_, h1, h2, h3⟩
      rw [hg, ← hfin, hu]; simp [stepG.apply, hr]
  | enter f args H' =>
    obtain ⟨cargs, w', hr, h1, h2, h3⟩ := hx
    refine ⟨cargs, w', step_lone_go ?_, h1, h2, h3⟩
    rw [hg]; simp [stepG.apply, hr, Frame.atR]
  | round r args H' =>
    obtain ⟨L, cargs, w', h1, h2, h3, hr⟩ := hx
    refine ⟨L, cargs, w', h1, h2, h3, fun lo hlo hs => step_lone_go ?_⟩
    rw [hg]; simp [stepG.apply, hr lo hlo hs, Frame.atR]
  | _ => trivial
theorem not_defer {o : Oper} {tm : TM} {x : X} (h : opA P G o tm H = x) (hx : match (generalizing := false) x with | .fail _ => False | _ => True) : ∀ c, o.op ≠ .defer c := fun c hc => by
  have : opA P G o tm H = .fail 326 := by unfold opA; rw [hc]
  rw [← h, this] at hx; exact hx
theorem reg_sound {ops : Array Oper} {n : Nat} {b : Frame} (hb : b.kind = .normal) {k : List Item} {cs : List Frame} : ∀ (rest : List Oper) (i : Nat) (μ : Mu) (tm : TM) (a : Act) (H : AH) (w : World), rest = ops.toList.drop i → SR μ n tm a.tmps → a.defers = b.defers → HR w0 G μ H w → N0 ≤ H.size → RS P w0 G N0 μ ops n b k cs (lone (b.atR a (.inRegion ops (List.range' i (ops.size - i)) :: k)) cs w) (regRun P G n ops rest tm H)
  | [], i, μ, tm, a, H, w, hr, hs, hd, hh, hN => by
    have : ops.size - i = 0 := by
      have := congrArg List.length hr
      simp at this; omega
    rw [this]
    exact ⟨μ, a, w, .one stepR_region_end, hs.clear, hd, hh, μ.lx_refl _, hN⟩
  | o :: rest, i, μ, tm, a, H, w, hr, hs, hd, hh, hN => by
    obtain ⟨ho, hr', hl⟩ := range_drop hr
    rw [hl]
    have hrun : Region.wanted o (yielded ops a.tmps) = true → RS P w0 G N0 μ ops n b k cs (lone (b.atR a (.inRegion ops (i :: List.range' (i + 1) (ops.size - (i + 1))) :: k)) cs w) (regOp o rest (fun P G n ops tm H => regRun P G n ops rest tm H) P G n ops tm H) := fun hw => by
      have hz := siz_sound (P := P) (G := G) (H := H) (o := o) (tm := tm)
      unfold regOp
      by_cases hdef : ∃ c, o.op = .defer c
      · obtain ⟨c, hc⟩ := hdef
        have : opA P G o tm H = .fail 326 := by unfold opA; rw [hc]
        rw [this]; exact trivial
      have hnd : ∀ c, o.op ≠ .defer c := fun c hc => hdef ⟨c, hc⟩
      have key : ∀ x : X, Siz H.size x → XR P w0 G μ H.size x ((execOp a.eval o).run P w) → RS P w0 G N0 μ ops n b k cs (lone (b.atR a (.inRegion ops (i :: List.range' (i + 1) (ops.size - (i + 1))) :: k)) cs w) (regX x o rest (fun P G n ops tm H => regRun P G n ops rest tm H) P G n ops tm) := by
        intro x
        induction x with
        | val v H' =>
          intro hz hxr
          obtain ⟨μ', w', u, h1, h2, h3, h4⟩ := op_step (P := P) (w0 := w0) (G := G) (μ := μ) (H := H) (b := b) hb (k := k) (cs := cs) (l := List.range' (i + 1) (ops.size - (i + 1))) ho hnd hw hxr
          refine putK_sound fun hdst => ?_
          exact RS.step (.one h1) (h4.weak hN) (reg_sound hb rest (i + 1) μ' _ _ H' w' hr' ((hs.mono h4.1).putAct hdst h2) (by cases o.dst <;> exact hd) h3 (Nat.le_trans hN hz))
        | enter f args H' =>
          intro hz hxr
          obtain ⟨cargs, w', h1, h2, h3, h4⟩ := op_step (P := P) (w0 := w0) (G := G) (μ := μ) (H := H) (b := b) hb (k := k) (cs := cs) (l := List.range' (i + 1) (ops.size - (i + 1))) ho hnd hw hxr
          exact ⟨μ, a, w', i, cargs, by rw [hl]; exact .one h1, hr, hs, hd, h3, μ.lx_refl _, h2, h4, Nat.le_trans hN hz⟩
        | round f args H' =>
          intro hz hxr
          obtain ⟨L, cargs, w', h1, h2, h3, h4⟩ := op_step (P := P) (w0 := w0) (G := G) (μ := μ) (H := H) (b := b) hb (k := k) (cs := cs) (l := List.range' (i + 1) (ops.size - (i + 1))) ho hnd hw hxr
          rw [← hl] at h4
          exact ⟨μ, a, w, w', i, cargs, L, by rw [hl]; exact .refl _ _, h4, hr, hs, hd, h3, μ.lx_refl _, h1, h2, Nat.le_trans hN hz⟩
        | fork y z ihy ihz => exact fun hz hxr => Or.imp (ihy hz.1) (ihz hz.2) hxr
        | _ => exact fun _ _ => trivial
      exact key _ hz (opA_sound hh hs.eval o)
    have hskip : Region.wanted o (yielded ops a.tmps) = false → RS P w0 G N0 μ ops n b k cs (lone (b.atR a (.inRegion ops (i :: List.range' (i + 1) (ops.size - (i + 1))) :: k)) cs w) (putK n tm o.dst (.tuple []) fun tm' => regRun P G n ops rest tm' H) := fun hw => by
      refine putK_sound fun hdst => ?_
      have hs1 := stepR_op_skip (P := P) (b := b) (a := a) (k := k) (cs := cs) (w := w) (ops := ops) (i := i) (rest := List.range' (i + 1) (ops.size - (i + 1))) (by rw [ho]; simpa using hw)
      rw [ho] at hs1
      exact RS.step (.one hs1) (μ.lx_refl _) (reg_sound hb rest (i + 1) μ _ _ H w hr' (hs.putAct hdst .undef) (by show (a.put o.dst undef).defers = b.defers; cases o.dst <;> exact hd) hh hN)
    show RS P w0 G N0 μ ops n b k cs _ (Option.rec (motive := fun _ => Oper → List Oper → RCont → RCont) (fun o rest ih P G n ops tm H => regOp o rest ih P G n ops tm H)
        (fun _ o rest ih P G n ops tm H => onWant ops tm o (fun _ => regOp o rest ih P G n ops tm H) (fun _ => putK n tm o.dst (.tuple []) fun tm' => ih P G n ops tm' H))
        o.guard o rest (fun P G n ops tm H => regRun P G n ops rest tm H) P G n ops tm H)
    cases hg : o.guard with
    | none => exact hrun (by unfold Region.wanted; rw [hg])
    | some g =>
      show RS P w0 G N0 μ ops n b k cs _ (onWant ops tm o _ _)
      unfold onWant
      cases hw : wantA ops tm o with
      | none => trivial
      | some t =>
        cases t
        · exact hskip (wantA_sound hs hw)
        · exact hrun (wantA_sound hs hw)
end
end Go.Proofs.YtabllhhainepgaaGreatDoor.Ab
/-
  The abstract machine: regions that draw their order: the order, the plan.
-/
namespace Go.Proofs.YtabllhhainepgaaGreatDoor.Ab
open Go.RowKit

section
variable {P : Program} {ops : Array Oper}
theorem mem_enum : ∀ {l : List Oper} {n i : Nat} {o : Oper}, (i, o) ∈ enumFrom n l ↔ n ≤ i ∧ l[i - n]? = some o
  | [], n, i, o => by simp [enumFrom]
  | x :: l, n, i, o => by
    simp only [enumFrom, List.mem_cons, Prod.mk.injEq]
    rw [mem_enum (l := l) (n := n + 1) (i := i) (o := o)]
    constructor
    · rintro (⟨rfl, rfl⟩ | ⟨h1, h2⟩)
      · simp
      · refine ⟨by omega, ?_⟩
        rw [show i - n = (i - (n + 1)) + 1 by omega, List.getElem?_cons_succ]; exact h2
    · rintro ⟨h1, h2⟩
      by_cases e : i = n
      · left; subst e; simp at h2; exact ⟨rfl, h2.symm⟩
      · right; refine ⟨by omega, ?_⟩
        rw [show i - n = (i - (n + 1)) + 1 by omega, List.getElem?_cons_succ] at h2; exact h2
theorem mem_enum0 {i : Nat} {o : Oper} : (i, o) ∈ enumFrom 0 ops.toList ↔ ops[i]? = some o := by
  rw [mem_enum]; simp
/-! ### slots -/
theorem slots_edge (h : slotsOk ops = true) {i : Nat} {o : Oper} (ho : ops[i]? = some o) {e : Edge} (he : e ∈ edgesB o) : e.on < i := by
  unfold slotsOk at h
  rw [List.all_eq_true] at h
  have := h (i, o) (mem_enum0.2 ho)
  rw [Bool.and_eq_true, List.all_eq_true] at this
  have := this.1 e he
  rwa [Nat.blt_eq] at this
theorem slots_dst (h : slotsOk ops = true) {i j : Nat} {o o' : Oper} (ho : ops[i]? = some o) (ho' : ops[j]? = some o') {d : Tmp} (hd : o.dst = some d) (hne : j ≠ i) : o'.dst ≠ some d := by
  unfold slotsOk at h
  rw [List.all_eq_true] at h
  have := h (i, o) (mem_enum0.2 ho)
  rw [Bool.and_eq_true] at this
  have := this.2
  simp only [hd] at this
  rw [List.all_eq_true] at this
  have := this (j, o') (mem_enum0.2 ho')
  rw [Bool.and_eq_true, Bool.or_eq_true] at this
  rcases this.1 with h1 | h1
  · exact absurd (Nat.beq_eq.mp h1) hne
  · intro e
    simp [e] at h1
theorem slots_look (h : slotsOk ops = true) {i j : Nat} {o o' : Oper} (ho : ops[i]? = some o) (ho' : ops[j]? = some o') {d : Tmp} (hd : o.dst = some d) (hl : d ∈ o'.looksAt ops) : (∃ e ∈ edgesB o', e.on = i) ∨ (∃ e ∈ edgesB o, e.on = j) := by
  unfold slotsOk at h
  rw [List.all_eq_true] at h
  have := h (i, o) (mem_enum0.2 ho)
  rw [Bool.and_eq_true] at this
  have := this.2
  simp only [hd] at this
  rw [List.all_eq_true] at this
  have := this (j, o') (mem_enum0.2 ho')
  rw [Bool.and_eq_true, Bool.or_eq_true] at this
  have h2 := this.2
  rw [Bool.or_eq_true] at h2
  rcases h2 with h1 | h1
  · exfalso
    rw [Bool.not_eq_true', List.any_eq_false] at h1
    exact h1 d hl (by simp)
  · rw [Bool.or_eq_true, List.any_eq_true, List.any_eq_true] at h1
    rcases h1 with ⟨e, he, hb⟩ | ⟨e, he, hb⟩
    · exact .inl ⟨e, he, Nat.beq_eq.mp hb⟩
    · exact .inr ⟨e, he, Nat.beq_eq.mp hb⟩
theorem flow_look {i j : Nat} {o o' : Oper} (h : flowB ops i o = true) (ho' : ops[j]? = some o') {d : Tmp} (hd : o.dst = some d) (hl : d ∈ o'.looksAt ops) : ∃ e ∈ edgesB o', e.on = i := by
  unfold flowB at h
  rw [hd] at h
  simp only [] at h
  rw [List.all_eq_true] at h
  have := h (j, o') (mem_enum0.2 ho')
  rw [Bool.or_eq_true] at this
  rcases this with h1 | h1
  · exfalso
    rw [Bool.not_eq_true', List.any_eq_false] at h1
    exact h1 d hl (by simp)
  · rw [List.any_eq_true] at h1
    obtain ⟨e, he, hb⟩ := h1
    exact ⟨e, he, Nat.beq_eq.mp hb⟩

/-! ### the order that is drawn -/
def EdgesIn (o : Oper) (S : Nat → Prop) : Prop := ∀ e ∈ edgesB o, S e.on
/-- A list of operations that may come up when those of S have. -/
inductive Lin (ops : Array Oper) : (Nat → Prop) → List Nat → Prop
  | nil {S : Nat → Prop} (h : ∀ i, i < ops.size → S i) : Lin ops S []
  | cons {S : Nat → Prop} (i : Nat) (o : Oper) (l : List Nat) (ho : ops[i]? = some o) (hn : ¬ S i) (he : EdgesIn o S) (t : Lin ops (fun j => S j ∨ j = i) l) : Lin ops S (i :: l)
theorem count_set_true {l : List Bool} {i : Nat} (h : l[i]? = some false) : (l.set i true).countP (!·) + 1 = l.countP (!·) := by
  induction l generalizing i with
  | nil => simp at h
  | cons b l ih =>
    cases i with
    | zero => simp at h; subst h; simp
    | succ i =>
      simp at h
      have := ih h
      simp only [List.set_cons_succ, List.countP_cons]
      omega
theorem go_lin (hs : slotsOk ops = true) : ∀ (fuel t : Nat) (listed : Array Bool) (S : Nat → Prop), listed.size = ops.size → (∀ j, j < ops.size → (listed.getD j true = true ↔ S j)) →
    listed.toList.countP (!·) ≤ fuel → Lin ops S (Region.linearise.go .any ops fuel t listed []) := by
  intro fuel
  induction fuel with
  | zero =>
    intro t listed S hsz hS hc
    simp only [Region.linearise.go, List.reverse_nil]
    refine .nil fun i hi => (hS i hi).1 ?_
    have h0 : listed.toList.countP (!·) = 0 := by omega
    rw [List.countP_eq_zero] at h0
    have hi' : i < listed.size := by omega
    have := h0 listed[i] (by simp)
    rw [Array.getD_eq_getD_getElem?, Array.getElem?_eq_getElem hi', Option.getD_some]
    simpa using this
  | succ fuel ih =>
    intro t listed S hsz hS hc
    simp only [Region.linearise.go]
    change Lin ops S (match (Region.ready .any ops listed)[t % (Region.ready .any ops listed).length]? with
      | some i => Region.linearise.go .any ops fuel (t / (Region.ready .any ops listed).length) (listed.setIfInBounds i true) [i]
      | none => [].reverse)
    cases hi : (Region.ready .any ops listed)[t % (Region.ready .any ops listed).length]? with
    | none =>
      have hnil : Region.ready .any ops listed = [] := by
        cases hr : Region.ready .any ops listed with
        | nil => rfl
        | cons x xs =>
          rw [hr] at hi
          have hlt : t % (x :: xs).length < (x :: xs).length := Nat.mod_lt _ (by simp)
          simp at hi
          simp at hlt
          omega
      simp only [List.reverse_nil]
      refine .nil fun i => ?_
      induction i using Nat.strongRecOn with
      | _ i ihi =>
        intro hi
        refine Classical.byContradiction fun hn => ?_
        have hl : listed.getD i true = false := by
          rw [← Bool.not_eq_true, hS i hi]; exact hn
        obtain ⟨o, ho⟩ : ∃ o, ops[i]? = some o := ⟨ops[i], Array.getElem?_eq_getElem hi⟩
        have : i ∈ Region.ready .any ops listed := by
          unfold Region.ready
          rw [List.mem_filter]
          refine ⟨by simpa using hi, ?_⟩
          rw [hl, ho]
          simp only [Bool.not_false, Option.map_some, Option.getD_some, Bool.true_and]
          rw [Array.all_eq_true_iff_forall_mem]
          intro e he
          cases hb : Region.binds .any e with
          | false => rfl
          | true =>
          have hlt := slots_edge hs ho (e := e) (List.mem_filter.2 ⟨Array.mem_toList_iff.2 he, hb⟩)
          have h1 : S e.on := ihi e.on hlt (by omega)
          have h2 := (hS e.on (by omega)).2 h1
          have hi' : e.on < listed.size := by omega
          rw [Array.getD_eq_getD_getElem?, Array.getElem?_eq_getElem hi', Option.getD_some] at h2 ⊢
          rw [h2]; rfl
        rw [hnil] at this
        cases this
    | some i =>
      simp only []
      rw [linearise_go_acc, List.reverse_singleton, List.singleton_append]
      have hm := List.mem_of_getElem? hi
      unfold Region.ready at hm
      rw [List.mem_filter] at hm
      obtain ⟨h1, h2⟩ := hm
      have hlt : i < ops.size := by simpa using h1
      obtain ⟨o, ho⟩ : ∃ o, ops[i]? = some o := ⟨ops[i], Array.getElem?_eq_getElem hlt⟩
      rw [ho, Bool.and_eq_true] at h2
      simp only [Option.map_some, Option.getD_some] at h2
      have hl : listed.getD i true = false := by simpa using h2.1
      have hi' : i < listed.size := by omega
      refine .cons i o _ ho (fun h => ?_) (fun e he => ?_) ?_
      · rw [(hS i hlt).2 h] at hl; cases hl
      · have := h2.2
        rw [Array.all_eq_true_iff_forall_mem] at this
        obtain ⟨hm, hb⟩ := List.mem_filter.1 he
        have := this e (Array.mem_toList_iff.1 hm)
        have hlt' := slots_edge hs ho he
        rw [hb] at this
        simp only [Bool.not_true, Bool.false_or] at this
        refine (hS e.on (by omega)).1 ?_
        have hi'' : e.on < listed.size := by omega
        rw [Array.getD_eq_getD_getElem?, Array.getElem?_eq_getElem hi'', Option.getD_some] at this ⊢
        exact this
      · refine ih _ _ _ (by simpa using hsz) (fun j hj => ?_) ?_
        · rw [Array.getD_eq_getD_getElem?, Array.getElem?_setIfInBounds]
          by_cases e : i = j
          · subst e
            rw [if_pos rfl, if_pos hi']
            simp
          · rw [if_neg e]
            have := hS j hj
            rw [Array.getD_eq_getD_getElem?] at this
            rw [this]
            constructor
            · exact .inl
            · rintro (h | h)
              · exact h
              · exact absurd h.symm e
        · rw [Array.toList_setIfInBounds]
          have hget : listed.toList[i]? = some false := by
            rw [Array.getD_eq_getD_getElem?, Array.getElem?_eq_getElem hi', Option.getD_some] at hl
            rw [Array.getElem?_toList, Array.getElem?_eq_getElem hi', hl]
          have := count_set_true hget
          omega
theorem schedule_lin (hs : slotsOk ops = true) (t : Nat) : Lin ops (fun _ => False) (Region.schedule true ops t) := by
  have : Region.schedule true ops t = Region.linearise .any ops t := by
    unfold Region.schedule; simp
  rw [this]
  unfold Region.linearise
  refine go_lin hs _ _ _ _ (by simp) (fun j hj => ?_) ?_
  · rw [Array.getD_eq_getD_getElem?, Array.getElem?_replicate, if_pos hj]; simp
  · have : (Array.replicate ops.size false).toList.length = ops.size := by simp
    exact Nat.le_trans List.countP_le_length (Nat.le_of_eq this)

/-! ### the plan -/
/-- With an operation come those that it waits for. -/
def Closed (ops : Array Oper) (S : Nat → Prop) : Prop := ∀ i o, S i → ops[i]? = some o → EdgesIn o S
def Cl (ops : Array Oper) (c : List (Nat × Nat)) : Prop := ∀ (i : Nat) (S : Nat → Prop), Closed ops S → S i → ∀ j, Nat.testBit (lookN c i) j = true → S j
theorem Cl.nil : Cl ops [] := fun i S _ _ j h => by simp [lookN] at h
theorem closeN_sound {c : List (Nat × Nat)} (hc : Cl ops c) {S : Nat → Prop} (hS : Closed ops S) {o : Oper} (he : EdgesIn o S) {j : Nat} (h : Nat.testBit (closeN c o) j = true) : S j := by
  unfold closeN at h
  unfold EdgesIn at he
  generalize edgesB o = l at h he
  induction l with
  | nil => simp at h
  | cons e l ih =>
    rw [List.foldr_cons] at h
    change Nat.testBit ((2 ^ e.on ||| lookN c e.on) ||| _) j = true at h
    rw [Nat.testBit_or, Nat.testBit_or, Bool.or_eq_true, Bool.or_eq_true] at h
    rcases h with (h | h) | h
    · rw [Nat.testBit_two_pow] at h
      have : e.on = j := by simpa using h
      rw [← this]; exact he e (by simp)
    · exact hc e.on S hS (he e (by simp)) j h
    · exact ih h fun e he' => he e (by simp [he'])
theorem Cl.cons {c : List (Nat × Nat)} (hc : Cl ops c) {i : Nat} {o : Oper} (ho : ops[i]? = some o) : Cl ops ((i, closeN c o) :: c) := fun j S hS hj k hk => by
  unfold lookN at hk
  by_cases e : i = j
  · subst e
    have : Nat.beq i i = true := by simp
    rw [this] at hk
    exact closeN_sound hc hS (hS i o hj ho) hk
  · rw [beq_ff e] at hk
    exact hc j S hS hj k hk
theorem build_nil {A sure : Nat} {fl : List (Nat × Oper)} {c : List (Nat × Nat)} {items : List PItem} (h : build P ops [] A fl sure c = some items) : items = [] ∧ ∀ i, i < ops.size → Nat.testBit A i = true := by
  unfold build at h
  split at h
  · rename_i ha
    rw [List.all_eq_true] at ha
    cases h
    refine ⟨rfl, fun i hi => ?_⟩
    exact ha (i, ops[i]) (mem_enum0.2 (Array.getElem?_eq_getElem hi))
  · cases h
theorem build_cons {i : Nat} {is : List Nat} {A sure : Nat} {fl : List (Nat × Oper)} {c : List (Nat × Nat)} {items : List PItem} (h : build P ops (i :: is) A fl sure c = some items) :
    ∃ o rest, ops[i]? = some o ∧ Nat.testBit A i = false ∧ readyB A o = true ∧
      ((isFloatP P o.op = true ∧ flowB ops i o = true ∧ o.dst ≠ none ∧ build P ops is (A ||| 2 ^ i) (fl ++ [(i, o)]) sure ((i, closeN c o) :: c) = some rest ∧ items = { ix := i, op := o, fl := true, chk := if isAlloc o.op then ((fl ++ [(i, o)]).map (·.2)).filter fun y => heapOp y.op else [] } :: rest) ∨
       (floatB P ops i o = false ∧ (∀ j oj, ops[j]? = some oj → Nat.testBit A j = true ∨ j = i ∨ readyB A oj = false) ∧
        build P ops is (A ||| 2 ^ i) (fl.filter fun y => !Nat.testBit (sure ||| 2 ^ i ||| closeN c o) y.1) (sure ||| 2 ^ i ||| closeN c o) ((i, closeN c o) :: c) = some rest ∧
        items = { ix := i, op := o, fl := false, chk := ((fl.filter fun y => !Nat.testBit (sure ||| 2 ^ i ||| closeN c o) y.1).map (·.2)).filter fun y => heapOp y.op } :: rest)) := by
  unfold build at h
  split at h
  · cases h
  · rename_i o ho
    split at h
    · cases h
    · rename_i h1
      rw [Bool.not_eq_true, Bool.or_eq_false_iff] at h1
      have h2 : readyB A o = true := by simpa using h1.2
      split at h
      · rename_i hf
        split at h
        · cases h
        · rename_i hd
          rw [Option.map_eq_some_iff] at h
          obtain ⟨rest, hr, he⟩ := h
          unfold floatB at hf
          rw [Bool.and_eq_true] at hf
          refine ⟨o, rest, ho, h1.1, h2, .inl ⟨hf.1, hf.2, ?_, hr, he.symm⟩⟩
          intro e; rw [e] at hd; exact hd rfl
      · rename_i hf
        split at h
        · rename_i ha
          rw [Option.map_eq_some_iff] at h
          obtain ⟨rest, hr, he⟩ := h
          refine ⟨o, rest, ho, h1.1, h2, .inr ⟨by simpa using hf, fun j oj hj => ?_, hr, he.symm⟩⟩
          rw [List.all_eq_true] at ha
          have := ha (j, oj) (mem_enum0.2 hj)
          rw [Bool.or_eq_true, Bool.or_eq_true] at this
          rcases this with (h | h) | h
          · exact .inl h
          · exact .inr (.inl (Nat.beq_eq.mp h))
          · exact .inr (.inr (by simpa using h))
        · cases h
theorem ready_iff {A : Nat} {o : Oper} : readyB A o = true ↔ EdgesIn o (fun j => Nat.testBit A j = true) := by
  unfold readyB EdgesIn; rw [List.all_eq_true]
end
end Go.Proofs.YtabllhhainepgaaGreatDoor.Ab
/-
  The abstract machine: regions that draw their order: what has been carried out ahead.
-/
namespace Go.Proofs.YtabllhhainepgaaGreatDoor.Ab
open Go.RowKit

/-- Carried out here, not yet there. -/
def Ahead (A : Nat) (S : Nat → Prop) (i : Nat) : Prop := Nat.testBit A i = true ∧ ¬ S i
def InvW (P : Program) (G : Nat) (ops : Array Oper) (n : Nat) (tm : TM) (o : Oper) : Prop := (∀ d, o.dst = some d → d < n) ∧ ∃ b, wantA ops tm o = some b ∧ (b = false → ∀ d, o.dst = some d → getT tm d = .tuple []) ∧
  (b = true → heapOp o.op = false → ∀ H, ∃ d v, o.dst = some d ∧ opA P G o tm H = .val v H ∧ getT tm d = v)
def nameOf : AV → Option Nat
  | .ptr b _ => some b
  | .slice b _ _ _ _ => some b
  | .map b => some b
  | _ => none
/-- The operation has made block b. -/
def GN (ops : Array Oper) (tm : TM) (i b : Nat) : Prop := ∃ o d, ops[i]? = some o ∧ isAlloc o.op = true ∧ wantA ops tm o = some true ∧ o.dst = some d ∧ nameOf (getT tm d) = some b
/-- The operation, carried out now, yields what its slot holds. -/
def Val (P : Program) (G : Nat) (o : Oper) (tm : TM) (H : AH) : Prop :=
  ∃ d v H1, o.dst = some d ∧ opA P G o tm H = .val v H1 ∧ ((H1 = H ∧ getT tm d = v) ∨ (∃ b ob, isAlloc o.op = true ∧ H1 = H.push ob ∧ sameNew H.size v (getT tm d) = some b ∧ b < H.size ∧ objBeq H.size ob (H.get b) = true))
structure DS (P : Program) (ops : Array Oper) (A : Nat) (fl : List (Nat × Oper)) (sure : Nat) (c : List (Nat × Nat)) (S : Nat → Prop) : Prop where
  sub : ∀ i, S i → Nat.testBit A i = true
  clo : Closed ops S
  ed : ∀ i o, Nat.testBit A i = true → ops[i]? = some o → EdgesIn o (fun j => Nat.testBit A j = true)
  fls : ∀ i, Ahead A S i → ∃ o, ops[i]? = some o ∧ isFloatP P o.op = true ∧ flowB ops i o = true ∧ o.dst ≠ none ∧ (i, o) ∈ fl
  flo : ∀ x ∈ fl, ops[x.1]? = some x.2
  flw : ∀ x ∈ fl, flowB ops x.1 x.2 = true
  sur : ∀ i, Nat.testBit sure i = true → S i
  cl : Cl ops c
structure WT (P : Program) (G : Nat) (ops : Array Oper) (N0 N n : Nat) (A : Nat) (fl : List (Nat × Oper)) (sure : Nat) (c : List (Nat × Nat)) (S : Nat → Prop) (l : List Nat) (μ : Mu) (tm : TM) (tmps : Array Value) : Prop where
  so : slotsOk ops = true
  ds : DS P ops A fl sure c S
  lin : Lin ops S l
  len : n ≤ tmps.size
  sl : ∀ t, (∀ i o, Ahead A S i → ops[i]? = some o → o.dst ≠ some t) → VR μ (getT tm t) (tmps.getD t undef)
  dw : ∀ i o, Ahead A S i → ops[i]? = some o → InvW P G ops n tm o
  gh : ∀ i b, Ahead A S i → GN ops tm i b → μ b = none ∧ N0 ≤ b ∧ b < N
  gd : ∀ i j b, Ahead A S i → Ahead A S j → GN ops tm i b → GN ops tm j b → i = j

section
variable {P : Program} {w0 w : World} {G N0 N N' n : Nat} {μ ν : Mu} {H : AH} {ops : Array Oper} {A sure : Nat} {fl : List (Nat × Oper)} {c : List (Nat × Nat)} {S : Nat → Prop} {l : List Nat} {tm tm' : TM} {tmps : Array Value} {o : Oper} {i : Nat}
theorem testBit_put {A i j : Nat} : Nat.testBit (A ||| 2 ^ i) j = true ↔ Nat.testBit A j = true ∨ j = i := by
  rw [Nat.testBit_or, Bool.or_eq_true, Nat.testBit_two_pow, decide_eq_true_iff]
  constructor
  · rintro (h | h)
    · exact .inl h
    · exact .inr h.symm
  · rintro (h | h)
    · exact .inl h
    · exact .inr h.symm
/-! ### what an operation looks at -/
theorem look_same (h : ∀ t ∈ o.looksAt ops, getT tm t = getT tm' t) : opA P G o tm H = opA P G o tm' H ∧ wantA ops tm o = wantA ops tm' o := by
  constructor
  · refine opA_congr o fun x hx => ?_
    cases x with
    | tmp t =>
      refine h t ?_
      unfold Oper.looksAt
      exact List.mem_append_left _ (List.mem_filterMap.2 ⟨.tmp t, by simpa using hx, rfl⟩)
    | _ => rfl
  · unfold wantA
    cases hg : o.guard with
    | none => rfl
    | some g =>
      obtain ⟨j, want⟩ := g
      simp only []
      cases hd : (ops[j]?).bind (·.dst) with
      | none => rfl
      | some d =>
        have : getT tm d = getT tm' d := h d (by unfold Oper.looksAt; rw [hg]; simp [hd])
        simp only [this]
theorem get_putO_ne {d : Option Tmp} {v : AV} {t : Tmp} (h : d ≠ some t) : getT (tm.putO d v) t = getT tm t := by
  cases d with
  | none => rfl
  | some d => exact (get_put tm d v t).trans (if_neg fun e => h (by rw [e]))
theorem get_putO_same {d : Option Tmp} {v : AV} {t : Tmp} (h : d = some t) : getT (tm.putO d v) t = v := by
  subst h
  exact (get_put tm t v t).trans (if_pos rfl)
/-- What another operation writes is not looked at by one that has been carried out ahead of it. -/
theorem WT.keep (h : WT P G ops N0 N n A fl sure c S l μ tm tmps) (ho : ops[i]? = some o) (hA : Nat.testBit A i = false) (hw : flowB ops i o = true ∨ EdgesIn o S) {v : AV} {j : Nat} {oj : Oper} (hj : Ahead A S j) (hoj : ops[j]? = some oj) :
    (∀ (G : Nat) (H : AH), opA P G oj (tm.putO o.dst v) H = opA P G oj tm H) ∧ wantA ops (tm.putO o.dst v) oj = wantA ops tm oj ∧ ∀ d, oj.dst = some d → getT (tm.putO o.dst v) d = getT tm d := by
  have hl : ∀ t ∈ oj.looksAt ops, getT (tm.putO o.dst v) t = getT tm t := fun t ht => get_putO_ne fun e => by
    have hcon : ¬ ∃ ed ∈ edgesB oj, ed.on = i := fun ⟨ed, hed, he⟩ => by
      have := h.ds.ed j oj hj.1 hoj ed hed
      rw [he, hA] at this; cases this
    rcases hw with hw | hw
    · exact hcon (flow_look hw hoj e ht)
    · rcases slots_look h.so ho hoj e ht with h1 | ⟨ed, hed, he⟩
      · exact hcon h1
      · have := hw ed hed
        rw [he] at this
        exact hj.2 this
  refine ⟨fun G H => (look_same hl).1, (look_same (P := P) (G := 0) (H := ⟨0, .nil⟩) hl).2, fun d hd => get_putO_ne fun e => ?_⟩
  · exact slots_dst h.so ho hoj e (fun e' => by have := hj.1; rw [e', hA] at this; cases this) hd
/-! ### the slots that are alike -/
noncomputable def junkT (tm : TM) : List Tmp → TM
  | [] => tm
  | d :: l => (junkT tm l).put d .junk
theorem get_junk (l : List Tmp) (t : Tmp) : getT (junkT tm l) t = if t ∈ l then .junk else getT tm t := by
  induction l with
  | nil => simp [junkT]
  | cons d l ih =>
    show getT ((junkT tm l).put d .junk) t = _
    rw [get_put, ih]
    by_cases e : t = d
    · rw [if_pos e, if_pos (by simp [e])]
    · rw [if_neg e]; simp [e]
open Classical in
theorem WT.sync (h : WT P G ops N0 N n A fl sure c S l μ tm tmps) (ho : ops[i]? = some o) (he : EdgesIn o S) : ∃ tm0, SR μ n tm0 tmps ∧ ∀ t ∈ o.looksAt ops, getT tm0 t = getT tm t := by
  refine ⟨junkT tm ((fl.filter fun x => decide (¬ S x.1)).filterMap (·.2.dst)), ⟨h.len, fun t => ?_⟩, fun t ht => ?_⟩
  · rw [get_junk]
    by_cases hm : t ∈ (fl.filter fun x => decide (¬ S x.1)).filterMap (·.2.dst)
    · rw [if_pos hm]; exact .junk _
    · rw [if_neg hm]
      refine h.sl t fun j oj hj hoj hd => hm ?_
      obtain ⟨o', ho', _, _, _, hfl⟩ := h.ds.fls j hj
      rw [hoj] at ho'
      cases ho'
      rw [List.mem_filterMap]
      exact ⟨(j, oj), List.mem_filter.2 ⟨hfl, by simpa using hj.2⟩, hd⟩
  · rw [get_junk, if_neg]
    intro hm
    rw [List.mem_filterMap] at hm
    obtain ⟨⟨j, oj⟩, hm, hd⟩ := hm
    rw [List.mem_filter] at hm
    have hoj := h.ds.flo _ hm.1
    have h2 : ¬ S j := by simpa using hm.2
    have h3 : flowB ops j oj = true := h.ds.flw _ hm.1
    obtain ⟨ed, hed, hon⟩ := flow_look h3 ho hd ht
    have := he ed hed
    rw [hon] at this
    exact h2 this
/-! ### how it goes on -/
/-- What was carried out ahead comes up there too. -/
theorem WT.took {a : Act} (h : WT P G ops N0 N n A fl sure c S (i :: l) μ tm a.tmps) (hA : Nat.testBit A i = true) (ho : ops[i]? = some o) (hle : μ.le ν) (hgh : ∀ j b, Ahead A S j → j ≠ i → GN ops tm j b → ν b = none) {u : Value} (hv : ∀ d, o.dst = some d → VR ν (getT tm d) u) :
    WT P G ops N0 N n A fl sure c (fun j => S j ∨ j = i) l ν tm (a.put o.dst u).tmps := by
  have hah : ∀ j, Ahead A (fun j => S j ∨ j = i) j → Ahead A S j ∧ j ≠ i := fun j hj => ⟨⟨hj.1, fun h => hj.2 (.inl h)⟩, fun h => hj.2 (.inr h)⟩
  cases h.lin with
  | cons _ o' _ ho' hn he t =>
  rw [ho] at ho'
  cases ho'
  have hai : Ahead A S i := ⟨hA, hn⟩
  refine ⟨h.so, ⟨?_, ?_, h.ds.ed, fun j hj => h.ds.fls j (hah j hj).1, h.ds.flo, h.ds.flw, fun j hj => .inl (h.ds.sur j hj), h.ds.cl⟩, t, ?_, ?_, ?_, ?_, ?_⟩
  · rintro j (hj | hj)
    · exact h.ds.sub j hj
    · rw [hj]; exact hA
  · rintro j oj (hj | hj) hoj
    · exact fun e he' => .inl (h.ds.clo j oj hj hoj e he')
    · subst hj
      rw [ho] at hoj
      cases hoj
      exact fun e he' => .inl (he e he')
  · cases o.dst with
    | none => exact h.len
    | some d => simpa [Act.put] using h.len
  · intro t ht
    by_cases e : o.dst = some t
    · have hlt := (h.dw i o hai ho).1 t e
      have hlen := h.len
      have : (a.put o.dst u).tmps.getD t undef = u := by
        rw [e]
        show (a.tmps.setIfInBounds t u).getD t undef = u
        rw [Array.getD_eq_getD_getElem?, Array.getElem?_setIfInBounds, if_pos rfl, if_pos (Nat.lt_of_lt_of_le hlt hlen)]; rfl
      rw [this]; exact hv t e
    · have : (a.put o.dst u).tmps.getD t undef = a.tmps.getD t undef := by
        cases hd : o.dst with
        | none => rfl
        | some d =>
          show (a.tmps.setIfInBounds d u).getD t undef = _
          rw [Array.getD_eq_getD_getElem?, Array.getD_eq_getD_getElem?, Array.getElem?_setIfInBounds, if_neg (fun e' => e (by rw [hd, e']))]
      rw [this]
      refine (h.sl t fun j oj hj hoj => ?_).mono hle
      by_cases e' : j = i
      · subst e'; rw [ho] at hoj; cases hoj; exact e
      · exact ht j oj ⟨hj.1, fun h' => h'.elim hj.2 e'⟩ hoj
  · exact fun j oj hj hoj => h.dw j oj (hah j hj).1 hoj
  · exact fun j b hj hg => ⟨hgh j b (hah j hj).1 (hah j hj).2 hg, (h.gh j b (hah j hj).1 hg).2⟩
  · exact fun j k b hj hk => h.gd j k b (hah j hj).1 (hah k hk).1
/-- One that acts was carried out, here and there. -/
theorem WT.acted {a : Act} (h : WT P G ops N0 N n A fl sure c S (i :: l) μ tm a.tmps) (ho : ops[i]? = some o) (hA : Nat.testBit A i = false) (hr : readyB A o = true) (hd : ∀ d, o.dst = some d → d < n) (hlx : μ.lx N ν) (hNN : N ≤ N') {v : AV} {u : Value} (hv : VR ν v u) :
    WT P G ops N0 N' n (A ||| 2 ^ i) (fl.filter fun y => !Nat.testBit (sure ||| 2 ^ i ||| closeN c o) y.1) (sure ||| 2 ^ i ||| closeN c o) ((i, closeN c o) :: c) (fun j => S j ∨ j = i) l ν (tm.putO o.dst v) (a.put o.dst u).tmps := by
  have hah : ∀ j, Ahead (A ||| 2 ^ i) (fun j => S j ∨ j = i) j → Ahead A S j ∧ j ≠ i := fun j hj => by
    have hne : j ≠ i := fun h => hj.2 (.inr h)
    exact ⟨⟨(testBit_put.1 hj.1).resolve_right hne, fun h => hj.2 (.inl h)⟩, hne⟩
  cases h.lin with
  | cons _ o' _ ho' hn he t =>
  rw [ho] at ho'
  cases ho'
  have hclo : Closed ops (fun j => S j ∨ j = i) := by
    rintro j oj (hj | hj) hoj
    · exact fun e he' => .inl (h.ds.clo j oj hj hoj e he')
    · subst hj
      rw [ho] at hoj
      cases hoj
      exact fun e he' => .inl (he e he')
  have hsure : ∀ j, Nat.testBit (sure ||| 2 ^ i ||| closeN c o) j = true → S j ∨ j = i := fun j hj => by
    rw [Nat.testBit_or, Bool.or_eq_true, testBit_put] at hj
    rcases hj with (hj | hj) | hj
    · exact .inl (h.ds.sur j hj)
    · exact .inr hj
    · exact .inl (closeN_sound h.ds.cl h.ds.clo he hj)
  have hgn : ∀ j b, Ahead A S j → GN ops (tm.putO o.dst v) j b → GN ops tm j b := fun j b hj ⟨oj, d, h1, h2, h3, h4, h5⟩ => by
    obtain ⟨_, k2, k3⟩ := h.keep ho hA (.inr he) (v := v) hj h1
    exact ⟨oj, d, h1, h2, by rw [← k2]; exact h3, h4, by rw [← k3 d h4]; exact h5⟩
  refine ⟨h.so, ⟨?_, hclo, ?_, ?_, ?_, fun x hx => h.ds.flw x (List.mem_filter.1 hx).1, hsure, h.ds.cl.cons ho⟩, t, ?_, ?_, ?_, ?_, ?_⟩
  · rintro j (hj | hj)
    · exact testBit_put.2 (.inl (h.ds.sub j hj))
    · exact testBit_put.2 (.inr hj)
  · intro j oj hj hoj e he'
    rcases testBit_put.1 hj with hj | hj
    · exact testBit_put.2 (.inl (h.ds.ed j oj hj hoj e he'))
    · subst hj
      rw [ho] at hoj
      cases hoj
      exact testBit_put.2 (.inl (ready_iff.1 hr e he'))
  · intro j hj
    obtain ⟨oj, h1, h2, h2', h3, h4⟩ := h.ds.fls j (hah j hj).1
    refine ⟨oj, h1, h2, h2', h3, List.mem_filter.2 ⟨h4, ?_⟩⟩
    rw [Bool.not_eq_true', ← Bool.not_eq_true]
    exact fun hs => hj.2 (hsure j hs)
  · exact fun x hx => h.ds.flo x (List.mem_filter.1 hx).1
  · cases o.dst with
    | none => exact h.len
    | some d => simpa [Act.put] using h.len
  · intro t ht
    by_cases e : o.dst = some t
    · have hlt := hd t e
      have hlen := h.len
      have : (a.put o.dst u).tmps.getD t undef = u := by
        rw [e]
        show (a.tmps.setIfInBounds t u).getD t undef = u
        rw [Array.getD_eq_getD_getElem?, Array.getElem?_setIfInBounds, if_pos rfl, if_pos (Nat.lt_of_lt_of_le hlt hlen)]; rfl
      rw [this, get_putO_same e]; exact hv
    · have : (a.put o.dst u).tmps.getD t undef = a.tmps.getD t undef := by
        cases hd : o.dst with
        | none => rfl
        | some d =>
          show (a.tmps.setIfInBounds d u).getD t undef = _
          rw [Array.getD_eq_getD_getElem?, Array.getD_eq_getD_getElem?, Array.getElem?_setIfInBounds, if_neg (fun e' => e (by rw [hd, e']))]
      rw [this, get_putO_ne e]
      refine (h.sl t fun j oj hj hoj => ?_).mono hlx.1
      have hne : j ≠ i := fun e' => by have h1 := hj.1; rw [e', hA] at h1; cases h1
      exact ht j oj ⟨testBit_put.2 (.inl hj.1), fun h' => h'.elim hj.2 hne⟩ hoj
  · intro j oj hj hoj
    obtain ⟨h1, b, h2, h3, h4⟩ := h.dw j oj (hah j hj).1 hoj
    obtain ⟨k1, k2, k3⟩ := h.keep ho hA (.inr he) (v := v) (hah j hj).1 hoj
    exact ⟨h1, b, by rw [k2]; exact h2, fun hb d hd => by rw [k3 d hd]; exact h3 hb d hd, fun hb hh H => let ⟨d, x, a1, a2, a3⟩ := h4 hb hh H; ⟨d, x, a1, (k1 G H).trans a2, (k3 d a1).trans a3⟩⟩
  · intro j b hj hg
    obtain ⟨h1, h2, h3⟩ := h.gh j b (hah j hj).1 (hgn j b (hah j hj).1 hg)
    exact ⟨by rw [hlx.2 b h3]; exact h1, h2, by omega⟩
  · exact fun j k b hj hk hgj hgk => h.gd j k b (hah j hj).1 (hah k hk).1 (hgn j b (hah j hj).1 hgj) (hgn k b (hah k hk).1 hgk)
/-- One that floats was carried out here. -/
theorem WT.floated (h : WT P G ops N0 N n A fl sure c S l μ tm tmps) (ho : ops[i]? = some o) (hA : Nat.testBit A i = false) (hr : readyB A o = true) (hf : isFloatP P o.op = true) (hfw : flowB ops i o = true) (hdn : o.dst ≠ none) (hd : ∀ d, o.dst = some d → d < n)
    (hdom : ∀ b, N ≤ b → μ b = none) (hN : N0 ≤ N) (hNN : N ≤ N') {v : AV} {bw : Bool} (hw : wantA ops tm o = some bw) (hun : bw = false → v = .tuple []) (hnew : bw = true → isAlloc o.op = true → ∀ b, nameOf v = some b → b = N ∧ N < N') (hpv : bw = true → heapOp o.op = false → ∀ H, opA P G o tm H = .val v H) :
    WT P G ops N0 N' n (A ||| 2 ^ i) (fl ++ [(i, o)]) sure ((i, closeN c o) :: c) S l μ (tm.putO o.dst v) tmps := by
  have hah : ∀ j, Ahead (A ||| 2 ^ i) S j → Ahead A S j ∨ j = i := fun j hj => (testBit_put.1 hj.1).imp (fun h => ⟨h, hj.2⟩) id
  have hni : ¬ S i := fun hs => by rw [h.ds.sub i hs] at hA; cases hA
  have hself : ∀ t ∈ o.looksAt ops, getT (tm.putO o.dst v) t = getT tm t := fun t ht => get_putO_ne fun e => by
    obtain ⟨ed, hed, he⟩ := flow_look hfw ho e ht
    have := ready_iff.1 hr ed hed
    rw [he, hA] at this; cases this
  have hselfO : ∀ H, opA P G o (tm.putO o.dst v) H = opA P G o tm H := fun H => (look_same hself).1
  have hself : wantA ops (tm.putO o.dst v) o = some bw := by
    rw [(look_same (P := P) (G := 0) (H := ⟨0, .nil⟩) hself).2]; exact hw
  have hgn : ∀ j b, Ahead A S j → GN ops (tm.putO o.dst v) j b → GN ops tm j b := fun j b hj ⟨oj, d, h1, h2, h3, h4, h5⟩ => by
    obtain ⟨_, k2, k3⟩ := h.keep ho hA (.inl hfw) (v := v) hj h1
    exact ⟨oj, d, h1, h2, by rw [← k2]; exact h3, h4, by rw [← k3 d h4]; exact h5⟩
  have hgi : ∀ b, GN ops (tm.putO o.dst v) i b → b = N ∧ N < N' := fun b ⟨oj, d, h1, h2, h3, h4, h5⟩ => by
    rw [ho] at h1
    cases h1
    rw [hself] at h3
    rw [get_putO_same h4] at h5
    exact hnew (by simpa using h3) h2 b h5
  refine ⟨h.so, ⟨fun j hj => testBit_put.2 (.inl (h.ds.sub j hj)), h.ds.clo, ?_, ?_, ?_, ?_, h.ds.sur, h.ds.cl.cons ho⟩, h.lin, h.len, ?_, ?_, ?_, ?_⟩
  · intro j oj hj hoj e he'
    rcases testBit_put.1 hj with hj | hj
    · exact testBit_put.2 (.inl (h.ds.ed j oj hj hoj e he'))
    · subst hj
      rw [ho] at hoj
      cases hoj
      exact testBit_put.2 (.inl (ready_iff.1 hr e he'))
  · intro j hj
    rcases hah j hj with hj | hj
    · obtain ⟨oj, h1, h2, h2', h3, h4⟩ := h.ds.fls j hj
      exact ⟨oj, h1, h2, h2', h3, List.mem_append_left _ h4⟩
    · subst hj
      exact ⟨o, ho, hf, hfw, hdn, List.mem_append_right _ (by simp)⟩
  · intro x hx
    rcases List.mem_append.1 hx with hx | hx
    · exact h.ds.flo x hx
    · simp at hx; subst hx; exact ho
  · intro x hx
    rcases List.mem_append.1 hx with hx | hx
    · exact h.ds.flw x hx
    · simp at hx; subst hx; exact hfw
  · intro t ht
    have e : o.dst ≠ some t := ht i o ⟨testBit_put.2 (.inr rfl), hni⟩ ho
    rw [get_putO_ne e]
    exact h.sl t fun j oj hj hoj => ht j oj ⟨testBit_put.2 (.inl hj.1), hj.2⟩ hoj
  · intro j oj hj hoj
    rcases hah j hj with hj | hj
    · obtain ⟨h1, b, h2, h3, h4⟩ := h.dw j oj hj hoj
      obtain ⟨k1, k2, k3⟩ := h.keep ho hA (.inl hfw) (v := v) hj hoj
      exact ⟨h1, b, by rw [k2]; exact h2, fun hb d hd => by rw [k3 d hd]; exact h3 hb d hd, fun hb hh H => let ⟨d, x, a1, a2, a3⟩ := h4 hb hh H; ⟨d, x, a1, (k1 G H).trans a2, (k3 d a1).trans a3⟩⟩
    · subst hj
      rw [ho] at hoj
      cases hoj
      obtain ⟨d, hod⟩ := Option.ne_none_iff_exists'.1 hdn
      exact ⟨hd, bw, hself, fun hb d hd => by rw [get_putO_same hd]; exact hun hb, fun hb hh H => ⟨d, v, hod, (hselfO H).trans (hpv hb hh H), get_putO_same hod⟩⟩
  · intro j b hj hg
    rcases hah j hj with hj | hj
    · obtain ⟨h1, h2, h3⟩ := h.gh j b hj (hgn j b hj hg)
      exact ⟨h1, h2, by omega⟩
    · subst hj
      obtain ⟨h1, h2⟩ := hgi b hg
      exact ⟨hdom b (by omega), by omega, by omega⟩
  · intro j k b hj0 hk0 hgj hgk
    rcases hah j hj0 with hj | hj <;> rcases hah k hk0 with hk | hk
    · exact h.gd j k b hj hk (hgn j b hj hgj) (hgn k b hk hgk)
    · subst hk
      have := (h.gh j b hj (hgn j b hj hgj)).2.2
      have := (hgi b hgk).1
      omega
    · subst hj
      have := (h.gh k b hk (hgn k b hk hgk)).2.2
      have := (hgi b hgj).1
      omega
    · rw [hj, hk]
theorem WT.val (h : WT P G ops N0 N n A fl sure c S l μ tm tmps) {j : Nat} (hj : Ahead A S j) (ho : ops[j]? = some o) (hw : wantA ops tm o = some true) (hh : heapOp o.op = false) (H : AH) : Val P G o tm H := by
  obtain ⟨_, b, h2, _, h4⟩ := h.dw j o hj ho
  rw [hw] at h2
  cases h2
  obtain ⟨d, v, a1, a2, a3⟩ := h4 rfl hh H
  exact ⟨d, v, H, a1, a2, .inl ⟨rfl, a3⟩⟩
/-! ### asked again -/
theorem sameNew_sound {m : Nat} {v s : AV} {b : Nat} (h : sameNew m v s = some b) : nameOf v = some m ∧ nameOf s = some b ∧ ∀ {u : Value}, VR ν v u → ∃ L, ν m = some L ∧ ∀ ξ : Mu, ξ b = some L → VR ξ s u := by
  unfold sameNew at h
  split at h
  · rename_i a i b' j
    cases hc : Nat.beq a m && Nat.beq i j with
    | false => rw [hc] at h; cases h
    | true =>
      rw [hc] at h
      cases h
      rw [Bool.and_eq_true] at hc
      have e1 := beqN hc.1
      have e2 := beqN hc.2
      subst e1 e2
      refine ⟨rfl, rfl, fun hv => ?_⟩
      obtain ⟨L, hL, rfl⟩ := hv.ptr_inv
      exact ⟨L, hL, fun ξ hξ => .ptr _ _ L hξ⟩
  · rename_i a i l c g b' j l' c' g'
    cases hc : Nat.beq a m && Nat.beq i j && Nat.beq l l' && Nat.beq c c' && g == g' with
    | false => rw [hc] at h; cases h
    | true =>
      rw [hc] at h
      cases h
      simp only [Bool.and_eq_true, beq_iff_eq] at hc
      obtain ⟨⟨⟨⟨e1, e2⟩, e3⟩, e4⟩, e5⟩ := hc
      have e1 := beqN e1
      have e2 := beqN e2
      have e3 := beqN e3
      have e4 := beqN e4
      subst e1 e2 e3 e4 e5
      refine ⟨rfl, rfl, fun hv => ?_⟩
      obtain ⟨L, hL, rfl⟩ := hv.slice_inv
      exact ⟨L, hL, fun ξ hξ => .slice _ _ _ _ _ L hξ⟩
  · rename_i a b'
    cases hc : Nat.beq a m with
    | false => rw [hc] at h; cases h
    | true =>
      rw [hc] at h
      cases h
      have e1 := beqN hc
      subst e1
      refine ⟨rfl, rfl, fun hv => ?_⟩
      obtain ⟨L, hL, rfl⟩ := hv.map_inv
      exact ⟨L, hL, fun ξ hξ => .map _ L hξ⟩
  · cases h
theorem chks_get : ∀ {l : List Oper}, chksB P G ops tm H l = true → ∀ o ∈ l, chkB P G ops o tm H = true
  | [], _, o, h => by cases h
  | x :: l, h, o, ho => by
    have h' : (chkB P G ops x tm H && chksB P G ops tm H l) = true := h
    rw [Bool.and_eq_true] at h'
    cases ho with
    | head => exact h'.1
    | tail _ hm => exact chks_get h'.2 o hm
theorem push_size (ob : AObj) : (H.push ob).size = H.size + 1 := rfl
theorem chk_val (h : chkB P G ops o tm H = true) (hw : wantA ops tm o = some true) (hf : isFloatP P o.op = true) : Val P G o tm H := by
  unfold chkB at h
  rw [hw] at h
  simp only [] at h
  unfold chkV at h
  split at h
  · cases h
  · rename_i d hd
    have hs := float_shape (P := P) (G := G) (H := H) (o := o) (tm := tm) hf
    split at h
    · rename_i v H' hop
      rw [hop] at hs
      refine ⟨d, v, H', hd, hop, ?_⟩
      cases hb : Nat.beq H'.size H.size with
      | true =>
        rw [hb] at h
        have hsz := beqN hb
        rcases hs with ⟨hs, _⟩ | ⟨_, ob, hs, _⟩
        · exact .inl ⟨hs, (beqQ_sound h).symm⟩
        · rw [hs, push_size] at hsz; omega
      | false =>
        rw [hb] at h
        simp only [cond_false] at h
        split at h
        · rename_i b hsn
          rw [Bool.and_eq_true, Nat.blt_eq] at h
          rcases hs with ⟨hs, _⟩ | ⟨ha, ob, hs, _⟩
          · rw [hs] at hb; simp at hb
          · refine .inr ⟨b, ob, ha, hs, hsn, h.1, ?_⟩
            have : H'.get H.size = ob := by rw [hs, get_push, if_pos rfl]
            rw [← this]; exact h.2
        · cases h
    · cases h
end
end Go.Proofs.YtabllhhainepgaaGreatDoor.Ab
/-
  The abstract machine: regions that draw their order: the run.
-/
namespace Go.Proofs.YtabllhhainepgaaGreatDoor.Ab
open Go.RowKit

section
variable {P : Program} {w0 w : World} {G N0 N n : Nat} {μ ν : Mu} {H : AH} {ops : Array Oper} {A sure : Nat} {fl : List (Nat × Oper)} {c : List (Nat × Nat)} {S : Nat → Prop} {l : List Nat} {tm : TM} {tmps : Array Value} {o : Oper} {i : Nat}
def DI (P : Program) (G : Nat) (ops : Array Oper) (A : Nat) (S : Nat → Prop) (tm : TM) (H : AH) : Prop := ∀ j o, Ahead A S j → ops[j]? = some o → wantA ops tm o = some true → Val P G o tm H
/-- What was carried out ahead comes up there: one step. -/
theorem ahead_step {b : Frame} (hb : b.kind = .normal) {a : Act} {k : List Item} {cs : List Frame} (h : WT P G ops N0 H.size n A fl sure c S (i :: l) μ tm a.tmps) (hA : Nat.testBit A i = true) (hdi : DI P G ops A S tm H) (hh : HR w0 G μ H w) (hd : a.defers = b.defers) (hN : N0 ≤ H.size) :
    ∃ (μ' : Mu) (a' : Act) (w' : World), step P (lone (b.atR a (.inRegion ops (i :: l) :: k)) cs w) = .next (lone (b.atR a' (.inRegion ops l :: k)) cs w') ∧ WT P G ops N0 H.size n A fl sure c (fun j => S j ∨ j = i) l μ' tm a'.tmps ∧ HR w0 G μ' H w' ∧ μ.lx N0 μ' ∧ a'.defers = b.defers := by
  have hlin := h.lin
  cases hlin with
  | cons _ o _ ho hn he t =>
  have hai : Ahead A S i := ⟨hA, hn⟩
  obtain ⟨tm0, hs0, hl0⟩ := h.sync ho he
  obtain ⟨hop0, hw0⟩ := look_same (P := P) (G := G) (H := H) hl0
  obtain ⟨hdn, bw, hw, hun, _⟩ := h.dw i o hai ho
  have hwc : Region.wanted o (yielded ops a.tmps) = bw := wantA_sound hs0 (by rw [hw0]; exact hw)
  have hdef : ∀ v, (a.put o.dst v).defers = b.defers := fun v => by cases o.dst <;> exact hd
  cases bw with
  | false =>
    have hs1 := stepR_op_skip (P := P) (b := b) (a := a) (k := k) (cs := cs) (w := w) (ops := ops) (i := i) (rest := l) (by rw [ho]; simpa using hwc)
    rw [ho] at hs1
    exact ⟨μ, _, w, hs1, h.took hA ho μ.le_refl (fun j b' hj _ hg => (h.gh j b' hj hg).1) (fun d hd => by rw [hun rfl d hd]; exact .undef), hh, μ.lx_refl _, hdef _⟩
  | true =>
    obtain ⟨d, v, H1, hod, hop, hval⟩ := hdi i o hai ho hw
    have hx := op_step (P := P) (w0 := w0) (G := G) (μ := μ) (H := H) (b := b) hb (k := k) (cs := cs) (l := l) ho (not_defer hop trivial) hwc (opA_sound hh hs0.eval o)
    rw [hop0, hop] at hx
    obtain ⟨μ', w', u, h1, h2, h3, h4⟩ := hx
    rcases hval with ⟨rfl, hv⟩ | ⟨b', ob, hal, rfl, hsn, hbl, hob⟩
    · refine ⟨μ', _, w', h1, h.took hA ho h4.1 (fun j b' hj _ hg => ?_) (fun d' hd' => ?_), h3, h4.weak hN, hdef _⟩
      · obtain ⟨g1, _, g3⟩ := h.gh j b' hj hg
        rw [h4.2 b' g3]; exact g1
      · rw [hod] at hd'; cases hd'; rw [hv]; exact h2
    · obtain ⟨_, hnm, hsv⟩ := sameNew_sound (ν := μ') hsn
      obtain ⟨L, hL, hξ⟩ := hsv h2
      have hgn : GN ops tm i b' := ⟨o, d, ho, hal, hw, hod, hnm⟩
      obtain ⟨g1, g2, g3⟩ := h.gh i b' hai hgn
      obtain ⟨ξ, k1, k2, k3, k4⟩ := hh.place h3 h4 hbl g1 hob hL
      refine ⟨ξ, _, w', h1, h.took hA ho k2 (fun j b'' hj hne hg => ?_) (fun d' hd' => ?_), k1, ⟨k2, fun q hq => k3 q (by omega) (by omega)⟩, hdef _⟩
      · obtain ⟨e1, _, e3⟩ := h.gh j b'' hj hg
        have : b'' ≠ b' := fun e => hne (h.gd j i b' hj hai (by rw [← e]; exact hg) hgn)
        rw [k3 b'' e3 this]; exact e1
      · rw [hod] at hd'; cases hd'; exact hξ ξ k4
/-- What was carried out ahead and may come up comes up, until one stands next that was not. -/
theorem drain {b : Frame} (hb : b.kind = .normal) {k : List Item} {cs : List Frame} (hN : N0 ≤ H.size) : ∀ (l : List Nat) (S : Nat → Prop) (μ : Mu) (a : Act) (w : World), WT P G ops N0 H.size n A fl sure c S l μ tm a.tmps → DI P G ops A S tm H → HR w0 G μ H w → a.defers = b.defers →
    ∃ (S' : Nat → Prop) (l' : List Nat) (μ' : Mu) (a' : Act) (w' : World), Steps P (lone (b.atR a (.inRegion ops l :: k)) cs w) (lone (b.atR a' (.inRegion ops l' :: k)) cs w') ∧ WT P G ops N0 H.size n A fl sure c S' l' μ' tm a'.tmps ∧ DI P G ops A S' tm H ∧ HR w0 G μ' H w' ∧ μ.lx N0 μ' ∧ a'.defers = b.defers ∧
      (l' = [] ∨ ∃ x r, l' = x :: r ∧ Nat.testBit A x = false)
  | [], S, μ, a, w, h, hdi, hh, hd => ⟨S, [], μ, a, w, .refl _ _, h, hdi, hh, μ.lx_refl _, hd, .inl rfl⟩
  | x :: l, S, μ, a, w, h, hdi, hh, hd => by
    cases hA : Nat.testBit A x with
    | false => exact ⟨S, x :: l, μ, a, w, .refl _ _, h, hdi, hh, μ.lx_refl _, hd, .inr ⟨x, l, rfl, hA⟩⟩
    | true =>
      obtain ⟨μ1, a1, w1, h1, h2, h3, h4, h5⟩ := ahead_step (cs := cs) (k := k) hb h hA hdi hh hd hN
      obtain ⟨S', l', μ', a', w', g1, g2, g3, g4, g5, g6, g7⟩ := drain hb (k := k) (cs := cs) hN l _ μ1 a1 w1 h2 (fun j o hj => hdi j o ⟨hj.1, fun h => hj.2 (.inl h)⟩) h3 h5
      exact ⟨S', l', μ', a', w', .trans (.one h1) g1, g2, g3, g4, h4.trans g5, g6, g7⟩
/-- A call waits in a region that draws. -/
def DWait (P : Program) (G : Nat) (ops : Array Oper) (N0 N n : Nat) (items : List PItem) (lst : List Nat) (μ : Mu) (tm : TM) (tmps : Array Value) : Prop :=
  ∃ (x : Nat) (is : List Nat) (A : Nat) (fl : List (Nat × Oper)) (sure : Nat) (c : List (Nat × Nat)) (S : Nat → Prop) (l : List Nat) (o : Oper), lst = x :: l ∧ build P ops (x :: is) A fl sure c = some items ∧ ops[x]? = some o ∧ floatB P ops x o = false ∧ WT P G ops N0 N n A fl sure c S lst μ tm tmps
/-- A region that draws stands next, what is ahead to be asked again. -/
def DRun (P : Program) (G : Nat) (ops : Array Oper) (N0 N n : Nat) (chk : List Oper) (items : List PItem) (lst : List Nat) (μ : Mu) (tm : TM) (tmps : Array Value) : Prop :=
  ∃ (is : List Nat) (A : Nat) (fl : List (Nat × Oper)) (sure : Nat) (c : List (Nat × Nat)) (S : Nat → Prop), build P ops is A fl sure c = some items ∧ WT P G ops N0 N n A fl sure c S lst μ tm tmps ∧ ∀ j o, Ahead A S j → ops[j]? = some o → heapOp o.op = true → o ∈ chk
/-- What a region that draws comes to. -/
def RSD (P : Program) (w0 : World) (G N0 : Nat) (μ : Mu) (ops : Array Oper) (n : Nat) (b : Frame) (k : List Item) (cs : List Frame) (m : Machine) (x : X) : Prop :=
  match x with
  | .fin tm H => ∃ (μ' : Mu) (a : Act) (w : World), Steps P m (lone (b.atR a k) cs w) ∧ SR μ' n tm a.tmps ∧ a.defers = b.defers ∧ HR w0 G μ' H w ∧ μ.lx N0 μ' ∧ N0 ≤ H.size
  | .enterD f args rest tm H => ∃ (μ' : Mu) (a : Act) (w : World) (lst : List Nat) (cargs : Array Value), Steps P m (lone (Frame.enter P f cargs .normal) (b.atR a (.inRegion ops lst :: k) :: cs) w) ∧
      DWait P G ops N0 H.size n rest lst μ' tm a.tmps ∧ a.defers = b.defers ∧ HR w0 G μ' H w ∧ μ.lx N0 μ' ∧ LR μ' args cargs.toList ∧ callOk P f = true ∧ N0 ≤ H.size
  | .roundD r args rest tm H => ∃ (μ' : Mu) (a : Act) (w w' : World) (lst : List Nat) (cargs : Array Value) (L : Loc), Steps P m (lone (b.atR a (.inRegion ops lst :: k)) cs w) ∧
      (∀ lo : Loop, w'.heap[L.blk]? = some (.loop lo) → cargs.size = lo.params.size → step P (lone (b.atR a (.inRegion ops lst :: k)) cs w) =
        .next (lone (Frame.round L.blk lo.fn ((lo.params.zip cargs).foldl (fun tmps (t, a) => tmps.setIfInBounds t a) lo.tmps) lo.assign lo.body .normal) (b.atR a (.inRegion ops lst :: k) :: cs) w')) ∧
      DWait P G ops N0 H.size n rest lst μ' tm a.tmps ∧ a.defers = b.defers ∧ HR w0 G μ' H w' ∧ μ.lx N0 μ' ∧ μ' r = some L ∧ LR μ' args cargs.toList ∧ N0 ≤ H.size
  | .next .. => False
  | .done .. => False
  | _ => True
theorem RSD.step {b : Frame} {k : List Item} {cs : List Frame} {m m' : Machine} {x : X} {μ' : Mu} (h : Steps P m m') (hm : μ.lx N0 μ') (hx : RSD P w0 G N0 μ' ops n b k cs m' x) : RSD P w0 G N0 μ ops n b k cs m x := by
  cases x with
  | fin tm H => obtain ⟨ν, a, w, h1, h2, h3, h4, h5, h6⟩ := hx; exact ⟨ν, a, w, h.trans h1, h2, h3, h4, hm.trans h5, h6⟩
  | enterD f args rest tm H => obtain ⟨ν, a, w, i, cargs, h1, h3, h4, h5, h6, h7⟩ := hx; exact ⟨ν, a, w, i, cargs, h.trans h1, h3, h4, h5, hm.trans h6, h7⟩
  | roundD r args rest tm H => obtain ⟨ν, a, w, w', i, cargs, L, h1, h2, h3, h4, h5, h6, h7⟩ := hx; exact ⟨ν, a, w, w', i, cargs, L, h.trans h1, h2, h3, h4, h5, hm.trans h6, h7⟩
  | next => exact hx
  | done => exact hx
  | _ => trivial
theorem putK_RSD {b : Frame} {k : List Item} {cs : List Frame} {m : Machine} {d : Option Tmp} {v : AV} {f : TM → X}
    (h : (∀ x, d = some x → x < n) → RSD P w0 G N0 μ ops n b k cs m (f (tm.putO d v))) : RSD P w0 G N0 μ ops n b k cs m (putK n tm d v f) := by
  cases d with
  | none => exact h (fun x hx => by cases hx)
  | some d =>
    show RSD P w0 G N0 μ ops n b k cs m (Bool.rec (motive := fun _ => Nat → TM → AV → (TM → X) → X) (fun _ _ _ _ => .fail 1) (fun d tm v k => putT tm d v k) (Nat.blt d n) d tm v f)
    cases hb : Nat.blt d n with
    | false => trivial
    | true =>
      show RSD P w0 G N0 μ ops n b k cs m (putT tm d v f)
      rw [putT_eq]
      exact h (fun x hx => by cases hx; rwa [Nat.blt_eq] at hb)
theorem Val.keep {tm' : TM} (h : Val P G o tm H) (h1 : opA P G o tm' H = opA P G o tm H) (h2 : ∀ d, o.dst = some d → getT tm' d = getT tm d) : Val P G o tm' H := by
  obtain ⟨d, v, H1, a1, a2, a3⟩ := h
  refine ⟨d, v, H1, a1, h1.trans a2, ?_⟩
  rw [h2 d a1]; exact a3
theorem dregRun_cons (p : PItem) (rest : List PItem) : dregRun P G n ops (p :: rest) tm H = onWant ops tm p.op
    (fun _ => onOp (opA P G p.op tm H) (fun v H' => dregVal p.chk p.op.pos p.op.dst (fun P G n ops tm H => dregRun P G n ops rest tm H) P G n ops tm v H')
      (fun f args H' => onB p.fl (fun _ => .fail 7) (fun _ => .enterD f args (p :: rest) tm H')) (fun l args H' => onB p.fl (fun _ => .fail 7) (fun _ => .roundD l args (p :: rest) tm H')) (fun c => .failAt c p.op.pos))
    (fun _ => putK n tm p.op.dst (.tuple []) fun tm' => dregRun P G n ops rest tm' H) := rfl
theorem alloc_heap {op : Op} (h : isAlloc op = true) : heapOp op = true := by cases op <;> first | rfl | (simp [isAlloc] at h)
/-- A block without a place. -/
theorem HR.ghost (h : HR w0 G μ H w) (ob : AObj) : HR w0 G μ (H.push ob) w := by
  have hlt : ∀ b L, μ b = some L → b ≠ H.size := fun b L hL e => by rw [e, h.dom _ (Nat.le_refl _)] at hL; cases hL
  refine ⟨h.below, fun b hb => h.dom b (Nat.le_of_succ_le hb), fun b L hL hd => ?_, h.own, fun b c L K hb hc hL hK he => ?_, h.lt, fun b hb => ?_, Nat.le_succ_of_le h.gs⟩
  · rw [get_push, if_neg (hlt b L hL)] at hd ⊢
    exact h.obj b L hL hd
  · rw [get_push, if_neg (hlt b L hL)] at hb
    rw [get_push, if_neg (hlt c K hK)] at hc
    exact h.inj b c L K hb hc hL hK he
  · have hb' : H.size + 1 ≤ b := hb
    rw [get_push, if_neg (by omega)]
    exact h.live b (by omega)
/-- In the plan's order. -/
theorem dreg_sound {b : Frame} (hb : b.kind = .normal) {k : List Item} {cs : List Frame} : ∀ (is : List Nat) (items : List PItem) (A : Nat) (fl : List (Nat × Oper)) (sure : Nat) (c : List (Nat × Nat)) (S : Nat → Prop) (l : List Nat) (μ : Mu) (tm : TM) (a : Act) (H : AH) (w : World), build P ops is A fl sure c = some items →
    WT P G ops N0 H.size n A fl sure c S l μ tm a.tmps → DI P G ops A S tm H → HR w0 G μ H w → a.defers = b.defers → N0 ≤ H.size → RSD P w0 G N0 μ ops n b k cs (lone (b.atR a (.inRegion ops l :: k)) cs w) (dregRun P G n ops items tm H)
  | [], items, A, fl, sure, c, S, l, μ, tm, a, H, w, hbu, h, hdi, hh, hd, hN => by
    obtain ⟨rfl, hall⟩ := build_nil hbu
    obtain ⟨S', l', μ', a', w', g1, g2, g3, g4, g5, g6, g7⟩ := drain (P := P) (w0 := w0) (G := G) hb (k := k) (cs := cs) hN l S μ a w h hdi hh hd
    have hl' : l' = [] := by
      rcases g7 with g7 | ⟨x, r, hx, hA⟩
      · exact g7
      · exfalso
        have := g2.lin
        rw [hx] at this
        cases this with
        | cons _ o _ ho hn he t =>
        rw [hall x (Array.getElem?_eq_some_iff.1 ho).1] at hA
        cases hA
    subst hl'
    have hS : ∀ j, ¬ Ahead A S' j := fun j hj => by
      obtain ⟨oj, ho, _⟩ := g2.ds.fls j hj
      have hlin := g2.lin
      cases hlin with
      | nil hq => exact hj.2 (hq j (Array.getElem?_eq_some_iff.1 ho).1)
    exact ⟨μ', a', w', g1.trans (.one stepR_region_end), SR.clear ⟨g2.len, fun t => g2.sl t fun j o hj => absurd hj (hS j)⟩, g6, g4, g5, hN⟩
  | i :: is, items, A, fl, sure, c, S, l, μ, tm, a, H, w, hbu, h, hdi, hh, hd, hN => by
    obtain ⟨o, rest, ho, hA, hr, hcase⟩ := build_cons hbu
    have hsz := siz_sound (P := P) (G := G) (H := H) (o := o) (tm := tm)
    rcases hcase with ⟨hf, hfw, hdn, hbr, rfl⟩ | ⟨hf, hrd, hbr, rfl⟩
    · -- it floats
      rw [dregRun_cons]
      unfold onWant
      simp only []
      cases hw : wantA ops tm o with
      | none => trivial
      | some bw =>
      have hself : ∀ v, ∀ t ∈ o.looksAt ops, getT (tm.putO o.dst v) t = getT tm t := fun v t ht => get_putO_ne fun e => by
        obtain ⟨ed, hed, he⟩ := flow_look hfw ho e ht
        have := ready_iff.1 hr ed hed
        rw [he, hA] at this; cases this
      have hni : ¬ S i := fun hs => by rw [h.ds.sub i hs] at hA; cases hA
      cases bw with
      | false =>
        refine putK_RSD fun hdst => ?_
        have hw1 := h.floated (N' := H.size) (v := .tuple []) ho hA hr hf hfw hdn hdst hh.dom hN (Nat.le_refl _) hw (fun _ => rfl) (fun h => by cases h) (fun h => by cases h)
        refine dreg_sound hb is rest _ _ _ _ S l μ _ a H w hbr hw1 (fun j oj hj hoj hwj => ?_) hh hd hN
        rcases testBit_put.1 hj.1 with hj' | hj'
        · obtain ⟨k1, k2, k3⟩ := h.keep ho hA (.inl hfw) (v := .tuple []) ⟨hj', hj.2⟩ hoj
          rw [k2] at hwj
          exact (hdi j oj ⟨hj', hj.2⟩ hoj hwj).keep (k1 G H) k3
        · subst hj'
          rw [ho] at hoj
          cases hoj
          rw [(look_same (P := P) (G := G) (H := H) (hself _)).2, hw] at hwj
          cases hwj
      | true =>
        have hfl := float_shape (P := P) (G := G) (H := H) (o := o) (tm := tm) hf
        cases hop : opA P G o tm H with
        | val v H1 =>
          rw [hop] at hfl hsz
          refine putK_RSD fun hdst => ?_
          have hopself : ∀ H, opA P G o (tm.putO o.dst v) H = opA P G o tm H := fun H => (look_same (hself v)).1
          have hwself : wantA ops (tm.putO o.dst v) o = some true := by rw [(look_same (P := P) (G := G) (H := H) (hself v)).2]; exact hw
          generalize hchk : (if isAlloc o.op = true then ((fl ++ [(i, o)]).map (·.2)).filter (fun y => heapOp y.op) else []) = chk
          cases hc : chksB P G ops (tm.putO o.dst v) H1 chk with
          | false => simp only [onB]; trivial
          | true =>
          simp only [onB]
          cases hal : isAlloc o.op with
          | false =>
            rw [hal] at hfl
            have hH : H1 = H := by
              rcases hfl with ⟨hfl, _⟩ | ⟨hfl, _⟩
              · exact hfl
              · cases hfl
            subst hH
            have hw1 := h.floated (N' := H1.size) (v := v) ho hA hr hf hfw hdn hdst hh.dom hN (Nat.le_refl _) hw (fun h => by cases h) (fun _ h => by rw [hal] at h; cases h) (fun _ hhp => (pure_any hf hhp H1 v H1 hop).2)
            refine dreg_sound hb is rest _ _ _ _ S l μ _ a H1 w hbr hw1 (fun j oj hj hoj hwj => ?_) hh hd hN
            rcases testBit_put.1 hj.1 with hj' | hj'
            · obtain ⟨k1, k2, k3⟩ := h.keep ho hA (.inl hfw) (v := v) ⟨hj', hj.2⟩ hoj
              rw [k2] at hwj
              exact (hdi j oj ⟨hj', hj.2⟩ hoj hwj).keep (k1 G H1) k3
            · subst hj'
              rw [ho] at hoj
              cases hoj
              obtain ⟨d, hod⟩ := Option.ne_none_iff_exists'.1 hdn
              exact ⟨d, v, H1, hod, by rw [hopself]; exact hop, .inl ⟨rfl, get_putO_same hod⟩⟩
          | true =>
            rw [hal] at hfl hchk
            rw [if_pos rfl] at hchk
            have hnm : ∀ b, nameOf v = some b → b = H.size ∧ H.size < H1.size := fun b hb => by
              rcases hfl with ⟨rfl, hfl⟩ | ⟨_, ob, rfl, hfl⟩
              · have := hfl rfl
                split at this <;> first | cases hb | exact this.elim
              · refine ⟨?_, Nat.lt_succ_self _⟩
                rcases hfl with rfl | ⟨_, _, _, rfl⟩ | rfl <;> (cases hb; rfl)
            have hw1 := h.floated (N' := H1.size) (v := v) ho hA hr hf hfw hdn hdst hh.dom hN hsz hw (fun h => by cases h) (fun _ _ => hnm) (fun _ hhp => by rw [alloc_heap hal] at hhp; cases hhp)
            have hh1 : HR w0 G μ H1 w := by
              rcases hfl with ⟨rfl, _⟩ | ⟨_, ob, rfl, _⟩
              · exact hh
              · exact hh.ghost ob
            refine dreg_sound hb is rest _ _ _ _ S l μ _ a H1 w hbr hw1 (fun j oj hj hoj hwj => ?_) hh1 hd (Nat.le_trans hN hsz)
            obtain ⟨oj', k1, k2, _, k3, k4⟩ := hw1.ds.fls j hj
            rw [hoj] at k1
            cases k1
            cases hhp : heapOp oj.op with
            | false => exact hw1.val hj hoj hwj hhp _
            | true => exact chk_val (chks_get hc oj (by rw [← hchk]; exact List.mem_filter.2 ⟨List.mem_map.2 ⟨_, k4, rfl⟩, hhp⟩)) hwj k2
        | enter f args H' => rw [hop] at hfl; exact hfl.elim
        | round f args H' => rw [hop] at hfl; exact hfl.elim
        | _ => trivial
    · -- it acts
      obtain ⟨S', l', μ', a', w', g1, g2, g3, g4, g5, g6, g7⟩ := drain (P := P) (w0 := w0) (G := G) hb (k := k) (cs := cs) hN l S μ a w h hdi hh hd
      refine RSD.step g1 g5 ?_
      have hl' : ∃ r, l' = i :: r ∧ EdgesIn o S' := by
        have hlin := g2.lin
        rcases g7 with g7 | ⟨x, r, hx, hAx⟩
        · exfalso
          rw [g7] at hlin
          cases hlin with
          | nil hq =>
            have := g2.ds.sub i (hq i (Array.getElem?_eq_some_iff.1 ho).1)
            rw [hA] at this; cases this
        · rw [hx] at hlin
          cases hlin with
          | cons _ ox _ hox hn he t =>
          rcases hrd x ox hox with hr' | hr' | hr'
          · rw [hAx] at hr'; cases hr'
          · subst hr'
            rw [ho] at hox
            cases hox
            exact ⟨r, hx, he⟩
          · exfalso
            have : readyB A ox = true := ready_iff.2 fun e he' => g2.ds.sub _ (he e he')
            rw [hr'] at this; cases this
      obtain ⟨r, rfl, he⟩ := hl'
      obtain ⟨tm0, hs0, hl0⟩ := g2.sync ho he
      obtain ⟨hop0, hw0⟩ := look_same (P := P) (G := G) (H := H) hl0
      have hdef : ∀ v, (a'.put o.dst v).defers = b.defers := fun v => by cases o.dst <;> exact g6
      rw [dregRun_cons]
      unfold onWant
      simp only []
      cases hw : wantA ops tm o with
      | none => trivial
      | some bw =>
      have hwc : Region.wanted o (yielded ops a'.tmps) = bw := wantA_sound hs0 (by rw [hw0]; exact hw)
      have hah : ∀ j, Ahead (A ||| 2 ^ i) (fun j => S' j ∨ j = i) j → Ahead A S' j := fun j hj => ⟨(testBit_put.1 hj.1).resolve_right fun h => hj.2 (.inr h), fun h => hj.2 (.inl h)⟩
      cases bw with
      | false =>
        refine putK_RSD fun hdst => ?_
        have hs1 := stepR_op_skip (P := P) (b := b) (a := a') (k := k) (cs := cs) (w := w') (ops := ops) (i := i) (rest := r) (by rw [ho]; simpa using hwc)
        rw [ho] at hs1
        have hw1 := g2.acted (N' := H.size) (v := .tuple []) (u := undef) ho hA hr hdst (μ'.lx_refl _) (Nat.le_refl _) .undef
        refine RSD.step (.one hs1) (μ'.lx_refl _) (dreg_sound hb is rest _ _ _ _ _ r μ' _ _ H w' hbr hw1 (fun j oj hj hoj hwj => ?_) g4 (hdef _) hN)
        obtain ⟨k1, k2, k3⟩ := g2.keep ho hA (.inr he) (v := .tuple []) (hah j hj) hoj
        rw [k2] at hwj
        exact (g3 j oj (hah j hj) hoj hwj).keep (k1 G H) k3
      | true =>
        have hx := fun hnd => op_step (P := P) (w0 := w0) (G := G) (μ := μ') (H := H) (b := b) hb (k := k) (cs := cs) (l := r) ho hnd hwc (opA_sound g4 hs0.eval o)
        rw [hop0] at hx
        cases hop : opA P G o tm H with
        | val v H1 =>
          have hx := hx (not_defer hop trivial)
          rw [hop] at hx hsz
          obtain ⟨ν, w1, u, h1, h2, h3, h4⟩ := hx
          refine putK_RSD fun hdst => ?_
          generalize hchk : ((fl.filter fun y => !Nat.testBit (sure ||| 2 ^ i ||| closeN c o) y.1).map (·.2)).filter (fun y => heapOp y.op) = chk
          cases hc : chksB P G ops (tm.putO o.dst v) H1 chk with
          | false => simp only [onB]; trivial
          | true =>
          simp only [onB]
          have hw1 := g2.acted (N' := H1.size) ho hA hr hdst h4 hsz h2
          refine RSD.step (.one h1) (h4.weak hN) (dreg_sound hb is rest _ _ _ _ _ r ν _ _ H1 w1 hbr hw1 (fun j oj hj hoj hwj => ?_) h3 (hdef _) (Nat.le_trans hN hsz))
          obtain ⟨oj', k1, k2, _, k3, k4⟩ := hw1.ds.fls j hj
          rw [hoj] at k1
          cases k1
          cases hhp : heapOp oj.op with
          | false => exact hw1.val hj hoj hwj hhp _
          | true => exact chk_val (chks_get hc oj (by rw [← hchk]; exact List.mem_filter.2 ⟨List.mem_map.2 ⟨_, k4, rfl⟩, hhp⟩)) hwj k2
        | round f args H1 =>
          have hx := hx (not_defer hop trivial)
          rw [hop] at hx hsz
          obtain ⟨L, cargs, w1, h1, h2, h3, h4⟩ := hx
          refine ⟨μ', a', w', w1, i :: r, cargs, L, .refl _ _, h4, ⟨i, is, A, fl, sure, c, S', r, o, rfl, hbu, ho, hf, ?_⟩, g6, h3, μ'.lx_refl _, h1, h2, Nat.le_trans hN hsz⟩
          exact ⟨g2.so, g2.ds, g2.lin, g2.len, g2.sl, g2.dw, fun j b hj hg => let ⟨q1, q2, q3⟩ := g2.gh j b hj hg; ⟨q1, q2, Nat.lt_of_lt_of_le q3 hsz⟩, g2.gd⟩
        | enter f args H1 =>
          have hx := hx (not_defer hop trivial)
          rw [hop] at hx hsz
          obtain ⟨cargs, w1, h1, h2, h3, h4⟩ := hx
          refine ⟨μ', a', w1, i :: r, cargs, .one h1, ⟨i, is, A, fl, sure, c, S', r, o, rfl, hbu, ho, hf, ?_⟩, g6, h3, μ'.lx_refl _, h2, h4, Nat.le_trans hN hsz⟩
          exact ⟨g2.so, g2.ds, g2.lin, g2.len, g2.sl, g2.dw, fun j b hj hg => let ⟨q1, q2, q3⟩ := g2.gh j b hj hg; ⟨q1, q2, Nat.lt_of_lt_of_le q3 hsz⟩, g2.gd⟩
        | _ => trivial
end
end Go.Proofs.YtabllhhainepgaaGreatDoor.Ab
