/-
  The abstract machine: regions in their written order.
-/
import Derived.Test.YtmapmbfohilklaaGreatAbW3
import Derived.Calls
import Derived.AtR
namespace Go.Proofs.YtmapmbfohilklaaGreat.Ab
open Go.RowKit

section
variable {P : Program} {w0 w : World} {G N0 : Nat} {μ : Mu} {H : AH} {r : Result Next}
theorem wantA_sound {ops : Array Oper} {n : Nat} {tm : TM} {tmps : Array Value} (hs : SR μ n tm tmps) {o : Oper} {b : Bool} (h : wantA ops tm o = some b) : Region.wanted o (yielded ops tmps) = b := by
  unfold wantA at h
  unfold Region.wanted
  cases hg : o.guard with
  | none => rw [hg] at h; simpa using h
  | some g =>
    obtain ⟨j, want⟩ := g
    rw [hg] at h
    simp only [] at h ⊢
    unfold yielded
    cases hd : (ops[j]?).bind (·.dst) with
    | none =>
      rw [hd] at h
      simp only [Option.some.injEq] at h
      subst h
      simp
    | some d =>
      rw [hd] at h
      simp only [Option.bind_some] at h ⊢
      have hv := hs.2 d
      rw [Array.getD_eq_getD_getElem?] at hv
      cases hq : tmps[d]? with
      | none =>
        rw [hq] at hv
        simp only [Option.getD_none] at hv
        split at h
        · rename_i b' he
          rw [he] at hv
          cases hv
        · cases h
        · cases h
        · simp only [Option.some.injEq] at h; subst h; simp
      | some u =>
        rw [hq] at hv
        simp only [Option.getD_some] at hv
        split at h
        · rename_i b' he
          rw [he] at hv
          have := hv.bool_inv
          subst this
          simp only [Option.some.injEq] at h
          subst h
          simp
        · cases h
        · cases h
        · rename_i h1 h2 h3
          simp only [Option.some.injEq] at h
          subst h
          cases u with
          | bool b' =>
            generalize hgt : getT tm d = g at hv h1 h2 h3
            cases hv
            · exact absurd rfl h2
            · exact absurd rfl (h1 _)
            · exact absurd rfl h3
          | _ => simp
/-- What a region comes to. -/
def RS (P : Program) (w0 : World) (G N0 : Nat) (μ : Mu) (ops : Array Oper) (n : Nat) (b : Frame) (k : List Item) (cs : List Frame) (m : Machine) (x : X) : Prop :=
  match x with
  | .fin tm H => ∃ (μ' : Mu) (a : Act) (w : World), Steps P m (lone (b.atR a k) cs w) ∧ SR μ' n tm a.tmps ∧ a.defers = b.defers ∧ HR w0 G μ' H w ∧ μ.lx N0 μ' ∧ N0 ≤ H.size
  | .enterR f args rest tm H => ∃ (μ' : Mu) (a : Act) (w : World) (i : Nat) (cargs : Array Value), Steps P m (lone (Frame.enter P f cargs .normal) (b.atR a (.inRegion ops (List.range' i (ops.size - i)) :: k) :: cs) w) ∧
      rest = ops.toList.drop i ∧ SR μ' n tm a.tmps ∧ a.defers = b.defers ∧ HR w0 G μ' H w ∧ μ.lx N0 μ' ∧ LR μ' args cargs.toList ∧ callOk P f = true ∧ N0 ≤ H.size
  | .roundR l args rest tm H => ∃ (μ' : Mu) (a : Act) (w w' : World) (i : Nat) (cargs : Array Value) (L : Loc), Steps P m (lone (b.atR a (.inRegion ops (List.range' i (ops.size - i)) :: k)) cs w) ∧
      (∀ lo : Loop, w'.heap[L.blk]? = some (.loop lo) → cargs.size = lo.params.size → step P (lone (b.atR a (.inRegion ops (List.range' i (ops.size - i)) :: k)) cs w) =
        .next (lone (Frame.round L.blk lo.fn ((lo.params.zip cargs).foldl (fun tmps (t, a) => tmps.setIfInBounds t a) lo.tmps) lo.assign lo.body .normal) (b.atR a (.inRegion ops (List.range' i (ops.size - i)) :: k) :: cs) w')) ∧
      rest = ops.toList.drop i ∧ SR μ' n tm a.tmps ∧ a.defers = b.defers ∧ HR w0 G μ' H w' ∧ μ.lx N0 μ' ∧ μ' l = some L ∧ LR μ' args cargs.toList ∧ N0 ≤ H.size
  | .next .. => False
  | .done .. => False
  | _ => True
theorem RS.step {ops : Array Oper} {n : Nat} {b : Frame} {k : List Item} {cs : List Frame} {m m' : Machine} {x : X} {μ' : Mu} (h : Steps P m m') (hm : μ.lx N0 μ') (hx : RS P w0 G N0 μ' ops n b k cs m' x) : RS P w0 G N0 μ ops n b k cs m x := by
  cases x with
  | fin tm H => obtain ⟨ν, a, w, h1, h2, h3, h4, h5, h6⟩ := hx; exact ⟨ν, a, w, h.trans h1, h2, h3, h4, hm.trans h5, h6⟩
  | enterR f args rest tm H => obtain ⟨ν, a, w, i, cargs, h1, h2, h3, h4, h5, h6, h7⟩ := hx; exact ⟨ν, a, w, i, cargs, h.trans h1, h2, h3, h4, h5, hm.trans h6, h7⟩
  | roundR l args rest tm H => obtain ⟨ν, a, w, w', i, cargs, L, h1, h2, h3, h4, h5, h6, h7, h8⟩ := hx; exact ⟨ν, a, w, w', i, cargs, L, h.trans h1, h2, h3, h4, h5, h6, hm.trans h7, h8⟩
  | next => exact hx
  | done => exact hx
  | _ => trivial
theorem putK_sound {ops : Array Oper} {n : Nat} {b : Frame} {k : List Item} {cs : List Frame} {m : Machine} {tm : TM} {d : Option Tmp} {v : AV} {f : TM → X}
    (h : (∀ x, d = some x → x < n) → RS P w0 G N0 μ ops n b k cs m (f (tm.putO d v))) : RS P w0 G N0 μ ops n b k cs m (putK n tm d v f) := by
  cases d with
  | none => exact h (fun x hx => by cases hx)
  | some d =>
    show RS P w0 G N0 μ ops n b k cs m (Bool.rec (motive := fun _ => Nat → TM → AV → (TM → X) → X) (fun _ _ _ _ => .fail 1) (fun d tm v k => putT tm d v k) (Nat.blt d n) d tm v f)
    cases hb : Nat.blt d n with
    | false => trivial
    | true =>
      show RS P w0 G N0 μ ops n b k cs m (putT tm d v f)
      rw [putT_eq]
      exact h (fun x hx => by cases hx; rwa [Nat.blt_eq] at hb)
theorem range_drop {ops : Array Oper} {i : Nat} {o : Oper} {rest : List Oper} (h : o :: rest = ops.toList.drop i) : ops[i]? = some o ∧ rest = ops.toList.drop (i + 1) ∧ List.range' i (ops.size - i) = i :: List.range' (i + 1) (ops.size - (i + 1)) := by
  have h1 : ops.toList[i]? = some o := by
    have := congrArg (fun l => l[0]?) h
    simpa using this.symm
  have hi : i < ops.size := by have := (List.getElem?_eq_some_iff.1 h1).1; simpa using this
  refine ⟨by simpa using h1, ?_, ?_⟩
  · have := congrArg List.tail h
    simpa [List.drop_drop] using this
  · rw [show ops.size - i = (ops.size - (i + 1)) + 1 by omega, List.range'_succ]
/-- An operation carried out, in a region's place i. -/
theorem op_step {ops : Array Oper} {b : Frame} (hb : b.kind = .normal) {a : Act} {k : List Item} {cs : List Frame} {i : Nat} {l : List Nat} {o : Oper} (ho : ops[i]? = some o) (hnd : ∀ c, o.op ≠ .defer c) (hw : Region.wanted o (yielded ops a.tmps) = true) {x : X} (hx : XR P w0 G μ H.size x ((execOp a.eval o).run P w)) :
    match (generalizing := false) x with
    | .val v H' => ∃ (μ' : Mu) (w' : World) (u : Value), step P (lone (b.atR a (.inRegion ops (i :: l) :: k)) cs w) = .next (lone (b.atR (a.put o.dst u) (.inRegion ops l :: k)) cs w') ∧ VR μ' v u ∧ HR w0 G μ' H' w' ∧ μ.lx H.size μ'
    | .enter f args H' => ∃ (cargs : Array Value) (w' : World), step P (lone (b.atR a (.inRegion ops (i :: l) :: k)) cs w) = .next (lone (Frame.enter P f cargs .normal) (b.atR a (.inRegion ops (i :: l) :: k) :: cs) w') ∧ LR μ args cargs.toList ∧ HR w0 G μ H' w' ∧ callOk P f = true
    | .round r args H' => ∃ (L : Loc) (cargs : Array Value) (w' : World), μ r = some L ∧ LR μ args cargs.toList ∧ HR w0 G μ H' w' ∧
        ∀ lo : Loop, w'.heap[L.blk]? = some (.loop lo) → cargs.size = lo.params.size → step P (lone (b.atR a (.inRegion ops (i :: l) :: k)) cs w) =
          .next (lone (Frame.round L.blk lo.fn ((lo.params.zip cargs).foldl (fun tmps (t, a) => tmps.setIfInBounds t a) lo.tmps) lo.assign lo.body .normal) (b.atR a (.inRegion ops (i :: l) :: k) :: cs) w')
    | _ => True := by
  have hg := stepGR_op (P := P) (b := b) (k := k) (cs := cs) (w := w) (rest := l) ho hw
  rw [Oper.semAt_eq _ _ _ hnd] at hg
  have hfin : ∀ v, (b.atR a (.inRegion ops (i :: l) :: k)).finish v = b.atR (a.put o.dst v) (.inRegion ops l :: k) := by
    intro v; rw [Frame.finish_atR, ho]; rfl
  cases x with
  | val v H' =>
    obtain ⟨μ', w', u, hr, h1, h2, h3⟩ := hx
    rcases hr with hr | ⟨hr, hu⟩
    · refine ⟨μ', w', u, step_lone_go ?_, h1, h2, h3⟩
      rw [hg, ← hfin]; simp [stepG.apply, hr]
    · refine ⟨μ', w', u, step_lone_go ?_, h1, h2, h3⟩
      rw [hg, ← hfin, hu]; simp [stepG.apply, hr]
  | enter f args H' =>
    obtain ⟨cargs, w', hr, h1, h2, h3⟩ := hx
    refine ⟨cargs, w', step_lone_go ?_, h1, h2, h3⟩
    rw [hg]; simp [stepG.apply, hr, Frame.atR]
  | round r args H' =>
    obtain ⟨L, cargs, w', h1, h2, h3, hr⟩ := hx
    refine ⟨L, cargs, w', h1, h2, h3, fun lo hlo hs => step_lone_go ?_⟩
    rw [hg]; simp [stepG.apply, hr lo hlo hs, Frame.atR]
  | _ => trivial
theorem not_defer {o : Oper} {tm : TM} {x : X} (h : opA P G o tm H = x) (hx : match (generalizing := false) x with | .fail _ => False | _ => True) : ∀ c, o.op ≠ .defer c := fun c hc => by
  have : opA P G o tm H = .fail 326 := by unfold opA; rw [hc]
  rw [← h, this] at hx; exact hx
theorem reg_sound {ops : Array Oper} {n : Nat} {b : Frame} (hb : b.kind = .normal) {k : List Item} {cs : List Frame} : ∀ (rest : List Oper) (i : Nat) (μ : Mu) (tm : TM) (a : Act) (H : AH) (w : World), rest = ops.toList.drop i → SR μ n tm a.tmps → a.defers = b.defers → HR w0 G μ H w → N0 ≤ H.size → RS P w0 G N0 μ ops n b k cs (lone (b.atR a (.inRegion ops (List.range' i (ops.size - i)) :: k)) cs w) (regRun P G n ops rest tm H)
  | [], i, μ, tm, a, H, w, hr, hs, hd, hh, hN => by
    have : ops.size - i = 0 := by
      have := congrArg List.length hr
      simp at this; omega
    rw [this]
    exact ⟨μ, a, w, .one stepR_region_end, hs.clear, hd, hh, μ.lx_refl _, hN⟩
  | o :: rest, i, μ, tm, a, H, w, hr, hs, hd, hh, hN => by
    obtain ⟨ho, hr', hl⟩ := range_drop hr
    rw [hl]
    have hrun : Region.wanted o (yielded ops a.tmps) = true → RS P w0 G N0 μ ops n b k cs (lone (b.atR a (.inRegion ops (i :: List.range' (i + 1) (ops.size - (i + 1))) :: k)) cs w) (regOp o rest (fun P G n ops tm H => regRun P G n ops rest tm H) P G n ops tm H) := fun hw => by
      have hz := siz_sound (P := P) (G := G) (H := H) (o := o) (tm := tm)
      have hx := fun hnd => op_step (P := P) (w0 := w0) (G := G) (μ := μ) (H := H) (b := b) hb (k := k) (cs := cs) (l := List.range' (i + 1) (ops.size - (i + 1))) ho hnd hw (opA_sound hh hs.eval o)
      unfold regOp
      cases hop : opA P G o tm H with
      | val v H' =>
        have hx := hx (not_defer hop trivial)
        rw [hop] at hx hz
        obtain ⟨μ', w', u, h1, h2, h3, h4⟩ := hx
        refine putK_sound fun hdst => ?_
        exact RS.step (.one h1) (h4.weak hN) (reg_sound hb rest (i + 1) μ' _ _ H' w' hr' ((hs.mono h4.1).putAct hdst h2) (by cases o.dst <;> exact hd) h3 (Nat.le_trans hN hz))
      | enter f args H' =>
        have hx := hx (not_defer hop trivial)
        rw [hop] at hx hz
        obtain ⟨cargs, w', h1, h2, h3, h4⟩ := hx
        exact ⟨μ, a, w', i, cargs, by rw [hl]; exact .one h1, hr, hs, hd, h3, μ.lx_refl _, h2, h4, Nat.le_trans hN hz⟩
      | round f args H' =>
        have hx := hx (not_defer hop trivial)
        rw [hop] at hx hz
        obtain ⟨L, cargs, w', h1, h2, h3, h4⟩ := hx
        rw [← hl] at h4
        exact ⟨μ, a, w, w', i, cargs, L, by rw [hl]; exact .refl _ _, h4, hr, hs, hd, h3, μ.lx_refl _, h1, h2, Nat.le_trans hN hz⟩
      | _ => trivial
    have hskip : Region.wanted o (yielded ops a.tmps) = false → RS P w0 G N0 μ ops n b k cs (lone (b.atR a (.inRegion ops (i :: List.range' (i + 1) (ops.size - (i + 1))) :: k)) cs w) (putK n tm o.dst (.tuple []) fun tm' => regRun P G n ops rest tm' H) := fun hw => by
      refine putK_sound fun hdst => ?_
      have hs1 := stepR_op_skip (P := P) (b := b) (a := a) (k := k) (cs := cs) (w := w) (ops := ops) (i := i) (rest := List.range' (i + 1) (ops.size - (i + 1))) (by rw [ho]; simpa using hw)
      rw [ho] at hs1
      exact RS.step (.one hs1) (μ.lx_refl _) (reg_sound hb rest (i + 1) μ _ _ H w hr' (hs.putAct hdst .undef) (by show (a.put o.dst undef).defers = b.defers; cases o.dst <;> exact hd) hh hN)
    show RS P w0 G N0 μ ops n b k cs _ (Option.rec (motive := fun _ => Oper → List Oper → RCont → RCont) (fun o rest ih P G n ops tm H => regOp o rest ih P G n ops tm H)
        (fun _ o rest ih P G n ops tm H => onWant ops tm o (fun _ => regOp o rest ih P G n ops tm H) (fun _ => putK n tm o.dst (.tuple []) fun tm' => ih P G n ops tm' H))
        o.guard o rest (fun P G n ops tm H => regRun P G n ops rest tm H) P G n ops tm H)
    cases hg : o.guard with
    | none => exact hrun (by unfold Region.wanted; rw [hg])
    | some g =>
      show RS P w0 G N0 μ ops n b k cs _ (onWant ops tm o _ _)
      unfold onWant
      cases hw : wantA ops tm o with
      | none => trivial
      | some t =>
        cases t
        · exact hskip (wantA_sound hs hw)
        · exact hrun (wantA_sound hs hw)
end
end Go.Proofs.YtmapmbfohilklaaGreat.Ab
