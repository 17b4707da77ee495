/-
  The abstract machine: regions that draw their order: the run.
-/
import Derived.Test.YtmapmbfohilklaaGreatAbX2
namespace Go.Proofs.YtmapmbfohilklaaGreat.Ab
open Go.RowKit

section
variable {P : Program} {w0 w : World} {G N0 N n : Nat} {μ ν : Mu} {H : AH} {ops : Array Oper} {A sure : Nat} {fl : List (Nat × Oper)} {c : List (Nat × Nat)} {S : Nat → Prop} {l : List Nat} {tm : TM} {tmps : Array Value} {o : Oper} {i : Nat}
def DI (P : Program) (G : Nat) (ops : Array Oper) (A : Nat) (S : Nat → Prop) (tm : TM) (H : AH) : Prop := ∀ j o, Ahead A S j → ops[j]? = some o → wantA ops tm o = some true → Val P G o tm H
/-- What was carried out ahead comes up there: one step. -/
theorem ahead_step {b : Frame} (hb : b.kind = .normal) {a : Act} {k : List Item} {cs : List Frame} (h : WT P G ops N0 H.size n A fl sure c S (i :: l) μ tm a.tmps) (hA : Nat.testBit A i = true) (hdi : DI P G ops A S tm H) (hh : HR w0 G μ H w) (hd : a.defers = b.defers) (hN : N0 ≤ H.size) :
    ∃ (μ' : Mu) (a' : Act) (w' : World), step P (lone (b.atR a (.inRegion ops (i :: l) :: k)) cs w) = .next (lone (b.atR a' (.inRegion ops l :: k)) cs w') ∧ WT P G ops N0 H.size n A fl sure c (fun j => S j ∨ j = i) l μ' tm a'.tmps ∧ HR w0 G μ' H w' ∧ μ.lx N0 μ' ∧ a'.defers = b.defers := by
  have hlin := h.lin
  cases hlin with
  | cons _ o _ ho hn he t =>
  have hai : Ahead A S i := ⟨hA, hn⟩
  obtain ⟨tm0, hs0, hl0⟩ := h.sync ho he
  obtain ⟨hop0, hw0⟩ := look_same (P := P) (G := G) (H := H) hl0
  obtain ⟨hdn, bw, hw, hun, _⟩ := h.dw i o hai ho
  have hwc : Region.wanted o (yielded ops a.tmps) = bw := wantA_sound hs0 (by rw [hw0]; exact hw)
  have hdef : ∀ v, (a.put o.dst v).defers = b.defers := fun v => by cases o.dst <;> exact hd
  cases bw with
  | false =>
    have hs1 := stepR_op_skip (P := P) (b := b) (a := a) (k := k) (cs := cs) (w := w) (ops := ops) (i := i) (rest := l) (by rw [ho]; simpa using hwc)
    rw [ho] at hs1
    exact ⟨μ, _, w, hs1, h.took hA ho μ.le_refl (fun j b' hj _ hg => (h.gh j b' hj hg).1) (fun d hd => by rw [hun rfl d hd]; exact .undef), hh, μ.lx_refl _, hdef _⟩
  | true =>
    obtain ⟨d, v, H1, hod, hop, hval⟩ := hdi i o hai ho hw
    have hx := op_step (P := P) (w0 := w0) (G := G) (μ := μ) (H := H) (b := b) hb (k := k) (cs := cs) (l := l) ho (not_defer hop trivial) hwc (opA_sound hh hs0.eval o)
    rw [hop0, hop] at hx
    obtain ⟨μ', w', u, h1, h2, h3, h4⟩ := hx
    rcases hval with ⟨rfl, hv⟩ | ⟨b', ob, hal, rfl, hsn, hbl, hob⟩
    · refine ⟨μ', _, w', h1, h.took hA ho h4.1 (fun j b' hj _ hg => ?_) (fun d' hd' => ?_), h3, h4.weak hN, hdef _⟩
      · obtain ⟨g1, _, g3⟩ := h.gh j b' hj hg
        rw [h4.2 b' g3]; exact g1
      · rw [hod] at hd'; cases hd'; rw [hv]; exact h2
    · obtain ⟨_, hnm, hsv⟩ := sameNew_sound (ν := μ') hsn
      obtain ⟨L, hL, hξ⟩ := hsv h2
      have hgn : GN ops tm i b' := ⟨o, d, ho, hal, hw, hod, hnm⟩
      obtain ⟨g1, g2, g3⟩ := h.gh i b' hai hgn
      obtain ⟨ξ, k1, k2, k3, k4⟩ := hh.place h3 h4 hbl g1 hob hL
      refine ⟨ξ, _, w', h1, h.took hA ho k2 (fun j b'' hj hne hg => ?_) (fun d' hd' => ?_), k1, ⟨k2, fun q hq => k3 q (by omega) (by omega)⟩, hdef _⟩
      · obtain ⟨e1, _, e3⟩ := h.gh j b'' hj hg
        have : b'' ≠ b' := fun e => hne (h.gd j i b' hj hai (by rw [← e]; exact hg) hgn)
        rw [k3 b'' e3 this]; exact e1
      · rw [hod] at hd'; cases hd'; exact hξ ξ k4
/-- What was carried out ahead and may come up comes up, until one stands next that was not. -/
theorem drain {b : Frame} (hb : b.kind = .normal) {k : List Item} {cs : List Frame} (hN : N0 ≤ H.size) : ∀ (l : List Nat) (S : Nat → Prop) (μ : Mu) (a : Act) (w : World), WT P G ops N0 H.size n A fl sure c S l μ tm a.tmps → DI P G ops A S tm H → HR w0 G μ H w → a.defers = b.defers →
    ∃ (S' : Nat → Prop) (l' : List Nat) (μ' : Mu) (a' : Act) (w' : World), Steps P (lone (b.atR a (.inRegion ops l :: k)) cs w) (lone (b.atR a' (.inRegion ops l' :: k)) cs w') ∧ WT P G ops N0 H.size n A fl sure c S' l' μ' tm a'.tmps ∧ DI P G ops A S' tm H ∧ HR w0 G μ' H w' ∧ μ.lx N0 μ' ∧ a'.defers = b.defers ∧
      (l' = [] ∨ ∃ x r, l' = x :: r ∧ Nat.testBit A x = false)
  | [], S, μ, a, w, h, hdi, hh, hd => ⟨S, [], μ, a, w, .refl _ _, h, hdi, hh, μ.lx_refl _, hd, .inl rfl⟩
  | x :: l, S, μ, a, w, h, hdi, hh, hd => by
    cases hA : Nat.testBit A x with
    | false => exact ⟨S, x :: l, μ, a, w, .refl _ _, h, hdi, hh, μ.lx_refl _, hd, .inr ⟨x, l, rfl, hA⟩⟩
    | true =>
      obtain ⟨μ1, a1, w1, h1, h2, h3, h4, h5⟩ := ahead_step (cs := cs) (k := k) hb h hA hdi hh hd hN
      obtain ⟨S', l', μ', a', w', g1, g2, g3, g4, g5, g6, g7⟩ := drain hb (k := k) (cs := cs) hN l _ μ1 a1 w1 h2 (fun j o hj => hdi j o ⟨hj.1, fun h => hj.2 (.inl h)⟩) h3 h5
      exact ⟨S', l', μ', a', w', .trans (.one h1) g1, g2, g3, g4, h4.trans g5, g6, g7⟩
/-- A call waits in a region that draws. -/
def DWait (P : Program) (G : Nat) (ops : Array Oper) (N0 N n : Nat) (items : List PItem) (lst : List Nat) (μ : Mu) (tm : TM) (tmps : Array Value) : Prop :=
  ∃ (x : Nat) (is : List Nat) (A : Nat) (fl : List (Nat × Oper)) (sure : Nat) (c : List (Nat × Nat)) (S : Nat → Prop) (l : List Nat) (o : Oper), lst = x :: l ∧ build P ops (x :: is) A fl sure c = some items ∧ ops[x]? = some o ∧ floatB P ops x o = false ∧ WT P G ops N0 N n A fl sure c S lst μ tm tmps
/-- A region that draws stands next, what is ahead to be asked again. -/
def DRun (P : Program) (G : Nat) (ops : Array Oper) (N0 N n : Nat) (chk : List Oper) (items : List PItem) (lst : List Nat) (μ : Mu) (tm : TM) (tmps : Array Value) : Prop :=
  ∃ (is : List Nat) (A : Nat) (fl : List (Nat × Oper)) (sure : Nat) (c : List (Nat × Nat)) (S : Nat → Prop), build P ops is A fl sure c = some items ∧ WT P G ops N0 N n A fl sure c S lst μ tm tmps ∧ ∀ j o, Ahead A S j → ops[j]? = some o → heapOp o.op = true → o ∈ chk
/-- What a region that draws comes to. -/
def RSD (P : Program) (w0 : World) (G N0 : Nat) (μ : Mu) (ops : Array Oper) (n : Nat) (b : Frame) (k : List Item) (cs : List Frame) (m : Machine) (x : X) : Prop :=
  match x with
  | .fin tm H => ∃ (μ' : Mu) (a : Act) (w : World), Steps P m (lone (b.atR a k) cs w) ∧ SR μ' n tm a.tmps ∧ a.defers = b.defers ∧ HR w0 G μ' H w ∧ μ.lx N0 μ' ∧ N0 ≤ H.size
  | .enterD f args rest tm H => ∃ (μ' : Mu) (a : Act) (w : World) (lst : List Nat) (cargs : Array Value), Steps P m (lone (Frame.enter P f cargs .normal) (b.atR a (.inRegion ops lst :: k) :: cs) w) ∧
      DWait P G ops N0 H.size n rest lst μ' tm a.tmps ∧ a.defers = b.defers ∧ HR w0 G μ' H w ∧ μ.lx N0 μ' ∧ LR μ' args cargs.toList ∧ callOk P f = true ∧ N0 ≤ H.size
  | .roundD r args rest tm H => ∃ (μ' : Mu) (a : Act) (w w' : World) (lst : List Nat) (cargs : Array Value) (L : Loc), Steps P m (lone (b.atR a (.inRegion ops lst :: k)) cs w) ∧
      (∀ lo : Loop, w'.heap[L.blk]? = some (.loop lo) → cargs.size = lo.params.size → step P (lone (b.atR a (.inRegion ops lst :: k)) cs w) =
        .next (lone (Frame.round L.blk lo.fn ((lo.params.zip cargs).foldl (fun tmps (t, a) => tmps.setIfInBounds t a) lo.tmps) lo.assign lo.body .normal) (b.atR a (.inRegion ops lst :: k) :: cs) w')) ∧
      DWait P G ops N0 H.size n rest lst μ' tm a.tmps ∧ a.defers = b.defers ∧ HR w0 G μ' H w' ∧ μ.lx N0 μ' ∧ μ' r = some L ∧ LR μ' args cargs.toList ∧ N0 ≤ H.size
  | .next .. => False
  | .done .. => False
  | _ => True
theorem RSD.step {b : Frame} {k : List Item} {cs : List Frame} {m m' : Machine} {x : X} {μ' : Mu} (h : Steps P m m') (hm : μ.lx N0 μ') (hx : RSD P w0 G N0 μ' ops n b k cs m' x) : RSD P w0 G N0 μ ops n b k cs m x := by
  cases x with
  | fin tm H => obtain ⟨ν, a, w, h1, h2, h3, h4, h5, h6⟩ := hx; exact ⟨ν, a, w, h.trans h1, h2, h3, h4, hm.trans h5, h6⟩
  | enterD f args rest tm H => obtain ⟨ν, a, w, i, cargs, h1, h3, h4, h5, h6, h7⟩ := hx; exact ⟨ν, a, w, i, cargs, h.trans h1, h3, h4, h5, hm.trans h6, h7⟩
  | roundD r args rest tm H => obtain ⟨ν, a, w, w', i, cargs, L, h1, h2, h3, h4, h5, h6, h7⟩ := hx; exact ⟨ν, a, w, w', i, cargs, L, h.trans h1, h2, h3, h4, h5, hm.trans h6, h7⟩
  | next => exact hx
  | done => exact hx
  | _ => trivial
theorem putK_RSD {b : Frame} {k : List Item} {cs : List Frame} {m : Machine} {d : Option Tmp} {v : AV} {f : TM → X}
    (h : (∀ x, d = some x → x < n) → RSD P w0 G N0 μ ops n b k cs m (f (tm.putO d v))) : RSD P w0 G N0 μ ops n b k cs m (putK n tm d v f) := by
  cases d with
  | none => exact h (fun x hx => by cases hx)
  | some d =>
    show RSD P w0 G N0 μ ops n b k cs m (Bool.rec (motive := fun _ => Nat → TM → AV → (TM → X) → X) (fun _ _ _ _ => .fail 1) (fun d tm v k => putT tm d v k) (Nat.blt d n) d tm v f)
    cases hb : Nat.blt d n with
    | false => trivial
    | true =>
      show RSD P w0 G N0 μ ops n b k cs m (putT tm d v f)
      rw [putT_eq]
      exact h (fun x hx => by cases hx; rwa [Nat.blt_eq] at hb)
theorem Val.keep {tm' : TM} (h : Val P G o tm H) (h1 : opA P G o tm' H = opA P G o tm H) (h2 : ∀ d, o.dst = some d → getT tm' d = getT tm d) : Val P G o tm' H := by
  obtain ⟨d, v, H1, a1, a2, a3⟩ := h
  refine ⟨d, v, H1, a1, h1.trans a2, ?_⟩
  rw [h2 d a1]; exact a3
theorem dregRun_cons (p : PItem) (rest : List PItem) : dregRun P G n ops (p :: rest) tm H = onWant ops tm p.op
    (fun _ => onOp (opA P G p.op tm H) (fun v H' => dregVal p.chk p.op.pos p.op.dst (fun P G n ops tm H => dregRun P G n ops rest tm H) P G n ops tm v H')
      (fun f args H' => onB p.fl (fun _ => .fail 7) (fun _ => .enterD f args (p :: rest) tm H')) (fun l args H' => onB p.fl (fun _ => .fail 7) (fun _ => .roundD l args (p :: rest) tm H')) (fun c => .failAt c p.op.pos))
    (fun _ => putK n tm p.op.dst (.tuple []) fun tm' => dregRun P G n ops rest tm' H) := rfl
theorem alloc_heap {op : Op} (h : isAlloc op = true) : heapOp op = true := by cases op <;> first | rfl | (simp [isAlloc] at h)
/-- A block without a place. -/
theorem HR.ghost (h : HR w0 G μ H w) (ob : AObj) : HR w0 G μ (H.push ob) w := by
  have hlt : ∀ b L, μ b = some L → b ≠ H.size := fun b L hL e => by rw [e, h.dom _ (Nat.le_refl _)] at hL; cases hL
  refine ⟨h.below, fun b hb => h.dom b (Nat.le_of_succ_le hb), fun b L hL hd => ?_, h.own, fun b c L K hb hc hL hK he => ?_, h.lt, fun b hb => ?_, Nat.le_succ_of_le h.gs⟩
  · rw [get_push, if_neg (hlt b L hL)] at hd ⊢
    exact h.obj b L hL hd
  · rw [get_push, if_neg (hlt b L hL)] at hb
    rw [get_push, if_neg (hlt c K hK)] at hc
    exact h.inj b c L K hb hc hL hK he
  · have hb' : H.size + 1 ≤ b := hb
    rw [get_push, if_neg (by omega)]
    exact h.live b (by omega)
/-- In the plan's order. -/
theorem dreg_sound {b : Frame} (hb : b.kind = .normal) {k : List Item} {cs : List Frame} : ∀ (is : List Nat) (items : List PItem) (A : Nat) (fl : List (Nat × Oper)) (sure : Nat) (c : List (Nat × Nat)) (S : Nat → Prop) (l : List Nat) (μ : Mu) (tm : TM) (a : Act) (H : AH) (w : World), build P ops is A fl sure c = some items →
    WT P G ops N0 H.size n A fl sure c S l μ tm a.tmps → DI P G ops A S tm H → HR w0 G μ H w → a.defers = b.defers → N0 ≤ H.size → RSD P w0 G N0 μ ops n b k cs (lone (b.atR a (.inRegion ops l :: k)) cs w) (dregRun P G n ops items tm H)
  | [], items, A, fl, sure, c, S, l, μ, tm, a, H, w, hbu, h, hdi, hh, hd, hN => by
    obtain ⟨rfl, hall⟩ := build_nil hbu
    obtain ⟨S', l', μ', a', w', g1, g2, g3, g4, g5, g6, g7⟩ := drain (P := P) (w0 := w0) (G := G) hb (k := k) (cs := cs) hN l S μ a w h hdi hh hd
    have hl' : l' = [] := by
      rcases g7 with g7 | ⟨x, r, hx, hA⟩
      · exact g7
      · exfalso
        have := g2.lin
        rw [hx] at this
        cases this with
        | cons _ o _ ho hn he t =>
        rw [hall x (Array.getElem?_eq_some_iff.1 ho).1] at hA
        cases hA
    subst hl'
    have hS : ∀ j, ¬ Ahead A S' j := fun j hj => by
      obtain ⟨oj, ho, _⟩ := g2.ds.fls j hj
      have hlin := g2.lin
      cases hlin with
      | nil hq => exact hj.2 (hq j (Array.getElem?_eq_some_iff.1 ho).1)
    exact ⟨μ', a', w', g1.trans (.one stepR_region_end), SR.clear ⟨g2.len, fun t => g2.sl t fun j o hj => absurd hj (hS j)⟩, g6, g4, g5, hN⟩
  | i :: is, items, A, fl, sure, c, S, l, μ, tm, a, H, w, hbu, h, hdi, hh, hd, hN => by
    obtain ⟨o, rest, ho, hA, hr, hcase⟩ := build_cons hbu
    have hsz := siz_sound (P := P) (G := G) (H := H) (o := o) (tm := tm)
    rcases hcase with ⟨hf, hfw, hdn, hbr, rfl⟩ | ⟨hf, hrd, hbr, rfl⟩
    · -- it floats
      rw [dregRun_cons]
      unfold onWant
      simp only []
      cases hw : wantA ops tm o with
      | none => trivial
      | some bw =>
      have hself : ∀ v, ∀ t ∈ o.looksAt ops, getT (tm.putO o.dst v) t = getT tm t := fun v t ht => get_putO_ne fun e => by
        obtain ⟨ed, hed, he⟩ := flow_look hfw ho e ht
        have := ready_iff.1 hr ed hed
        rw [he, hA] at this; cases this
      have hni : ¬ S i := fun hs => by rw [h.ds.sub i hs] at hA; cases hA
      cases bw with
      | false =>
        refine putK_RSD fun hdst => ?_
        have hw1 := h.floated (N' := H.size) (v := .tuple []) ho hA hr hf hfw hdn hdst hh.dom hN (Nat.le_refl _) hw (fun _ => rfl) (fun h => by cases h) (fun h => by cases h)
        refine dreg_sound hb is rest _ _ _ _ S l μ _ a H w hbr hw1 (fun j oj hj hoj hwj => ?_) hh hd hN
        rcases testBit_put.1 hj.1 with hj' | hj'
        · obtain ⟨k1, k2, k3⟩ := h.keep ho hA (.inl hfw) (v := .tuple []) ⟨hj', hj.2⟩ hoj
          rw [k2] at hwj
          exact (hdi j oj ⟨hj', hj.2⟩ hoj hwj).keep (k1 G H) k3
        · subst hj'
          rw [ho] at hoj
          cases hoj
          rw [(look_same (P := P) (G := G) (H := H) (hself _)).2, hw] at hwj
          cases hwj
      | true =>
        have hfl := float_shape (P := P) (G := G) (H := H) (o := o) (tm := tm) hf
        cases hop : opA P G o tm H with
        | val v H1 =>
          rw [hop] at hfl hsz
          refine putK_RSD fun hdst => ?_
          have hopself : ∀ H, opA P G o (tm.putO o.dst v) H = opA P G o tm H := fun H => (look_same (hself v)).1
          have hwself : wantA ops (tm.putO o.dst v) o = some true := by rw [(look_same (P := P) (G := G) (H := H) (hself v)).2]; exact hw
          generalize hchk : (if isAlloc o.op = true then ((fl ++ [(i, o)]).map (·.2)).filter (fun y => heapOp y.op) else []) = chk
          cases hc : chksB P G ops (tm.putO o.dst v) H1 chk with
          | false => simp only [onB]; trivial
          | true =>
          simp only [onB]
          cases hal : isAlloc o.op with
          | false =>
            rw [hal] at hfl
            have hH : H1 = H := by
              rcases hfl with ⟨hfl, _⟩ | ⟨hfl, _⟩
              · exact hfl
              · cases hfl
            subst hH
            have hw1 := h.floated (N' := H1.size) (v := v) ho hA hr hf hfw hdn hdst hh.dom hN (Nat.le_refl _) hw (fun h => by cases h) (fun _ h => by rw [hal] at h; cases h) (fun _ hhp => (pure_any hf hhp H1 v H1 hop).2)
            refine dreg_sound hb is rest _ _ _ _ S l μ _ a H1 w hbr hw1 (fun j oj hj hoj hwj => ?_) hh hd hN
            rcases testBit_put.1 hj.1 with hj' | hj'
            · obtain ⟨k1, k2, k3⟩ := h.keep ho hA (.inl hfw) (v := v) ⟨hj', hj.2⟩ hoj
              rw [k2] at hwj
              exact (hdi j oj ⟨hj', hj.2⟩ hoj hwj).keep (k1 G H1) k3
            · subst hj'
              rw [ho] at hoj
              cases hoj
              obtain ⟨d, hod⟩ := Option.ne_none_iff_exists'.1 hdn
              exact ⟨d, v, H1, hod, by rw [hopself]; exact hop, .inl ⟨rfl, get_putO_same hod⟩⟩
          | true =>
            rw [hal] at hfl hchk
            rw [if_pos rfl] at hchk
            have hnm : ∀ b, nameOf v = some b → b = H.size ∧ H.size < H1.size := fun b hb => by
              rcases hfl with ⟨rfl, hfl⟩ | ⟨_, ob, rfl, hfl⟩
              · have := hfl rfl
                split at this <;> first | cases hb | exact this.elim
              · refine ⟨?_, Nat.lt_succ_self _⟩
                rcases hfl with rfl | ⟨_, _, _, rfl⟩ | rfl <;> (cases hb; rfl)
            have hw1 := h.floated (N' := H1.size) (v := v) ho hA hr hf hfw hdn hdst hh.dom hN hsz hw (fun h => by cases h) (fun _ _ => hnm) (fun _ hhp => by rw [alloc_heap hal] at hhp; cases hhp)
            have hh1 : HR w0 G μ H1 w := by
              rcases hfl with ⟨rfl, _⟩ | ⟨_, ob, rfl, _⟩
              · exact hh
              · exact hh.ghost ob
            refine dreg_sound hb is rest _ _ _ _ S l μ _ a H1 w hbr hw1 (fun j oj hj hoj hwj => ?_) hh1 hd (Nat.le_trans hN hsz)
            obtain ⟨oj', k1, k2, _, k3, k4⟩ := hw1.ds.fls j hj
            rw [hoj] at k1
            cases k1
            cases hhp : heapOp oj.op with
            | false => exact hw1.val hj hoj hwj hhp _
            | true => exact chk_val (chks_get hc oj (by rw [← hchk]; exact List.mem_filter.2 ⟨List.mem_map.2 ⟨_, k4, rfl⟩, hhp⟩)) hwj k2
        | enter f args H' => rw [hop] at hfl; exact hfl.elim
        | round f args H' => rw [hop] at hfl; exact hfl.elim
        | _ => trivial
    · -- it acts
      obtain ⟨S', l', μ', a', w', g1, g2, g3, g4, g5, g6, g7⟩ := drain (P := P) (w0 := w0) (G := G) hb (k := k) (cs := cs) hN l S μ a w h hdi hh hd
      refine RSD.step g1 g5 ?_
      have hl' : ∃ r, l' = i :: r ∧ EdgesIn o S' := by
        have hlin := g2.lin
        rcases g7 with g7 | ⟨x, r, hx, hAx⟩
        · exfalso
          rw [g7] at hlin
          cases hlin with
          | nil hq =>
            have := g2.ds.sub i (hq i (Array.getElem?_eq_some_iff.1 ho).1)
            rw [hA] at this; cases this
        · rw [hx] at hlin
          cases hlin with
          | cons _ ox _ hox hn he t =>
          rcases hrd x ox hox with hr' | hr' | hr'
          · rw [hAx] at hr'; cases hr'
          · subst hr'
            rw [ho] at hox
            cases hox
            exact ⟨r, hx, he⟩
          · exfalso
            have : readyB A ox = true := ready_iff.2 fun e he' => g2.ds.sub _ (he e he')
            rw [hr'] at this; cases this
      obtain ⟨r, rfl, he⟩ := hl'
      obtain ⟨tm0, hs0, hl0⟩ := g2.sync ho he
      obtain ⟨hop0, hw0⟩ := look_same (P := P) (G := G) (H := H) hl0
      have hdef : ∀ v, (a'.put o.dst v).defers = b.defers := fun v => by cases o.dst <;> exact g6
      rw [dregRun_cons]
      unfold onWant
      simp only []
      cases hw : wantA ops tm o with
      | none => trivial
      | some bw =>
      have hwc : Region.wanted o (yielded ops a'.tmps) = bw := wantA_sound hs0 (by rw [hw0]; exact hw)
      have hah : ∀ j, Ahead (A ||| 2 ^ i) (fun j => S' j ∨ j = i) j → Ahead A S' j := fun j hj => ⟨(testBit_put.1 hj.1).resolve_right fun h => hj.2 (.inr h), fun h => hj.2 (.inl h)⟩
      cases bw with
      | false =>
        refine putK_RSD fun hdst => ?_
        have hs1 := stepR_op_skip (P := P) (b := b) (a := a') (k := k) (cs := cs) (w := w') (ops := ops) (i := i) (rest := r) (by rw [ho]; simpa using hwc)
        rw [ho] at hs1
        have hw1 := g2.acted (N' := H.size) (v := .tuple []) (u := undef) ho hA hr hdst (μ'.lx_refl _) (Nat.le_refl _) .undef
        refine RSD.step (.one hs1) (μ'.lx_refl _) (dreg_sound hb is rest _ _ _ _ _ r μ' _ _ H w' hbr hw1 (fun j oj hj hoj hwj => ?_) g4 (hdef _) hN)
        obtain ⟨k1, k2, k3⟩ := g2.keep ho hA (.inr he) (v := .tuple []) (hah j hj) hoj
        rw [k2] at hwj
        exact (g3 j oj (hah j hj) hoj hwj).keep (k1 G H) k3
      | true =>
        have hx := fun hnd => op_step (P := P) (w0 := w0) (G := G) (μ := μ') (H := H) (b := b) hb (k := k) (cs := cs) (l := r) ho hnd hwc (opA_sound g4 hs0.eval o)
        rw [hop0] at hx
        cases hop : opA P G o tm H with
        | val v H1 =>
          have hx := hx (not_defer hop trivial)
          rw [hop] at hx hsz
          obtain ⟨ν, w1, u, h1, h2, h3, h4⟩ := hx
          refine putK_RSD fun hdst => ?_
          generalize hchk : ((fl.filter fun y => !Nat.testBit (sure ||| 2 ^ i ||| closeN c o) y.1).map (·.2)).filter (fun y => heapOp y.op) = chk
          cases hc : chksB P G ops (tm.putO o.dst v) H1 chk with
          | false => simp only [onB]; trivial
          | true =>
          simp only [onB]
          have hw1 := g2.acted (N' := H1.size) ho hA hr hdst h4 hsz h2
          refine RSD.step (.one h1) (h4.weak hN) (dreg_sound hb is rest _ _ _ _ _ r ν _ _ H1 w1 hbr hw1 (fun j oj hj hoj hwj => ?_) h3 (hdef _) (Nat.le_trans hN hsz))
          obtain ⟨oj', k1, k2, _, k3, k4⟩ := hw1.ds.fls j hj
          rw [hoj] at k1
          cases k1
          cases hhp : heapOp oj.op with
          | false => exact hw1.val hj hoj hwj hhp _
          | true => exact chk_val (chks_get hc oj (by rw [← hchk]; exact List.mem_filter.2 ⟨List.mem_map.2 ⟨_, k4, rfl⟩, hhp⟩)) hwj k2
        | round f args H1 =>
          have hx := hx (not_defer hop trivial)
          rw [hop] at hx hsz
          obtain ⟨L, cargs, w1, h1, h2, h3, h4⟩ := hx
          refine ⟨μ', a', w', w1, i :: r, cargs, L, .refl _ _, h4, ⟨i, is, A, fl, sure, c, S', r, o, rfl, hbu, ho, hf, ?_⟩, g6, h3, μ'.lx_refl _, h1, h2, Nat.le_trans hN hsz⟩
          exact ⟨g2.so, g2.ds, g2.lin, g2.len, g2.sl, g2.dw, fun j b hj hg => let ⟨q1, q2, q3⟩ := g2.gh j b hj hg; ⟨q1, q2, Nat.lt_of_lt_of_le q3 hsz⟩, g2.gd⟩
        | enter f args H1 =>
          have hx := hx (not_defer hop trivial)
          rw [hop] at hx hsz
          obtain ⟨cargs, w1, h1, h2, h3, h4⟩ := hx
          refine ⟨μ', a', w1, i :: r, cargs, .one h1, ⟨i, is, A, fl, sure, c, S', r, o, rfl, hbu, ho, hf, ?_⟩, g6, h3, μ'.lx_refl _, h2, h4, Nat.le_trans hN hsz⟩
          exact ⟨g2.so, g2.ds, g2.lin, g2.len, g2.sl, g2.dw, fun j b hj hg => let ⟨q1, q2, q3⟩ := g2.gh j b hj hg; ⟨q1, q2, Nat.lt_of_lt_of_le q3 hsz⟩, g2.gd⟩
        | _ => trivial
end
end Go.Proofs.YtmapmbfohilklaaGreat.Ab
