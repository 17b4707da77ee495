/-
  The abstract machine: the run.
-/
import Derived.Test.YtliolennjodmkaaGreatAbY
namespace Go.Proofs.YtliolennjodmkaaGreat.Ab
open Go.RowKit

section
variable {P : Program} {w0 w : World} {G N0 : Nat} {μ : Mu} {H : AH} {base : List Frame} {f0 : Nat} {K : Hooks}
theorem step_scope {b : Frame} {a : Act} {k : List Item} {cs : List Frame} {c : Code} : step P (lone (b.at a (.code (.scope c) :: k)) cs w) = .next (lone (b.at a (.code c :: .inScope c :: k)) cs w) :=
  step_lone_go (by simp [stepG, stepG.exec, Frame.at])
theorem step_inScope {b : Frame} {a : Act} {k : List Item} {cs : List Frame} {c : Code} : step P (lone (b.at a (.inScope c :: k)) cs w) = .next (lone (b.at a k) cs w) :=
  step_lone_go (by simp [stepG, stepG.exec, Frame.at])
theorem callF_sound {ih : Cont} (hg : Good P w0 G base f0 ih) (hK : HookOK P w0 G K) {f : Nat} {args : List AV} {cargs : Array Value} {c : AF} {fr : Frame} {cs : List AF} {ccs : List Frame} (ha : LR μ args cargs.toList) (hN : N0 ≤ H.size) (hf : FR P N0 H.size μ c fr) (hcr : c.ret = false) (hc : CR P μ N0 cs ccs) (hh : HR w0 G μ H w) (hl : lastFn c.fn cs = f0) :
    XS P w0 G base f0 (lone (Frame.enter P f cargs .normal) (fr :: (ccs ++ base)) w) (callF ih P K G f args c cs H) := by
  unfold callF
  cases hk : K f with
  | none => exact enter_sound (ccs := fr :: ccs) hg ha (.cons N0 _ hN hf hcr hc) hh hl
  | some h =>
    show XS P w0 G base f0 _ (onVH (h args H) fun v H' => finA P G ih c v cs H')
    cases hv : h args H with
    | none => trivial
    | some p =>
      obtain ⟨v, H'⟩ := p
      obtain ⟨e, w', fr', ⟨u, μ', he, h1, h2, h3, h4⟩, hcomes, _, hleave⟩ := hK f h hk args H v H' hv μ w cargs hh ha (fr :: (ccs ++ base))
      subst he
      have hcomes : Steps P (lone (Frame.enter P f cargs .normal) (fr :: (ccs ++ base)) w) (lone fr' (fr :: (ccs ++ base)) w') := hcomes
      exact XS.step (hcomes.trans (.one (step_leave_returned hleave))) (fin_sound hg (Nat.le_trans hN h4) (hf.mono h3 h4) hcr h1 (hc.mono (h3.weak hN) (Nat.le_refl _)) h2 hl)
theorem regA_sound {ih : Cont} (hg : Good P w0 G base f0 ih) (hK : HookOK P w0 G K) {ops : Array Oper} {i : Nat} {rest : List Oper} (hr : rest = ops.toList.drop i) {n : Nat} {tm : TM} {l : List AItem} {b : Frame} {a : Act} {m : List Item} {cs : List AF} {ccs : List Frame} (hk : b.kind = .normal) (hd : a.defers = []) (hs : SR μ n tm a.tmps) (hi : IR μ l m) (hN : N0 ≤ H.size) (hc : CR P μ N0 cs ccs) (hh : HR w0 G μ H w) (hl : lastFn b.fn cs = f0) :
    XS P w0 G base f0 (lone (b.at a (.inRegion ops (List.range' i (ops.size - i)) :: m)) (ccs ++ base) w) (regA ops rest ih P K G l b.fn n tm [] none cs H) := by
  have hx := reg_sound (P := P) (w0 := w0) (G := G) (N0 := N0) (ops := ops) (n := n) hk (k := m) (cs := ccs ++ base) rest i μ tm a H w hr hs hd hh hN
  unfold regA
  cases hrr : regRun P G n ops rest tm H with
  | fin tm' H' =>
    rw [hrr] at hx
    obtain ⟨μ', a', w', h1, h2, h3, h4, h5, h6⟩ := hx
    exact XS.step h1 (hg μ' N0 b.fn n tm' l false [] none cs H' _ ccs w' h6 (.run n tm' l b a' m hk h3 h2 (hi.mono h5.1)) (hc.mono h5 (Nat.le_refl _)) h4 hl)
  | enterR f args rest' tm' H' =>
    rw [hrr] at hx
    obtain ⟨μ', a', w', i', cargs, h1, h2, h3, h4, h5, h6, h7, _, h8⟩ := hx
    exact XS.step h1 (callF_sound hg hK h7 h8 (.run n tm' _ b a' _ hk h4 h3 (.reg ops i' h2 (hi.mono h6.1))) rfl (hc.mono h6 (Nat.le_refl _)) h5 hl)
  | roundR => rw [hrr] at hx; exact hx.elim
  | next => rw [hrr] at hx; exact hx.elim
  | done => rw [hrr] at hx; exact hx.elim
  | _ => trivial
theorem dregA_sound {ih : Cont} (hg : Good P w0 G base f0 ih) (hK : HookOK P w0 G K) {ops : Array Oper} {is : List Nat} {p : List PItem} {A : Nat} {fl : List (Nat × Oper)} {sure : Nat} {c : List (Nat × Nat)} {S : Nat → Prop} {lst : List Nat} (hbu : build P ops is A fl sure c = some p) {n : Nat} {tm : TM} {l : List AItem} {b : Frame} {a : Act} {m : List Item} {cs : List AF} {ccs : List Frame} (hk : b.kind = .normal) (hd : a.defers = [])
    (hw : WT P ops N0 H.size n A fl sure c S lst μ tm a.tmps) (hdi : DI P G ops A S tm H) (hi : IR μ l m) (hN : N0 ≤ H.size) (hc : CR P μ N0 cs ccs) (hh : HR w0 G μ H w) (hl : lastFn b.fn cs = f0) :
    XS P w0 G base f0 (lone (b.at a (.inRegion ops lst :: m)) (ccs ++ base) w) (dregA ops p ih P K G l b.fn n tm [] none cs H) := by
  have hx := dreg_sound (P := P) (w0 := w0) (G := G) (N0 := N0) (ops := ops) (n := n) hk (k := m) (cs := ccs ++ base) is p A fl sure c S lst μ tm a H w hbu hw hdi hh hd hN
  unfold dregA
  cases hrr : dregRun P G n ops p tm H with
  | fin tm' H' =>
    rw [hrr] at hx
    obtain ⟨μ', a', w', h1, h2, h3, h4, h5, h6⟩ := hx
    exact XS.step h1 (hg μ' N0 b.fn n tm' l false [] none cs H' _ ccs w' h6 (.run n tm' l b a' m hk h3 h2 (hi.mono h5.1)) (hc.mono h5 (Nat.le_refl _)) h4 hl)
  | enterD f args rest' tm' H' =>
    rw [hrr] at hx
    obtain ⟨μ', a', w', lst', cargs, h1, h3, h4, h5, h6, h7, _, h8⟩ := hx
    exact XS.step h1 (callF_sound hg hK h7 h8 (.dwait ops rest' lst' n tm' l b a' m hk h4 h3 (hi.mono h6.1)) rfl (hc.mono h6 (Nat.le_refl _)) h5 hl)
  | roundD => rw [hrr] at hx; exact hx.elim
  | next => rw [hrr] at hx; exact hx.elim
  | done => rw [hrr] at hx; exact hx.elim
  | _ => trivial
theorem WT.start {ops : Array Oper} (hso : slotsOk ops = true) {n : Nat} {tm : TM} {tmps : Array Value} (hs : SR μ n tm tmps) {lst : List Nat} (hl : Lin ops (fun _ => False) lst) (N : Nat) : WT P ops N0 N n 0 [] 0 [] (fun _ => False) lst μ tm tmps := by
  have h0 : ∀ i, ¬ Ahead 0 (fun _ => False) i := fun i h => by have := h.1; simp at this
  exact ⟨hso, ⟨fun _ h => h.elim, fun _ _ h => h.elim, (fun i o h => by simp at h), fun i h => absurd h (h0 i), (fun x hx => by cases hx), (fun x hx => by cases hx), (fun i h => by simp at h), Cl.nil⟩, hl, hs.1, fun t _ => hs.2 t, fun i o h => absurd h (h0 i), fun i b h => absurd h (h0 i), fun i j b h => absurd h (h0 i)⟩
theorem code_sound {ih : Cont} (hg : Good P w0 G base f0 ih) (hK : HookOK P w0 G K) (c : Code) : ∀ (μ : Mu) (N0 n : Nat) (tm : TM) (l : List AItem) (b : Frame) (a : Act) (m : List Item) (cs : List AF) (ccs : List Frame) (H : AH) (w : World), b.kind = .normal → a.defers = [] → SR μ n tm a.tmps → IR μ l m → N0 ≤ H.size → CR P μ N0 cs ccs → HR w0 G μ H w → lastFn b.fn cs = f0 →
    XS P w0 G base f0 (lone (b.at a (.code c :: m)) (ccs ++ base) w) (codeA c ih P K G l b.fn n tm [] none cs H) := by
  induction c with
  | skip => intro μ N0 n tm l b a m cs ccs H w hk hd hs hi hN hc hh hl; exact XS.step (.one step_skip) (hg μ N0 b.fn n tm l false [] none cs H _ ccs w hN (.run n tm l b a m hk hd hs hi) hc hh hl)
  | region id ops draw =>
    intro μ N0 n tm l b a m cs ccs H w hk hd hs hi hN hc hh hl
    cases draw with
    | false =>
      refine XS.step (.one step_region) ?_
      have := regA_sound hg hK (ops := ops) (i := 0) (rest := ops.toList) (by simp) hk hd hs hi hN hc hh hl
      rw [Nat.sub_zero, ← List.range_eq_range'] at this
      exact this
    | true =>
      show XS P w0 G base f0 _ (onPlan (plan P ops) (fun p => dregA ops p ih P K G l b.fn n tm [] none cs H) (.failAt 451 ((ops.getD 0 default).pos)))
      cases hp : plan P ops with
      | none => trivial
      | some p =>
        unfold plan at hp
        split at hp
        · rename_i hso
          rw [Bool.and_eq_true] at hso
          obtain ⟨hmx, hso⟩ := hso
          refine XS.step (.one step_region_draw) ?_
          rw [hmx]
          exact dregA_sound hg hK hp hk hd (WT.start hso hs (schedule_lin hso _) _) (fun j o hj => by have := hj.1; simp at this) hi hN hc (hh.drawn (r := 0) ⟨rfl, rfl, rfl, rfl, fun _ _ => rfl⟩ rfl) hl
        · cases hp
  | seq x y ihx ihy => intro μ N0 n tm l b a m cs ccs H w hk hd hs hi hN hc hh hl; exact XS.step (.one step_seq) (ihx μ N0 n tm (.code y :: l) b a (.code y :: m) cs ccs H w hk hd hs (.code y hi) hN hc hh hl)
  | cond c x y ihx ihy =>
    intro μ N0 n tm l b a m cs ccs H w hk hd hs hi hN hc hh hl
    have he := hs.eval c
    show XS P w0 G base f0 _ (onBool (ev tm c) _ _)
    cases hq : ev tm c with
    | bool t =>
      rw [hq] at he
      have he := he.bool_inv
      refine XS.step (.one (step_cond he)) ?_
      cases t
      · exact ihy μ N0 n tm l b a m cs ccs H w hk hd hs hi hN hc hh hl
      · exact ihx μ N0 n tm l b a m cs ccs H w hk hd hs hi hN hc hh hl
    | _ => trivial
  | block id c ihc => intro μ N0 n tm l b a m cs ccs H w hk hd hs hi hN hc hh hl; exact XS.step (.one step_block) (ihc μ N0 n tm (.inBlock id :: l) b a (.inBlock id :: m) cs ccs H w hk hd hs (.inBlock id hi) hN hc hh hl)
  | loop c ihc => intro μ N0 n tm l b a m cs ccs H w hk hd hs hi hN hc hh hl; exact XS.step (.one step_loop) (ihc μ N0 n tm (.inLoop c :: l) b a (.inLoop c :: m) cs ccs H w hk hd hs (.inLoop c hi) hN hc hh hl)
  | rangeFunc f ps x y _ _ => intro μ N0 n tm l b a m cs ccs H w hk hd hs hi hN hc hh hl; exact trivial
  | exit id =>
    intro μ N0 n tm l b a m cs ccs H w hk hd hs hi hN hc hh hl
    show XS P w0 G base f0 _ (onItems (exitA id l) _ _)
    cases hq : exitA id l with
    | none => trivial
    | some l' =>
      obtain ⟨m', h1, h2⟩ := exit_sound hi hq
      exact XS.step (.one (step_exit h1)) (hg μ N0 b.fn n tm l' false [] none cs H _ ccs w hN (.run n tm l' b a m' hk hd hs h2) hc hh hl)
  | scope c ihc => intro μ N0 n tm l b a m cs ccs H w hk hd hs hi hN hc hh hl; exact XS.step (.one step_scope) (ihc μ N0 n tm (.inScope c :: l) b a (.inScope c :: m) cs ccs H w hk hd hs (.inScope c hi) hN hc hh hl)
  | label g => intro μ N0 n tm l b a m cs ccs H w hk hd hs hi hN hc hh hl; exact XS.step (.one step_label) (hg μ N0 b.fn n tm l false [] none cs H _ ccs w hN (.run n tm l b a m hk hd hs hi) hc hh hl)
  | goto g =>
    intro μ N0 n tm l b a m cs ccs H w hk hd hs hi hN hc hh hl
    show XS P w0 G base f0 _ (onItems (gotoA g l) _ _)
    cases hq : gotoA g l with
    | none => trivial
    | some l' =>
      obtain ⟨m', h1, h2⟩ := goto_sound hi hq
      exact XS.step (.one (step_goto h1)) (hg μ N0 b.fn n tm l' false [] none cs H _ ccs w hN (.run n tm l' b a m' hk hd hs h2) hc hh hl)
  | ret => intro μ N0 n tm l b a m cs ccs H w hk hd hs hi hN hc hh hl; exact XS.step (.one step_ret) (hg μ N0 b.fn n tm [] true [] none cs H _ ccs w hN (.ret n tm [] b a _ hk hd hs) hc hh hl)
  | refuse s => intro μ N0 n tm l b a m cs ccs H w hk hd hs hi hN hc hh hl; exact trivial
theorem step_sound {ih : Cont} (hg : Good P w0 G base f0 ih) (hK : HookOK P w0 G K) : Good P w0 G base f0 (stepA ih P K G) := by
  intro μ N0 fn n tm todo ret d r cs H fr ccs w hN hf hc hh hl
  cases hf with
  | ret _ _ _ b a m hk hd hs => exact ret_sound (l := todo) hg hk hd hs hN hc hh hl
  | dwait ops items lst _ _ l b a m hk hd hs hi => exact trivial
  | drun ops chk items lst _ _ l b a m hk hd hs hi =>
    obtain ⟨is, A, fl, sure, c, S, h1, h2, h3⟩ := hs
    show XS P w0 G base f0 _ (onB (chksB P G ops tm H chk) (fun _ => dregA ops items ih P K G l b.fn n tm [] none cs H) _)
    cases hq : chksB P G ops tm H chk with
    | false => trivial
    | true =>
      refine dregA_sound hg hK h1 hk hd h2 (fun j o hj hoj hwj => ?_) hi hN hc hh hl
      obtain ⟨oj', k1, k2, _, k3, k4⟩ := h2.ds.fls j hj
      rw [hoj] at k1
      cases k1
      exact chk_val (chks_get hq o (h3 j o hj hoj)) hwj k2
  | run _ _ _ b a m hk hd hs hi =>
    cases hi with
    | nil => exact XS.step (.one step_end) (hg μ N0 b.fn n tm [] true [] none cs H _ ccs w hN (.ret n tm [] b a _ hk hd hs) hc hh hl)
    | code c t => exact code_sound hg hK c μ N0 n tm _ b a _ cs ccs H w hk hd hs t hN hc hh hl
    | inBlock id t => exact XS.step (.one step_inBlock) (hg μ N0 b.fn n tm _ false [] none cs H _ ccs w hN (.run n tm _ b a _ hk hd hs t) hc hh hl)
    | inLoop c t => exact XS.step (.one step_inLoop) (code_sound hg hK c μ N0 n tm _ b a _ cs ccs H w hk hd hs (.inLoop c t) hN hc hh hl)
    | inScope c t => exact XS.step (.one step_inScope) (hg μ N0 b.fn n tm _ false [] none cs H _ ccs w hN (.run n tm _ b a _ hk hd hs t) hc hh hl)
    | reg ops i hr t => exact regA_sound hg hK hr hk hd hs t hN hc hh hl
    | inRF b' L hb t => exact trivial
    | endRF b' L hb t => exact trivial
    | beginRound t => exact trivial
theorem run_sound (hK : HookOK P w0 G K) : ∀ s : Nat, Good P w0 G base f0 (runA s P K G)
  | 0 => fun μ N0 fn n tm todo ret d r cs H fr ccs w hN hf hc hh hl => ⟨μ, N0, fr, ccs, w, .refl _ _, hN, hf, hc, hh, hl⟩
  | s + 1 => step_sound (run_sound hK s) hK
/-- What the abstract machine runs to, the model's runs to. -/
theorem callRun_sound (hK : HookOK P w0 G K) {s f : Nat} {args : List AV} {cargs : Array Value} {v : AV} {H' : AH} (hr : callRun P K G s f args H = .done v H') (ha : LR μ args cargs.toList) (hh : HR w0 G μ H w) :
    Calls P f cargs w fun e w' => ∃ (u : Value) (μ' : Mu), e = .returned u ∧ VR μ' v u ∧ HR w0 G μ' H' w' := fun cs => by
  have := enter_sound (P := P) (w0 := w0) (G := G) (base := cs) (f0 := f) (run_sound hK s) ha (.nil _) hh rfl
  unfold callRun at hr
  rw [hr] at this
  obtain ⟨μ', w', fr, u, h1, h2, h3, h4, h5⟩ := this
  exact ⟨.returned u, w', fr, ⟨u, μ', rfl, h4, h5⟩, h1, h2, h3⟩
theorem HR.start (w : World) : HR w 0 (fun _ => none) ⟨0, .nil⟩ w :=
  ⟨⟨rfl, rfl, rfl, Nat.le_refl _, fun _ _ => rfl⟩, fun _ _ => rfl, fun _ _ h => (by cases h), fun _ _ _ h => (by cases h), fun _ _ _ _ _ _ h => (by cases h), fun _ _ h => (by cases h), fun _ _ => rfl, Nat.le_refl _⟩
end
end Go.Proofs.YtliolennjodmkaaGreat.Ab
