/-
  The abstract machine: regions that draw their order: what has been carried out ahead.
-/
import Derived.Test.YtmapmbfohilklaaGreatAbX1
namespace Go.Proofs.YtmapmbfohilklaaGreat.Ab
open Go.RowKit

/-- Carried out here, not yet there. -/
def Ahead (A : Nat) (S : Nat → Prop) (i : Nat) : Prop := Nat.testBit A i = true ∧ ¬ S i
def InvW (P : Program) (G : Nat) (ops : Array Oper) (n : Nat) (tm : TM) (o : Oper) : Prop := (∀ d, o.dst = some d → d < n) ∧ ∃ b, wantA ops tm o = some b ∧ (b = false → ∀ d, o.dst = some d → getT tm d = .tuple []) ∧
  (b = true → heapOp o.op = false → ∀ H, ∃ d v, o.dst = some d ∧ opA P G o tm H = .val v H ∧ getT tm d = v)
def nameOf : AV → Option Nat
  | .ptr b _ => some b
  | .slice b _ _ _ _ => some b
  | .map b => some b
  | _ => none
/-- The operation has made block b. -/
def GN (ops : Array Oper) (tm : TM) (i b : Nat) : Prop := ∃ o d, ops[i]? = some o ∧ isAlloc o.op = true ∧ wantA ops tm o = some true ∧ o.dst = some d ∧ nameOf (getT tm d) = some b
/-- The operation, carried out now, yields what its slot holds. -/
def Val (P : Program) (G : Nat) (o : Oper) (tm : TM) (H : AH) : Prop :=
  ∃ d v H1, o.dst = some d ∧ opA P G o tm H = .val v H1 ∧ ((H1 = H ∧ getT tm d = v) ∨ (∃ b ob, isAlloc o.op = true ∧ H1 = H.push ob ∧ sameNew H.size v (getT tm d) = some b ∧ b < H.size ∧ objBeq H.size ob (H.get b) = true))
structure DS (P : Program) (ops : Array Oper) (A : Nat) (fl : List (Nat × Oper)) (sure : Nat) (c : List (Nat × Nat)) (S : Nat → Prop) : Prop where
  sub : ∀ i, S i → Nat.testBit A i = true
  clo : Closed ops S
  ed : ∀ i o, Nat.testBit A i = true → ops[i]? = some o → EdgesIn o (fun j => Nat.testBit A j = true)
  fls : ∀ i, Ahead A S i → ∃ o, ops[i]? = some o ∧ isFloatP P o.op = true ∧ flowB ops i o = true ∧ o.dst ≠ none ∧ (i, o) ∈ fl
  flo : ∀ x ∈ fl, ops[x.1]? = some x.2
  flw : ∀ x ∈ fl, flowB ops x.1 x.2 = true
  sur : ∀ i, Nat.testBit sure i = true → S i
  cl : Cl ops c
structure WT (P : Program) (G : Nat) (ops : Array Oper) (N0 N n : Nat) (A : Nat) (fl : List (Nat × Oper)) (sure : Nat) (c : List (Nat × Nat)) (S : Nat → Prop) (l : List Nat) (μ : Mu) (tm : TM) (tmps : Array Value) : Prop where
  so : slotsOk ops = true
  ds : DS P ops A fl sure c S
  lin : Lin ops S l
  len : n ≤ tmps.size
  sl : ∀ t, (∀ i o, Ahead A S i → ops[i]? = some o → o.dst ≠ some t) → VR μ (getT tm t) (tmps.getD t undef)
  dw : ∀ i o, Ahead A S i → ops[i]? = some o → InvW P G ops n tm o
  gh : ∀ i b, Ahead A S i → GN ops tm i b → μ b = none ∧ N0 ≤ b ∧ b < N
  gd : ∀ i j b, Ahead A S i → Ahead A S j → GN ops tm i b → GN ops tm j b → i = j

section
variable {P : Program} {w0 w : World} {G N0 N N' n : Nat} {μ ν : Mu} {H : AH} {ops : Array Oper} {A sure : Nat} {fl : List (Nat × Oper)} {c : List (Nat × Nat)} {S : Nat → Prop} {l : List Nat} {tm tm' : TM} {tmps : Array Value} {o : Oper} {i : Nat}
theorem testBit_put {A i j : Nat} : Nat.testBit (A ||| 2 ^ i) j = true ↔ Nat.testBit A j = true ∨ j = i := by
  rw [Nat.testBit_or, Bool.or_eq_true, Nat.testBit_two_pow, decide_eq_true_iff]
  constructor
  · rintro (h | h)
    · exact .inl h
    · exact .inr h.symm
  · rintro (h | h)
    · exact .inl h
    · exact .inr h.symm
/-! ### what an operation looks at -/
theorem look_same (h : ∀ t ∈ o.looksAt ops, getT tm t = getT tm' t) : opA P G o tm H = opA P G o tm' H ∧ wantA ops tm o = wantA ops tm' o := by
  constructor
  · refine opA_congr o fun x hx => ?_
    cases x with
    | tmp t =>
      refine h t ?_
      unfold Oper.looksAt
      exact List.mem_append_left _ (List.mem_filterMap.2 ⟨.tmp t, by simpa using hx, rfl⟩)
    | _ => rfl
  · unfold wantA
    cases hg : o.guard with
    | none => rfl
    | some g =>
      obtain ⟨j, want⟩ := g
      simp only []
      cases hd : (ops[j]?).bind (·.dst) with
      | none => rfl
      | some d =>
        have : getT tm d = getT tm' d := h d (by unfold Oper.looksAt; rw [hg]; simp [hd])
        simp only [this]
theorem get_putO_ne {d : Option Tmp} {v : AV} {t : Tmp} (h : d ≠ some t) : getT (tm.putO d v) t = getT tm t := by
  cases d with
  | none => rfl
  | some d => exact (get_put tm d v t).trans (if_neg fun e => h (by rw [e]))
theorem get_putO_same {d : Option Tmp} {v : AV} {t : Tmp} (h : d = some t) : getT (tm.putO d v) t = v := by
  subst h
  exact (get_put tm t v t).trans (if_pos rfl)
/-- What another operation writes is not looked at by one that has been carried out ahead of it. -/
theorem WT.keep (h : WT P G ops N0 N n A fl sure c S l μ tm tmps) (ho : ops[i]? = some o) (hA : Nat.testBit A i = false) (hw : flowB ops i o = true ∨ EdgesIn o S) {v : AV} {j : Nat} {oj : Oper} (hj : Ahead A S j) (hoj : ops[j]? = some oj) :
    (∀ (G : Nat) (H : AH), opA P G oj (tm.putO o.dst v) H = opA P G oj tm H) ∧ wantA ops (tm.putO o.dst v) oj = wantA ops tm oj ∧ ∀ d, oj.dst = some d → getT (tm.putO o.dst v) d = getT tm d := by
  have hl : ∀ t ∈ oj.looksAt ops, getT (tm.putO o.dst v) t = getT tm t := fun t ht => get_putO_ne fun e => by
    have hcon : ¬ ∃ ed ∈ edgesB oj, ed.on = i := fun ⟨ed, hed, he⟩ => by
      have := h.ds.ed j oj hj.1 hoj ed hed
      rw [he, hA] at this; cases this
    rcases hw with hw | hw
    · exact hcon (flow_look hw hoj e ht)
    · rcases slots_look h.so ho hoj e ht with h1 | ⟨ed, hed, he⟩
      · exact hcon h1
      · have := hw ed hed
        rw [he] at this
        exact hj.2 this
  refine ⟨fun G H => (look_same hl).1, (look_same (P := P) (G := 0) (H := ⟨0, .nil⟩) hl).2, fun d hd => get_putO_ne fun e => ?_⟩
  · exact slots_dst h.so ho hoj e (fun e' => by have := hj.1; rw [e', hA] at this; cases this) hd
/-! ### the slots that are alike -/
noncomputable def junkT (tm : TM) : List Tmp → TM
  | [] => tm
  | d :: l => (junkT tm l).put d .junk
theorem get_junk (l : List Tmp) (t : Tmp) : getT (junkT tm l) t = if t ∈ l then .junk else getT tm t := by
  induction l with
  | nil => simp [junkT]
  | cons d l ih =>
    show getT ((junkT tm l).put d .junk) t = _
    rw [get_put, ih]
    by_cases e : t = d
    · rw [if_pos e, if_pos (by simp [e])]
    · rw [if_neg e]; simp [e]
open Classical in
theorem WT.sync (h : WT P G ops N0 N n A fl sure c S l μ tm tmps) (ho : ops[i]? = some o) (he : EdgesIn o S) : ∃ tm0, SR μ n tm0 tmps ∧ ∀ t ∈ o.looksAt ops, getT tm0 t = getT tm t := by
  refine ⟨junkT tm ((fl.filter fun x => decide (¬ S x.1)).filterMap (·.2.dst)), ⟨h.len, fun t => ?_⟩, fun t ht => ?_⟩
  · rw [get_junk]
    by_cases hm : t ∈ (fl.filter fun x => decide (¬ S x.1)).filterMap (·.2.dst)
    · rw [if_pos hm]; exact .junk _
    · rw [if_neg hm]
      refine h.sl t fun j oj hj hoj hd => hm ?_
      obtain ⟨o', ho', _, _, _, hfl⟩ := h.ds.fls j hj
      rw [hoj] at ho'
      cases ho'
      rw [List.mem_filterMap]
      exact ⟨(j, oj), List.mem_filter.2 ⟨hfl, by simpa using hj.2⟩, hd⟩
  · rw [get_junk, if_neg]
    intro hm
    rw [List.mem_filterMap] at hm
    obtain ⟨⟨j, oj⟩, hm, hd⟩ := hm
    rw [List.mem_filter] at hm
    have hoj := h.ds.flo _ hm.1
    have h2 : ¬ S j := by simpa using hm.2
    have h3 : flowB ops j oj = true := h.ds.flw _ hm.1
    obtain ⟨ed, hed, hon⟩ := flow_look h3 ho hd ht
    have := he ed hed
    rw [hon] at this
    exact h2 this
/-! ### how it goes on -/
/-- What was carried out ahead comes up there too. -/
theorem WT.took {a : Act} (h : WT P G ops N0 N n A fl sure c S (i :: l) μ tm a.tmps) (hA : Nat.testBit A i = true) (ho : ops[i]? = some o) (hle : μ.le ν) (hgh : ∀ j b, Ahead A S j → j ≠ i → GN ops tm j b → ν b = none) {u : Value} (hv : ∀ d, o.dst = some d → VR ν (getT tm d) u) :
    WT P G ops N0 N n A fl sure c (fun j => S j ∨ j = i) l ν tm (a.put o.dst u).tmps := by
  have hah : ∀ j, Ahead A (fun j => S j ∨ j = i) j → Ahead A S j ∧ j ≠ i := fun j hj => ⟨⟨hj.1, fun h => hj.2 (.inl h)⟩, fun h => hj.2 (.inr h)⟩
  cases h.lin with
  | cons _ o' _ ho' hn he t =>
  rw [ho] at ho'
  cases ho'
  have hai : Ahead A S i := ⟨hA, hn⟩
  refine ⟨h.so, ⟨?_, ?_, h.ds.ed, fun j hj => h.ds.fls j (hah j hj).1, h.ds.flo, h.ds.flw, fun j hj => .inl (h.ds.sur j hj), h.ds.cl⟩, t, ?_, ?_, ?_, ?_, ?_⟩
  · rintro j (hj | hj)
    · exact h.ds.sub j hj
    · rw [hj]; exact hA
  · rintro j oj (hj | hj) hoj
    · exact fun e he' => .inl (h.ds.clo j oj hj hoj e he')
    · subst hj
      rw [ho] at hoj
      cases hoj
      exact fun e he' => .inl (he e he')
  · cases o.dst with
    | none => exact h.len
    | some d => simpa [Act.put] using h.len
  · intro t ht
    by_cases e : o.dst = some t
    · have hlt := (h.dw i o hai ho).1 t e
      have hlen := h.len
      have : (a.put o.dst u).tmps.getD t undef = u := by
        rw [e]
        show (a.tmps.setIfInBounds t u).getD t undef = u
        rw [Array.getD_eq_getD_getElem?, Array.getElem?_setIfInBounds, if_pos rfl, if_pos (Nat.lt_of_lt_of_le hlt hlen)]; rfl
      rw [this]; exact hv t e
    · have : (a.put o.dst u).tmps.getD t undef = a.tmps.getD t undef := by
        cases hd : o.dst with
        | none => rfl
        | some d =>
          show (a.tmps.setIfInBounds d u).getD t undef = _
          rw [Array.getD_eq_getD_getElem?, Array.getD_eq_getD_getElem?, Array.getElem?_setIfInBounds, if_neg (fun e' => e (by rw [hd, e']))]
      rw [this]
      refine (h.sl t fun j oj hj hoj => ?_).mono hle
      by_cases e' : j = i
      · subst e'; rw [ho] at hoj; cases hoj; exact e
      · exact ht j oj ⟨hj.1, fun h' => h'.elim hj.2 e'⟩ hoj
  · exact fun j oj hj hoj => h.dw j oj (hah j hj).1 hoj
  · exact fun j b hj hg => ⟨hgh j b (hah j hj).1 (hah j hj).2 hg, (h.gh j b (hah j hj).1 hg).2⟩
  · exact fun j k b hj hk => h.gd j k b (hah j hj).1 (hah k hk).1
/-- One that acts was carried out, here and there. -/
theorem WT.acted {a : Act} (h : WT P G ops N0 N n A fl sure c S (i :: l) μ tm a.tmps) (ho : ops[i]? = some o) (hA : Nat.testBit A i = false) (hr : readyB A o = true) (hd : ∀ d, o.dst = some d → d < n) (hlx : μ.lx N ν) (hNN : N ≤ N') {v : AV} {u : Value} (hv : VR ν v u) :
    WT P G ops N0 N' n (A ||| 2 ^ i) (fl.filter fun y => !Nat.testBit (sure ||| 2 ^ i ||| closeN c o) y.1) (sure ||| 2 ^ i ||| closeN c o) ((i, closeN c o) :: c) (fun j => S j ∨ j = i) l ν (tm.putO o.dst v) (a.put o.dst u).tmps := by
  have hah : ∀ j, Ahead (A ||| 2 ^ i) (fun j => S j ∨ j = i) j → Ahead A S j ∧ j ≠ i := fun j hj => by
    have hne : j ≠ i := fun h => hj.2 (.inr h)
    exact ⟨⟨(testBit_put.1 hj.1).resolve_right hne, fun h => hj.2 (.inl h)⟩, hne⟩
  cases h.lin with
  | cons _ o' _ ho' hn he t =>
  rw [ho] at ho'
  cases ho'
  have hclo : Closed ops (fun j => S j ∨ j = i) := by
    rintro j oj (hj | hj) hoj
    · exact fun e he' => .inl (h.ds.clo j oj hj hoj e he')
    · subst hj
      rw [ho] at hoj
      cases hoj
      exact fun e he' => .inl (he e he')
  have hsure : ∀ j, Nat.testBit (sure ||| 2 ^ i ||| closeN c o) j = true → S j ∨ j = i := fun j hj => by
    rw [Nat.testBit_or, Bool.or_eq_true, testBit_put] at hj
    rcases hj with (hj | hj) | hj
    · exact .inl (h.ds.sur j hj)
    · exact .inr hj
    · exact .inl (closeN_sound h.ds.cl h.ds.clo he hj)
  have hgn : ∀ j b, Ahead A S j → GN ops (tm.putO o.dst v) j b → GN ops tm j b := fun j b hj ⟨oj, d, h1, h2, h3, h4, h5⟩ => by
    obtain ⟨_, k2, k3⟩ := h.keep ho hA (.inr he) (v := v) hj h1
    exact ⟨oj, d, h1, h2, by rw [← k2]; exact h3, h4, by rw [← k3 d h4]; exact h5⟩
  refine ⟨h.so, ⟨?_, hclo, ?_, ?_, ?_, fun x hx => h.ds.flw x (List.mem_filter.1 hx).1, hsure, h.ds.cl.cons ho⟩, t, ?_, ?_, ?_, ?_, ?_⟩
  · rintro j (hj | hj)
    · exact testBit_put.2 (.inl (h.ds.sub j hj))
    · exact testBit_put.2 (.inr hj)
  · intro j oj hj hoj e he'
    rcases testBit_put.1 hj with hj | hj
    · exact testBit_put.2 (.inl (h.ds.ed j oj hj hoj e he'))
    · subst hj
      rw [ho] at hoj
      cases hoj
      exact testBit_put.2 (.inl (ready_iff.1 hr e he'))
  · intro j hj
    obtain ⟨oj, h1, h2, h2', h3, h4⟩ := h.ds.fls j (hah j hj).1
    refine ⟨oj, h1, h2, h2', h3, List.mem_filter.2 ⟨h4, ?_⟩⟩
    rw [Bool.not_eq_true', ← Bool.not_eq_true]
    exact fun hs => hj.2 (hsure j hs)
  · exact fun x hx => h.ds.flo x (List.mem_filter.1 hx).1
  · cases o.dst with
    | none => exact h.len
    | some d => simpa [Act.put] using h.len
  · intro t ht
    by_cases e : o.dst = some t
    · have hlt := hd t e
      have hlen := h.len
      have : (a.put o.dst u).tmps.getD t undef = u := by
        rw [e]
        show (a.tmps.setIfInBounds t u).getD t undef = u
        rw [Array.getD_eq_getD_getElem?, Array.getElem?_setIfInBounds, if_pos rfl, if_pos (Nat.lt_of_lt_of_le hlt hlen)]; rfl
      rw [this, get_putO_same e]; exact hv
    · have : (a.put o.dst u).tmps.getD t undef = a.tmps.getD t undef := by
        cases hd : o.dst with
        | none => rfl
        | some d =>
          show (a.tmps.setIfInBounds d u).getD t undef = _
          rw [Array.getD_eq_getD_getElem?, Array.getD_eq_getD_getElem?, Array.getElem?_setIfInBounds, if_neg (fun e' => e (by rw [hd, e']))]
      rw [this, get_putO_ne e]
      refine (h.sl t fun j oj hj hoj => ?_).mono hlx.1
      have hne : j ≠ i := fun e' => by have h1 := hj.1; rw [e', hA] at h1; cases h1
      exact ht j oj ⟨testBit_put.2 (.inl hj.1), fun h' => h'.elim hj.2 hne⟩ hoj
  · intro j oj hj hoj
    obtain ⟨h1, b, h2, h3, h4⟩ := h.dw j oj (hah j hj).1 hoj
    obtain ⟨k1, k2, k3⟩ := h.keep ho hA (.inr he) (v := v) (hah j hj).1 hoj
    exact ⟨h1, b, by rw [k2]; exact h2, fun hb d hd => by rw [k3 d hd]; exact h3 hb d hd, fun hb hh H => let ⟨d, x, a1, a2, a3⟩ := h4 hb hh H; ⟨d, x, a1, (k1 G H).trans a2, (k3 d a1).trans a3⟩⟩
  · intro j b hj hg
    obtain ⟨h1, h2, h3⟩ := h.gh j b (hah j hj).1 (hgn j b (hah j hj).1 hg)
    exact ⟨by rw [hlx.2 b h3]; exact h1, h2, by omega⟩
  · exact fun j k b hj hk hgj hgk => h.gd j k b (hah j hj).1 (hah k hk).1 (hgn j b (hah j hj).1 hgj) (hgn k b (hah k hk).1 hgk)
/-- One that floats was carried out here. -/
theorem WT.floated (h : WT P G ops N0 N n A fl sure c S l μ tm tmps) (ho : ops[i]? = some o) (hA : Nat.testBit A i = false) (hr : readyB A o = true) (hf : isFloatP P o.op = true) (hfw : flowB ops i o = true) (hdn : o.dst ≠ none) (hd : ∀ d, o.dst = some d → d < n)
    (hdom : ∀ b, N ≤ b → μ b = none) (hN : N0 ≤ N) (hNN : N ≤ N') {v : AV} {bw : Bool} (hw : wantA ops tm o = some bw) (hun : bw = false → v = .tuple []) (hnew : bw = true → isAlloc o.op = true → ∀ b, nameOf v = some b → b = N ∧ N < N') (hpv : bw = true → heapOp o.op = false → ∀ H, opA P G o tm H = .val v H) :
    WT P G ops N0 N' n (A ||| 2 ^ i) (fl ++ [(i, o)]) sure ((i, closeN c o) :: c) S l μ (tm.putO o.dst v) tmps := by
  have hah : ∀ j, Ahead (A ||| 2 ^ i) S j → Ahead A S j ∨ j = i := fun j hj => (testBit_put.1 hj.1).imp (fun h => ⟨h, hj.2⟩) id
  have hni : ¬ S i := fun hs => by rw [h.ds.sub i hs] at hA; cases hA
  have hself : ∀ t ∈ o.looksAt ops, getT (tm.putO o.dst v) t = getT tm t := fun t ht => get_putO_ne fun e => by
    obtain ⟨ed, hed, he⟩ := flow_look hfw ho e ht
    have := ready_iff.1 hr ed hed
    rw [he, hA] at this; cases this
  have hselfO : ∀ H, opA P G o (tm.putO o.dst v) H = opA P G o tm H := fun H => (look_same hself).1
  have hself : wantA ops (tm.putO o.dst v) o = some bw := by
    rw [(look_same (P := P) (G := 0) (H := ⟨0, .nil⟩) hself).2]; exact hw
  have hgn : ∀ j b, Ahead A S j → GN ops (tm.putO o.dst v) j b → GN ops tm j b := fun j b hj ⟨oj, d, h1, h2, h3, h4, h5⟩ => by
    obtain ⟨_, k2, k3⟩ := h.keep ho hA (.inl hfw) (v := v) hj h1
    exact ⟨oj, d, h1, h2, by rw [← k2]; exact h3, h4, by rw [← k3 d h4]; exact h5⟩
  have hgi : ∀ b, GN ops (tm.putO o.dst v) i b → b = N ∧ N < N' := fun b ⟨oj, d, h1, h2, h3, h4, h5⟩ => by
    rw [ho] at h1
    cases h1
    rw [hself] at h3
    rw [get_putO_same h4] at h5
    exact hnew (by simpa using h3) h2 b h5
  refine ⟨h.so, ⟨fun j hj => testBit_put.2 (.inl (h.ds.sub j hj)), h.ds.clo, ?_, ?_, ?_, ?_, h.ds.sur, h.ds.cl.cons ho⟩, h.lin, h.len, ?_, ?_, ?_, ?_⟩
  · intro j oj hj hoj e he'
    rcases testBit_put.1 hj with hj | hj
    · exact testBit_put.2 (.inl (h.ds.ed j oj hj hoj e he'))
    · subst hj
      rw [ho] at hoj
      cases hoj
      exact testBit_put.2 (.inl (ready_iff.1 hr e he'))
  · intro j hj
    rcases hah j hj with hj | hj
    · obtain ⟨oj, h1, h2, h2', h3, h4⟩ := h.ds.fls j hj
      exact ⟨oj, h1, h2, h2', h3, List.mem_append_left _ h4⟩
    · subst hj
      exact ⟨o, ho, hf, hfw, hdn, List.mem_append_right _ (by simp)⟩
  · intro x hx
    rcases List.mem_append.1 hx with hx | hx
    · exact h.ds.flo x hx
    · simp at hx; subst hx; exact ho
  · intro x hx
    rcases List.mem_append.1 hx with hx | hx
    · exact h.ds.flw x hx
    · simp at hx; subst hx; exact hfw
  · intro t ht
    have e : o.dst ≠ some t := ht i o ⟨testBit_put.2 (.inr rfl), hni⟩ ho
    rw [get_putO_ne e]
    exact h.sl t fun j oj hj hoj => ht j oj ⟨testBit_put.2 (.inl hj.1), hj.2⟩ hoj
  · intro j oj hj hoj
    rcases hah j hj with hj | hj
    · obtain ⟨h1, b, h2, h3, h4⟩ := h.dw j oj hj hoj
      obtain ⟨k1, k2, k3⟩ := h.keep ho hA (.inl hfw) (v := v) hj hoj
      exact ⟨h1, b, by rw [k2]; exact h2, fun hb d hd => by rw [k3 d hd]; exact h3 hb d hd, fun hb hh H => let ⟨d, x, a1, a2, a3⟩ := h4 hb hh H; ⟨d, x, a1, (k1 G H).trans a2, (k3 d a1).trans a3⟩⟩
    · subst hj
      rw [ho] at hoj
      cases hoj
      obtain ⟨d, hod⟩ := Option.ne_none_iff_exists'.1 hdn
      exact ⟨hd, bw, hself, fun hb d hd => by rw [get_putO_same hd]; exact hun hb, fun hb hh H => ⟨d, v, hod, (hselfO H).trans (hpv hb hh H), get_putO_same hod⟩⟩
  · intro j b hj hg
    rcases hah j hj with hj | hj
    · obtain ⟨h1, h2, h3⟩ := h.gh j b hj (hgn j b hj hg)
      exact ⟨h1, h2, by omega⟩
    · subst hj
      obtain ⟨h1, h2⟩ := hgi b hg
      exact ⟨hdom b (by omega), by omega, by omega⟩
  · intro j k b hj0 hk0 hgj hgk
    rcases hah j hj0 with hj | hj <;> rcases hah k hk0 with hk | hk
    · exact h.gd j k b hj hk (hgn j b hj hgj) (hgn k b hk hgk)
    · subst hk
      have := (h.gh j b hj (hgn j b hj hgj)).2.2
      have := (hgi b hgk).1
      omega
    · subst hj
      have := (h.gh k b hk (hgn k b hk hgk)).2.2
      have := (hgi b hgj).1
      omega
    · rw [hj, hk]
theorem WT.val (h : WT P G ops N0 N n A fl sure c S l μ tm tmps) {j : Nat} (hj : Ahead A S j) (ho : ops[j]? = some o) (hw : wantA ops tm o = some true) (hh : heapOp o.op = false) (H : AH) : Val P G o tm H := by
  obtain ⟨_, b, h2, _, h4⟩ := h.dw j o hj ho
  rw [hw] at h2
  cases h2
  obtain ⟨d, v, a1, a2, a3⟩ := h4 rfl hh H
  exact ⟨d, v, H, a1, a2, .inl ⟨rfl, a3⟩⟩
/-! ### asked again -/
theorem sameNew_sound {m : Nat} {v s : AV} {b : Nat} (h : sameNew m v s = some b) : nameOf v = some m ∧ nameOf s = some b ∧ ∀ {u : Value}, VR ν v u → ∃ L, ν m = some L ∧ ∀ ξ : Mu, ξ b = some L → VR ξ s u := by
  unfold sameNew at h
  split at h
  · rename_i a i b' j
    cases hc : Nat.beq a m && Nat.beq i j with
    | false => rw [hc] at h; cases h
    | true =>
      rw [hc] at h
      cases h
      rw [Bool.and_eq_true] at hc
      have e1 := beqN hc.1
      have e2 := beqN hc.2
      subst e1 e2
      refine ⟨rfl, rfl, fun hv => ?_⟩
      obtain ⟨L, hL, rfl⟩ := hv.ptr_inv
      exact ⟨L, hL, fun ξ hξ => .ptr _ _ L hξ⟩
  · rename_i a i l c g b' j l' c' g'
    cases hc : Nat.beq a m && Nat.beq i j && Nat.beq l l' && Nat.beq c c' && g == g' with
    | false => rw [hc] at h; cases h
    | true =>
      rw [hc] at h
      cases h
      simp only [Bool.and_eq_true, beq_iff_eq] at hc
      obtain ⟨⟨⟨⟨e1, e2⟩, e3⟩, e4⟩, e5⟩ := hc
      have e1 := beqN e1
      have e2 := beqN e2
      have e3 := beqN e3
      have e4 := beqN e4
      subst e1 e2 e3 e4 e5
      refine ⟨rfl, rfl, fun hv => ?_⟩
      obtain ⟨L, hL, rfl⟩ := hv.slice_inv
      exact ⟨L, hL, fun ξ hξ => .slice _ _ _ _ _ L hξ⟩
  · rename_i a b'
    cases hc : Nat.beq a m with
    | false => rw [hc] at h; cases h
    | true =>
      rw [hc] at h
      cases h
      have e1 := beqN hc
      subst e1
      refine ⟨rfl, rfl, fun hv => ?_⟩
      obtain ⟨L, hL, rfl⟩ := hv.map_inv
      exact ⟨L, hL, fun ξ hξ => .map _ L hξ⟩
  · cases h
theorem chks_get : ∀ {l : List Oper}, chksB P G ops tm H l = true → ∀ o ∈ l, chkB P G ops o tm H = true
  | [], _, o, h => by cases h
  | x :: l, h, o, ho => by
    have h' : (chkB P G ops x tm H && chksB P G ops tm H l) = true := h
    rw [Bool.and_eq_true] at h'
    cases ho with
    | head => exact h'.1
    | tail _ hm => exact chks_get h'.2 o hm
theorem push_size (ob : AObj) : (H.push ob).size = H.size + 1 := rfl
theorem chk_val (h : chkB P G ops o tm H = true) (hw : wantA ops tm o = some true) (hf : isFloatP P o.op = true) : Val P G o tm H := by
  unfold chkB at h
  rw [hw] at h
  simp only [] at h
  unfold chkV at h
  split at h
  · cases h
  · rename_i d hd
    have hs := float_shape (P := P) (G := G) (H := H) (o := o) (tm := tm) hf
    split at h
    · rename_i v H' hop
      rw [hop] at hs
      refine ⟨d, v, H', hd, hop, ?_⟩
      cases hb : Nat.beq H'.size H.size with
      | true =>
        rw [hb] at h
        have hsz := beqN hb
        rcases hs with ⟨hs, _⟩ | ⟨_, ob, hs, _⟩
        · exact .inl ⟨hs, (beqQ_sound h).symm⟩
        · rw [hs, push_size] at hsz; omega
      | false =>
        rw [hb] at h
        simp only [cond_false] at h
        split at h
        · rename_i b hsn
          rw [Bool.and_eq_true, Nat.blt_eq] at h
          rcases hs with ⟨hs, _⟩ | ⟨ha, ob, hs, _⟩
          · rw [hs] at hb; simp at hb
          · refine .inr ⟨b, ob, ha, hs, hsn, h.1, ?_⟩
            have : H'.get H.size = ob := by rw [hs, get_push, if_pos rfl]
            rw [← this]; exact h.2
        · cases h
    · cases h
end
end Go.Proofs.YtmapmbfohilklaaGreat.Ab
