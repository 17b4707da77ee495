/-
  An abstract machine that Lean's kernel can run: closed calls, runs in pieces. This text speaks of no program.
-/
import Derived.Test.YtabllhhainepgaaGreatDoorAbG8
import Derived.Test.YtabllhhainepgaaGreatDoorHeap
/-
  The abstract machine: closed calls.
-/
set_option linter.unusedVariables false
set_option linter.unusedSimpArgs false
set_option maxRecDepth 100000
set_option linter.constructorNameAsVariable false
namespace Go.Proofs.YtabllhhainepgaaGreatDoor.Ab
open Go.RowKit

/-! ### values without names -/
mutual
def toV : AV → Value
  | .bool b => .bool b
  | .int k n => .int k n
  | .nilp => .pointer none
  | .nils => .slice none 0 0
  | .nilm => .map none
  | .nilf => .nilFunc
  | .nili => .nilIface
  | .str _ _ => .string ⟨#[]⟩
  | .agg l => .agg (toVs l).toArray
  | .tuple l => .tuple (toVs l).toArray
  | .iface t v => .iface t (toV v)
  | _ => .nilFunc
def toVs : List AV → List Value
  | [] => []
  | a :: l => toV a :: toVs l
end
mutual
def plainV : AV → Bool
  | .bool _ | .int _ _ | .nilp | .nils | .nilm | .nilf | .nili => true
  | .str n _ => Nat.beq n 0
  | .agg l => plainVs l
  | .tuple l => plainVs l
  | .iface _ v => plainV v
  | _ => false
def plainVs : List AV → Bool
  | [] => true
  | a :: l => plainV a && plainVs l
end
theorem VR.toV {μ : Mu} {a : AV} {v : Value} (h : VR μ a v) : plainV a = true → v = toV a := by
  refine VR.rec (motive_1 := fun a v _ => plainV a = true → v = Ab.toV a) (motive_2 := fun l m _ => plainVs l = true → m = toVs l) ?_ ?_ ?_ ?_ ?_ ?_ ?_ ?_ ?_ ?_ ?_ ?_ ?_ ?_ ?_ ?_ ?_ ?_ ?_ ?_ ?_ ?_ h
  · exact fun v h => by cases h
  · exact fun b _ => rfl
  · exact fun k n _ => rfl
  · exact fun n N s h1 h2 h => by
      have h0 : n = 0 := Nat.beq_eq.mp h
      subst h0
      have : s.data = #[] := Array.eq_empty_of_size_eq_zero h1
      show Value.string s = Value.string ⟨#[]⟩
      rw [show s = ⟨s.data⟩ from rfl, this]
  · exact fun _ => rfl
  · exact fun b off L h hu => by cases hu
  · exact fun _ => rfl
  · exact fun b off len cap g L h hu => by cases hu
  · exact fun b off a c L h ha hu => by cases hu
  · exact fun _ => rfl
  · exact fun b L h hu => by cases hu
  · exact fun _ => rfl
  · exact fun f a c x y _ _ ha hc hu => by cases hu
  · exact fun l L h hu => by cases hu
  · exact fun name r v y _ h hu => by cases hu
  · exact fun _ => rfl
  · exact fun t a v _ h hu => by rw [h (by simpa only [plainV] using hu)]; rfl
  · exact fun l x _ h hu => by
      have := h (by simpa only [plainV] using hu)
      show Value.agg x = Value.agg (toVs l).toArray
      rw [← this]
  · exact fun l x _ h hu => by
      have := h (by simpa only [plainV] using hu)
      show Value.tuple x = Value.tuple (toVs l).toArray
      rw [← this]
  · exact fun v h hu => by cases hu
  · exact fun _ => rfl
  · exact fun a v l m _ _ h t hu => by
      simp only [plainVs, Bool.and_eq_true] at hu
      rw [h hu.1, t hu.2]; rfl

/-! ### closed calls -/
noncomputable def isDoneV (x : X) (u : AV) : Bool :=
  X.rec (motive := fun _ => AV → Bool) (fun _ _ _ => false) (fun _ _ _ _ => false) (fun _ _ _ _ => false) (fun _ _ => false) (fun _ _ _ => false) (fun _ _ _ => false) (fun _ _ _ _ _ _ => false) (fun _ _ _ _ _ _ => false) (fun _ _ _ _ _ _ => false) (fun _ _ _ _ _ _ => false) (fun _ _ _ _ => false) (fun v _ u => AV.beq v u) (fun _ _ _ _ _ => false) x u
theorem isDoneV_sound {x : X} {u : AV} (h : isDoneV x u = true) : ∃ H, x = .done u H := by
  cases x <;> first | (cases h; done) | skip
  rename_i v H
  exact ⟨H, by rw [beq_sound v u h]⟩
def noK : Hooks := fun _ => none
theorem noK_ok {P : Program} {w0 : World} {G : Nat} : HookOK P w0 G noK := fun _ _ h => by cases h
/-- A closed call, run by the abstract machine: it returns what that yields, and what was there before is as it was. -/
theorem closed_calls {P : Program} {s f : Nat} {args : List AV} {u : AV} (h : isDoneV (callRun P noK 0 s f args ⟨0, .nil⟩) u = true) (hp : plainV u = true) {cargs : Array Value} (ha : LR (fun _ => none) args cargs.toList) {x : Value} (hx : toV u = x) (w : World) :
    Calls P f cargs w fun e w' => e = .returned x ∧ Fr Non w w' := by
  obtain ⟨H', hr⟩ := isDoneV_sound h
  refine (callRun_sound (w0 := w) (w := w) noK_ok hr ha (HR.start w)).mono ?_
  rintro e w' ⟨v, μ', rfl, hv, hh⟩
  refine ⟨by rw [hv.toV hp, hx], hh.below.os, hh.below.tape, hh.below.output, hh.below.size, fun k hk _ => hh.below.block k hk⟩
end Go.Proofs.YtabllhhainepgaaGreatDoor.Ab
/-
  The abstract machine: a run in pieces; pieces of code by their places.
-/
namespace Go.Proofs.YtabllhhainepgaaGreatDoor.Ab
open Go.RowKit

/-! ### places in the program -/
def navC : List Nat → Code → Code
  | [], c => c
  | 0 :: p, .seq a _ => navC p a
  | _ :: p, .seq _ b => navC p b
  | 0 :: p, .cond _ a _ => navC p a
  | _ :: p, .cond _ _ b => navC p b
  | _ :: p, .block _ b => navC p b
  | _ :: p, .loop b => navC p b
  | _ :: p, .scope b => navC p b
  | 0 :: p, .rangeFunc _ _ a _ => navC p a
  | _ :: p, .rangeFunc _ _ _ b => navC p b
  | _, c => c
def cdAt (P : Program) (f : Nat) (p : List Nat) : Code := navC p ((bodyOf P f).getD .skip)
def rgAt (P : Program) (f : Nat) (p : List Nat) : Array Oper := match cdAt P f p with | .region _ ops _ => ops | _ => #[]
def psAt (P : Program) (f : Nat) (p : List Nat) : Array Tmp := match cdAt P f p with | .rangeFunc _ ps _ _ => ps | _ => #[]
def roAt (P : Program) (f : Nat) (p : List Nat) (i : Nat) : List Oper := (rgAt P f p).toList.drop i
def plAt (P : Program) (f : Nat) (p : List Nat) (i : Nat) : List PItem := ((plan P (rgAt P f p)).getD []).drop i
def ckAt (P : Program) (f : Nat) (p : List Nat) (i : Nat) : List Oper := match plAt P f p i with | x :: _ => x.chk | [] => []

/-! ### pieces of a run -/
noncomputable def runF (s : Nat) (P : Program) (K : Hooks) (G : Nat) (f : AF) (cs : List AF) (H : AH) : X :=
  AF.rec (motive := fun _ => Nat → Program → Hooks → Nat → List AF → AH → X) (fun fn n tm todo ret d r s P K G cs H => runA s P K G fn n tm todo ret d r cs H) f s P K G cs H
noncomputable def killK (ks : List Nat) : AH → (AH → X) → X :=
  List.rec (motive := fun _ => AH → (AH → X) → X) (fun H k => k H) (fun b _ ih H k => H.setK b .dead fun H' => ih H' k) ks
/-- Names that nobody knows any more are forgotten. -/
noncomputable def killX (ks : List Nat) (x : X) : X := onNext x fun f cs H => killK ks H fun H' => .next f cs H'
/-- A heap written by what lives in it. -/
noncomputable def deadT (f : Nat) : Nat → Tr AObj :=
  Nat.rec (motive := fun _ => Nat → Tr AObj) (fun _ => .nil) (fun _ ih n => Bool.rec (motive := fun _ => Tr AObj) (.node .dead (ih (Nat.div n 2)) (ih (Nat.div (Nat.sub n 1) 2))) .nil (Nat.beq n 0)) f
noncomputable def mkA (n : Nat) (l : List (Nat × AObj)) : AH :=
  List.rec (motive := fun _ => AH → AH) (fun H => H) (fun p _ ih H => ih (H.set p.1 p.2)) l ⟨n, deadT 24 n⟩
/-- What stands at a way. -/
def selP {α : Type} (d : α) : List (List Bool × α) → List Bool → α
  | [], _ => d
  | (q, a) :: r, p => if q = p then a else selP d r p
/-- The ways that a run may have gone. -/
noncomputable def pathsX (x : X) : List (List Bool) :=
  X.rec (motive := fun _ => List (List Bool)) (fun _ _ => [[]]) (fun _ _ _ => [[]]) (fun _ _ _ => [[]]) (fun _ => [[]]) (fun _ _ => [[]]) (fun _ _ => [[]]) (fun _ _ _ _ _ => [[]]) (fun _ _ _ _ _ => [[]]) (fun _ _ _ _ _ => [[]]) (fun _ _ _ _ _ => [[]]) (fun _ _ _ => [[]]) (fun _ _ => [[]])
    (fun _ _ iha ihb => iha.map (List.cons true) ++ ihb.map (List.cons false)) x
/-- What a run comes to, by one of its ways. -/
noncomputable def leafX (p : List Bool) : X → X :=
  List.rec (motive := fun _ => X → X) (fun x => x) (fun b _ ih x => X.rec (motive := fun _ => X) (fun _ _ => .fail 6) (fun _ _ _ => .fail 6) (fun _ _ _ => .fail 6) (fun _ => .fail 6) (fun _ _ => .fail 6) (fun _ _ => .fail 6) (fun _ _ _ _ _ => .fail 6) (fun _ _ _ _ _ => .fail 6) (fun _ _ _ _ _ => .fail 6) (fun _ _ _ _ _ => .fail 6) (fun _ _ _ => .fail 6) (fun _ _ => .fail 6)
    (fun y z _ _ => Bool.rec (motive := fun _ => X) (ih z) (ih y) b) x) p
def AllP {α : Type} (Q : α → Prop) : List α → Prop
  | [] => True
  | x :: l => Q x ∧ AllP Q l
theorem AllP.of {α : Type} {Q : α → Prop} : ∀ {l : List α}, AllP Q l → ∀ x ∈ l, Q x
  | y :: l, h, x, hx => by
    rcases List.mem_cons.1 hx with rfl | hx
    · exact h.1
    · exact AllP.of h.2 x hx
/-- A run comes to a value, piece by piece. -/
inductive Reaches (P : Program) (K : Hooks) (G : Nat) (u : AV) : AF → List AF → AH → Prop
  | last (s : Nat) {f : AF} {cs : List AF} {H : AH} (h : isDoneV (runF s P K G f cs H) u = true) : Reaches P K G u f cs H
  | more (s : Nat) (ks : List Nat) {f f' : AF} {cs cs' : List AF} {H H' : AH} (h : killX ks (runF s P K G f cs H) = .next f' cs' H') (t : Reaches P K G u f' cs' H') : Reaches P K G u f cs H
  | fork (s : Nat) (ks : List Nat) (ps : List (List Bool)) {f f' : AF} {cs cs' : List AF} {H H' : AH} (hp : pathsX (runF s P K G f cs H) = ps) (h : AllP (fun p => leafX p (killX ks (runF s P K G f cs H)) = .next f' cs' H') ps) (t : Reaches P K G u f' cs' H') : Reaches P K G u f cs H
  | split (s : Nat) (ps : List (List Bool)) (F : List Bool → AF) (C : List Bool → List AF) (HH : List Bool → AH) (KS : List Bool → List Nat) {f : AF} {cs : List AF} {H : AH} (hp : pathsX (runF s P K G f cs H) = ps)
      (h : AllP (fun p => leafX p (killX (KS p) (runF s P K G f cs H)) = .next (F p) (C p) (HH p)) ps) (t : ∀ p ∈ ps, Reaches P K G u (F p) (C p) (HH p)) : Reaches P K G u f cs H
def killAll : List Nat → AH → AH
  | [], H => H
  | b :: ks, H => killAll ks (H.set b .dead)
theorem killK_eq (ks : List Nat) : ∀ (H : AH) (k : AH → X), killK ks H k = k (killAll ks H) := by
  induction ks with
  | nil => intro H k; rfl
  | cons b ks ih =>
    intro H k
    show H.setK b .dead (fun H' => killK ks H' k) = _
    rw [setK_eq, ih]; rfl
theorem killAll_size (ks : List Nat) : ∀ H : AH, (killAll ks H).size = H.size := by
  induction ks with
  | nil => intro H; rfl
  | cons b ks ih => intro H; exact (ih _).trans rfl
theorem HR.killAll {w0 w : World} {G : Nat} {μ : Mu} (ks : List Nat) : ∀ {H : AH}, HR w0 G μ H w → HR w0 G μ (Ab.killAll ks H) w := by
  induction ks with
  | nil => intro H h; exact h
  | cons b ks ih => intro H h; exact ih (h.kill b)
section
variable {P : Program} {w0 : World} {G : Nat} {base : List Frame} {f0 : Nat} {K : Hooks}
theorem killX_sound {m : Machine} {x : X} {ks : List Nat} {f : AF} {cs : List AF} {H : AH} (h : killX ks x = .next f cs H) (hx : XS P w0 G base f0 m x) : XS P w0 G base f0 m (.next f cs H) := by
  cases x with
  | next f1 cs1 H1 =>
    have h : killK ks H1 (fun H' => .next f1 cs1 H') = .next f cs H := h
    rw [killK_eq] at h
    cases h
    obtain ⟨μ, N0, fr, ccs, w, h1, h2, h3, h4, h5, h6⟩ := hx
    refine ⟨μ, N0, fr, ccs, w, h1, ?_, ?_, h4, h5.killAll ks, h6⟩
    · rw [killAll_size]; exact h2
    · rw [killAll_size]; exact h3
  | _ => cases h
theorem fork_kill (ks : List Nat) (y z : X) : killX ks (.fork y z) = .fork (killX ks y) (killX ks z) := rfl
theorem forks_sound {m : Machine} {ks : List Nat} {f : AF} {cs : List AF} {H : AH} : ∀ {x : X}, (∀ p ∈ pathsX x, leafX p (killX ks x) = .next f cs H) → XS P w0 G base f0 m x → XS P w0 G base f0 m (.next f cs H) := by
  intro x
  induction x with
  | fork y z ihy ihz =>
    intro h hx
    have hp : pathsX (.fork y z) = (pathsX y).map (List.cons true) ++ (pathsX z).map (List.cons false) := rfl
    rw [hp] at h
    rcases hx with hx | hx
    · exact ihy (fun p hq => h (true :: p) (List.mem_append_left _ (List.mem_map.2 ⟨p, hq, rfl⟩))) hx
    · exact ihz (fun p hq => h (false :: p) (List.mem_append_right _ (List.mem_map.2 ⟨p, hq, rfl⟩))) hx
  | _ => exact fun h hx => killX_sound (h [] (List.mem_singleton.2 rfl)) hx
theorem split_sound {m : Machine} {KS : List Bool → List Nat} {F : List Bool → AF} {C : List Bool → List AF} {HH : List Bool → AH} : ∀ {x : X} (q : List Bool), (∀ p ∈ pathsX x, leafX p (killX (KS (q ++ p)) x) = .next (F (q ++ p)) (C (q ++ p)) (HH (q ++ p))) → XS P w0 G base f0 m x → ∃ p ∈ pathsX x, XS P w0 G base f0 m (.next (F (q ++ p)) (C (q ++ p)) (HH (q ++ p))) := by
  intro x
  induction x with
  | fork y z ihy ihz =>
    intro q h hx
    have hp : pathsX (.fork y z) = (pathsX y).map (List.cons true) ++ (pathsX z).map (List.cons false) := rfl
    rw [hp] at h ⊢
    rcases hx with hx | hx
    · obtain ⟨p, hq, hs⟩ := ihy (q ++ [true]) (fun p hq => by
        have := h (true :: p) (List.mem_append_left _ (List.mem_map.2 ⟨p, hq, rfl⟩))
        rw [List.append_assoc]; exact this) hx
      exact ⟨true :: p, List.mem_append_left _ (List.mem_map.2 ⟨p, hq, rfl⟩), by simpa using hs⟩
    · obtain ⟨p, hq, hs⟩ := ihz (q ++ [false]) (fun p hq => by
        have := h (false :: p) (List.mem_append_right _ (List.mem_map.2 ⟨p, hq, rfl⟩))
        rw [List.append_assoc]; exact this) hx
      exact ⟨false :: p, List.mem_append_right _ (List.mem_map.2 ⟨p, hq, rfl⟩), by simpa using hs⟩
  | _ => exact fun q h hx => ⟨[], List.mem_singleton.2 rfl, killX_sound (h [] (List.mem_singleton.2 rfl)) hx⟩
theorem XS.go (hK : HookOK P w0 G K) {m : Machine} {f : AF} {cs : List AF} {H : AH} (s : Nat) (hx : XS P w0 G base f0 m (.next f cs H)) : XS P w0 G base f0 m (runF s P K G f cs H) := by
  obtain ⟨fn, n, tm, todo, ret, d, r⟩ := f
  obtain ⟨μ, N0, fr, ccs, w, h1, h2, h3, h4, h5, h6⟩ := hx
  exact XS.step h1 (run_sound hK s μ N0 fn n tm todo ret d r cs H fr ccs w h2 h3 h4 h5 h6)
theorem Reaches.sound (hK : HookOK P w0 G K) {u : AV} {f : AF} {cs : List AF} {H : AH} (h : Reaches P K G u f cs H) : ∀ {m : Machine}, XS P w0 G base f0 m (.next f cs H) → ∃ H', XS P w0 G base f0 m (.done u H') := by
  induction h with
  | last s h =>
    intro m hx
    obtain ⟨H', he⟩ := isDoneV_sound h
    have := hx.go hK s
    rw [he] at this
    exact ⟨H', this⟩
  | more s ks h _ ih => intro m hx; exact ih (killX_sound h (hx.go hK s))
  | fork s ks ps hp h _ ih => intro m hx; exact ih (forks_sound (by rw [hp]; exact h.of) (hx.go hK s))
  | split s ps F C HH KS hp h _ ih =>
    intro m hx
    subst hp
    obtain ⟨p, hq, hs⟩ := split_sound [] (by simpa using h.of) (hx.go hK s)
    exact ih p hq hs
end
/-- A closed call, run by the abstract machine in pieces. -/
theorem pieces_calls {P : Program} {K : Hooks} {s f : Nat} {ks : List Nat} {args : List AV} {u : AV} {f1 : AF} {cs1 : List AF} {H1 : AH} (h0 : killX ks (callRun P K 0 s f args ⟨0, .nil⟩) = .next f1 cs1 H1) (h : Reaches P K 0 u f1 cs1 H1) (hp : plainV u = true)
    {cargs : Array Value} (ha : LR (fun _ => none) args cargs.toList) {x : Value} (hx : toV u = x) (w : World) (hK : HookOK P w 0 K) :
    Calls P f cargs w fun e w' => e = .returned x ∧ Fr Non w w' := fun cs => by
  have h1 := enter_sound (P := P) (w0 := w) (G := 0) (base := cs) (f0 := f) (run_sound hK s) ha (.nil _) (HR.start w) rfl
  obtain ⟨H', h2⟩ := h.sound hK (killX_sound h0 h1)
  obtain ⟨μ', w', fr, v, g1, g2, g3, g4, g5⟩ := h2
  refine ⟨.returned v, w', fr, ⟨by rw [g4.toV hp, hx], g5.below.os, g5.below.tape, g5.below.output, g5.below.size, fun k hk _ => g5.below.block k hk⟩, g1, g2, g3⟩
end Go.Proofs.YtabllhhainepgaaGreatDoor.Ab
