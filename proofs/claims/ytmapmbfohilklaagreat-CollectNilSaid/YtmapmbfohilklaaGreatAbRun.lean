/-
  The abstract machine: a run in pieces; pieces of code by their places.
-/
import Derived.Test.YtmapmbfohilklaaGreatAbCall
namespace Go.Proofs.YtmapmbfohilklaaGreat.Ab
open Go.RowKit

/-! ### places in the program -/
def navC : List Nat → Code → Code
  | [], c => c
  | 0 :: p, .seq a _ => navC p a
  | _ :: p, .seq _ b => navC p b
  | 0 :: p, .cond _ a _ => navC p a
  | _ :: p, .cond _ _ b => navC p b
  | _ :: p, .block _ b => navC p b
  | _ :: p, .loop b => navC p b
  | _ :: p, .scope b => navC p b
  | 0 :: p, .rangeFunc _ _ a _ => navC p a
  | _ :: p, .rangeFunc _ _ _ b => navC p b
  | _, c => c
def cdAt (P : Program) (f : Nat) (p : List Nat) : Code := navC p ((bodyOf P f).getD .skip)
def rgAt (P : Program) (f : Nat) (p : List Nat) : Array Oper := match cdAt P f p with | .region _ ops _ => ops | _ => #[]
def psAt (P : Program) (f : Nat) (p : List Nat) : Array Tmp := match cdAt P f p with | .rangeFunc _ ps _ _ => ps | _ => #[]
def roAt (P : Program) (f : Nat) (p : List Nat) (i : Nat) : List Oper := (rgAt P f p).toList.drop i
def plAt (P : Program) (f : Nat) (p : List Nat) (i : Nat) : List PItem := ((plan P (rgAt P f p)).getD []).drop i
def ckAt (P : Program) (f : Nat) (p : List Nat) (i : Nat) : List Oper := match plAt P f p i with | x :: _ => x.chk | [] => []

/-! ### pieces of a run -/
noncomputable def runF (s : Nat) (P : Program) (K : Hooks) (G : Nat) (f : AF) (cs : List AF) (H : AH) : X :=
  AF.rec (motive := fun _ => Nat → Program → Hooks → Nat → List AF → AH → X) (fun fn n tm todo ret d r s P K G cs H => runA s P K G fn n tm todo ret d r cs H) f s P K G cs H
noncomputable def killK (ks : List Nat) : AH → (AH → X) → X :=
  List.rec (motive := fun _ => AH → (AH → X) → X) (fun H k => k H) (fun b _ ih H k => H.setK b .dead fun H' => ih H' k) ks
/-- Names that nobody knows any more are forgotten. -/
noncomputable def killX (ks : List Nat) (x : X) : X := onNext x fun f cs H => killK ks H fun H' => .next f cs H'
/-- A run comes to a value, piece by piece. -/
inductive Reaches (P : Program) (K : Hooks) (G : Nat) (u : AV) : AF → List AF → AH → Prop
  | last (s : Nat) {f : AF} {cs : List AF} {H : AH} (h : isDoneV (runF s P K G f cs H) u = true) : Reaches P K G u f cs H
  | more (s : Nat) (ks : List Nat) {f f' : AF} {cs cs' : List AF} {H H' : AH} (h : killX ks (runF s P K G f cs H) = .next f' cs' H') (t : Reaches P K G u f' cs' H') : Reaches P K G u f cs H
def killAll : List Nat → AH → AH
  | [], H => H
  | b :: ks, H => killAll ks (H.set b .dead)
theorem killK_eq (ks : List Nat) : ∀ (H : AH) (k : AH → X), killK ks H k = k (killAll ks H) := by
  induction ks with
  | nil => intro H k; rfl
  | cons b ks ih =>
    intro H k
    show H.setK b .dead (fun H' => killK ks H' k) = _
    rw [setK_eq, ih]; rfl
theorem killAll_size (ks : List Nat) : ∀ H : AH, (killAll ks H).size = H.size := by
  induction ks with
  | nil => intro H; rfl
  | cons b ks ih => intro H; exact (ih _).trans rfl
theorem HR.killAll {w0 w : World} {G : Nat} {μ : Mu} (ks : List Nat) : ∀ {H : AH}, HR w0 G μ H w → HR w0 G μ (Ab.killAll ks H) w := by
  induction ks with
  | nil => intro H h; exact h
  | cons b ks ih => intro H h; exact ih (h.kill b)
section
variable {P : Program} {w0 : World} {G : Nat} {base : List Frame} {f0 : Nat} {K : Hooks}
theorem killX_sound {m : Machine} {x : X} {ks : List Nat} {f : AF} {cs : List AF} {H : AH} (h : killX ks x = .next f cs H) (hx : XS P w0 G base f0 m x) : XS P w0 G base f0 m (.next f cs H) := by
  cases x with
  | next f1 cs1 H1 =>
    have h : killK ks H1 (fun H' => .next f1 cs1 H') = .next f cs H := h
    rw [killK_eq] at h
    cases h
    obtain ⟨μ, N0, fr, ccs, w, h1, h2, h3, h4, h5, h6⟩ := hx
    refine ⟨μ, N0, fr, ccs, w, h1, ?_, ?_, h4, h5.killAll ks, h6⟩
    · rw [killAll_size]; exact h2
    · rw [killAll_size]; exact h3
  | _ => cases h
theorem XS.go (hK : HookOK P w0 G K) {m : Machine} {f : AF} {cs : List AF} {H : AH} (s : Nat) (hx : XS P w0 G base f0 m (.next f cs H)) : XS P w0 G base f0 m (runF s P K G f cs H) := by
  obtain ⟨fn, n, tm, todo, ret, d, r⟩ := f
  obtain ⟨μ, N0, fr, ccs, w, h1, h2, h3, h4, h5, h6⟩ := hx
  exact XS.step h1 (run_sound hK s μ N0 fn n tm todo ret d r cs H fr ccs w h2 h3 h4 h5 h6)
theorem Reaches.sound (hK : HookOK P w0 G K) {u : AV} {f : AF} {cs : List AF} {H : AH} (h : Reaches P K G u f cs H) : ∀ {m : Machine}, XS P w0 G base f0 m (.next f cs H) → ∃ H', XS P w0 G base f0 m (.done u H') := by
  induction h with
  | last s h =>
    intro m hx
    obtain ⟨H', he⟩ := isDoneV_sound h
    have := hx.go hK s
    rw [he] at this
    exact ⟨H', this⟩
  | more s ks h _ ih => intro m hx; exact ih (killX_sound h (hx.go hK s))
end
/-- A closed call, run by the abstract machine in pieces. -/
theorem pieces_calls {P : Program} {K : Hooks} {s f : Nat} {ks : List Nat} {args : List AV} {u : AV} {f1 : AF} {cs1 : List AF} {H1 : AH} (h0 : killX ks (callRun P K 0 s f args ⟨0, .nil⟩) = .next f1 cs1 H1) (h : Reaches P K 0 u f1 cs1 H1) (hp : plainV u = true)
    {cargs : Array Value} (ha : LR (fun _ => none) args cargs.toList) {x : Value} (hx : toV u = x) (w : World) (hK : HookOK P w 0 K) :
    Calls P f cargs w fun e w' => e = .returned x ∧ Fr Non w w' := fun cs => by
  have h1 := enter_sound (P := P) (w0 := w) (G := 0) (base := cs) (f0 := f) (run_sound hK s) ha (.nil _) (HR.start w) rfl
  obtain ⟨H', h2⟩ := h.sound hK (killX_sound h0 h1)
  obtain ⟨μ', w', fr, v, g1, g2, g3, g4, g5⟩ := h2
  refine ⟨.returned v, w', fr, ⟨by rw [g4.toV hp, hx], g5.below.os, g5.below.tape, g5.below.output, g5.below.size, fun k hk _ => g5.below.block k hk⟩, g1, g2, g3⟩
end Go.Proofs.YtmapmbfohilklaaGreat.Ab
