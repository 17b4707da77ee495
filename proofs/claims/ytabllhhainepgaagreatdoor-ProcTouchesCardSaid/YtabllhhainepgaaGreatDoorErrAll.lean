/-
  errors.As: what a walk wants.
-/
import Derived.Test.YtabllhhainepgaaGreatDoorErrOK
set_option maxRecDepth 100000
set_option linter.unusedVariables false
set_option linter.unusedSimpArgs false
set_option linter.constructorNameAsVariable false
namespace Go.Proofs.YtabllhhainepgaaGreatDoor
open Go.RowKit Ab

/-- The handle of the type 'error' lies where errors.As looks for it. -/
def ErrT (w : World) : Prop := w.cell? ⟨0, 0, none⟩ = some (.iface 268 (.agg #[.pointer (some ⟨5, 75, none⟩)]))
theorem ErrT.below {w w' : World} (h : ErrT w) (hb : Below w.heap.size w w') : ErrT w' := by
  have := Go.block_lt_of_cell h
  unfold ErrT at *
  rw [← h]; simp only [World.cell?, hb.block _ this]
theorem below_cell {w w' : World} (hb : Below w.heap.size w w') {a : Addr} {v : Value} (h : w.cell? a = some v) : w'.cell? a = some v := by
  have := Go.block_lt_of_cell h
  rw [← h]; simp only [World.cell?, hb.block _ this]
theorem below_tr {w w1 w2 : World} (h : Below w.heap.size w w1) (k : Below w1.heap.size w1 w2) : Below w.heap.size w w2 :=
  ⟨k.os.trans h.os, k.tape.trans h.tape, k.output.trans h.output, Nat.le_trans h.size k.size, fun i hi => (k.block i (Nat.lt_of_lt_of_le hi h.size)).trans (h.block i hi)⟩
theorem asK_ok {w0 : World} (hg : ErrT w0) : HookOK Tryz.prog w0 0 asK := by
  intro f h hk args H v H' hh μ w cargs hr ha
  unfold asK at hk
  cases h1 : Nat.beq f 51 with
  | true =>
    rw [h1] at hk
    rw [Nat.beq_eq] at h1
    subst h1
    simp only [cond_true, Option.some.injEq] at hk
    subst hk
    exact as_ok (K := asK) hg args H v H' hh μ w cargs hr ha
  | false => rw [h1] at hk; cases hk
end Go.Proofs.YtabllhhainepgaaGreatDoor
