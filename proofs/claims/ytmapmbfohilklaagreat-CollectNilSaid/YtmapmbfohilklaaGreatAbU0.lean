/-
  The abstract machine: keys of maps are found.
-/
import Derived.Test.YtmapmbfohilklaaGreatAbT
namespace Go.Proofs.YtmapmbfohilklaaGreat.Ab
open Go.RowKit

section
variable {P : Program} {w0 w : World} {G : Nat} {μ : Mu} {H : AH} {r : Result Next}
theorem equal_sameNow {key : TypeId} {d : TypeDesc} (hu : P.underlying key = some d) {a b : Value} {c : Bool} (h : Instr.sameNow d a b = some c) : (Op.equal key a b).run P w = .ok c w := by
  show (Op.equalIn Op.maxDepth key a b).run P w = _
  rw [show Op.maxDepth = (Op.maxDepth - 1) + 1 by decide]
  unfold Instr.sameNow at h
  split at h
  · split at h
    · rename_i hk
      simp only [Option.some.injEq] at h
      subst hk h
      simp only [Op.equalIn, Sem.run_bind, run_underlying hu, Result.andThen_ok]
      simp
    · cases h
  · simp only [Option.some.injEq] at h
    subst h
    simp only [Op.equalIn, Sem.run_bind, run_underlying hu, Result.andThen_ok]
    simp
  · simp only [Option.some.injEq] at h
    subst h
    simp only [Op.equalIn, Sem.run_bind, run_underlying hu, Result.andThen_ok]
    simp
  · cases h
theorem now_asking {key : TypeId} {d : TypeDesc} (hu : P.underlying key = some d) {k : Value} : ∀ (es : List MapEntry) (i : Nat) (a : Option (Nat × Value)), Instr.findNow d k es i = some a → (Instr.findAsking key k es i).run P w = .ok a w
  | [], i, a, h => by simp only [Instr.findNow, Option.some.injEq] at h; subst h; rfl
  | e :: es, i, a, h => by
    simp only [Instr.findNow] at h
    cases hs : Instr.sameNow d k e.key with
    | none => rw [hs] at h; cases h
    | some c =>
      rw [hs] at h
      have he := equal_sameNow (w := w) hu hs
      cases c with
      | true =>
        simp only [Option.some.injEq] at h
        subst h
        simp only [Instr.findAsking, Sem.run_bind, he, Result.andThen_ok, if_true, Sem.run_pure]
      | false =>
        simp only [Instr.findAsking, Sem.run_bind, he, Result.andThen_ok, Bool.false_eq_true, if_false]
        exact now_asking hu es (i + 1) a h
/-- What is found: a place, and what lies there. -/
def FoundR (μ : Mu) (f : Option (Nat × AV)) (g : Option (Nat × Value)) : Prop :=
  match f, g with
  | none, none => True
  | some (i, v), some (j, u) => i = j ∧ VR μ v u
  | _, _ => False
theorem asking_sound (h : HR w0 G μ H w) {key : TypeId} {k : AV} {kv : Value} (hk : VR μ k kv) : ∀ (es : List (AV × AV × Nat)) (cs : List MapEntry) (i : Nat) (f : Option (Nat × AV)), ER μ es cs → findA P H key (eqA P H 30) k es i = some f → ∃ g, (Instr.findAsking key kv cs i).run P w = .ok g w ∧ FoundR μ f g
  | [], cs, i, f, he, hf => by
    have : cs = [] := List.eq_nil_of_length_eq_zero (by rw [← he.1]; rfl)
    subst this
    simp only [findA, Option.some.injEq] at hf
    subst hf
    exact ⟨none, rfl, trivial⟩
  | e :: es, [], i, f, he, hf => by have := he.1; simp at this
  | e :: es, c :: cs, i, f, he, hf => by
    obtain ⟨e1, e2, e3⟩ := he.2 0 e c rfl rfl
    have he' : ER μ es cs := ⟨by have := he.1; simpa using this, fun j x y hx hy => he.2 (j + 1) x y (by simpa using hx) (by simpa using hy)⟩
    simp only [findA] at hf
    cases hq : eqA P H 30 key k e.1 with
    | none => rw [hq] at hf; cases hf
    | some b =>
      rw [hq] at hf
      have hrun : (Op.equal key kv c.key).run P w = .ok b w := eqA_sound (P := P) h 30 Op.maxDepth key k e.1 kv c.key b (by decide) hk e1 hq
      cases b with
      | true =>
        simp only [Option.some.injEq] at hf
        subst hf
        exact ⟨some (i, c.val), by simp only [Instr.findAsking, Sem.run_bind, hrun, Result.andThen_ok, if_true, Sem.run_pure], rfl, e2⟩
      | false =>
        obtain ⟨g, g1, g2⟩ := asking_sound h hk es cs (i + 1) f he' hf
        exact ⟨g, by simp only [Instr.findAsking, Sem.run_bind, hrun, Result.andThen_ok, Bool.false_eq_true, if_false]; exact g1, g2⟩
theorem find_sound (h : HR w0 G μ H w) {key : TypeId} {d : TypeDesc} (hu : P.underlying key = some d) {k : AV} {kv : Value} (hk : VR μ k kv) {es : List (AV × AV × Nat)} {cs : List MapEntry} {f : Option (Nat × AV)} (he : ER μ es cs) (hf : findA P H key (eqA P H 30) k es 0 = some f) : ∃ g, (Instr.findKey key kv cs).run P w = .ok g w ∧ FoundR μ f g := by
  obtain ⟨g, g1, g2⟩ := asking_sound h hk es cs 0 f he hf
  refine ⟨g, ?_, g2⟩
  unfold Instr.findKey
  rw [Sem.run_bind, run_underlying hu, Result.andThen_ok]
  cases hq : Instr.findNow d kv cs 0 with
  | none => exact g1
  | some a =>
    have := now_asking (w := w) hu cs 0 a hq
    rw [g1] at this
    cases this
    rfl
end
end Go.Proofs.YtmapmbfohilklaaGreat.Ab
