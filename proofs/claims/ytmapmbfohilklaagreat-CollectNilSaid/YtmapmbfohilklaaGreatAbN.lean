/-
  The abstract machine: append and copy.
-/
import Derived.Test.YtmapmbfohilklaaGreatAbM
namespace Go.Proofs.YtmapmbfohilklaaGreat.Ab
open Go.RowKit

section
variable {P : Program} {w0 w : World} {G : Nat} {μ : Mu} {H : AH} {r : Result Next}
theorem nextcap_le (need cap : Nat) (h : cap < need) : Builtin.nextslicecap need cap ≤ 2 * need + 768 := by
  unfold Builtin.nextslicecap
  split
  · omega
  · split
    · omega
    · have key : ∀ (f c : Nat), c ≤ 2 * need + 768 → Builtin.growBy need f c ≤ 2 * need + 768 := by
        intro f
        induction f with
        | zero => intro c hc; exact hc
        | succ f ih =>
          intro c hc
          unfold Builtin.growBy
          split
          · exact hc
          · exact ih _ (by omega)
      exact key 4 cap (by omega)
/-- What stands in a world that drew once more. -/
def drew1 (w : World) : World := { w with drawn := w.drawn + 1 }
theorem HR.drew1 (h : HR w0 G μ H w) : HR w0 G μ H (drew1 w) := h.drawn (r := w.heap.size) ⟨rfl, rfl, rfl, rfl, fun _ _ => rfl⟩ rfl
/-- What the model's append is told: the types, the element, what is appended (n elements, the cells vs). -/
structure App (P : Program) (w : World) (types : Array TypeId) (e : TypeId) (s : Nat) (xv : Value) (n : Nat) (vs : List Value) (zeros : Bool) : Prop where
  t : ∃ t, types[0]? = some t ∧ P.underlying t = some (.slice e)
  size : sizeA P e = some s
  pos : 0 < s
  small : P.bytesOf e < 1048576
  z : zeros = false → (∃ t2 u, types[1]? = some t2 ∧ P.underlying t2 = some u ∧ (∀ k, u ≠ .int k)) ∧ (Builtin.lenOf xv).run P w = .ok n w ∧ (Builtin.lenOf xv).run P (drew1 w) = .ok n (drew1 w) ∧ (Builtin.firstCells s n xv).run P w = .ok vs.toArray w ∧ (Builtin.firstCells s n xv).run P (drew1 w) = .ok vs.toArray (drew1 w)
  o : zeros = true → (∃ t2 k, types[1]? = some t2 ∧ P.underlying t2 = some (.int k)) ∧ (∃ k, xv = .int k (n : Int)) ∧ n < 1048576 ∧ ∃ zv, (∀ w', (zeroValue e).run P w' = .ok zv w') ∧ (Builtin.zeroCells zv.cells n) = vs.toArray ∧ (n * s = 0 → vs = [])
theorem info_of_size {e : TypeId} {s : Nat} (h : sizeA P e = some s) : ∃ i, P.info? e = some i ∧ i.bytes = P.bytesOf e := by
  obtain ⟨_, i, hi⟩ := cellsOf_size h
  exact ⟨i, hi, by simp [Program.bytesOf, hi]⟩
theorem run_append_room {types : Array TypeId} {e : TypeId} {s : Nat} {xv : Value} {n : Nat} {vs : List Value} {zeros : Bool} (A : App P w types e s xv n vs zeros) {base : Option Addr} {len cap : Nat} (hroom : len + n ≤ cap) (ty : TypeId) {w' : World}
    (hst : (match base with | some a => storeCells (a.add (len * s)) vs | none => pure ()).run P w = .ok () w') :
    (Builtin.append_ types ty #[.slice base len cap, xv]).run P w = .ok (.slice base (len + n) cap) w' := by
  obtain ⟨t, ht, hu⟩ := A.t
  obtain ⟨i, hi, hib⟩ := info_of_size A.size
  have hs := A.size
  cases zeros with
  | false =>
    obtain ⟨⟨t2, u, ht2, hu2, hni⟩, hl, _, hf, _⟩ := A.z rfl
    have hm : (match u with | .int _ => true | _ => false) = false := by cases u <;> first | rfl | exact absurd rfl (hni _)
    unfold Builtin.append_
    simp only [ht, List.getElem?_toArray, List.getElem?_cons_zero, List.getElem?_cons_succ, Sem.run_bind, run_underlying hu, Result.andThen_ok, run_sizeOf hs, ht2, run_underlying hu2, hm, Sem.run_pure, Bool.false_eq_true, if_false, hl, Bool.not_false, if_true, hroom, hf]
    cases base with
    | none => simp only [Sem.run_pure, Result.ok.injEq, true_and] at hst; subst hst; rfl
    | some a => simp only at hst; simp only [Sem.run_bind, hst, Result.andThen_ok, Sem.run_pure]
  | true =>
    obtain ⟨⟨t2, k, ht2, hu2⟩, ⟨k', rfl⟩, hn, zv, hzv, hcells, hemp⟩ := A.o rfl
    have hw : IntKind.i64.wrap (n : Int) = (n : Int) := IntWalk.i64_in _ (by omega)
    have hsm := A.small
    have hmul : ¬ ((n : Int) * (i.bytes : Int) > 2 ^ 48) := by
      rw [hib, ← Int.natCast_mul]
      have : n * P.bytesOf e ≤ 1048576 * 1048576 := Nat.mul_le_mul (by omega) (by omega)
      have e2 : (2 : Int) ^ 48 = 281474976710656 := by decide
      rw [e2]; omega
    have hap : (if n * s = 0 then (pure #[] : Sem (Array Value)) else do pure (Builtin.zeroCells (← zeroValue e).cells n)).run P w = .ok vs.toArray w := by
      by_cases h0 : n * s = 0
      · rw [if_pos h0, hemp h0]; rfl
      · rw [if_neg h0]; simp only [Sem.run_bind, hzv, Result.andThen_ok, Sem.run_pure, hcells]
    unfold Builtin.append_
    simp only [ht, List.getElem?_toArray, List.getElem?_cons_zero, List.getElem?_cons_succ, Sem.run_bind, run_underlying hu, Result.andThen_ok, run_sizeOf hs, ht2, run_underlying hu2, Sem.run_pure, if_true, asInt, asIntOf, hw, typeInfo, run_program, hi, hmul, if_false, Int.toNat_natCast, Bool.not_true, Bool.false_eq_true, hroom, show ¬ ((n : Int) < 0) by omega, hap]
    cases base with
    | none => simp only [Sem.run_pure, Result.ok.injEq, true_and] at hst; subst hst; rfl
    | some a => simp only at hst; simp only [Sem.run_bind, hst, Result.andThen_ok, Sem.run_pure]
theorem run_append_grow {types : Array TypeId} {e : TypeId} {s : Nat} {xv : Value} {n : Nat} {vs : List Value} {zeros : Bool} (A : App P w types e s xv n vs zeros) {base : Option Addr} {len cap : Nat} (hno : cap < len + n) (hsm : len + n < 1048576) (ty : TypeId)
    {old : List Value} (hold : (Builtin.firstCells s len (.slice base len cap)).run P (drew1 w) = .ok old.toArray (drew1 w)) {zv : Value} (hzv : ∀ w', (zeroValue e).run P w' = .ok zv w') :
    ∃ newCap, len + n ≤ newCap ∧ (Builtin.append_ types ty #[.slice base len cap, xv]).run P w = .ok (.slice (some ⟨w.heap.size, 0, none⟩) (len + n) newCap) { drew1 w with heap := w.heap.push (.cells (old.toArray ++ vs.toArray ++ Builtin.zeroCells zv.cells (newCap - (len + n))) e) } := by
  obtain ⟨t, ht, hu⟩ := A.t
  obtain ⟨i, hi, hib⟩ := info_of_size A.size
  have hs := A.size
  have hbs := A.small
  refine ⟨(Question.appendCap (len + n) cap e).cut (w.tape w.drawn (.appendCap (len + n) cap e)), Nat.le_add_right _ _, ?_⟩
  have hnc : ¬ (Builtin.nextslicecap (len + n) cap * i.bytes > 2 ^ 48) := by
    have h1 := nextcap_le (len + n) cap hno
    have h2 : Builtin.nextslicecap (len + n) cap * i.bytes ≤ (2 * 1048576 + 768) * 1048576 := Nat.mul_le_mul (by omega) (by omega)
    have e2 : 2 ^ 48 = 281474976710656 := by decide
    rw [e2]; omega
  have hroom : ¬ (len + n ≤ cap) := by omega
  have hmax : ¬ (((len + n : Nat) : Int) > IntKind.i64.max) := by
    have : IntKind.i64.max = 9223372036854775807 := by decide
    rw [this]; omega
  cases zeros with
  | false =>
    obtain ⟨⟨t2, u, ht2, hu2, hni⟩, hl, hl', hf, hf'⟩ := A.z rfl
    have hm : (match u with | .int _ => true | _ => false) = false := by cases u <;> first | rfl | exact absurd rfl (hni _)
    unfold Builtin.append_
    simp only [ht, List.getElem?_toArray, List.getElem?_cons_zero, List.getElem?_cons_succ, Sem.run_bind, run_underlying hu, Result.andThen_ok, run_sizeOf hs, ht2, run_underlying hu2, hm, Sem.run_pure, Bool.false_eq_true, if_false, hl, Bool.not_false, if_true, hroom, typeInfo, run_program, hi, hmax, false_and, Sem.run_ite, hnc,
      run_choose, Question.forced, run_askRoom]
    have hold' := hold
    have hf'' := hf'
    simp only [drew1] at hold' hf''
    simp only [hold', Result.andThen_ok, hf'', hzv, run_newRow]
    rfl
  | true =>
    obtain ⟨⟨t2, k, ht2, hu2⟩, ⟨k', rfl⟩, hn, zv', hzv', hcells, hemp⟩ := A.o rfl
    have hw : IntKind.i64.wrap (n : Int) = (n : Int) := IntWalk.i64_in _ (by omega)
    have hmul : ¬ ((n : Int) * (i.bytes : Int) > 2 ^ 48) := by
      rw [hib, ← Int.natCast_mul]
      have : n * P.bytesOf e ≤ 1048576 * 1048576 := Nat.mul_le_mul (by omega) (by omega)
      have e2 : (2 : Int) ^ 48 = 281474976710656 := by decide
      rw [e2]; omega
    have hap : ∀ w : World, (if n * s = 0 then (pure #[] : Sem (Array Value)) else do pure (Builtin.zeroCells (← zeroValue e).cells n)).run P w = .ok vs.toArray w := fun w => by
      by_cases h0 : n * s = 0
      · rw [if_pos h0, hemp h0]; rfl
      · rw [if_neg h0]; simp only [Sem.run_bind, hzv', Result.andThen_ok, Sem.run_pure, hcells]
    unfold Builtin.append_
    simp only [ht, List.getElem?_toArray, List.getElem?_cons_zero, List.getElem?_cons_succ, Sem.run_bind, run_underlying hu, Result.andThen_ok, run_sizeOf hs, ht2, run_underlying hu2, Sem.run_pure, if_true, asInt, asIntOf, hw, typeInfo, run_program, hi, hmul, if_false, Int.toNat_natCast, Bool.not_true, Bool.false_eq_true, hroom, show ¬ ((n : Int) < 0) by omega,
      hmax, false_and, Sem.run_ite, hnc, run_choose, Question.forced, run_askRoom]
    have hold' := hold
    simp only [drew1] at hold'
    have hzz : zv' = zv := by have := (hzv' w).symm.trans (hzv w); simpa using this
    subst hzz
    simp only [hold', Result.andThen_ok, hzv', run_newRow, Sem.run_pure, Sem.run_bind]
    by_cases h0 : n * s = 0
    · have := hemp h0
      subst this
      simp only [h0, if_true, Result.andThen_ok]; rfl
    · simp only [h0, if_false, Result.andThen_ok, hcells]; rfl
end
end Go.Proofs.YtmapmbfohilklaaGreat.Ab
