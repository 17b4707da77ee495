/-
  MerkleNil: for all p, d and n the call returns true: where there is no store each answer is as the document says. No condition.
-/
import Derived.Test.YtgmodeaeglnagaaGreatRows
import Derived.Test.YtgmodeaeglnagaaGreatMerkleNilWalk
import Derived.Test.YtgmodeaeglnagaaGreatPost
import Derived.ProofKit
import Derived.OpenShut
import Derived.Carry
namespace Go.Proofs.YtgmodeaeglnagaaGreat.merkleNil
open Go.ChangeShapes Go.WideShapes Go.ChangeAt Go.RowKit
set_option linter.unusedVariables false
set_option linter.constructorNameAsVariable false
set_option maxRecDepth 100000

theorem own : ownKnob Tryz.prog.godebug = none := by kernel_rfl
theorem ct24 : Tryz.prog.cellTypes Tryz.prog.depth 24 = some (List.replicate 32 5) := by kernel_rfl
theorem cs24 : Tryz.prog.cellsOf 24 = 32 := by kernel_rfl
/-- A digest is a row of 32 cells. -/
theorem dg_of {W : World} {base : Nat} {v : Value} (h : Value.okWide Tryz.prog W .any base 24 v) : Dg v := by
  simp only [Value.okWide, u24] at h
  obtain ⟨cs, rfl, hs, ts, hts, _, hc⟩ := h
  refine ⟨cs, rfl, hs.trans cs24, fun v hv => ?_⟩
  have hts' : ts = List.replicate 32 5 := by
    have := ct24
    rw [hts] at this
    exact Option.some.inj this
  obtain ⟨i, hi⟩ := List.getElem?_of_mem hv
  obtain ⟨u, hu, hk⟩ := hc i v (by simpa using hi)
  rw [hts', List.getElem?_replicate] at hu
  split at hu
  · cases hu
    obtain ⟨b, rfl⟩ : ∃ b, v = .int .u8 b := by
      simp only [Cell.okWide, Tryz.underlying5] at hk
      cases v <;> simp_all [Cell.ok]
    rfl
  · cases hu
theorem laidOut : laidOutB Tryz.prog = true := by kernel_rfl

set_option maxRecDepth 100000 in
theorem lifted (os : Os) (started : os.Started) (H : Type) (enc : TypeId × Value → H) :
    ReturnsInHanded {} Tryz.checked os 3 .any (Rows.merkleNilSpec.pre6 enc Tryz.prog Tryz.f3 Rows.merkleNilRow.domain false) (Rows.merkleNilSpec.post enc Tryz.prog Tryz.f3 false true false false) := by
  refine returnsInHanded_of_change (C := Tryz.checked) own started (by kernel_rfl) Tryz.func3
    (ChangeSpec.witness6 (enc := enc) (C := Tryz.checked) false ⟨#[], #[.slice none 0 0, .agg (Array.replicate 32 (.int .u8 0)), .int .i64 0], []⟩ 64 (by kernel_rfl) (by kernel_rfl) (by kernel_rfl) (by kernel_rfl)) ?_
  intro W base args ds gs before hval0 hW hcnd _
  have hval : ∀ (j : Nat) t v, Tryz.f3.params[j]? = some t → args[j]? = some v → Value.okWide Tryz.prog W .any base t v := hval0
  have hW' := hW
  have hlt0 : ∀ x ∈ before, x.block < W.heap.size := fun x hx => hW.lt x hx
  obtain ⟨p, q, hA0, hV, rfl, hfz, hnd⟩ := hW
  have hA : DataW.TrodAll enc Tryz.prog W 0 (fun _ => true) true Tryz.f3.params.toList args.toList ds p := hA0
  rw [Tryz.params3] at hA hval
  obtain ⟨v0, vs0, d0, ds0, p0, q0, hargs, rfl, rfl, h0, r0⟩ := trodAll_cons hA
  obtain ⟨v1, vs1, d1, ds1, p1, q1, rfl, rfl, rfl, h1, r1⟩ := trodAll_cons r0
  obtain ⟨v2, vs2, d2, ds2, p2, q2, rfl, rfl, rfl, h2, r2⟩ := trodAll_cons r1
  obtain ⟨rfl, rfl, rfl⟩ := trodAll_nil r2
  obtain rfl : args = #[v0, v1, v2] := by cases args; simp_all
  obtain ⟨rfl, rfl⟩ := trodVars_none hV
  obtain ⟨a0, l0, c0, rfl⟩ := okWide_slice Tryz.underlying22 (hval 0 22 v0 rfl rfl)
  have hdg : Dg v1 := dg_of (hval 1 24 v1 rfl rfl)
  obtain ⟨a2, rfl, rfl, rfl, w2⟩ := open_int Tryz.underlying3 (hval 2 3 v2 rfl rfl) h2
  have hlt : ∀ x ∈ p0, x.block < W.heap.size := fun x hx => hlt0 x (by simp [hx])
  have hlt1 : ∀ x ∈ p1, x.block < W.heap.size := fun x hx => hlt0 x (by simp [hx])
  clear hA0 hval0
  simp only [List.append_nil] at hW'
  refine (merkleNil_walk hdg a0 l0 c0 a2 W).mono fun e W' ⟨he, hf⟩ => ?_
  subst he
  have hbelow := hf.below (Nat.le_refl _) (fun _ h => h.elim)
  exact ⟨_, rfl, post_of_below (pa := p0 ++ p1) (pv := []) hW' (fun _ _ _ => (trodAll_cons_mk (shut_bool Tryz.underlying4 _) trodAll_mk0)) (fun sp hsp => by
      have := trodAll_cons_mk (WideElems.Trod_stays laidOut (by kernel_rfl) (of_decide_eq_true (by kernel_rfl)) h0 (fun x hx => hbelow.same (hlt x hx)) (fun x hx => hsp x (by simp [hx])))
        (trodAll_cons_mk (WideElems.Trod_stays laidOut (by kernel_rfl) (of_decide_eq_true (by kernel_rfl)) h1 (fun x hx => hbelow.same (hlt1 x hx)) (fun x hx => hsp x (by simp [hx])))
          (trodAll_cons_mk (shut_int Tryz.underlying3 w2) trodAll_mk0))
      simp only [List.append_nil] at this
      exact this) (fun _ _ => rfl) (by simp)
    hbelow (ok_one (by kernel_rfl) rfl (okWide_bool_mk Tryz.underlying4 _))⟩

theorem over : Rows.merkleNilRow.holds Tryz.pinned (OpenSpec.ofChange Rows.merkleNilSpec) :=
  OpenClaim.holds_of_wide 3 Tryz.f3 rfl rfl rfl rfl rfl rfl rfl ⟨rfl, rfl, rfl, rfl, rfl⟩ rfl rfl rfl rfl rfl (by kernel_rfl) Tryz.func3 (by kernel_rfl)
    (of_decide_eq_true (by kernel_rfl)) (by unfold Func.isWrapper; first | (rw [if_pos (by decide +kernel)]; kernel_rfl) | (rw [if_neg (by decide +kernel)]; exact ⟨rfl, rfl⟩))
    (fun os started H enc _ => lifted os started H enc)

theorem proved : Rows.MerkleNilSaid :=
  over
#print axioms proved
end Go.Proofs.YtgmodeaeglnagaaGreat.merkleNil
