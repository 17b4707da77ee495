/-
  SnapshotNil: for every digest and handle the call returns true: no tree, no store, a nil Maker and a nil View answer as the document says, and a frozen tree lives. Condition (tied to the program's text by the card): errors.errorType holds the handle of the type error.
-/
import Derived.Test.YtofnfadoecdcoaaGreatDoorRows
import Derived.Test.YtofnfadoecdcoaaGreatDoorCards
import Derived.Test.YtofnfadoecdcoaaGreatDoorTie
import Derived.Test.YtofnfadoecdcoaaGreatDoorSnapshotNilR
import Derived.Test.YtofnfadoecdcoaaGreatDoorSnapshotNilFacts
import Derived.Test.YtofnfadoecdcoaaGreatDoorErrAll
import Derived.Test.YtofnfadoecdcoaaGreatDoorInsOK
import Derived.Test.YtofnfadoecdcoaaGreatDoorPost
import Derived.ProofKit
import Derived.OpenShut
import Derived.Carry
import Derived.ChangeSame
import Derived.ChangeVars
import Derived.JoinedOf
import Derived.LaidLaws
import Derived.LaidHandle
import Derived.Stop.Joined
import Derived.SevenTiedAt
set_option maxRecDepth 100000
set_option linter.unusedVariables false
set_option linter.unusedSimpArgs false
set_option linter.constructorNameAsVariable false
namespace Go.Proofs.YtofnfadoecdcoaaGreatDoor.snapshotNil
open Go.ChangeShapes Go.WideShapes Go.ChangeAt Go.RowKit

abbrev laid : List (String × DataW Unit) := [("errors.errorType", Rows.laid_errors_errorType)]
theorem cell_one {P : Program} {W : World} {base : Nat} {u : TypeId} {v : Value} (h : Cell.okWide P W .any base u v) : v.oneCell' = true := by
  cases v <;> first | rfl | (exfalso; revert h; unfold Cell.okWide Cell.ok; split <;> simp_all)
def isAgg (P : Program) (t : TypeId) : Bool := match P.underlying t with | some (.struct _) => true | some (.array _ _) => true | _ => false
/-- A value of a struct or of an array: its cells. -/
theorem agg_of {P : Program} {W : World} {base : Nat} {t : TypeId} {v : Value} (hk : isAgg P t = true) {n : Nat} (hsz : P.cellsOf t = n) (h : Value.okWide P W .any base t v) : ∃ cs : Array Value, v = .agg cs ∧ cs.size = n ∧ ∀ u ∈ cs.toList, u.oneCell' = true := by
  unfold isAgg at hk
  unfold Value.okWide at h
  split at hk
  all_goals first
    | cases hk; done
    | (rename_i hfs
       rw [hfs] at h
       obtain ⟨cs, rfl, hs, ts, hts, _, hc⟩ := h
       refine ⟨cs, rfl, hs.trans hsz, fun u hu => ?_⟩
       obtain ⟨i, hi⟩ := List.getElem?_of_mem hu
       obtain ⟨_, _, g⟩ := hc i u (by simpa using hi)
       exact cell_one g)
theorem anys {μ : Ab.Mu} : ∀ (l : List Value), (∀ u ∈ l, u.oneCell' = true) → Ab.LR μ (List.replicate l.length .any) l
  | [], _ => .nil
  | u :: l, h => .cons _ _ _ _ (.any u (h u (by simp))) (anys l fun x hx => h x (by simp [hx]))
theorem any_agg {μ : Ab.Mu} {cs : Array Value} {n : Nat} (hs : cs.size = n) (h : ∀ u ∈ cs.toList, u.oneCell' = true) : Ab.VR μ (.agg (List.replicate n .any)) (.agg cs) := by
  have := anys (μ := μ) cs.toList h
  rw [Array.length_toList, hs] at this
  exact .agg _ _ this
theorem own : ownKnob Tryz.prog.godebug = none := by kernel_rfl
theorem laidOut : laidOutB Tryz.prog = true := by kernel_rfl
theorem et : Tryz.prog.globalNamed "errors.errorType" = some 0 := by kernel_rfl
theorem rt : (Tryz.prog.cutTypes.find? (·.1 == "internal/reflectlite.rtype")).map (·.2) = some 196 := by kernel_rfl
theorem oneRow : ((List.range 505).filter fun t => Tryz.prog.rowNamed t [101, 114, 114, 111, 114]) = [31] := by kernel_rfl
theorem size : Tryz.prog.types.size = 505 := by kernel_rfl
/-- What the condition gives a walk: the variable's one cell. -/
theorem handle_of_laid {W : World} (h : laidMetH Tryz.prog laid W) : ErrT W := by
  have h' : laidMet Tryz.prog [] W ∧ handlesMet Tryz.prog laid W := h
  obtain ⟨name, u, ty, e1, e2, e3, e4, e5⟩ := h'.2 _ (List.mem_singleton.2 rfl)
  have en : name = [101, 114, 114, 111, 114] := (Option.some.inj e1).symm
  subst en
  obtain rfl := Option.some.inj (rt.symm.trans e2)
  have hm : ty ∈ (List.range 505).filter fun t => Tryz.prog.rowNamed t [101, 114, 114, 111, 114] := List.mem_filter.2 ⟨List.mem_range.2 (by rw [← size]; exact e3), e4⟩
  rw [oneRow] at hm
  obtain rfl := List.mem_singleton.1 hm
  have hh : typeHandle Tryz.prog 31 = .pointer (some ⟨2, 31, none⟩) := by kernel_rfl
  rw [hh] at e5
  have := World.var?_cell et e5 0
  unfold ErrT
  simpa using this
/-- A world that meets the condition: the settled one, the variable's cell laid. -/
noncomputable def laidWorld (os : Os) : World :=
  let w0 := World.holding Tryz.prog os ⟨#[], #[], []⟩
  { w0 with heap := w0.heap.modify 0 fun
      | .cells _ t frozen => .cells #[.iface 196 (.agg #[.pointer (some ⟨2, 31, none⟩)])] t frozen
      | o => o }
theorem laidWorld_met (os : Os) (args : Array Value) : laidMetH Tryz.prog laid ((laidWorld os).forCall (fun _ _ => 0) ⟨#[], args, []⟩).memory :=
  laidMetH_of_parts (laidMet_nil _ _) (by kernel_rfl)
theorem lifted (os : Os) (started : os.Started) (H : Type) (enc : TypeId × Value → H) :
    ReturnsInHanded {} Tryz.checked os 3 .any (fun w args => (Rows.snapshotNilSpec.pre enc Tryz.prog Tryz.f3 [] false w args ∧ laidMetH Tryz.prog laid w) ∧ sizedMet enc Tryz.prog Tryz.f3 (OpenSpec.ofChange Rows.snapshotNilSpec) false w args)
      (Rows.snapshotNilSpec.post enc Tryz.prog Tryz.f3 false true false false) := by
  refine returnsInHanded_of_change_and (C := Tryz.checked) (X := fun w _ => laidMetH Tryz.prog laid w) (fun _ _ _ hh h => h.of_heap hh) own started (by kernel_rfl) Tryz.func3
    (ChangeSpec.witness_at (enc := enc) (C := Tryz.checked) (os := os) (X := fun w _ => laidMetH Tryz.prog laid w) false (laidWorld os) #[.agg (Array.replicate 32 (.int .u8 0)), .agg #[.int .u32 0, .int .u64 0, .int .u32 0]] 64 rfl (by kernel_rfl) (by kernel_rfl) (by kernel_rfl) (by kernel_rfl) (by kernel_rfl) (laidWorld_met os _)) ?_
  intro W base args ds gs before hval0 hW _ _ hL _
  have hval : ∀ (j : Nat) t v, Tryz.f3.params[j]? = some t → args[j]? = some v → Value.okWide Tryz.prog W .any base t v := hval0
  have hW' := hW
  have hlt0 : ∀ x ∈ before, x.block < W.heap.size := fun x hx => hW.lt x hx
  obtain ⟨p, q, hA0, hV, rfl, hfz, hnd⟩ := hW
  have hA : DataW.TrodAll enc Tryz.prog W 0 (fun _ => true) true Tryz.f3.params.toList args.toList ds p := hA0
  rw [Tryz.params3] at hA hval
  obtain ⟨v0, vs0, d0, ds0, p0, q0, hargs, rfl, rfl, h0, r0⟩ := trodAll_cons hA
  obtain ⟨v1, vs1, d1, ds1, p1, q1, rfl, rfl, rfl, h1, r1⟩ := trodAll_cons r0
  obtain ⟨rfl, rfl, rfl⟩ := trodAll_nil r1
  obtain rfl : args = #[v0, v1] := by cases args; simp_all
  obtain ⟨rfl, rfl⟩ := trodVars_none hV
  obtain ⟨cd, rfl, hcd, hod⟩ := agg_of (n := 32) (by kernel_rfl) (by kernel_rfl) (hval 0 23 v0 rfl rfl)
  obtain ⟨ch, rfl, hch, hoh⟩ := agg_of (n := 3) (by kernel_rfl) (by kernel_rfl) (hval 1 27 v1 rfl rfl)
  have hlt : ∀ x ∈ p0, x.block < W.heap.size := fun x hx => hlt0 x (by simp [hx])
  have hlt1 : ∀ x ∈ p1, x.block < W.heap.size := fun x hx => hlt0 x (by simp [hx])
  clear hA0 hval0
  simp only [List.append_nil] at hW'
  refine (sn_calls W (lawK_ok (handle_of_laid hL)) (cargs := #[.agg cd, .agg ch]) (.cons _ _ _ _ (any_agg hcd hod) (.cons _ _ _ _ (any_agg hch hoh) .nil))).mono fun e W' ⟨he, hf⟩ => ?_
  subst he
  have hbelow := hf.below (Nat.le_refl _) (fun _ h => h.elim)
  exact ⟨_, rfl, post_of_below (pa := p0 ++ p1) (pv := []) hW' (fun _ _ _ => (trodAll_cons_mk (shut_bool Tryz.underlying4 _) trodAll_mk0)) (fun sp hsp => by
      have := trodAll_cons_mk (WideElems.Trod_stays laidOut (by kernel_rfl) (of_decide_eq_true (by kernel_rfl)) h0 (fun x hx => hbelow.same (hlt x hx)) (fun x hx => hsp x (by simp [hx])))
        (trodAll_cons_mk (WideElems.Trod_stays laidOut (by kernel_rfl) (of_decide_eq_true (by kernel_rfl)) h1 (fun x hx => hbelow.same (hlt1 x hx)) (fun x hx => hsp x (by simp [hx]))) trodAll_mk0)
      simp only [List.append_nil] at this
      exact this) (fun _ _ => rfl) (by simp)
    hbelow (ok_one (by kernel_rfl) rfl (okWide_bool_mk Tryz.underlying4 _))⟩

theorem over : Rows.SnapshotNilSaid :=
  OpenClaim.holds_of_wide 3 Tryz.f3 rfl rfl rfl rfl rfl rfl rfl ⟨rfl, rfl, rfl, rfl, rfl⟩ rfl rfl rfl rfl rfl (by kernel_rfl) Tryz.func3 snapshotNilF.all
    (of_decide_eq_true (by kernel_rfl)) (by unfold Func.isWrapper; first | (rw [if_pos (by decide +kernel)]; kernel_rfl) | (rw [if_neg (by decide +kernel)]; exact ⟨rfl, rfl⟩))
    (fun os started H enc _ => lifted os started H enc)

theorem proved : Rows.SnapshotNilCardSaid :=
  Claim7.holds_tied_plain_at .later [] [.handle] true (Rows.snapshotNilCard.stood.harness) true
    over (fun _ h => by cases h) (by kernel_rfl) (fun _ h => by cases h) snapshotNil_row_tie rfl ⟨rfl, rfl⟩ (by kernel_rfl) rfl
    (fun f fn hf hfn => by
      obtain rfl : f = 3 := Option.some.inj ((show Tryz.prog.funcNamed "granary/granarylaw19.SnapshotNil" = some 3 by kernel_rfl).symm.trans hf) |>.symm
      obtain rfl : fn = Tryz.f3 := (Option.some.inj (Tryz.func3.symm.trans hfn)).symm
      exact ⟨by kernel_rfl, fun j t ht => by
        rw [Tryz.params3] at ht
        have hm : t ∈ [23, 27] := by simpa using Array.mem_of_getElem? ht
        have hall : ([23, 27].all fun u => !Tryz.prog.wantsStandIn u) = true := by kernel_rfl
        exact (show Tryz.prog.wantsStandIn t = false by simpa using List.all_eq_true.1 hall t hm)⟩)
    (by kernel_rfl)
#print axioms proved
end Go.Proofs.YtofnfadoecdcoaaGreatDoor.snapshotNil
