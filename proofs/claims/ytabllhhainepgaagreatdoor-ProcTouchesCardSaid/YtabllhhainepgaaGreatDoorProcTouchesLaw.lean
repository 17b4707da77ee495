/-
  ProcTouches: for every call's arguments and every number the call returns true: what a call touches answers as the document says. Condition (tied to the program's text by the card): errors.errorType holds the handle of the type error, three tables what the text lays there.
-/
import Derived.Test.YtabllhhainepgaaGreatDoorDoorLaid
import Derived.Test.YtabllhhainepgaaGreatDoorPtArgs
import Derived.Test.YtabllhhainepgaaGreatDoorProcTouchesFacts
import Derived.Test.YtabllhhainepgaaGreatDoorPost
import Derived.OpenShut
import Derived.Carry
import Derived.ChangeSame
import Derived.SevenTiedAt
set_option maxRecDepth 100000
set_option linter.unusedVariables false
set_option linter.unusedSimpArgs false
set_option linter.constructorNameAsVariable false
namespace Go.Proofs.YtabllhhainepgaaGreatDoor.procTouches
open Go.ChangeShapes Go.WideShapes Go.ChangeAt Go.RowKit Abk

abbrev laid : List (String × DataW Unit) := Rows.procTouchesRow.laid
theorem cell_one {P : Program} {W : World} {base : Nat} {u : TypeId} {v : Value} (h : Cell.okWide P W .any base u v) : v.oneCell' = true := by
  cases v <;> first | rfl | (exfalso; revert h; unfold Cell.okWide Cell.ok; split <;> simp_all)
def isAgg (P : Program) (t : TypeId) : Bool := match P.underlying t with | some (.struct _) => true | some (.array _ _) => true | _ => false
/-- A value of a struct or of an array: its cells. -/
theorem agg_of {P : Program} {W : World} {base : Nat} {t : TypeId} {v : Value} (hk : isAgg P t = true) {n : Nat} (hsz : P.cellsOf t = n) (h : Value.okWide P W .any base t v) : ∃ cs : Array Value, v = .agg cs ∧ cs.size = n ∧ ∀ u ∈ cs.toList, u.oneCell' = true := by
  unfold isAgg at hk
  unfold Value.okWide at h
  split at hk
  all_goals first
    | cases hk; done
    | (rename_i hfs
       rw [hfs] at h
       obtain ⟨cs, rfl, hs, ts, hts, _, hc⟩ := h
       refine ⟨cs, rfl, hs.trans hsz, fun u hu => ?_⟩
       obtain ⟨i, hi⟩ := List.getElem?_of_mem hu
       obtain ⟨_, _, g⟩ := hc i u (by simpa using hi)
       exact cell_one g)
theorem own : ownKnob Tryz.prog.godebug = none := by kernel_rfl
theorem laidOut : laidOutB Tryz.prog = true := by kernel_rfl
theorem handle_of_laid {W : World} (h : laidMetH Tryz.prog laid W) : ErrT W := handle_of (show handlesMet Tryz.prog [("errors.errorType", Rows.laid_errors_errorType)] W from h.2)
theorem door_met (os : Os) (args : Array Value) : laidMetH Tryz.prog laid ((World.doorLaid Tryz.prog 400 os).forCall (fun _ _ => 0) ⟨#[], args, []⟩).memory :=
  laidMetH_of_parts (laidMet_of_run' 8 (by kernel_rfl) (by kernel_rfl)) (by kernel_rfl)
abbrev zero : Array Value := #[.int .u32 0, .slice none 0 0, .string ByteArray.empty, .slice none 0 0, .string ByteArray.empty, .int .i64 0, .int .u32 0, .int .u32 0, .int .u32 0, .int .u64 0, .int .u64 0, .int .u64 0, .bool false, .int .u64 0, .int .u32 0, .int .u64 0, .int .u32 0, .int .u32 0, .slice none 0 0, .int .u32 0, .int .u64 0, .string ByteArray.empty, .int .u64 0, .int .u64 0]
theorem lifted (os : Os) (started : os.Started) (H : Type) (enc : TypeId × Value → H) :
    ReturnsInHanded {} Tryz.checked os 3 .any (fun w args => (Rows.procTouchesSpec.pre enc Tryz.prog Tryz.f3 [] false w args ∧ laidMetH Tryz.prog laid w) ∧ sizedMet enc Tryz.prog Tryz.f3 (OpenSpec.ofChange Rows.procTouchesSpec) false w args)
      (Rows.procTouchesSpec.post enc Tryz.prog Tryz.f3 false true false false) := by
  refine returnsInHanded_of_change_and (C := Tryz.checked) (X := fun w _ => laidMetH Tryz.prog laid w) (fun _ _ _ hh h => h.of_heap hh) own started (by kernel_rfl) Tryz.func3
    (ChangeSpec.witness_shaped (enc := enc) (C := Tryz.checked) (os := os) (X := fun w _ => laidMetH Tryz.prog laid w) false (World.doorLaid Tryz.prog 400 os) #[.agg zero, .int .u32 0] 64 rfl (World.shaped_of_RefB (by kernel_rfl) (by kernel_rfl)) (by kernel_rfl) (by kernel_rfl) (by kernel_rfl) (door_met os _)) ?_
  intro W base args ds gs before hval0 hW _ _ hL _
  have hval : ∀ (j : Nat) t v, Tryz.f3.params[j]? = some t → args[j]? = some v → Value.okWide Tryz.prog W .any base t v := hval0
  have hW' := hW
  have hlt0 : ∀ x ∈ before, x.block < W.heap.size := fun x hx => hW.lt x hx
  obtain ⟨p, q, hA0, hV, rfl, hfz, hnd⟩ := hW
  have hA : DataW.TrodAll enc Tryz.prog W 0 (fun _ => true) true Tryz.f3.params.toList args.toList ds p := hA0
  rw [Tryz.params3] at hA hval
  obtain ⟨v0, vs0, d0, ds0, p0, q0, hargs, rfl, rfl, h0, r0⟩ := trodAll_cons hA
  obtain ⟨v1, vs1, d1, ds1, p1, q1, rfl, rfl, rfl, h1, r1⟩ := trodAll_cons r0
  obtain ⟨rfl, rfl, rfl⟩ := trodAll_nil r1
  obtain rfl : args = #[v0, v1] := by cases args; simp_all
  obtain ⟨rfl, rfl⟩ := trodVars_none hV
  obtain ⟨cs, rfl, hcs, hoc⟩ := agg_of (n := 24) (by kernel_rfl) (by kernel_rfl) (hval 0 28 v0 rfl rfl)
  obtain ⟨a1, rfl, rfl, rfl, w1⟩ := open_int Tryz.underlying22 (hval 1 22 v1 rfl rfl) h1
  have hlt : ∀ x ∈ p0, x.block < W.heap.size := fun x hx => hlt0 x (by simp [hx])
  have h0k := h0
  obtain ⟨f0, hf0⟩ := h0
  obtain ⟨pr, v1, v2, b1, b2, hp, hz, hB1, hB2, hY1, hY2⟩ := args_of hcs hoc hf0
  have hr := u32_of w1
  obtain ⟨m, rfl⟩ : ∃ m : Nat, a1 = (m : Int) := ⟨a1.toNat, by omega⟩
  clear hA0 hval0
  simp only [List.append_nil] at hW'
  refine (procTouches_walk W cs pr m hp v1 v2 hz b1 b2 hB1 hB2 hY1 hY2 (handle_of_laid hL)).mono fun e W' ⟨he, hf⟩ => ?_
  subst he
  have hbelow := hf.below (Nat.le_refl _) (fun _ h => h.elim)
  exact ⟨_, rfl, post_of_below (pa := p0) (pv := []) hW' (fun _ _ _ => (trodAll_cons_mk (shut_bool Tryz.underlying4 _) trodAll_mk0)) (fun sp hsp => by
      have := trodAll_cons_mk (WideElems.Trod_stays laidOut (by kernel_rfl) (of_decide_eq_true (by kernel_rfl)) h0k (fun x hx => hbelow.same (hlt x hx)) (fun x hx => hsp x (by simp [hx])))
        (trodAll_cons_mk (shut_int Tryz.underlying22 w1) trodAll_mk0)
      simp only [List.append_nil] at this
      exact this) (fun _ _ => rfl) (by simp)
    hbelow (ok_one (by kernel_rfl) rfl (okWide_bool_mk Tryz.underlying4 _))⟩

theorem over : Rows.ProcTouchesSaid :=
  OpenClaim.holds_of_wide 3 Tryz.f3 rfl rfl rfl rfl rfl rfl rfl ⟨rfl, rfl, rfl, rfl, rfl⟩ rfl rfl rfl rfl rfl (by kernel_rfl) Tryz.func3 procTouchesF.all
    (of_decide_eq_true (by kernel_rfl)) (by unfold Func.isWrapper; first | (rw [if_pos (by decide +kernel)]; kernel_rfl) | (rw [if_neg (by decide +kernel)]; exact ⟨rfl, rfl⟩))
    (fun os started H enc _ => lifted os started H enc)

theorem proved : Rows.ProcTouchesCardSaid :=
  Claim7.holds_tied_plain_at .later [] [.data, .data, .data, .handle] true (Rows.procTouchesCard.stood.harness) true
    over (fun _ h => by cases h) (by kernel_rfl) (fun _ h => by cases h) procTouches_row_tie rfl ⟨rfl, rfl⟩ (by kernel_rfl) rfl
    (fun f fn hf hfn => by
      obtain rfl : f = 3 := Option.some.inj ((show Tryz.prog.funcNamed "granary/granarylaw23.ProcTouches" = some 3 by kernel_rfl).symm.trans hf) |>.symm
      obtain rfl : fn = Tryz.f3 := (Option.some.inj (Tryz.func3.symm.trans hfn)).symm
      exact ⟨by kernel_rfl, fun j t ht => by
        rw [Tryz.params3] at ht
        have hm : t ∈ [28, 22] := by simpa using Array.mem_of_getElem? ht
        have hall : ([28, 22].all fun u => !Tryz.prog.wantsStandIn u) = true := by kernel_rfl
        exact (show Tryz.prog.wantsStandIn t = false by simpa using List.all_eq_true.1 hall t hm)⟩)
    (by kernel_rfl)
#print axioms proved
end Go.Proofs.YtabllhhainepgaaGreatDoor.procTouches
