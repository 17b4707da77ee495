/-
  FsopsNil: for every act and root the call returns true: no space and a nil FS answer as the document says. Conditions: what the call reads is of bulk at most 1048576 (the second form); errors.errorType holds the handle of the type error (tied to the program's text by the card).
-/
import Derived.Test.YtjcpkckbjhknfaaGreatDoorRows
import Derived.Test.YtjcpkckbjhknfaaGreatDoorCards
import Derived.Test.YtjcpkckbjhknfaaGreatDoorTie
import Derived.Test.YtjcpkckbjhknfaaGreatDoorFsopsNilWalk
import Derived.Test.YtjcpkckbjhknfaaGreatDoorPost
import Derived.ProofKit
import Derived.OpenShut
import Derived.Carry
import Derived.ChangeSame
import Derived.ChangeVars
import Derived.JoinedOf
import Derived.LaidLaws
import Derived.LaidHandle
import Derived.Stop.Joined
import Derived.SevenTiedAt
import Derived.Deep.DeepHandedRow
set_option linter.unusedSimpArgs false
set_option linter.unusedVariables false
set_option linter.constructorNameAsVariable false
set_option maxRecDepth 100000
namespace Go.Proofs.YtjcpkckbjhknfaaGreatDoor.fsopsNil
open Go.ChangeShapes Go.WideShapes Go.ChangeAt Go.RowKit

abbrev laid : List (String × DataW Unit) := [("errors.errorType", Rows.laid_errors_errorType)]
theorem own : ownKnob Tryz.prog.godebug = none := by kernel_rfl
theorem laidOut : laidOutB Tryz.prog = true := by kernel_rfl
theorem et : Tryz.prog.globalNamed "errors.errorType" = some 0 := by kernel_rfl
theorem rt : (Tryz.prog.cutTypes.find? (·.1 == "internal/reflectlite.rtype")).map (·.2) = some 252 := by kernel_rfl
theorem oneRow : ((List.range 366).filter fun t => Tryz.prog.rowNamed t [101, 114, 114, 111, 114]) = [37] := by kernel_rfl
theorem size : Tryz.prog.types.size = 366 := by kernel_rfl
/-- What the condition gives a walk: the variable's one cell. -/
theorem handle_of_laid {W : World} (h : laidMetH Tryz.prog laid W) : ErrT W := by
  have h' : laidMet Tryz.prog [] W ∧ handlesMet Tryz.prog laid W := h
  obtain ⟨name, u, ty, e1, e2, e3, e4, e5⟩ := h'.2 _ (List.mem_singleton.2 rfl)
  have en : name = [101, 114, 114, 111, 114] := (Option.some.inj e1).symm
  subst en
  obtain rfl := Option.some.inj (rt.symm.trans e2)
  have hm : ty ∈ (List.range 366).filter fun t => Tryz.prog.rowNamed t [101, 114, 114, 111, 114] := List.mem_filter.2 ⟨List.mem_range.2 (by rw [← size]; exact e3), e4⟩
  rw [oneRow] at hm
  obtain rfl := List.mem_singleton.1 hm
  have hh : typeHandle Tryz.prog 37 = .pointer (some ⟨2, 37, none⟩) := by kernel_rfl
  rw [hh] at e5
  have := World.var?_cell et e5 0
  unfold ErrT
  simpa using this
/-- A world that meets the condition: the settled one, the variable's cell laid. -/
noncomputable def laidWorld (os : Os) : World :=
  let w0 := World.holding Tryz.prog os ⟨#[], #[], []⟩
  { w0 with heap := w0.heap.modify 0 fun
      | .cells _ t frozen => .cells #[.iface 252 (.agg #[.pointer (some ⟨2, 37, none⟩)])] t frozen
      | o => o }
theorem laidWorld_met (os : Os) (args : Array Value) : laidMetH Tryz.prog laid ((laidWorld os).forCall (fun _ _ => 0) ⟨#[], args, []⟩).memory :=
  laidMetH_of_parts (laidMet_nil _ _) (by kernel_rfl)

def zero : Value := .agg #[.int .i64 0, .int .u32 0, .int .u64 0, .int .u32 0, .int .u32 0, .int .u64 0, .int .u32 0, .string ⟨#[]⟩, .string ⟨#[]⟩, .int .u64 0, .int .i64 0, .slice none 0 0, .int .i64 0, .int .i64 0, .int .u32 0, .int .u32 0, .int .u32 0, .int .u64 0, .int .u64 0, .int .u64 0, .int .u64 0, .int .u32 0, .int .u32 0, .bool false, .int .u64 0, .int .u64 0]
theorem reads (os : Os) {H : Type} (enc : TypeId × Value → H) : (DataW.whole enc Tryz.prog ((laidWorld os).forCall (fun _ _ => 0) ⟨#[], #[zero, .int .i64 0], []⟩).memory Tryz.f3.params.toList Rows.fsopsNilSpec.vars false #[zero, Value.int .i64 0].toList 8).isSome = true := by kernel_rfl
theorem cell_one {P : Program} {W : World} {base : Nat} {u : TypeId} {v : Value} (h : Cell.okWide P W .any base u v) : v.oneCell' = true := by
  cases v <;> first | rfl | (exfalso; revert h; unfold Cell.okWide Cell.ok; split <;> simp_all)
theorem cell_string {W : World} {base : Nat} {v : Value} (h : Cell.okWide Tryz.prog W .any base 9 v) : ∃ s, v = .string s := by
  simp only [Cell.okWide, Tryz.underlying9] at h
  cases v <;> simp_all [Cell.ok, Tryz.underlying9]
theorem cell_slice {W : World} {base : Nat} {v : Value} (h : Cell.okWide Tryz.prog W .any base 26 v) : ∃ a l c, v = .slice a l c := by
  simp only [Cell.okWide, Tryz.underlying26] at h
  cases v <;> simp_all [Cell.ok, Tryz.underlying26]
theorem list26 {l : List Value} (h : l.length = 26) : ∃ x0 x1 x2 x3 x4 x5 x6 x7 x8 x9 x10 x11 x12 x13 x14 x15 x16 x17 x18 x19 x20 x21 x22 x23 x24 x25, l = [x0, x1, x2, x3, x4, x5, x6, x7, x8, x9, x10, x11, x12, x13, x14, x15, x16, x17, x18, x19, x20, x21, x22, x23, x24, x25] := by
  rcases l with _ | ⟨x0, l⟩
  · cases h
  rcases l with _ | ⟨x1, l⟩
  · cases h
  rcases l with _ | ⟨x2, l⟩
  · cases h
  rcases l with _ | ⟨x3, l⟩
  · cases h
  rcases l with _ | ⟨x4, l⟩
  · cases h
  rcases l with _ | ⟨x5, l⟩
  · cases h
  rcases l with _ | ⟨x6, l⟩
  · cases h
  rcases l with _ | ⟨x7, l⟩
  · cases h
  rcases l with _ | ⟨x8, l⟩
  · cases h
  rcases l with _ | ⟨x9, l⟩
  · cases h
  rcases l with _ | ⟨x10, l⟩
  · cases h
  rcases l with _ | ⟨x11, l⟩
  · cases h
  rcases l with _ | ⟨x12, l⟩
  · cases h
  rcases l with _ | ⟨x13, l⟩
  · cases h
  rcases l with _ | ⟨x14, l⟩
  · cases h
  rcases l with _ | ⟨x15, l⟩
  · cases h
  rcases l with _ | ⟨x16, l⟩
  · cases h
  rcases l with _ | ⟨x17, l⟩
  · cases h
  rcases l with _ | ⟨x18, l⟩
  · cases h
  rcases l with _ | ⟨x19, l⟩
  · cases h
  rcases l with _ | ⟨x20, l⟩
  · cases h
  rcases l with _ | ⟨x21, l⟩
  · cases h
  rcases l with _ | ⟨x22, l⟩
  · cases h
  rcases l with _ | ⟨x23, l⟩
  · cases h
  rcases l with _ | ⟨x24, l⟩
  · cases h
  rcases l with _ | ⟨x25, l⟩
  · cases h
  rcases l with _ | ⟨x26, l⟩
  · exact ⟨_, _, _, _, _, _, _, _, _, _, _, _, _, _, _, _, _, _, _, _, _, _, _, _, _, _, rfl⟩
  · simp at h
def isStruct (P : Program) (t : TypeId) : Bool := match P.underlying t with | some (.struct _) => true | _ => false
/-- What an act is. -/
theorem act_of {W : World} {base : Nat} {v : Value} (h : Value.okWide Tryz.prog W .any base 32 v) : ∃ (c0 c1 c2 c3 c4 c5 c6 c9 c10 c12 c13 c14 c15 c16 c17 c18 c19 c20 c21 c22 c23 c24 c25 : Value) (s7 s8 : ByteArray) (pa : Option Addr) (pl pc : Nat), v = .agg (actA c0 c1 c2 c3 c4 c5 c6 c9 c10 c12 c13 c14 c15 c16 c17 c18 c19 c20 c21 c22 c23 c24 c25 s7 s8 pa pl pc) ∧ Ones c1 c2 c3 c4 c5 c6 c9 c10 c12 c13 c14 c15 c16 c17 c18 c19 c20 c21 c22 c25 := by
  have hu : isStruct Tryz.prog 32 = true := by kernel_rfl
  unfold isStruct at hu
  unfold Value.okWide at h
  split at hu
  · rename_i fs hfs
    rw [hfs] at h
    obtain ⟨cs, rfl, hs, ts, hts, _, hc⟩ := h
    have hsz : Tryz.prog.cellsOf 32 = 26 := by kernel_rfl
    rw [hsz] at hs
    obtain ⟨cs⟩ := cs
    obtain ⟨x0, x1, x2, x3, x4, x5, x6, x7, x8, x9, x10, x11, x12, x13, x14, x15, x16, x17, x18, x19, x20, x21, x22, x23, x24, x25, rfl⟩ := list26 (l := cs) (by simpa using hs)
    have hct : (Tryz.prog.cellTypes Tryz.prog.depth 32).map (fun l => (l.length, l[7]?, l[8]?, l[11]?)) = some (26, some 9, some 9, some 26) := by kernel_rfl
    rw [hts] at hct
    simp only [Option.map_some, Option.some.injEq, Prod.mk.injEq] at hct
    obtain ⟨h26, h7, h8, h11⟩ := hct
    rw [h26] at hc
    obtain ⟨u7, k7, g7⟩ := hc 7 x7 rfl
    obtain ⟨u8, k8, g8⟩ := hc 8 x8 rfl
    obtain ⟨u11, k11, g11⟩ := hc 11 x11 rfl
    obtain rfl : 9 = u7 := Option.some.inj (h7.symm.trans k7)
    obtain rfl : 9 = u8 := Option.some.inj (h8.symm.trans k8)
    obtain rfl : 26 = u11 := Option.some.inj (h11.symm.trans k11)
    obtain ⟨s7, rfl⟩ := cell_string g7
    obtain ⟨s8, rfl⟩ := cell_string g8
    obtain ⟨pa, pl, pc, rfl⟩ := cell_slice g11
    refine ⟨x0, x1, x2, x3, x4, x5, x6, x9, x10, x12, x13, x14, x15, x16, x17, x18, x19, x20, x21, x22, x23, x24, x25, s7, s8, pa, pl, pc, by unfold actA; rfl, ?_⟩
    constructor
    · obtain ⟨_, _, g⟩ := hc 1 x1 rfl; exact cell_one g
    · obtain ⟨_, _, g⟩ := hc 2 x2 rfl; exact cell_one g
    · obtain ⟨_, _, g⟩ := hc 3 x3 rfl; exact cell_one g
    · obtain ⟨_, _, g⟩ := hc 4 x4 rfl; exact cell_one g
    · obtain ⟨_, _, g⟩ := hc 5 x5 rfl; exact cell_one g
    · obtain ⟨_, _, g⟩ := hc 6 x6 rfl; exact cell_one g
    · obtain ⟨_, _, g⟩ := hc 9 x9 rfl; exact cell_one g
    · obtain ⟨_, _, g⟩ := hc 10 x10 rfl; exact cell_one g
    · obtain ⟨_, _, g⟩ := hc 12 x12 rfl; exact cell_one g
    · obtain ⟨_, _, g⟩ := hc 13 x13 rfl; exact cell_one g
    · obtain ⟨_, _, g⟩ := hc 14 x14 rfl; exact cell_one g
    · obtain ⟨_, _, g⟩ := hc 15 x15 rfl; exact cell_one g
    · obtain ⟨_, _, g⟩ := hc 16 x16 rfl; exact cell_one g
    · obtain ⟨_, _, g⟩ := hc 17 x17 rfl; exact cell_one g
    · obtain ⟨_, _, g⟩ := hc 18 x18 rfl; exact cell_one g
    · obtain ⟨_, _, g⟩ := hc 19 x19 rfl; exact cell_one g
    · obtain ⟨_, _, g⟩ := hc 20 x20 rfl; exact cell_one g
    · obtain ⟨_, _, g⟩ := hc 21 x21 rfl; exact cell_one g
    · obtain ⟨_, _, g⟩ := hc 22 x22 rfl; exact cell_one g
    · obtain ⟨_, _, g⟩ := hc 25 x25 rfl; exact cell_one g
  · cases hu

/-- What the walk gives, for every argument and every world that meets the condition. -/
theorem contract (H : Type) (enc : TypeId × Value → H) (W : World) (base : Nat) (args : Array Value) (ds gs : List (DataW H)) (before : List MemPlace)
    (hval0 : ∀ (j : Nat) t v, Tryz.f3.params[j]? = some t → args[j]? = some v → Value.okWide Tryz.prog W .any base t v)
    (hW : DataW.Whole enc Tryz.prog Tryz.f3.params.toList Rows.fsopsNilSpec.vars false W args.toList ds gs before) (hL : laidMetH Tryz.prog laid W) :
    Calls Tryz.prog 3 args W fun e W' => ∃ v, e = .returned v ∧ Rows.fsopsNilSpec.post enc Tryz.prog Tryz.f3 false true false false W args v W' := by
  have hval : ∀ (j : Nat) t v, Tryz.f3.params[j]? = some t → args[j]? = some v → Value.okWide Tryz.prog W .any base t v := hval0
  have hW' := hW
  have hlt0 : ∀ x ∈ before, x.block < W.heap.size := fun x hx => hW.lt x hx
  obtain ⟨p, q, hA0, hV, rfl, hfz, hnd⟩ := hW
  have hA : DataW.TrodAll enc Tryz.prog W 0 (fun _ => true) true Tryz.f3.params.toList args.toList ds p := hA0
  rw [Tryz.params3] at hA hval
  obtain ⟨v0, vs0, d0, ds0, p0, q0, hargs, rfl, rfl, h0, r0⟩ := trodAll_cons hA
  obtain ⟨v1, vs1, d1, ds1, p1, q1, rfl, rfl, rfl, h1, r1⟩ := trodAll_cons r0
  obtain ⟨rfl, rfl, rfl⟩ := trodAll_nil r1
  obtain rfl : args = #[v0, v1] := by cases args; simp_all
  obtain ⟨rfl, rfl⟩ := trodVars_none hV
  obtain ⟨c0, c1, c2, c3, c4, c5, c6, c9, c10, c12, c13, c14, c15, c16, c17, c18, c19, c20, c21, c22, c23, c24, c25, s7, s8, pa, pl, pc, rfl, ho⟩ := act_of (hval 0 32 v0 rfl rfl)
  obtain ⟨a1, rfl, rfl, rfl, w1⟩ := open_int Tryz.underlying3 (hval 1 3 v1 rfl rfl) h1
  have hlt : ∀ x ∈ p0, x.block < W.heap.size := fun x hx => hlt0 x (by simp [hx])
  clear hA0 hval0
  simp only [List.append_nil] at hW'
  refine (fsopsNil_walk c0 c1 c2 c3 c4 c5 c6 c9 c10 c12 c13 c14 c15 c16 c17 c18 c19 c20 c21 c22 c23 c24 c25 s7 s8 pa pl pc a1 W (handle_of_laid hL) ho).mono fun e W' ⟨he, hbelow⟩ => ?_
  subst he
  exact ⟨_, rfl, post_of_below (pa := p0) (pv := []) hW' (fun _ _ _ => (trodAll_cons_mk (shut_bool Tryz.underlying4 _) trodAll_mk0)) (fun sp hsp => by
      have := trodAll_cons_mk (WideElems.Trod_stays laidOut (by kernel_rfl) (of_decide_eq_true (by kernel_rfl)) h0 (fun x hx => hbelow.same (hlt x hx)) (fun x hx => hsp x (by simp [hx])))
        (trodAll_cons_mk (shut_int Tryz.underlying3 w1) trodAll_mk0)
      simp only [List.append_nil] at this
      exact this) (fun _ _ => rfl) (by simp)
    hbelow (ok_one (by kernel_rfl) rfl (okWide_bool_mk Tryz.underlying4 _))⟩

theorem liftedUpto (os : Os) (started : os.Started) (H : Type) (enc : TypeId × Value → H) (F : Stop.Interp) :
    ReturnsInHanded {} Tryz.checked os 3 .any ((Rows.OpenSpec.upto Rows.fsopsNilSpec).preRow enc Tryz.prog Tryz.f3 Rows.fsopsNilUptoRow.domain false Rows.fsopsNilUptoRow.laid) (((Rows.OpenSpec.upto Rows.fsopsNilSpec).at F).post enc Tryz.prog Tryz.f3 false true false false) := by
  have hx := reads os enc
  refine returnsInHanded_of_row (C := Tryz.checked) (s := Rows.OpenSpec.upto Rows.fsopsNilSpec) own started (by kernel_rfl) Tryz.func3
    (witness_row_at (enc := enc) (C := Tryz.checked) false (laidWorld os) #[zero, .int .i64 0] rfl (by kernel_rfl) (by kernel_rfl) (by kernel_rfl)
      (OpenSpec.preRow_of_cond 8 (Option.some_get hx).symm (by kernel_rfl) (fun k hk => by cases hk; kernel_rfl) (by kernel_rfl) (laidWorld_met os _))) ?_
  intro W base args ds gs before hval hW _ _ _ hL _ _
  exact contract H enc W base args ds gs before hval hW hL

theorem saidUpto : Rows.FsopsNilUptoSaid :=
  OpenClaim.holds_of_cond 3 Tryz.f3 rfl rfl rfl rfl rfl rfl rfl ⟨rfl, rfl, rfl, rfl, rfl⟩ rfl rfl rfl rfl rfl (by kernel_rfl) Tryz.func3 (by kernel_rfl)
    (of_decide_eq_true (by kernel_rfl)) (by unfold Func.isWrapper; first | (rw [if_pos (by decide +kernel)]; kernel_rfl) | (rw [if_neg (by decide +kernel)]; exact ⟨rfl, rfl⟩))
    (fun os started H enc _ F => by rw [OpenClaim.pre_eq_preRow]; exact liftedUpto os started H enc F)

theorem proved : Rows.FsopsNilUptoCardSaid :=
  Claim7.holds_tied_plain_at .later [] [.handle] true (Rows.fsopsNilUptoCard.stood.harness) true
    saidUpto (fun _ h => by cases h) (by kernel_rfl) (fun _ h => by cases h) fsopsNilUpto_row_tie rfl ⟨rfl, rfl⟩ (by kernel_rfl) rfl
    (fun f fn hf hfn => by
      obtain rfl : f = 3 := Option.some.inj ((show Tryz.prog.funcNamed "granary/granarylaw15.FsopsNil" = some 3 by kernel_rfl).symm.trans hf) |>.symm
      obtain rfl : fn = Tryz.f3 := (Option.some.inj (Tryz.func3.symm.trans hfn)).symm
      exact ⟨by kernel_rfl, fun j t ht => by
        rw [Tryz.params3] at ht
        have hm : t ∈ [32, 3] := by simpa using Array.mem_of_getElem? ht
        have hall : ([32, 3].all fun u => !Tryz.prog.wantsStandIn u) = true := by kernel_rfl
        exact (show Tryz.prog.wantsStandIn t = false by simpa using List.all_eq_true.1 hall t hm)⟩)
    (by kernel_rfl)
#print axioms proved
end Go.Proofs.YtjcpkckbjhknfaaGreatDoor.fsopsNil
