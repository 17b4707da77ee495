/-
  errors.As at a target of type **api.FsError, asked of an api.Errno: the walk.
-/
import Derived.Test.YtabllhhainepgaaGreatDoorErrFK
import Derived.Test.YtabllhhainepgaaGreatDoorInsOK
import Derived.Test.YtabllhhainepgaaGreatDoorErrAll
set_option maxRecDepth 100000
set_option linter.unusedVariables false
set_option linter.unusedSimpArgs false
set_option linter.constructorNameAsVariable false
namespace Go.Proofs.YtabllhhainepgaaGreatDoor
open Go.RowKit Go.Extern.Stop Go.Stop Go.Extern

theorem fa_valueOfP (t : Addr) (w : World) : (ReflectliteValue.unpack (.iface 163 (.pointer (some t)))).run Tryz.prog w
    = .ok (.agg #[.pointer (some ⟨5, 163, none⟩), .pointer (some ⟨w.heap.size, 0, none⟩), .int .u64 150]) (w.alloc (.cells #[.pointer (some t)] 163)) := by kernel_rfl
theorem fa_typeP (a : Addr) (w : World) : (ReflectliteValue.methodAny (ReflectliteValue.valueError "reflectlite.Value.Type" 0) (fun t _ _ _ => ReflectliteType.toType t) #[.agg #[.pointer (some ⟨5, 163, none⟩), .pointer (some a), .int .u64 150]]).run Tryz.prog w
    = .ok (.iface 268 (.agg #[.pointer (some ⟨5, 163, none⟩)])) w := by kernel_rfl
theorem fa_kindP (w : World) : ((ReflectliteType.abiMethod fun t => (fun a : Nat => Value.int IntKind.u8 (a : Int)) <$> Rtype.kind t) #[.pointer (some ⟨5, 163, none⟩)]).run Tryz.prog w = .ok (.int .u8 22) w := by kernel_rfl
theorem fa_kindE (w : World) : ((ReflectliteType.abiMethod fun t => (fun a : Nat => Value.int IntKind.u8 (a : Int)) <$> Rtype.kind t) #[.pointer (some ⟨5, 161, none⟩)]).run Tryz.prog w = .ok (.int .u8 22) w := by kernel_rfl
theorem fa_partsP (a : Addr) (w : World) : (ReflectliteValue.parts (.agg #[.pointer (some ⟨5, 163, none⟩), .pointer (some a), .int .u64 150])).run Tryz.prog w = .ok (some (163, a, 150)) w := by kernel_rfl
theorem fa_undP : Tryz.prog.underlying 163 = some (.pointer 161) := by kernel_rfl
theorem fa_isNilP (a p : Addr) (W : World) (ha : W.cell? a = some (.pointer (some p))) :
    (ReflectliteValue.method (ReflectliteValue.valueError "reflectlite.Value.IsNil" 0) ReflectliteValue.isNil #[.agg #[.pointer (some ⟨5, 163, none⟩), .pointer (some a), .int .u64 150]]).run Tryz.prog W = .ok (.bool false) W := by
  rw [ea_rlm]
  simp only [Sem.run_bind, fa_partsP, Result.andThen]
  simp [ReflectliteValue.isNil, loadVar, isAgg, underlying, fa_undP, ha, Result.andThen]
theorem fa_elemP (w : World) : (ReflectliteType.method ReflectliteType.elem #[.agg #[.pointer (some ⟨5, 163, none⟩)]]).run Tryz.prog w = .ok (.iface 268 (.agg #[.pointer (some ⟨5, 161, none⟩)])) w := by kernel_rfl
theorem fa_implE (w : World) : (ReflectliteType.relation "Implements" ReflectliteType.implements_ #[.agg #[.pointer (some ⟨5, 161, none⟩)], .iface 268 (.agg #[.pointer (some ⟨5, 75, none⟩)])]).run Tryz.prog w = .ok (.bool true) w := by kernel_rfl
theorem fa_assignE (w : World) : (ReflectliteType.relation "AssignableTo" ReflectliteType.assignableTo #[.agg #[.pointer (some ⟨5, 68, none⟩)], .iface 268 (.agg #[.pointer (some ⟨5, 161, none⟩)])]).run Tryz.prog w = .ok (.bool false) w := by kernel_rfl
theorem fa_noAsE (v : Value) (xT : TypeId) (w : World) : (Instr.typeAssert (.iface 68 v) xT 272 true).run Tryz.prog w = .ok (.tuple #[.nilIface, .bool false]) w := run_typeAssert_lacksB Tryz.underlying272 (by kernel_rfl) (by kernel_rfl) v xT w
theorem fa_unwrapE (v : Value) (xT : TypeId) (w : World) : (Instr.typeAssert (.iface 68 v) xT 275 true).run Tryz.prog w = .ok (.tuple #[.nilIface, .bool false]) w := run_typeAssert_lacksB Tryz.underlying275 (by kernel_rfl) (by kernel_rfl) v xT w
theorem fa_unwrapsE (v : Value) (xT : TypeId) (w : World) : (Instr.typeAssert (.iface 68 v) xT 277 true).run Tryz.prog w = .ok (.tuple #[.nilIface, .bool false]) w := run_typeAssert_lacksB Tryz.underlying277 (by kernel_rfl) (by kernel_rfl) v xT w
set_option maxHeartbeats 4000000 in
theorem as2F_calls (n : Int) (t c : Addr) (w : World) :
    Calls Tryz.prog 88 #[.iface 68 (.int .i64 n), .iface 163 (.pointer (some t)), .agg #[.pointer (some ⟨5, 163, none⟩), .pointer (some c), .int .u64 150], .iface 268 (.agg #[.pointer (some ⟨5, 161, none⟩)])] w fun ev w' =>
      ev = .returned (.bool false) ∧ Below w.heap.size w w' := by
  have h84 := @run_callFunc_extern Tryz.prog 89 _ ReflectliteType.typeOf Tryz.func89 (by kernel_rfl) (by kernel_rfl) (by kernel_rfl) (by kernel_rfl)
  have h245 := @run_callFunc_extern Tryz.prog 384 _ (ReflectliteType.relation "AssignableTo" ReflectliteType.assignableTo) Tryz.func384 (by kernel_rfl) (by kernel_rfl) (by kernel_rfl) (by kernel_rfl)
  have mA := ea_mAssign
  have tO := ea_typeOfE
  have aE := fa_assignE
  have nA := fa_noAsE
  have uW := fa_unwrapE
  have uS := fa_unwrapsE
  have hB0 : Below w.heap.size w (w.alloc (.cells #[.pointer (some ⟨5, 163, none⟩), .pointer (some c), .int .u64 150] 209)) := (Below.refl _ _).alloc (Nat.le_refl _) _
  have HB0 := Lib.hid hB0
  clear hB0
  go_enter Tryz.func88, Tryz.ntmps88
  go_wp2_with fail
  generalize w.alloc (.cells #[.pointer (some ⟨5, 163, none⟩), .pointer (some c), .int .u64 150] 209) = W at *
  go_loopw [0] (fun e' wr => e' = .iface 68 (.int .i64 n) ∧ wr = W) (fun e' wr => 0)
  case atStart => exact ⟨rfl, rfl⟩
  case round =>
    obtain ⟨rfl, rfl⟩ := hrel
    go_wp2
    go_ret
    exact ⟨rfl, HB0.out⟩
set_option maxHeartbeats 4000000 in
theorem asF_calls (n : Int) (t : Addr) (w : World) (hg : w.cell? ⟨0, 0, none⟩ = some (.iface 268 (.agg #[.pointer (some ⟨5, 75, none⟩)]))) :
    Calls Tryz.prog 51 #[.iface 68 (.int .i64 n), .iface 163 (.pointer (some t))] w fun ev w' => ev = .returned (.bool false) ∧ Below w.heap.size w w' := by
  have h42 := @run_callFunc_extern Tryz.prog 85 _ (fun args => ReflectliteValue.unpack (args.getD 0 (.tuple #[]))) Tryz.func85 (by kernel_rfl) (by kernel_rfl) (by kernel_rfl) (by kernel_rfl)
  have h43 := @run_callFunc_extern Tryz.prog 86 _ (ReflectliteValue.methodAny (ReflectliteValue.valueError "reflectlite.Value.Type" 0) (fun t _ _ _ => ReflectliteType.toType t)) Tryz.func86 (by kernel_rfl) (by kernel_rfl) (by kernel_rfl) (by kernel_rfl)
  have h44 := @run_callFunc_extern Tryz.prog 87 _ (ReflectliteValue.method (ReflectliteValue.valueError "reflectlite.Value.IsNil" 0) ReflectliteValue.isNil) Tryz.func87 (by kernel_rfl) (by kernel_rfl) (by kernel_rfl) (by kernel_rfl)
  have h227 := @run_callFunc_extern Tryz.prog 212 _ (ReflectliteType.abiMethod fun t => do pure (.int .u8 (← Rtype.kind t))) Tryz.func212 (by kernel_rfl) (by kernel_rfl) (by kernel_rfl) (by kernel_rfl)
  have h247 := @run_callFunc_extern Tryz.prog 386 _ (ReflectliteType.method ReflectliteType.elem) Tryz.func386 (by kernel_rfl) (by kernel_rfl) (by kernel_rfl) (by kernel_rfl)
  have h248 := @run_callFunc_extern Tryz.prog 387 _ (ReflectliteType.relation "Implements" ReflectliteType.implements_) Tryz.func387 (by kernel_rfl) (by kernel_rfl) (by kernel_rfl) (by kernel_rfl)
  have f6 := fa_valueOfP
  have f7 := fa_typeP
  have mK := ea_mKind
  have mE := ea_mElem
  have mI := ea_mImpl
  have kP := fa_kindP
  have kE := fa_kindE
  have eP := fa_elemP
  have iE := fa_implE
  obtain ⟨W1, hW1⟩ : ∃ W1, W1 = w.alloc (.cells #[.pointer (some t)] 163) := ⟨_, rfl⟩
  obtain ⟨W2, hW2⟩ : ∃ W2, W2 = W1.alloc (.cells #[.pointer (some ⟨5, 163, none⟩), .pointer (some ⟨w.heap.size, 0, none⟩), .int .u64 150] 209) := ⟨_, rfl⟩
  have hc1 : W1.cell? ⟨w.heap.size, 0, none⟩ = some (.pointer (some t)) := by rw [hW1, World.cell?_alloc_at _ _ _ _ rfl]; rfl
  have hc2 : W2.cell? ⟨w.heap.size, 0, none⟩ = some (.pointer (some t)) := by rw [hW2]; exact cell_lt _ hc1
  have hg2 : W2.cell? ⟨0, 0, none⟩ = some (.iface 268 (.agg #[.pointer (some ⟨5, 75, none⟩)])) := by rw [hW2, hW1]; exact cell_lt _ (cell_lt _ hg)
  have n8 := fa_isNilP ⟨w.heap.size, 0, none⟩ t W2 hc2
  have as2 := as2F_calls n t ⟨w.heap.size, 0, none⟩ W2
  rw [hW2, hW1] at n8 hg2 as2
  clear hc1 hc2
  go_enter Tryz.func51, Tryz.ntmps51
  have hB2 : Below w.heap.size w ((w.alloc (.cells #[.pointer (some t)] 163)).alloc (.cells #[.pointer (some ⟨5, 163, none⟩), .pointer (some ⟨w.heap.size, 0, none⟩), .int .u64 150] 209)) := ((Below.refl _ _).alloc (Nat.le_refl _) _).alloc (by simp) _
  have HB2 := Lib.hid hB2
  clear hB2
  go_wp2_with (go_at_call 88; refine as2.mono ?_; rintro e w' ⟨rfl, hW⟩)
  go_ret
  exact ⟨rfl, HB2.out.trans ⟨hW.os, hW.tape, hW.output, hW.size, fun k hk => hW.block k (by have := HB2.out.size; omega)⟩⟩
open Ab in
theorem asF_ok {w0 : World} (hg : w0.cell? ⟨0, 0, none⟩ = some (.iface 268 (.agg #[.pointer (some ⟨5, 75, none⟩)]))) (args : List AV) (H : AH) (v : AV) (H' : AH) (hh : asHookF args H = some (v, H'))
    (μ : Mu) (w : World) (cargs : Array Value) (hr : HR w0 0 μ H w) (ha : LR μ args cargs.toList) :
    Calls Tryz.prog 51 cargs w fun e w' => ∃ (u : Value) (μ' : Mu), e = .returned u ∧ VR μ' v u ∧ HR w0 0 μ' H' w' ∧ μ.lx H.size μ' ∧ H.size ≤ H'.size := by
  have hg' : w.cell? ⟨0, 0, none⟩ = some (.iface 268 (.agg #[.pointer (some ⟨5, 75, none⟩)])) := by
    have hlt : 0 < w0.heap.size := Go.block_lt_of_cell hg
    rw [← hg]
    simp only [World.cell?, hr.below.block _ hlt]
  unfold asHookF at hh
  split at hh
  · rename_i te m t b off
    obtain ⟨L, rfl⟩ : ∃ (L : Ab.Loc), cargs = #[.iface te (.int .i64 m), .iface t (.pointer (some ⟨L.blk, L.base + off, none⟩))] := by
      obtain ⟨l⟩ := cargs
      cases ha with | cons _ v1 _ m1 h1 t1 =>
      cases t1 with | cons _ v2 _ m2 h2 t2 =>
      cases t2
      obtain ⟨u, rfl, h3⟩ := h2.iface_inv
      obtain ⟨L, hL, rfl⟩ := h3.ptr_inv
      obtain ⟨u1, rfl, h4⟩ := h1.iface_inv
      rw [h4.int_inv]
      exact ⟨L, rfl⟩
    cases hb : Nat.beq t 163 with
    | false => rw [hb] at hh; cases hh
    | true =>
      rw [hb] at hh
      rw [Nat.beq_eq] at hb
      subst hb
      simp only [cond_true] at hh
      cases he : Nat.beq te 68 with
      | false => rw [he] at hh; cases hh
      | true =>
        rw [he] at hh
        rw [Nat.beq_eq] at he
        subst he
        simp only [cond_true, Option.some.injEq, Prod.mk.injEq] at hh
        obtain ⟨rfl, rfl⟩ := hh
        refine (asF_calls m _ w hg').mono ?_
        rintro e w' ⟨rfl, hw⟩
        exact ⟨_, μ, rfl, .bool false, HR_grow hr hw, μ.lx_refl _, Nat.le_refl _⟩
  · cases hh
open Ab in
/-- The laws by which the abstract machine passes over errors.As and slices.Insert are right. -/
theorem ptK_ok {w0 : World} (hg : w0.cell? ⟨0, 0, none⟩ = some (.iface 268 (.agg #[.pointer (some ⟨5, 75, none⟩)]))) : HookOK Tryz.prog w0 0 ptK := by
  intro f h hk args H v H' hh μ w cargs hr ha
  unfold ptK at hk
  cases h1 : Nat.beq f 51 with
  | true =>
    rw [h1] at hk
    rw [Nat.beq_eq] at h1
    subst h1
    simp only [cond_true, Option.some.injEq] at hk
    subst hk
    unfold asHook2 at hh
    cases hx : asHook args H with
    | some r =>
      rw [hx] at hh
      simp only [Option.some.injEq] at hh
      subst hh
      exact as_ok (K := ptK) hg args H v H' hx μ w cargs hr ha
    | none =>
      rw [hx] at hh
      exact asF_ok hg args H v H' hh μ w cargs hr ha
  | false =>
    rw [h1] at hk
    simp only [cond_false] at hk
    cases h2 : Nat.beq f 128 with
    | true =>
      rw [h2] at hk
      rw [Nat.beq_eq] at h2
      subst h2
      simp only [cond_true, Option.some.injEq] at hk
      subst hk
      exact insB_ok args H v H' hh μ w cargs hr ha
    | false => rw [h2] at hk; cases hk
end Go.Proofs.YtabllhhainepgaaGreatDoor
