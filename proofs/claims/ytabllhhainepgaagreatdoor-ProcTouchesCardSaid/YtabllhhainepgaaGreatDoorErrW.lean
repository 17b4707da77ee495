/-
  errors.As at a target of type *api.Errno: facts on the model's entries for internal/reflectlite, the walk down a chain of errors.
-/
import Derived.Test.YtabllhhainepgaaGreatDoorErrK
import Derived.WalkKit
import Derived.LaidEql
import Derived.Stop.Asserts
import Derived.RowKitTokens
set_option maxRecDepth 100000
namespace Go.Proofs.YtabllhhainepgaaGreatDoor
open Go.RowKit Go.Extern.Stop Go.Stop Go.Extern
set_option linter.unusedVariables false
set_option linter.unusedSimpArgs false
set_option linter.constructorNameAsVariable false

/-! ### closed facts -/
theorem ea_valueOfP (t : Addr) (w : World) : (ReflectliteValue.unpack (.iface 220 (.pointer (some t)))).run Tryz.prog w
    = .ok (.agg #[.pointer (some ⟨5, 220, none⟩), .pointer (some ⟨w.heap.size, 0, none⟩), .int .u64 150]) (w.alloc (.cells #[.pointer (some t)] 220)) := by kernel_rfl
theorem ea_typeP (a : Addr) (w : World) : (ReflectliteValue.methodAny (ReflectliteValue.valueError "reflectlite.Value.Type" 0) (fun t _ _ _ => ReflectliteType.toType t) #[.agg #[.pointer (some ⟨5, 220, none⟩), .pointer (some a), .int .u64 150]]).run Tryz.prog w
    = .ok (.iface 268 (.agg #[.pointer (some ⟨5, 220, none⟩)])) w := by kernel_rfl
theorem ea_mKind (h : Value) (w : World) : (Go.method 614 268 (.agg #[h]) "Kind").run Tryz.prog w = .ok (212, h) w := by kernel_rfl
theorem ea_kindP (w : World) : ((ReflectliteType.abiMethod fun t => (fun a : Nat => Value.int IntKind.u8 (a : Int)) <$> Rtype.kind t) #[.pointer (some ⟨5, 220, none⟩)]).run Tryz.prog w = .ok (.int .u8 22) w := by kernel_rfl
theorem ea_kindE (w : World) : ((ReflectliteType.abiMethod fun t => (fun a : Nat => Value.int IntKind.u8 (a : Int)) <$> Rtype.kind t) #[.pointer (some ⟨5, 68, none⟩)]).run Tryz.prog w = .ok (.int .u8 2) w := by kernel_rfl
theorem ea_rlm (z : Sem Value) (f : TypeId → Addr → Nat → Nat → Sem Value) (v : Value) :
    ReflectliteValue.method z f #[v] = (do match ← ReflectliteValue.parts v with | none => z | some (t, a, fl) => f t a fl (fl % 32)) := rfl
theorem ea_partsP (a : Addr) (w : World) : (ReflectliteValue.parts (.agg #[.pointer (some ⟨5, 220, none⟩), .pointer (some a), .int .u64 150])).run Tryz.prog w = .ok (some (220, a, 150)) w := by kernel_rfl
theorem ea_undP : Tryz.prog.underlying 220 = some (.pointer 68) := by kernel_rfl
theorem ea_undE : Tryz.prog.underlying 68 = some (.int .i64) := by kernel_rfl
theorem ea_isNilP (a p : Addr) (W : World) (ha : W.cell? a = some (.pointer (some p))) :
    (ReflectliteValue.method (ReflectliteValue.valueError "reflectlite.Value.IsNil" 0) ReflectliteValue.isNil #[.agg #[.pointer (some ⟨5, 220, none⟩), .pointer (some a), .int .u64 150]]).run Tryz.prog W = .ok (.bool false) W := by
  rw [ea_rlm]
  simp only [Sem.run_bind, ea_partsP, Result.andThen]
  simp [ReflectliteValue.isNil, loadVar, isAgg, underlying, ea_undP, ha, Result.andThen]
theorem ea_mElem (h : Value) (w : World) : (Go.method 614 268 (.agg #[h]) "Elem").run Tryz.prog w = .ok (386, .agg #[h]) w := by kernel_rfl
theorem ea_mImpl (h : Value) (w : World) : (Go.method 614 268 (.agg #[h]) "Implements").run Tryz.prog w = .ok (387, .agg #[h]) w := by kernel_rfl
theorem ea_mAssign (h : Value) (w : World) : (Go.method 614 268 (.agg #[h]) "AssignableTo").run Tryz.prog w = .ok (384, .agg #[h]) w := by kernel_rfl
theorem ea_elemP (w : World) : (ReflectliteType.method ReflectliteType.elem #[.agg #[.pointer (some ⟨5, 220, none⟩)]]).run Tryz.prog w = .ok (.iface 268 (.agg #[.pointer (some ⟨5, 68, none⟩)])) w := by kernel_rfl
theorem ea_implE (w : World) : (ReflectliteType.relation "Implements" ReflectliteType.implements_ #[.agg #[.pointer (some ⟨5, 68, none⟩)], .iface 268 (.agg #[.pointer (some ⟨5, 75, none⟩)])]).run Tryz.prog w = .ok (.bool true) w := by kernel_rfl
theorem ea_typeOfE (v : Value) (w : World) : (ReflectliteType.typeOf #[.iface 68 v]).run Tryz.prog w = .ok (.iface 268 (.agg #[.pointer (some ⟨5, 68, none⟩)])) w := by kernel_rfl
theorem ea_typeOfF (v : Value) (w : World) : (ReflectliteType.typeOf #[.iface 161 v]).run Tryz.prog w = .ok (.iface 268 (.agg #[.pointer (some ⟨5, 161, none⟩)])) w := by kernel_rfl
theorem ea_assignE (w : World) : (ReflectliteType.relation "AssignableTo" ReflectliteType.assignableTo #[.agg #[.pointer (some ⟨5, 68, none⟩)], .iface 268 (.agg #[.pointer (some ⟨5, 68, none⟩)])]).run Tryz.prog w = .ok (.bool true) w := by kernel_rfl
theorem ea_assignF (w : World) : (ReflectliteType.relation "AssignableTo" ReflectliteType.assignableTo #[.agg #[.pointer (some ⟨5, 161, none⟩)], .iface 268 (.agg #[.pointer (some ⟨5, 68, none⟩)])]).run Tryz.prog w = .ok (.bool false) w := by kernel_rfl
theorem ea_valueOfE (n : Int) (w : World) : (ReflectliteValue.unpack (.iface 68 (.int .i64 n))).run Tryz.prog w
    = .ok (.agg #[.pointer (some ⟨5, 68, none⟩), .pointer (some ⟨w.heap.size, 0, none⟩), .int .u64 130]) (w.alloc (.cells #[.int .i64 n] 68)) := by kernel_rfl
theorem ea_elemOfP (w : World) : (Rtype.elem? 220).run Tryz.prog w = .ok (some 68) w := by kernel_rfl
theorem ea_mkE (p : Addr) (w : World) : (ReflectliteValue.mk 68 p ReflectliteValue.flagAddr).run Tryz.prog w = .ok (.agg #[.pointer (some ⟨5, 68, none⟩), .pointer (some p), .int .u64 386]) w := by kernel_rfl
theorem ea_elemVP (a p : Addr) (W : World) (ha : W.cell? a = some (.pointer (some p))) :
    (ReflectliteValue.method (ReflectliteValue.valueError "reflectlite.Value.Elem" 0) ReflectliteValue.elem #[.agg #[.pointer (some ⟨5, 220, none⟩), .pointer (some a), .int .u64 150]]).run Tryz.prog W
      = .ok (.agg #[.pointer (some ⟨5, 68, none⟩), .pointer (some p), .int .u64 386]) W := by
  rw [ea_rlm]
  simp only [Sem.run_bind, ea_partsP, Result.andThen]
  simp [ReflectliteValue.elem, loadVar, isAgg, underlying, ea_undP, ha, Result.andThen, ea_elemOfP, ea_mkE]
theorem ea_rls (v x : Value) : ReflectliteValue.set #[v, x] = (do
    let (some (dst, a, fl), some (src, b, _)) := (← ReflectliteValue.parts v, ← ReflectliteValue.parts x)
      | unsupported (.noEntry "extern/(internal/reflectlite.Value).Set.zeroValue")
    if fl / ReflectliteValue.flagAddr % 2 == 0 then unsupported (.noEntry "extern/(internal/reflectlite.Value).Set.unaddressable")
    let val ← loadVar src b
    if ← Rtype.directlyAssignable dst src then storeVar dst a val
    else if ← Rtype.implements dst src then
      if (← Rtype.kind src) == 20 then
        match val with
        | .nilIface => unsupported (.noEntry "extern/reflectlite: a nil value of one interface type handed on as a value of another")
        | _ => storeVar dst a val
      else storeVar dst a (.iface src val)
    else panicString ("reflectlite.Set: value of type " ++ (← Rtype.spelt src) ++ " is not assignable to type " ++ (← Rtype.spelt dst))
    pure (.tuple #[])) := rfl
theorem ea_partsA (a : Addr) (w : World) : (ReflectliteValue.parts (.agg #[.pointer (some ⟨5, 68, none⟩), .pointer (some a), .int .u64 386])).run Tryz.prog w = .ok (some (68, a, 386)) w := by kernel_rfl
theorem ea_partsE (a : Addr) (w : World) : (ReflectliteValue.parts (.agg #[.pointer (some ⟨5, 68, none⟩), .pointer (some a), .int .u64 130])).run Tryz.prog w = .ok (some (68, a, 130)) w := by kernel_rfl
theorem ea_directE (w : World) : (Rtype.directlyAssignable 68 68).run Tryz.prog w = .ok true w := by kernel_rfl
theorem ea_sizeE (w : World) : (sizeOf 68).run Tryz.prog w = .ok 1 w := by kernel_rfl
theorem ea_setE (ta b : Addr) (n : Int) (old : Value) (W : World) (hb : W.cell? b = some (.int .i64 n)) (ht : W.cell? ta = some old) (hf : W.frozen? ta = false) :
    (ReflectliteValue.set #[.agg #[.pointer (some ⟨5, 68, none⟩), .pointer (some ta), .int .u64 386], .agg #[.pointer (some ⟨5, 68, none⟩), .pointer (some b), .int .u64 130]]).run Tryz.prog W
      = .ok (.tuple #[]) (W.setCell ta (.int .i64 n)) := by
  rw [ea_rls]
  simp only [Sem.run_bind, ea_partsA, ea_partsE, Result.andThen]
  simp [ReflectliteValue.flagAddr, loadVar, isAgg, underlying, ea_undE, hb, Result.andThen, ea_directE, storeVar, Value.cells, storeCells, Addr.add]
  rw [run_store Tryz.prog W ta _ _ (by rfl)]
  simp [ht, hf]
theorem ea_noAsF (v : Value) (xT : TypeId) (w : World) : (Instr.typeAssert (.iface 161 v) xT 272 true).run Tryz.prog w = .ok (.tuple #[.nilIface, .bool false]) w := run_typeAssert_lacksB Tryz.underlying272 (by kernel_rfl) (by kernel_rfl) v xT w
theorem ea_unwrapF (v : Value) (xT : TypeId) (w : World) : (Instr.typeAssert (.iface 161 v) xT 275 true).run Tryz.prog w = .ok (.tuple #[.iface 161 v, .bool true]) w := run_typeAssert_hasB Tryz.underlying275 (by kernel_rfl) v xT w
theorem ea_mUnwrapF (v : Value) (w : World) : (Go.method 614 161 v "Unwrap").run Tryz.prog w = .ok (379, v) w := by kernel_rfl

/-! ### chains -/
/-- A chain of errors, of depth k, with the first api.Errno in it. -/
inductive Chn (w : World) : Nat → Value → Option Int → Prop
  | hit (n : Int) : Chn w 0 (.iface 68 (.int .i64 n)) (some n)
  | fsNil (b off : Nat) (h : w.cell? ⟨b, off + 2, none⟩ = some .nilIface) : Chn w 0 (.iface 161 (.pointer (some ⟨b, off, none⟩))) none
  | fs (b off k : Nat) (e : Value) (r : Option Int) (h : w.cell? ⟨b, off + 2, none⟩ = some e) (t : Chn w k e r) : Chn w (k + 1) (.iface 161 (.pointer (some ⟨b, off, none⟩))) r
theorem Chn.iface {w : World} {k : Nat} {e : Value} {r : Option Int} (h : Chn w k e r) : ∃ t v, e = .iface t v := by
  cases h <;> exact ⟨_, _, rfl⟩
theorem Chn.mono {w w' : World} (hw : ∀ a v, w.cell? a = some v → w'.cell? a = some v) {k : Nat} {e : Value} {r : Option Int} (h : Chn w k e r) : Chn w' k e r := by
  induction h with
  | hit n => exact .hit n
  | fsNil b off h => exact .fsNil b off (hw _ _ h)
  | fs b off k e r h _ ih => exact .fs b off k e r (hw _ _ h) ih
theorem Chn.uniq {w : World} {k : Nat} {e : Value} {r : Option Int} (h : Chn w k e r) : ∀ {k' : Nat} {r' : Option Int}, Chn w k' e r' → k' = k := by
  induction h with
  | hit n => intro k' r' h'; cases h'; rfl
  | fsNil b off h =>
    intro k' r' h'
    cases h' with
    | fsNil => rfl
    | fs _ _ _ e _ h2 t =>
      rw [h] at h2
      cases h2
      obtain ⟨_, _, e⟩ := t.iface
      cases e
  | fs b off k e r h t ih =>
    intro k' r' h'
    cases h' with
    | fsNil _ _ h2 =>
      rw [h] at h2
      cases h2
      obtain ⟨_, _, e⟩ := t.iface
      cases e
    | fs _ _ _ e2 _ h2 t2 =>
      rw [h] at h2
      cases h2
      rw [ih t2]
open Classical in
/-- How deep a chain is. -/
noncomputable def dep (w : World) (e : Value) : Nat := if h : ∃ k r, Chn w k e r then Classical.choose h else 0
theorem dep_eq {w : World} {k : Nat} {e : Value} {r : Option Int} (h : Chn w k e r) : dep w e = k := by
  unfold dep
  have hx : ∃ k r, Chn w k e r := ⟨k, r, h⟩
  rw [dif_pos hx]
  obtain ⟨r', h'⟩ := Classical.choose_spec hx
  exact h.uniq h'
end Go.Proofs.YtabllhhainepgaaGreatDoor
