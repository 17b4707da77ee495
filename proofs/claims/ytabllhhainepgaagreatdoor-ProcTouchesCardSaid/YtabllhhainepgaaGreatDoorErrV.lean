/-
  errors.As at a target of type *api.Errno: the walk down a chain of errors.
-/
import Derived.Test.YtabllhhainepgaaGreatDoorErrW
set_option maxRecDepth 100000
namespace Go.Proofs.YtabllhhainepgaaGreatDoor
open Go.RowKit Go.Extern.Stop Go.Stop Go.Extern
set_option linter.unusedVariables false
set_option linter.unusedSimpArgs false
set_option linter.constructorNameAsVariable false

/-- What errors.As leaves behind: more is made; the target is set. -/
def asPost (w : World) (t : Addr) (r : Option Int) (w' : World) : Prop :=
  ∃ W, Below w.heap.size w W ∧ w' = (match r with | none => W | some n => W.setCell t (.int .i64 n))
theorem cell_lt {w : World} {a : Addr} {v : Value} (o : Obj) (h : w.cell? a = some v) : (w.alloc o).cell? a = some v := by
  rw [World.cell?_alloc_lt _ _ a (Go.block_lt_of_cell h)]; exact h
set_option maxHeartbeats 4000000 in
set_option maxRecDepth 100000 in
theorem as2_calls (e : Value) (t c : Addr) (r : Option Int) (k : Nat) (old : Value) (w : World) (hc : Chn w k e r) (hcell : w.cell? c = some (.pointer (some t))) (ht : w.cell? t = some old) (hf : w.frozen? t = false) :
    Calls Tryz.prog 88 #[e, .iface 220 (.pointer (some t)), .agg #[.pointer (some ⟨5, 220, none⟩), .pointer (some c), .int .u64 150], .iface 268 (.agg #[.pointer (some ⟨5, 68, none⟩)])] w fun ev w' =>
      ev = .returned (.bool r.isSome) ∧ asPost w t r w' := by
  have h84 := @run_callFunc_extern Tryz.prog 89 _ ReflectliteType.typeOf Tryz.func89 (by kernel_rfl) (by kernel_rfl) (by kernel_rfl) (by kernel_rfl)
  have h245 := @run_callFunc_extern Tryz.prog 384 _ (ReflectliteType.relation "AssignableTo" ReflectliteType.assignableTo) Tryz.func384 (by kernel_rfl) (by kernel_rfl) (by kernel_rfl) (by kernel_rfl)
  have h85 := @run_callFunc_extern Tryz.prog 116 _ (ReflectliteValue.method (ReflectliteValue.valueError "reflectlite.Value.Elem" 0) ReflectliteValue.elem) Tryz.func116 (by kernel_rfl) (by kernel_rfl) (by kernel_rfl) (by kernel_rfl)
  have h42 := @run_callFunc_extern Tryz.prog 85 _ (fun args => ReflectliteValue.unpack (args.getD 0 (.tuple #[]))) Tryz.func85 (by kernel_rfl) (by kernel_rfl) (by kernel_rfl) (by kernel_rfl)
  have h86 := @run_callFunc_extern Tryz.prog 117 _ ReflectliteValue.set Tryz.func117 (by kernel_rfl) (by kernel_rfl) (by kernel_rfl) (by kernel_rfl)
  have mA := ea_mAssign
  have hC := Lib.hid (hc.mono (fun a v h => cell_lt (.cells #[.pointer (some ⟨5, 220, none⟩), .pointer (some c), .int .u64 150] 209) h))
  have hcell' := cell_lt (.cells #[.pointer (some ⟨5, 220, none⟩), .pointer (some c), .int .u64 150] 209) hcell
  have ht' := cell_lt (.cells #[.pointer (some ⟨5, 220, none⟩), .pointer (some c), .int .u64 150] 209) ht
  have hf' : (w.alloc (.cells #[.pointer (some ⟨5, 220, none⟩), .pointer (some c), .int .u64 150] 209)).frozen? t = false := by
    rw [World.frozen?_alloc_old _ _ t (Nat.ne_of_lt (Go.block_lt_of_cell ht))]; exact hf
  have hv1 : (w.alloc (.cells #[.pointer (some ⟨5, 220, none⟩), .pointer (some c), .int .u64 150] 209)).rangeAt w.heap.size 0 [.pointer (some ⟨5, 220, none⟩), .pointer (some c), .int .u64 150] := fun j v hv => by
    rw [Nat.zero_add, World.cell?_alloc_at _ _ _ _ rfl]
    simpa using hv
  have hbk : (w.alloc (.cells #[.pointer (some ⟨5, 220, none⟩), .pointer (some c), .int .u64 150] 209)).heap[w.heap.size]? = some (.cells #[.pointer (some ⟨5, 220, none⟩), .pointer (some c), .int .u64 150] 209 (0, 0)) := blk_new w _ rfl
  clear hc
  go_enter Tryz.func88, Tryz.ntmps88
  go_wp2_with fail
  have hB0 : Below w.heap.size w (w.alloc (.cells #[.pointer (some ⟨5, 220, none⟩), .pointer (some c), .int .u64 150] 209)) := (Below.refl _ _).alloc (Nat.le_refl _) _
  generalize w.alloc (.cells #[.pointer (some ⟨5, 220, none⟩), .pointer (some c), .int .u64 150] 209) = W at *
  have HB0 := Lib.hid hB0
  have Hcell := Lib.hid hcell'
  have Ht := Lib.hid ht'
  have Hf := Lib.hid hf'
  have Hbk := Lib.hid hbk
  clear hB0 hcell' ht' hf' hbk hv1 hcell ht hf
  go_loopw [0] (fun e' wr => ∃ k', Below W.heap.size W wr ∧ Chn wr k' e' r) (fun e' wr => dep wr e')
  case atStart => exact ⟨k, Below.refl _ _, hC.out⟩
  case round =>
    obtain ⟨k', hB, hch⟩ := hrel
    have HB := Lib.hid hB
    have hd := dep_eq hch
    have tr : ∀ a v, W.cell? a = some v → wr.cell? a = some v := fun a v h => by
      have := Go.block_lt_of_cell h
      simp only [World.cell?, hB.block _ this] at h ⊢
      exact h
    have hcell' := tr _ _ Hcell.out
    have ht' := tr _ _ Ht.out
    have hf' : wr.frozen? t = false := by
      have := Go.block_lt_of_cell Ht.out
      rw [← Hf.out]; simp only [World.frozen?, hB.block _ this]
    have hcb := blk_cell ((hB.block _ (lt_of_block Hbk.out)).trans Hbk.out)
    have Hd := Lib.hid hd
    clear hd tr hB
    have hfin : Below w.heap.size w wr := HB0.out.trans ⟨HB.out.os, HB.out.tape, HB.out.output, HB.out.size, fun k hk => HB.out.block k (by have := HB0.out.size; omega)⟩
    have Hfin := Lib.hid hfin
    clear hfin
    cases hch with
    | hit n =>
      have tO := ea_typeOfE
      have aE := ea_assignE
      have vE := ea_valueOfE
      have el := ea_elemVP c t wr hcell'
      have st := ea_setE t ⟨wr.heap.size, 0, none⟩ n old (wr.alloc (.cells #[.int .i64 n] 68)) (by rw [World.cell?_alloc_at _ _ _ _ rfl]; rfl) (cell_lt _ ht') (by rw [World.frozen?_alloc_old _ _ t (Nat.ne_of_lt (Go.block_lt_of_cell ht'))]; exact hf')
      go_wp2
      go_ret
      exact ⟨rfl, _, Hfin.out.alloc Hfin.out.size _, rfl⟩
    | fsNil b off h =>
      have tO := ea_typeOfF
      have aE := ea_assignF
      have nA := ea_noAsF
      have uW := ea_unwrapF
      have mU := ea_mUnwrapF
      go_wp2
      go_ret
      exact ⟨rfl, _, Hfin.out, rfl⟩
    | fs b off k e2 _ h t2 =>
      obtain ⟨tt, vv, rfl⟩ := t2.iface
      have tO := ea_typeOfF
      have aE := ea_assignF
      have nA := ea_noAsF
      have uW := ea_unwrapF
      have mU := ea_mUnwrapF
      go_wp2
      refine ⟨⟨k, HB.out, t2⟩, ?_⟩
      show dep wr (.iface tt vv) < _
      rw [Hd.out, dep_eq t2]; omega
theorem as_nil (t : Value) (w : World) : Calls Tryz.prog 51 #[.nilIface, t] w fun e w' => e = .returned (.bool false) ∧ w' = w := by
  go_enter Tryz.func51, Tryz.ntmps51
  go_wp2
  go_ret
  exact ⟨rfl, rfl⟩
set_option maxHeartbeats 4000000 in
set_option maxRecDepth 100000 in
/-- errors.As at a chain: what it answers, what is new. -/
theorem as_calls (e : Value) (t : Addr) (r : Option Int) (k : Nat) (old : Value) (w : World) (hc : Chn w k e r) (hg : w.cell? ⟨0, 0, none⟩ = some (.iface 268 (.agg #[.pointer (some ⟨5, 75, none⟩)]))) (ht : w.cell? t = some old) (hf : w.frozen? t = false) :
    Calls Tryz.prog 51 #[e, .iface 220 (.pointer (some t))] w fun ev w' => ev = .returned (.bool r.isSome) ∧ asPost w t r w' := by
  obtain ⟨tt, vv, rfl⟩ := hc.iface
  have h42 := @run_callFunc_extern Tryz.prog 85 _ (fun args => ReflectliteValue.unpack (args.getD 0 (.tuple #[]))) Tryz.func85 (by kernel_rfl) (by kernel_rfl) (by kernel_rfl) (by kernel_rfl)
  have h43 := @run_callFunc_extern Tryz.prog 86 _ (ReflectliteValue.methodAny (ReflectliteValue.valueError "reflectlite.Value.Type" 0) (fun t _ _ _ => ReflectliteType.toType t)) Tryz.func86 (by kernel_rfl) (by kernel_rfl) (by kernel_rfl) (by kernel_rfl)
  have h44 := @run_callFunc_extern Tryz.prog 87 _ (ReflectliteValue.method (ReflectliteValue.valueError "reflectlite.Value.IsNil" 0) ReflectliteValue.isNil) Tryz.func87 (by kernel_rfl) (by kernel_rfl) (by kernel_rfl) (by kernel_rfl)
  have h227 := @run_callFunc_extern Tryz.prog 212 _ (ReflectliteType.abiMethod fun t => do pure (.int .u8 (← Rtype.kind t))) Tryz.func212 (by kernel_rfl) (by kernel_rfl) (by kernel_rfl) (by kernel_rfl)
  have h247 := @run_callFunc_extern Tryz.prog 386 _ (ReflectliteType.method ReflectliteType.elem) Tryz.func386 (by kernel_rfl) (by kernel_rfl) (by kernel_rfl) (by kernel_rfl)
  have h248 := @run_callFunc_extern Tryz.prog 387 _ (ReflectliteType.relation "Implements" ReflectliteType.implements_) Tryz.func387 (by kernel_rfl) (by kernel_rfl) (by kernel_rfl) (by kernel_rfl)
  have f6 := ea_valueOfP
  have f7 := ea_typeP
  have mK := ea_mKind
  have mE := ea_mElem
  have mI := ea_mImpl
  have kP := ea_kindP
  have kE := ea_kindE
  have eP := ea_elemP
  have iE := ea_implE
  have hC := Lib.hid hc
  clear hc
  obtain ⟨W1, hW1⟩ : ∃ W1, W1 = w.alloc (.cells #[.pointer (some t)] 220) := ⟨_, rfl⟩
  obtain ⟨W2, hW2⟩ : ∃ W2, W2 = W1.alloc (.cells #[.pointer (some ⟨5, 220, none⟩), .pointer (some ⟨w.heap.size, 0, none⟩), .int .u64 150] 209) := ⟨_, rfl⟩
  have hc1 : W1.cell? ⟨w.heap.size, 0, none⟩ = some (.pointer (some t)) := by rw [hW1, World.cell?_alloc_at _ _ _ _ rfl]; rfl
  have hc2 : W2.cell? ⟨w.heap.size, 0, none⟩ = some (.pointer (some t)) := by rw [hW2]; exact cell_lt _ hc1
  have hg2 : W2.cell? ⟨0, 0, none⟩ = some (.iface 268 (.agg #[.pointer (some ⟨5, 75, none⟩)])) := by rw [hW2, hW1]; exact cell_lt _ (cell_lt _ hg)
  have n8 := ea_isNilP ⟨w.heap.size, 0, none⟩ t W2 hc2
  have as2 := as2_calls (.iface tt vv) t ⟨w.heap.size, 0, none⟩ r k old W2 (by rw [hW2, hW1]; exact (hC.out.mono (fun _ _ h => cell_lt _ h)).mono (fun _ _ h => cell_lt _ h)) hc2 (by rw [hW2, hW1]; exact cell_lt _ (cell_lt _ ht)) (by
    have hb := Go.block_lt_of_cell ht
    rw [hW2, hW1, World.frozen?_alloc_old _ _ t (by simp; omega), World.frozen?_alloc_old _ _ t (Nat.ne_of_lt hb)]; exact hf)
  rw [hW2, hW1] at n8 hg2 as2
  clear hc1 hc2
  go_enter Tryz.func51, Tryz.ntmps51
  have hB2 : Below w.heap.size w ((w.alloc (.cells #[.pointer (some t)] 220)).alloc (.cells #[.pointer (some ⟨5, 220, none⟩), .pointer (some ⟨w.heap.size, 0, none⟩), .int .u64 150] 209)) := ((Below.refl _ _).alloc (Nat.le_refl _) _).alloc (by simp) _
  have HB2 := Lib.hid hB2
  clear hB2
  go_wp2_with (go_at_call 88; refine as2.mono ?_; rintro e w' ⟨rfl, hpost⟩)
  go_ret
  obtain ⟨W, hW, rfl⟩ := hpost
  exact ⟨rfl, W, HB2.out.trans ⟨hW.os, hW.tape, hW.output, hW.size, fun k hk => hW.block k (by have := HB2.out.size; omega)⟩, rfl⟩
/-- Nothing is found. -/
theorem as_none (e : Value) (t : Addr) (k : Nat) (old : Value) (w : World) (hc : Chn w k e none) (hg : w.cell? ⟨0, 0, none⟩ = some (.iface 268 (.agg #[.pointer (some ⟨5, 75, none⟩)]))) (ht : w.cell? t = some old) (hf : w.frozen? t = false) :
    Calls Tryz.prog 51 #[e, .iface 220 (.pointer (some t))] w fun ev w' => ev = .returned (.bool false) ∧ Below w.heap.size w w' := by
  refine (as_calls e t none k old w hc hg ht hf).mono ?_
  rintro ev w' ⟨rfl, W, hW, rfl⟩
  exact ⟨rfl, hW⟩
/-- An errno is found. -/
theorem as_some (e : Value) (t : Addr) (n : Int) (k : Nat) (old : Value) (w : World) (hc : Chn w k e (some n)) (hg : w.cell? ⟨0, 0, none⟩ = some (.iface 268 (.agg #[.pointer (some ⟨5, 75, none⟩)]))) (ht : w.cell? t = some old) (hf : w.frozen? t = false) :
    Calls Tryz.prog 51 #[e, .iface 220 (.pointer (some t))] w fun ev w' => ev = .returned (.bool true) ∧ ∃ W, Below w.heap.size w W ∧ w' = W.setCell t (.int .i64 n) := by
  refine (as_calls e t (some n) k old w hc hg ht hf).mono ?_
  rintro ev w' ⟨rfl, W, hW, rfl⟩
  exact ⟨rfl, W, hW, rfl⟩
end Go.Proofs.YtabllhhainepgaaGreatDoor
