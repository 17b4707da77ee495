/-
  FsopsNil: the act in memory.
-/
import Derived.Test.YtjcpkckbjhknfaaGreatDoorFsopsNilFns
import Derived.Test.YtjcpkckbjhknfaaGreatDoorInsOK
import Derived.Test.YtjcpkckbjhknfaaGreatDoorFsopsLiveR8
set_option maxRecDepth 100000
set_option linter.unusedVariables false
set_option linter.unusedSimpArgs false
set_option linter.constructorNameAsVariable false
namespace Go.Proofs.YtjcpkckbjhknfaaGreatDoor
open Go.RowKit Ab
section
variable (c0 c1 c2 c3 c4 c5 c6 c9 c10 c12 c13 c14 c15 c16 c17 c18 c19 c20 c21 c22 c23 c24 c25 : Value) (s7 s8 : ByteArray) (pa : Option Addr) (pl pc : Nat)
@[irreducible] def actA : Array Value := #[c0, c1, c2, c3, c4, c5, c6, .string s7, .string s8, c9, c10, .slice pa pl pc, c12, c13, c14, c15, c16, c17, c18, c19, c20, c21, c22, c23, c24, c25]
end
theorem box_run (cs : Array Value) (w : World) : (Instr.box 32 (.agg cs)).run Tryz.prog w = .ok (.pointer (some ⟨w.heap.size, 0, none⟩)) (w.alloc (.cells cs 32 (0, 0))) := by kernel_rfl
section
variable (c0 c1 c2 c3 c4 c5 c6 c9 c10 c12 c13 c14 c15 c16 c17 c18 c19 c20 c21 c22 c23 c24 c25 : Value) (s7 s8 : ByteArray) (pa : Option Addr) (pl pc : Nat)
theorem build_run (w : World) : (Instr.buildSlice 34 1 #[(0, .agg (actA c0 c1 c2 c3 c4 c5 c6 c9 c10 c12 c13 c14 c15 c16 c17 c18 c19 c20 c21 c22 c23 c24 c25 s7 s8 pa pl pc))]).run Tryz.prog w = .ok (.slice (some ⟨w.heap.size, 0, none⟩) 1 1) (w.alloc (.cells (actA c0 c1 c2 c3 c4 c5 c6 c9 c10 c12 c13 c14 c15 c16 c17 c18 c19 c20 c21 c22 c23 c24 c25 s7 s8 pa pl pc) 32 (0, 0))) := by kernel_rfl
theorem act_row : (actA c0 c1 c2 c3 c4 c5 c6 c9 c10 c12 c13 c14 c15 c16 c17 c18 c19 c20 c21 c22 c23 c24 c25 s7 s8 pa pl pc).toList = [c0, c1, c2, c3, c4, c5, c6, .string s7, .string s8, c9, c10, .slice pa pl pc, c12, c13, c14, c15, c16, c17, c18, c19, c20, c21, c22, c23, c24, c25] := by unfold actA; rfl
theorem load_run (b : Nat) (w : World) (h : w.heap[b]? = some (.cells (actA c0 c1 c2 c3 c4 c5 c6 c9 c10 c12 c13 c14 c15 c16 c17 c18 c19 c20 c21 c22 c23 c24 c25 s7 s8 pa pl pc) 32 (0, 0))) : (Instr.loadAt 32 (.pointer (some ⟨b, 0, none⟩))).run Tryz.prog w = .ok (.agg (actA c0 c1 c2 c3 c4 c5 c6 c9 c10 c12 c13 c14 c15 c16 c17 c18 c19 c20 c21 c22 c23 c24 c25 s7 s8 pa pl pc)) w := by
  have := run_loadVar_agg (P := Tryz.prog) (w := w) (t := 32) (k := 26) (by kernel_rfl) (by kernel_rfl) (b := b) (o := 0) (vs := (actA c0 c1 c2 c3 c4 c5 c6 c9 c10 c12 c13 c14 c15 c16 c17 c18 c19 c20 c21 c22 c23 c24 c25 s7 s8 pa pl pc).toList) (by rw [act_row]; rfl) (by
    intro j v hv
    rw [blk_cell h, Nat.zero_add, ← hv, Array.getElem?_toList])
  simpa [Instr.loadAt, Instr.sureAddr, asAddr] using this
theorem lit_of {b : Nat} {w : World} (h : w.heap[b]? = some (.cells (actA c0 c1 c2 c3 c4 c5 c6 c9 c10 c12 c13 c14 c15 c16 c17 c18 c19 c20 c21 c22 c23 c24 c25 s7 s8 pa pl pc) 32 (0, 0))) : w.heap[b]? = some (.cells #[c0, c1, c2, c3, c4, c5, c6, .string s7, .string s8, c9, c10, .slice pa pl pc, c12, c13, c14, c15, c16, c17, c18, c19, c20, c21, c22, c23, c24, c25] 32 (0, 0)) := by
  unfold actA at h; exact h
theorem act_cells {b : Nat} {w : World} (h : w.heap[b]? = some (.cells (actA c0 c1 c2 c3 c4 c5 c6 c9 c10 c12 c13 c14 c15 c16 c17 c18 c19 c20 c21 c22 c23 c24 c25 s7 s8 pa pl pc) 32 (0, 0))) : w.cell? ⟨b, 0, none⟩ = some c0 ∧ w.cell? ⟨b, 1, none⟩ = some c1 ∧ w.cell? ⟨b, 2, none⟩ = some c2 ∧ w.cell? ⟨b, 3, none⟩ = some c3 ∧ w.cell? ⟨b, 4, none⟩ = some c4 ∧ w.cell? ⟨b, 5, none⟩ = some c5 ∧ w.cell? ⟨b, 6, none⟩ = some c6 ∧ w.cell? ⟨b, 7, none⟩ = some (.string s7) ∧ w.cell? ⟨b, 8, none⟩ = some (.string s8) ∧ w.cell? ⟨b, 9, none⟩ = some c9 ∧ w.cell? ⟨b, 10, none⟩ = some c10 ∧ w.cell? ⟨b, 11, none⟩ = some (.slice pa pl pc) ∧ w.cell? ⟨b, 12, none⟩ = some c12 ∧ w.cell? ⟨b, 13, none⟩ = some c13 ∧ w.cell? ⟨b, 14, none⟩ = some c14 ∧ w.cell? ⟨b, 15, none⟩ = some c15 ∧ w.cell? ⟨b, 16, none⟩ = some c16 ∧ w.cell? ⟨b, 17, none⟩ = some c17 ∧ w.cell? ⟨b, 18, none⟩ = some c18 ∧ w.cell? ⟨b, 19, none⟩ = some c19 ∧ w.cell? ⟨b, 20, none⟩ = some c20 ∧ w.cell? ⟨b, 21, none⟩ = some c21 ∧ w.cell? ⟨b, 22, none⟩ = some c22 ∧ w.cell? ⟨b, 23, none⟩ = some c23 ∧ w.cell? ⟨b, 24, none⟩ = some c24 ∧ w.cell? ⟨b, 25, none⟩ = some c25 := by
  have hc := blk_cell h
  unfold actA at hc
  exact ⟨hc 0, hc 1, hc 2, hc 3, hc 4, hc 5, hc 6, hc 7, hc 8, hc 9, hc 10, hc 11, hc 12, hc 13, hc 14, hc 15, hc 16, hc 17, hc 18, hc 19, hc 20, hc 21, hc 22, hc 23, hc 24, hc 25⟩
end
theorem wpList_op {P : Program} {w w' : World} {ops : Array Oper} {rest : List Oper} {o : Oper} {a : Act} {Q : Exit → Act → World → Prop} {v : Value}
    (hg : o.guard = none) (h : (execOp a.eval o).run P w = .ok (.value v) w') (hK : wpList P ops Q rest (a.put o.dst v) w') : wpList P ops Q (o :: rest) a w := by
  refine wpList_plain hg fun K hK' => ?_
  unfold Oper.wp
  rw [h]
  exact hK' _ _ hK
section
variable {w : World} {ops : Array Oper} {rest : List Oper} {o : Oper} {a : Act} {Q : Exit → Act → World → Prop} (cs : Array Value) (x : Operand)
theorem wpList_box (hg : o.guard = none) (hop : o.op = Op.box 32 x) (hx : a.eval x = .agg cs)
    (hK : wpList Tryz.prog ops Q rest (a.put o.dst (.pointer (some ⟨w.heap.size, 0, none⟩))) (w.alloc (.cells cs 32 (0, 0)))) : wpList Tryz.prog ops Q (o :: rest) a w :=
  wpList_op hg (by simp only [execOp, hop, hx, Sem.run_bind, Sem.run_pure, box_run, Result.andThen_ok]) hK
theorem wpList_load {c0 c1 c2 c3 c4 c5 c6 c9 c10 c12 c13 c14 c15 c16 c17 c18 c19 c20 c21 c22 c23 c24 c25 : Value} {s7 s8 : ByteArray} {pa : Option Addr} {pl pc : Nat} (hg : o.guard = none) (hop : o.op = Op.load 32 x) (b : Nat) (hx : a.eval x = .pointer (some ⟨b, 0, none⟩)) (hb : w.heap[b]? = some (.cells (actA c0 c1 c2 c3 c4 c5 c6 c9 c10 c12 c13 c14 c15 c16 c17 c18 c19 c20 c21 c22 c23 c24 c25 s7 s8 pa pl pc) 32 (0, 0)))
    (hK : wpList Tryz.prog ops Q rest (a.put o.dst (.agg (actA c0 c1 c2 c3 c4 c5 c6 c9 c10 c12 c13 c14 c15 c16 c17 c18 c19 c20 c21 c22 c23 c24 c25 s7 s8 pa pl pc))) w) : wpList Tryz.prog ops Q (o :: rest) a w :=
  wpList_op hg (by simp only [execOp, hop, hx, Sem.run_bind, Sem.run_pure, load_run _ _ _ _ _ _ _ _ _ _ _ _ _ _ _ _ _ _ _ _ _ _ _ _ _ _ _ _ b w hb, Result.andThen_ok]) hK
theorem wpList_build {c0 c1 c2 c3 c4 c5 c6 c9 c10 c12 c13 c14 c15 c16 c17 c18 c19 c20 c21 c22 c23 c24 c25 : Value} {s7 s8 : ByteArray} {pa : Option Addr} {pl pc : Nat} (hg : o.guard = none) (hop : o.op = Op.buildSlice 34 1 #[(0, x)]) (hx : a.eval x = .agg (actA c0 c1 c2 c3 c4 c5 c6 c9 c10 c12 c13 c14 c15 c16 c17 c18 c19 c20 c21 c22 c23 c24 c25 s7 s8 pa pl pc))
    (hK : wpList Tryz.prog ops Q rest (a.put o.dst (.slice (some ⟨w.heap.size, 0, none⟩) 1 1)) (w.alloc (.cells (actA c0 c1 c2 c3 c4 c5 c6 c9 c10 c12 c13 c14 c15 c16 c17 c18 c19 c20 c21 c22 c23 c24 c25 s7 s8 pa pl pc) 32 (0, 0)))) : wpList Tryz.prog ops Q (o :: rest) a w :=
  wpList_op hg (by simp only [execOp, hop, List.map_toArray, List.map_cons, List.map_nil, hx, Sem.run_bind, Sem.run_pure, build_run, Result.andThen_ok]) hK
end
end Go.Proofs.YtjcpkckbjhknfaaGreatDoor
