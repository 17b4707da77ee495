/-
  FsopsNil: the walk.
-/
import Derived.Test.YtjcpkckbjhknfaaGreatDoorFsopsNilAct
set_option maxRecDepth 100000
set_option linter.unusedVariables false
set_option linter.unusedSimpArgs false
set_option linter.constructorNameAsVariable false
namespace Go.Proofs.YtjcpkckbjhknfaaGreatDoor
open Go.RowKit Ab

/-- What stands at a point of the walk: memory, the variable, the act, the errors so far, the error of the lookup. -/
structure St (w : World) (blk : Obj) (nm : ByteArray) (w' : World) (l : List Addr) (q : Option Addr) : Prop where
  below : Below w.heap.size w w'
  err : ErrT w'
  act : w'.heap[w.heap.size]? = some blk
  size : w.heap.size < w'.heap.size
  bad : ∀ p ∈ l, BadE w' p
  tell : ∀ p, q = some p → ErrIs w' p lookupS nm
section
variable {w w1 w2 : World} {blk : Obj} {nm : ByteArray} {l : List Addr} {q : Option Addr} {p : Addr}
theorem St.step (h : St w blk nm w1 l q) (hb : Below w1.heap.size w1 w2) : St w blk nm w2 l q :=
  ⟨below_tr h.below hb, h.err.below hb, (hb.block _ h.size).trans h.act, Nat.lt_of_lt_of_le h.size hb.size, fun p hp => (h.bad p hp).mono (fun _ _ k => below_cell hb k), fun p hp => (h.tell p hp).below hb⟩
theorem St.push (h : St w blk nm w1 l q) (hp : BadE w2 p) (hb : Below w1.heap.size w1 w2) : St w blk nm w2 (p :: l) q :=
  ⟨(h.step hb).below, (h.step hb).err, (h.step hb).act, (h.step hb).size, fun q hq => by
    rcases List.mem_cons.1 hq with rfl | hq
    · exact hp
    · exact (h.step hb).bad q hq, (h.step hb).tell⟩
theorem St.lookup (h : St w blk nm w1 l q) (hp : ErrIs w2 p lookupS nm) (hb : Below w1.heap.size w1 w2) : St w blk nm w2 l (some p) :=
  ⟨(h.step hb).below, (h.step hb).err, (h.step hb).act, (h.step hb).size, (h.step hb).bad, fun p' hp' => by cases hp'; exact hp⟩
theorem St.boxed (h : St w blk nm w1 l q) (o : Obj) : St w blk nm (w1.alloc o) l q := h.step ((Below.refl _ _).alloc (Nat.le_refl _) o)
theorem St.code (h : St w blk nm w1 l q) (hp : p ∈ l) : Calls Tryz.prog 15 #[.iface 121 (.pointer (some p))] w1 fun e w' => e = .returned (.int .i64 2) ∧ Below w1.heap.size w1 w' :=
  code_calls _ 1 (some 2) w1 (h.bad p hp) h.err
end
theorem live_calls (w : World) (hg : ErrT w) : Calls Tryz.prog 5 #[] w fun e w' => e = .returned (.bool true) ∧ Below w.heap.size w w' :=
  (fl_calls w (lawK_ok hg)).mono fun e w' h => ⟨h.1, h.2.below (Nat.le_refl _) (fun _ h => h.elim)⟩

/-- Each of the cells holds one value. -/
structure Ones (c1 c2 c3 c4 c5 c6 c9 c10 c12 c13 c14 c15 c16 c17 c18 c19 c20 c21 c22 c25 : Value) : Prop where
  o1 : c1.oneCell' = true
  o2 : c2.oneCell' = true
  o3 : c3.oneCell' = true
  o4 : c4.oneCell' = true
  o5 : c5.oneCell' = true
  o6 : c6.oneCell' = true
  o9 : c9.oneCell' = true
  o10 : c10.oneCell' = true
  o12 : c12.oneCell' = true
  o13 : c13.oneCell' = true
  o14 : c14.oneCell' = true
  o15 : c15.oneCell' = true
  o16 : c16.oneCell' = true
  o17 : c17.oneCell' = true
  o18 : c18.oneCell' = true
  o19 : c19.oneCell' = true
  o20 : c20.oneCell' = true
  o21 : c21.oneCell' = true
  o22 : c22.oneCell' = true
  o25 : c25.oneCell' = true
set_option maxHeartbeats 8000000 in
theorem fsopsNil_walk (c0 c1 c2 c3 c4 c5 c6 c9 c10 c12 c13 c14 c15 c16 c17 c18 c19 c20 c21 c22 c23 c24 c25 : Value) (s7 s8 : ByteArray) (pa : Option Addr) (pl pc : Nat) (root : Int) (w : World) (hg : ErrT w) (ho : Ones c1 c2 c3 c4 c5 c6 c9 c10 c12 c13 c14 c15 c16 c17 c18 c19 c20 c21 c22 c25) :
    Calls Tryz.prog 3 #[.agg (actA c0 c1 c2 c3 c4 c5 c6 c9 c10 c12 c13 c14 c15 c16 c17 c18 c19 c20 c21 c22 c23 c24 c25 s7 s8 pa pl pc), .int .i64 root] w fun e w' => e = .returned (.bool true) ∧ Below w.heap.size w w' := by
  have Hg := Lib.hid hg
  have Ho := Lib.hid ho
  clear hg ho
  go_enter Tryz.func3, Tryz.ntmps3
  go_wp2_with (first | refine wpList_box (actA c0 c1 c2 c3 c4 c5 c6 c9 c10 c12 c13 c14 c15 c16 c17 c18 c19 c20 c21 c22 c23 c24 c25 s7 s8 pa pl pc) _ rfl rfl rfl ?_ | refine wpList_load _ rfl rfl w.heap.size rfl (blk_new _ _ rfl) ?_ | refine wpList_build _ rfl rfl rfl ?_)
  refine (huge_calls (w.heap.size + 1) c0 c1 c2 c3 c4 c5 c6 c9 c10 c12 c13 c14 c15 c16 c17 c18 c19 c20 c21 c22 c23 c24 c25 s7 s8 pa pl pc _ (lit_of c0 c1 c2 c3 c4 c5 c6 c9 c10 c12 c13 c14 c15 c16 c17 c18 c19 c20 c21 c22 c23 c24 c25 s7 s8 pa pl pc (blk_new (w.alloc (.cells (actA c0 c1 c2 c3 c4 c5 c6 c9 c10 c12 c13 c14 c15 c16 c17 c18 c19 c20 c21 c22 c23 c24 c25 s7 s8 pa pl pc) 32 (0, 0))) (.cells (actA c0 c1 c2 c3 c4 c5 c6 c9 c10 c12 c13 c14 c15 c16 c17 c18 c19 c20 c21 c22 c23 c24 c25 s7 s8 pa pl pc) 32 (0, 0)) (n := w.heap.size + 1) (by simp)))).mono ?_
  rintro e w1 ⟨⟨bo, rfl⟩, m, hw1⟩
  have S := Lib.hid (show St w (.cells (actA c0 c1 c2 c3 c4 c5 c6 c9 c10 c12 c13 c14 c15 c16 c17 c18 c19 c20 c21 c22 c23 c24 c25 s7 s8 pa pl pc) 32 (0, 0)) s7 w1 [] none from by
    have hB : Below w.heap.size w ((w.alloc (.cells (actA c0 c1 c2 c3 c4 c5 c6 c9 c10 c12 c13 c14 c15 c16 c17 c18 c19 c20 c21 c22 c23 c24 c25 s7 s8 pa pl pc) 32 (0, 0))).alloc (.cells (actA c0 c1 c2 c3 c4 c5 c6 c9 c10 c12 c13 c14 c15 c16 c17 c18 c19 c20 c21 c22 c23 c24 c25 s7 s8 pa pl pc) 32 (0, 0))) := ((Below.refl _ w).alloc (Nat.le_refl _) _).alloc (by simp) _
    have hB' : Below w.heap.size w w1 := by rw [hw1]; exact ⟨hB.os, hB.tape, hB.output, hB.size, hB.block⟩
    exact ⟨hB', Hg.out.below hB', (by rw [hw1]; exact (blk_old_some (blk_new w _ rfl) _)), (by rw [hw1]; simp; omega), fun p hp => (by cases hp), fun p hp => (by cases hp)⟩)
  clear hw1
  cases bo with
  | true =>
    go_wp2_with fail
    refine (live_calls w1 S.out.err).mono ?_
    rintro e w' ⟨rfl, hf⟩
    go_wp2_with fail
    go_ret
    exact ⟨rfl, below_tr S.out.below hf⟩
  | false =>
  have C := act_cells c0 c1 c2 c3 c4 c5 c6 c9 c10 c12 c13 c14 c15 c16 c17 c18 c19 c20 c21 c22 c23 c24 c25 s7 s8 pa pl pc S.out.act

  go_wp2_with fail
  refine (format_nil c25 Ho.out.o25 w1).mono ?_
  rintro e w2 ⟨pe, rfl, hp, hb⟩
  have T := Lib.hid (S.out.push hp hb)
  clear S C hp hb
  have S := Lib.hid T.out
  clear T
  have C := act_cells c0 c1 c2 c3 c4 c5 c6 c9 c10 c12 c13 c14 c15 c16 c17 c18 c19 c20 c21 c22 c23 c24 c25 s7 s8 pa pl pc S.out.act
  go_wp2_with fail
  refine (open_nil (.int .i64 root) rfl w2).mono ?_
  rintro e w3 ⟨pg, rfl, hp, hb⟩
  have T := Lib.hid (S.out.push hp hb)
  clear S C hp hb
  have S := Lib.hid T.out
  clear T
  have C := act_cells c0 c1 c2 c3 c4 c5 c6 c9 c10 c12 c13 c14 c15 c16 c17 c18 c19 c20 c21 c22 c23 c24 c25 s7 s8 pa pl pc S.out.act
  go_wp2_with fail
  refine (view_nil (.int .i64 root) rfl w3).mono ?_
  rintro e w4 ⟨ph, rfl, hp, hb⟩
  have T := Lib.hid (S.out.push hp hb)
  clear S C hp hb
  have S := Lib.hid T.out
  clear T
  have C := act_cells c0 c1 c2 c3 c4 c5 c6 c9 c10 c12 c13 c14 c15 c16 c17 c18 c19 c20 c21 c22 c23 c24 c25 s7 s8 pa pl pc S.out.act
  go_wp2_with fail
  refine (getAttr_nil c1 c2 c3 Ho.out.o1 Ho.out.o2 Ho.out.o3 w4).mono ?_
  rintro e w5 ⟨pi, rfl, hp, hb⟩
  have T := Lib.hid (S.out.push hp hb)
  clear S C hp hb
  have S := Lib.hid T.out
  clear T
  have C := fun o => act_cells c0 c1 c2 c3 c4 c5 c6 c9 c10 c12 c13 c14 c15 c16 c17 c18 c19 c20 c21 c22 c23 c24 c25 s7 s8 pa pl pc (S.out.boxed o).act
  go_wp2_with fail
  refine (lookup_nil c1 c2 c3 Ho.out.o1 Ho.out.o2 Ho.out.o3 s7 _).mono ?_
  rintro e w6 ⟨pj, rfl, hp, hb⟩
  have T := Lib.hid ((S.out.boxed _).lookup hp hb)
  clear S C hp hb
  have S := Lib.hid T.out
  clear T
  have C := fun o => act_cells c0 c1 c2 c3 c4 c5 c6 c9 c10 c12 c13 c14 c15 c16 c17 c18 c19 c20 c21 c22 c23 c24 c25 s7 s8 pa pl pc (S.out.boxed o).act
  go_wp2_with fail
  refine (write_nil c1 c2 c3 Ho.out.o1 Ho.out.o2 Ho.out.o3 _ c9 (.slice pa pl pc) c25 Ho.out.o9 rfl Ho.out.o25).mono ?_
  rintro e w7 ⟨pk, rfl, hp, hb⟩
  have T := Lib.hid ((S.out.boxed _).push hp hb)
  clear S C hp hb
  have S := Lib.hid T.out
  clear T
  have C := fun o => act_cells c0 c1 c2 c3 c4 c5 c6 c9 c10 c12 c13 c14 c15 c16 c17 c18 c19 c20 c21 c22 c23 c24 c25 s7 s8 pa pl pc (S.out.boxed o).act
  go_wp2_with fail
  refine (read_nil c1 c2 c3 Ho.out.o1 Ho.out.o2 Ho.out.o3 _ c9 c10 Ho.out.o9 Ho.out.o10).mono ?_
  rintro e w8 ⟨pL, rfl, hp, hb⟩
  have T := Lib.hid ((S.out.boxed _).push hp hb)
  clear S C hp hb
  have S := Lib.hid T.out
  clear T
  have C := act_cells c0 c1 c2 c3 c4 c5 c6 c9 c10 c12 c13 c14 c15 c16 c17 c18 c19 c20 c21 c22 c23 c24 c25 s7 s8 pa pl pc S.out.act
  go_wp2_with fail
  refine (create_nil c1 c2 c3 Ho.out.o1 Ho.out.o2 Ho.out.o3 w8 (.string s7) c12 c13 c14 c15 c16 c17 c18 c19 c20 c21 c22 c25 rfl Ho.out.o12 Ho.out.o13 Ho.out.o14 Ho.out.o15 Ho.out.o16 Ho.out.o17 Ho.out.o18 Ho.out.o19 Ho.out.o20 Ho.out.o21 Ho.out.o22 Ho.out.o25).mono ?_
  rintro e w9 ⟨pm, rfl, hp, hb⟩
  have T := Lib.hid (S.out.push hp hb)
  clear S C hp hb
  have S := Lib.hid T.out
  clear T
  have C := fun o => act_cells c0 c1 c2 c3 c4 c5 c6 c9 c10 c12 c13 c14 c15 c16 c17 c18 c19 c20 c21 c22 c23 c24 c25 s7 s8 pa pl pc (S.out.boxed o).act
  go_wp2_with fail
  refine (stat_nil _).mono ?_
  rintro e w10 ⟨po, rfl, hp, hb⟩
  have T := Lib.hid ((S.out.boxed _).push hp hb)
  clear S C hp hb
  have S := Lib.hid T.out
  clear T
  have C := fun o => act_cells c0 c1 c2 c3 c4 c5 c6 c9 c10 c12 c13 c14 c15 c16 c17 c18 c19 c20 c21 c22 c23 c24 c25 s7 s8 pa pl pc (S.out.boxed o).act
  go_wp2_with fail
  refine ((S.out.boxed _).code (p := pe) (by simp)).mono ?_
  rintro e w11 ⟨rfl, hb⟩
  have T := Lib.hid ((S.out.boxed _).step hb)
  clear S C hb
  have S := Lib.hid T.out
  clear T
  have C := act_cells c0 c1 c2 c3 c4 c5 c6 c9 c10 c12 c13 c14 c15 c16 c17 c18 c19 c20 c21 c22 c23 c24 c25 s7 s8 pa pl pc S.out.act
  go_wp2_with fail
  refine (S.out.code (p := pg) (by simp)).mono ?_
  rintro e w12 ⟨rfl, hb⟩
  have T := Lib.hid (S.out.step hb)
  clear S C hb
  have S := Lib.hid T.out
  clear T
  have C := act_cells c0 c1 c2 c3 c4 c5 c6 c9 c10 c12 c13 c14 c15 c16 c17 c18 c19 c20 c21 c22 c23 c24 c25 s7 s8 pa pl pc S.out.act
  go_wp2_with fail
  refine (S.out.code (p := ph) (by simp)).mono ?_
  rintro e w13 ⟨rfl, hb⟩
  have T := Lib.hid (S.out.step hb)
  clear S C hb
  have S := Lib.hid T.out
  clear T
  have C := act_cells c0 c1 c2 c3 c4 c5 c6 c9 c10 c12 c13 c14 c15 c16 c17 c18 c19 c20 c21 c22 c23 c24 c25 s7 s8 pa pl pc S.out.act
  go_wp2_with fail
  refine (S.out.code (p := pi) (by simp)).mono ?_
  rintro e w14 ⟨rfl, hb⟩
  have T := Lib.hid (S.out.step hb)
  clear S C hb
  have S := Lib.hid T.out
  clear T
  have C := act_cells c0 c1 c2 c3 c4 c5 c6 c9 c10 c12 c13 c14 c15 c16 c17 c18 c19 c20 c21 c22 c23 c24 c25 s7 s8 pa pl pc S.out.act
  go_wp2_with fail
  refine (told_calls pj s7 w14 (S.out.tell pj rfl) S.out.err).mono ?_
  rintro e w15 ⟨rfl, hb⟩
  have T := Lib.hid (S.out.step hb)
  clear S C hb
  have S := Lib.hid T.out
  clear T
  have C := act_cells c0 c1 c2 c3 c4 c5 c6 c9 c10 c12 c13 c14 c15 c16 c17 c18 c19 c20 c21 c22 c23 c24 c25 s7 s8 pa pl pc S.out.act
  go_wp2_with fail
  refine (S.out.code (p := pk) (by simp)).mono ?_
  rintro e w16 ⟨rfl, hb⟩
  have T := Lib.hid (S.out.step hb)
  clear S C hb
  have S := Lib.hid T.out
  clear T
  have C := act_cells c0 c1 c2 c3 c4 c5 c6 c9 c10 c12 c13 c14 c15 c16 c17 c18 c19 c20 c21 c22 c23 c24 c25 s7 s8 pa pl pc S.out.act
  go_wp2_with fail
  refine (S.out.code (p := pL) (by simp)).mono ?_
  rintro e w17 ⟨rfl, hb⟩
  have T := Lib.hid (S.out.step hb)
  clear S C hb
  have S := Lib.hid T.out
  clear T
  have C := act_cells c0 c1 c2 c3 c4 c5 c6 c9 c10 c12 c13 c14 c15 c16 c17 c18 c19 c20 c21 c22 c23 c24 c25 s7 s8 pa pl pc S.out.act
  go_wp2_with fail
  refine (S.out.code (p := pm) (by simp)).mono ?_
  rintro e w18 ⟨rfl, hb⟩
  have T := Lib.hid (S.out.step hb)
  clear S C hb
  have S := Lib.hid T.out
  clear T
  have C := act_cells c0 c1 c2 c3 c4 c5 c6 c9 c10 c12 c13 c14 c15 c16 c17 c18 c19 c20 c21 c22 c23 c24 c25 s7 s8 pa pl pc S.out.act
  go_wp2_with fail
  refine (S.out.code (p := po) (by simp)).mono ?_
  rintro e w19 ⟨rfl, hb⟩
  have T := Lib.hid (S.out.step hb)
  clear S C hb
  have S := Lib.hid T.out
  clear T
  have C := act_cells c0 c1 c2 c3 c4 c5 c6 c9 c10 c12 c13 c14 c15 c16 c17 c18 c19 c20 c21 c22 c23 c24 c25 s7 s8 pa pl pc S.out.act
  go_wp2_with fail
  refine (remove_nil c1 c2 c3 Ho.out.o1 Ho.out.o2 Ho.out.o3 w19 (.string s7) rfl).mono ?_
  rintro e w20 ⟨pr, rfl, hp, hb⟩
  have T := Lib.hid (S.out.push hp hb)
  clear S C hp hb
  have S := Lib.hid T.out
  clear T
  have C := act_cells c0 c1 c2 c3 c4 c5 c6 c9 c10 c12 c13 c14 c15 c16 c17 c18 c19 c20 c21 c22 c23 c24 c25 s7 s8 pa pl pc S.out.act
  go_wp2_with fail
  refine (S.out.code (p := pr) (by simp)).mono ?_
  rintro e w21 ⟨rfl, hb⟩
  have T := Lib.hid (S.out.step hb)
  clear S C hb
  have S := Lib.hid T.out
  clear T
  have C := act_cells c0 c1 c2 c3 c4 c5 c6 c9 c10 c12 c13 c14 c15 c16 c17 c18 c19 c20 c21 c22 c23 c24 c25 s7 s8 pa pl pc S.out.act
  go_wp2_with fail
  refine (rename_nil c1 c2 c3 Ho.out.o1 Ho.out.o2 Ho.out.o3 w21 c4 c5 c6 (.string s7) (.string s8) Ho.out.o4 Ho.out.o5 Ho.out.o6 rfl rfl).mono ?_
  rintro e w22 ⟨ps, rfl, hp, hb⟩
  have T := Lib.hid (S.out.push hp hb)
  clear S C hp hb
  have S := Lib.hid T.out
  clear T
  have C := act_cells c0 c1 c2 c3 c4 c5 c6 c9 c10 c12 c13 c14 c15 c16 c17 c18 c19 c20 c21 c22 c23 c24 c25 s7 s8 pa pl pc S.out.act
  go_wp2_with fail
  refine (S.out.code (p := ps) (by simp)).mono ?_
  rintro e w23 ⟨rfl, hb⟩
  have T := Lib.hid (S.out.step hb)
  clear S C hb
  have S := Lib.hid T.out
  clear T
  have C := act_cells c0 c1 c2 c3 c4 c5 c6 c9 c10 c12 c13 c14 c15 c16 c17 c18 c19 c20 c21 c22 c23 c24 c25 s7 s8 pa pl pc S.out.act
  go_wp2_with fail
  refine (root_nil w23).mono ?_
  rintro e w24 ⟨rfl, hb⟩
  have T := Lib.hid (S.out.step hb)
  clear S C hb
  have S := Lib.hid T.out
  clear T
  have C := act_cells c0 c1 c2 c3 c4 c5 c6 c9 c10 c12 c13 c14 c15 c16 c17 c18 c19 c20 c21 c22 c23 c24 c25 s7 s8 pa pl pc S.out.act
  go_wp2_with fail
  refine (settle_nil w24).mono ?_
  rintro e w25 ⟨rfl, hb⟩
  have T := Lib.hid (S.out.step hb)
  clear S C hb
  have S := Lib.hid T.out
  clear T
  have C := act_cells c0 c1 c2 c3 c4 c5 c6 c9 c10 c12 c13 c14 c15 c16 c17 c18 c19 c20 c21 c22 c23 c24 c25 s7 s8 pa pl pc S.out.act
  go_wp2_with fail
  refine (blocks_nil w25).mono ?_
  rintro e w26 ⟨rfl, hb⟩
  have T := Lib.hid (S.out.step hb)
  clear S C hb
  have S := Lib.hid T.out
  clear T
  have C := act_cells c0 c1 c2 c3 c4 c5 c6 c9 c10 c12 c13 c14 c15 c16 c17 c18 c19 c20 c21 c22 c23 c24 c25 s7 s8 pa pl pc S.out.act
  go_wp2_with fail
  refine (top_nil w26).mono ?_
  rintro e w27 ⟨rfl, hb⟩
  have T := Lib.hid (S.out.step hb)
  clear S C hb
  have S := Lib.hid T.out
  clear T
  have C := act_cells c0 c1 c2 c3 c4 c5 c6 c9 c10 c12 c13 c14 c15 c16 c17 c18 c19 c20 c21 c22 c23 c24 c25 s7 s8 pa pl pc S.out.act
  go_wp2_with fail
  refine (live_calls w27 S.out.err).mono ?_
  rintro e w' ⟨rfl, hf⟩
  go_wp2_with fail
  go_ret
  exact ⟨rfl, below_tr S.out.below hf⟩
end Go.Proofs.YtjcpkckbjhknfaaGreatDoor
