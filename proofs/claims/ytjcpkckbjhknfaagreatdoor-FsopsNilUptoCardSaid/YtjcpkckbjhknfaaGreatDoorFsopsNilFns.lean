/-
  FsopsNil: the functions beside the law: a nil FS is asked.
-/
import Derived.Test.YtjcpkckbjhknfaaGreatDoorErrCode
set_option maxRecDepth 100000
set_option linter.unusedVariables false
set_option linter.unusedSimpArgs false
set_option linter.constructorNameAsVariable false
namespace Go.Proofs.YtjcpkckbjhknfaaGreatDoor
open Go.RowKit Ab

theorem lc {μ : Mu} {x : Value} {a : List AV} {l : List Value} (h : x.oneCell' = true) (t : LR μ a l) : LR μ (.any :: a) (x :: l) := .cons _ _ _ _ (.any _ h) t
theorem ld {μ : Mu} {u : AV} {x : Value} {a : List AV} {l : List Value} (h : VR μ u x) (t : LR μ a l) : LR μ (u :: a) (x :: l) := .cons _ _ _ _ h t
/-- An error of an operation, as it lies in memory. -/
def ErrIs (w : World) (p : Addr) (op nm : ByteArray) : Prop :=
  p.spot = none ∧ w.cell? ⟨p.block, p.off, none⟩ = some (.string op) ∧ w.cell? ⟨p.block, p.off + 1, none⟩ = some (.string nm) ∧ w.cell? ⟨p.block, p.off + 2, none⟩ = some (.iface 60 (.int .i64 2))
theorem ErrIs.below {w w' : World} {p : Addr} {op nm : ByteArray} (h : ErrIs w p op nm) (hb : Below w.heap.size w w') : ErrIs w' p op nm :=
  ⟨h.1, below_cell hb h.2.1, below_cell hb h.2.2.1, below_cell hb h.2.2.2⟩
def lookupS : ByteArray := { data := #[108, 111, 111, 107, 117, 112] }
noncomputable def cellOf (k : Nat) (x : X) : AV := match x with | .done (.tuple [_, .iface _ (.ptr b off)]) H' => cellAt (H'.get b) (Nat.add off k) | _ => .junk
theorem str_same {s t : ByteArray} {n N : Nat} (h1 : StrR n N s) (h2 : StrR n N t) : s = t := by
  have hl : s.data.toList = t.data.toList := pack_inj (by have := h1.1; have := h2.1; simp only [Array.length_toList]; omega) (by rw [h1.2, h2.2])
  cases s; cases t
  simpa using Array.ext' hl
theorem lookup_e (n N : Nat) : okE2 (.agg [.int .u32 0, .int .u64 0, .int .u32 0, .int .u64 0, .int .u32 0, .int .i64 0, .int .u32 0, .int .u32 0, .int .u32 0, .int .u32 0, .int .u64 0, .int .u64 0, .int .u64 0, .int .u64 0, .int .u64 0, .int .u64 0, .str 0 0]) (callRun Tryz.prog noK 0 300 10 [.nilp, .agg [.any, .any, .any], .str n N] ⟨0, .nil⟩) = true := by kernel_rfl
theorem lookup_0 (n N : Nat) : cellOf 0 (callRun Tryz.prog noK 0 300 10 [.nilp, .agg [.any, .any, .any], .str n N] ⟨0, .nil⟩) = .str 6 (pack lookupS.data.toList) := by kernel_rfl
theorem lookup_1 (n N : Nat) : cellOf 1 (callRun Tryz.prog noK 0 300 10 [.nilp, .agg [.any, .any, .any], .str n N] ⟨0, .nil⟩) = .str n N := by kernel_rfl
theorem lookup_nil (a b c : Value) (oa : a.oneCell' = true) (ob : b.oneCell' = true) (oc : c.oneCell' = true) (nm : ByteArray) (w : World) : Calls Tryz.prog 10 #[.pointer none, .agg #[a, b, c], .string nm] w fun e w' =>
    ∃ p, e = .returned (.tuple #[.agg #[.int .u32 0, .int .u64 0, .int .u32 0, .int .u64 0, .int .u32 0, .int .i64 0, .int .u32 0, .int .u32 0, .int .u32 0, .int .u32 0, .int .u64 0, .int .u64 0, .int .u64 0, .int .u64 0, .int .u64 0, .int .u64 0, .string ⟨#[]⟩], .iface 121 (.pointer (some p))]) ∧ ErrIs w' p lookupS nm ∧ Below w.heap.size w w' := by
  have h := lookup_e nm.data.size (pack nm.data.toList)
  have h0 := lookup_0 nm.data.size (pack nm.data.toList)
  have h1 := lookup_1 nm.data.size (pack nm.data.toList)
  have ha : LR (fun _ => none) [.nilp, .agg [.any, .any, .any], .str nm.data.size (pack nm.data.toList)] (#[.pointer none, .agg #[a, b, c], .string nm] : Array Value).toList := ld .nilp (ld (.agg _ _ (lc oa (lc ob (lc oc .nil)))) (ld (.str _ _ nm rfl rfl) .nil))
  generalize hr : callRun Tryz.prog noK 0 300 10 [.nilp, .agg [.any, .any, .any], .str nm.data.size (pack nm.data.toList)] ⟨0, .nil⟩ = x at h h0 h1
  cases x with
  | done v H =>
    unfold okE2 at h
    split at h
    · rename_i b e H' heq
      cases heq
      rw [Bool.and_eq_true] at h
      have hb := beq_sound _ _ h.1
      subst hb
      refine (callRun_sound (w0 := w) (w := w) noK_ok hr ha (HR.start w)).mono ?_
      rintro ev w' ⟨u, μ', rfl, hv, hh⟩
      obtain ⟨y, rfl, hl⟩ := hv.tuple_inv
      obtain ⟨l⟩ := y
      cases hl with | cons _ v1 _ m g1 t1 =>
      cases t1 with | cons _ v2 _ m2 g2 t2 =>
      cases t2
      rw [g1.toV rfl]
      have he := h.2
      unfold isE at he
      split at he
      · rename_i t bb off
        obtain ⟨u2, rfl, hu2⟩ := g2.iface_inv
        obtain ⟨L, hL, rfl⟩ := hu2.ptr_inv
        rw [Bool.and_eq_true, Nat.beq_eq] at he
        obtain ⟨rfl, he⟩ := he
        split at he
        · rename_i e2 n2 hc2
          rw [Bool.and_eq_true, Nat.beq_eq, Nat.beq_eq] at he
          obtain ⟨rfl, rfl⟩ := he
          have h0 : cellAt (H.get bb) (Nat.add off 0) = .str 6 (pack lookupS.data.toList) := h0
          have h1 : cellAt (H.get bb) (Nat.add off 1) = .str nm.data.size (pack nm.data.toList) := h1
          obtain ⟨x0, k0, r0⟩ := cell_sound hh hL (off := Nat.add off 0) (by rw [h0]; intro h; cases h)
          obtain ⟨x1, k1, r1⟩ := cell_sound hh hL (off := Nat.add off 1) (by rw [h1]; intro h; cases h)
          obtain ⟨x2, k2, r2⟩ := cell_sound hh hL (off := Nat.add off 2) (by rw [hc2]; intro h; cases h)
          rw [h0] at r0
          rw [h1] at r1
          rw [hc2] at r2
          obtain ⟨s0, rfl, q0, q0'⟩ := r0.str_inv
          obtain ⟨s1, rfl, q1, q1'⟩ := r1.str_inv
          obtain ⟨y2, rfl, q2⟩ := r2.iface_inv
          rw [q2.int_inv] at k2
          rw [str_same (s := s0) (t := lookupS) ⟨q0, q0'⟩ ⟨rfl, rfl⟩] at k0
          rw [str_same (s := s1) (t := nm) ⟨q1, q1'⟩ ⟨rfl, rfl⟩] at k1
          exact ⟨_, rfl, ⟨rfl, k0, k1, k2⟩, hh.below⟩
        · cases he
      · cases he
    · cases h
  | _ => cases h
theorem ta_F (v : Value) (xT : TypeId) (w : World) : (Instr.typeAssert (.iface 121 v) xT 121 true).run Tryz.prog w = .ok (.tuple #[v, .bool true]) w := by kernel_rfl
theorem ta_E (v : Value) (xT : TypeId) (w : World) : (Instr.typeAssert (.iface 60 v) xT 60 true).run Tryz.prog w = .ok (.tuple #[v, .bool true]) w := by kernel_rfl
def RetB (e : Ending) : Prop := ∃ bo : Bool, e = .returned (.bool bo)
set_option maxHeartbeats 4000000 in
theorem told_calls (p : Addr) (nm : ByteArray) (w : World) (h : ErrIs w p lookupS nm) (hg : ErrT w) : Calls Tryz.prog 16 #[.iface 121 (.pointer (some p)), .string lookupS, .string nm, .int .i64 2] w fun e w' => e = .returned (.bool true) ∧ Below w.heap.size w w' := by
  obtain ⟨b, off, sp⟩ := p
  obtain ⟨rfl, h0, h1, h2⟩ := h
  have hch : Chn w 1 (.iface 121 (.pointer (some ⟨b, off, none⟩))) (some 2) := .fs _ _ 0 _ _ h2 (.hit 2)
  have Hch := Lib.hid hch
  have Hg := Lib.hid hg
  have tF := ta_F
  have tE := ta_E
  clear hch hg
  go_enter Tryz.func16, Tryz.ntmps16
  go_wp2_with fail
  refine (code_calls _ 1 (some 2) w Hch.out Hg.out).mono ?_
  rintro e w' ⟨rfl, hf⟩
  go_wp2_with fail
  go_ret
  exact ⟨rfl, hf⟩
set_option maxHeartbeats 4000000 in
theorem huge_calls (b : Nat) (c0 c1 c2 c3 c4 c5 c6 c9 c10 c12 c13 c14 c15 c16 c17 c18 c19 c20 c21 c22 c23 c24 c25 : Value) (s7 s8 : ByteArray) (pa : Option Addr) (pl pc : Nat) (w : World)
    (hb : w.heap[b]? = some (.cells #[c0, c1, c2, c3, c4, c5, c6, .string s7, .string s8, c9, c10, .slice pa pl pc, c12, c13, c14, c15, c16, c17, c18, c19, c20, c21, c22, c23, c24, c25] 32 (0, 0))) :
    Calls Tryz.prog 4 #[.slice (some ⟨b, 0, none⟩) 1 1] w fun e w' => RetB e ∧ ∃ m, w' = w.drewN m := by
  have Hb := Lib.hid hb
  clear hb
  go_enter Tryz.func4, Tryz.ntmps4
  go_wp2_with fail
  go_loopw [3, 4] (fun n i wr => ∃ m, wr = w.drewN m ∧ ∃ q, n = .int .i64 q ∧ (i = .int .i64 0 ∨ i = .int .i64 1)) (fun _ i _ => 1 - (intOf i).toNat)
  case atStart => exact ⟨0, rfl, 0, rfl, .inl rfl⟩
  case round =>
    obtain ⟨m, hwr, q, rfl, rfl | rfl⟩ := hrel
    · have hcb := blk_cell (show wr.heap[b]? = _ by rw [hwr]; exact Hb.out)
      have Hwr := Lib.hid hwr
      clear hwr
      go_wp2_with fail
      go_quiet (fail)
      go_wp2_with fail
      go_roundw
      case rel => exact ⟨_, by rw [Hwr.out, World.drewN_drewN], _, rfl, .inr rfl⟩
      case measure => simp [intOf]
    · have Hwr := Lib.hid hwr
      clear hwr
      by_cases hq : 60000 < q
      · go_wp2_with fail
        go_ret
        exact ⟨⟨_, rfl⟩, m, Hwr.out⟩
      · go_wp2_with fail
        go_ret
        exact ⟨⟨_, rfl⟩, m, Hwr.out⟩
/-- An error that wraps ErrArg. -/
abbrev BadE (w' : World) (p : Addr) : Prop := Chn w' 1 (.iface 121 (.pointer (some p))) (some 2)
abbrev zIn : Value := .agg #[.int .u64 0, .int .u32 0, .int .i64 0, .int .u32 0, .int .u32 0, .int .u32 0, .int .u32 0, .int .u64 0, .int .u64 0, .int .u64 0, .int .u64 0, .int .u64 0, .int .u64 0, .string ⟨#[]⟩]
abbrev zOb : Value := .agg #[.int .u32 0, .int .u64 0, .int .u32 0, .int .u64 0, .int .u32 0, .int .i64 0, .int .u32 0, .int .u32 0, .int .u32 0, .int .u32 0, .int .u64 0, .int .u64 0, .int .u64 0, .int .u64 0, .int .u64 0, .int .u64 0, .string ⟨#[]⟩]
section
variable (c1 c2 c3 : Value) (o1 : c1.oneCell' = true) (o2 : c2.oneCell' = true) (o3 : c3.oneCell' = true) (w : World)
include o1
theorem format_nil : Calls Tryz.prog 6 #[.nilIface, c1] w fun e w' => ∃ p, e = .returned (.tuple #[.int .i64 0, .iface 121 (.pointer (some p))]) ∧ BadE w' p ∧ Below w.heap.size w w' :=
  errs2 (s := 300) (args := [.nili, .any]) (.int .i64 0) _ (by kernel_rfl) rfl rfl (ld .nili (lc o1 .nil)) w
theorem open_nil : Calls Tryz.prog 7 #[.nilIface, c1] w fun e w' => ∃ p, e = .returned (.tuple #[.pointer none, .iface 121 (.pointer (some p))]) ∧ BadE w' p ∧ Below w.heap.size w w' :=
  errs2 (s := 300) (args := [.nili, .any]) .nilp _ (by kernel_rfl) rfl rfl (ld .nili (lc o1 .nil)) w
theorem view_nil : Calls Tryz.prog 8 #[.nilIface, c1, .int .u32 1] w fun e w' => ∃ p, e = .returned (.tuple #[.pointer none, .iface 121 (.pointer (some p))]) ∧ BadE w' p ∧ Below w.heap.size w w' :=
  errs2 (s := 300) (args := [.nili, .any, .int .u32 1]) .nilp _ (by kernel_rfl) rfl rfl (ld .nili (lc o1 (ld (.int _ _) .nil))) w
include o2 o3
theorem getAttr_nil : Calls Tryz.prog 9 #[.pointer none, .agg #[c1, c2, c3]] w fun e w' => ∃ p, e = .returned (.tuple #[zIn, .iface 121 (.pointer (some p))]) ∧ BadE w' p ∧ Below w.heap.size w w' :=
  errs2 (s := 300) (args := [.nilp, .agg [.any, .any, .any]]) (.agg [.int .u64 0, .int .u32 0, .int .i64 0, .int .u32 0, .int .u32 0, .int .u32 0, .int .u32 0, .int .u64 0, .int .u64 0, .int .u64 0, .int .u64 0, .int .u64 0, .int .u64 0, .str 0 0]) _ (by kernel_rfl) rfl rfl (ld .nilp (ld (.agg _ _ (lc o1 (lc o2 (lc o3 .nil)))) .nil)) w
theorem write_nil (c9 sl c25 : Value) (o9 : c9.oneCell' = true) (osl : sl.oneCell' = true) (o25 : c25.oneCell' = true) : Calls Tryz.prog 11 #[.pointer none, .agg #[c1, c2, c3], c9, sl, c25] w fun e w' => ∃ p, e = .returned (.tuple #[zIn, .iface 121 (.pointer (some p))]) ∧ BadE w' p ∧ Below w.heap.size w w' :=
  errs2 (s := 300) (args := [.nilp, .agg [.any, .any, .any], .any, .any, .any]) (.agg [.int .u64 0, .int .u32 0, .int .i64 0, .int .u32 0, .int .u32 0, .int .u32 0, .int .u32 0, .int .u64 0, .int .u64 0, .int .u64 0, .int .u64 0, .int .u64 0, .int .u64 0, .str 0 0]) _ (by kernel_rfl) rfl rfl (ld .nilp (ld (.agg _ _ (lc o1 (lc o2 (lc o3 .nil)))) (lc o9 (lc osl (lc o25 .nil))))) w
theorem read_nil (c9 c10 : Value) (o9 : c9.oneCell' = true) (o10 : c10.oneCell' = true) : Calls Tryz.prog 12 #[.pointer none, .agg #[c1, c2, c3], c9, c10] w fun e w' => ∃ p, e = .returned (.tuple #[.slice none 0 0, .bool false, .iface 121 (.pointer (some p))]) ∧ BadE w' p ∧ Below w.heap.size w w' :=
  errs3 (s := 300) (args := [.nilp, .agg [.any, .any, .any], .any, .any]) .nils (.bool false) _ _ (by kernel_rfl) rfl rfl rfl rfl (ld .nilp (ld (.agg _ _ (lc o1 (lc o2 (lc o3 .nil)))) (lc o9 (lc o10 .nil)))) w
theorem create_nil (c7 c12 c13 c14 c15 c16 c17 c18 c19 c20 c21 c22 c25 : Value) (o7 : c7.oneCell' = true) (o12 : c12.oneCell' = true) (o13 : c13.oneCell' = true) (o14 : c14.oneCell' = true) (o15 : c15.oneCell' = true) (o16 : c16.oneCell' = true) (o17 : c17.oneCell' = true) (o18 : c18.oneCell' = true) (o19 : c19.oneCell' = true) (o20 : c20.oneCell' = true) (o21 : c21.oneCell' = true) (o22 : c22.oneCell' = true) (o25 : c25.oneCell' = true) :
    Calls Tryz.prog 13 #[.pointer none, .agg #[c1, c2, c3], c7, .agg #[c12, c13, c14, c15, c16, c17, c18, c19, c20, c21, c22], c25] w fun e w' => ∃ p, e = .returned (.tuple #[zOb, .iface 121 (.pointer (some p))]) ∧ BadE w' p ∧ Below w.heap.size w w' :=
  errs2 (s := 300) (args := [.nilp, .agg [.any, .any, .any], .any, .agg [.any, .any, .any, .any, .any, .any, .any, .any, .any, .any, .any], .any]) (.agg [.int .u32 0, .int .u64 0, .int .u32 0, .int .u64 0, .int .u32 0, .int .i64 0, .int .u32 0, .int .u32 0, .int .u32 0, .int .u32 0, .int .u64 0, .int .u64 0, .int .u64 0, .int .u64 0, .int .u64 0, .int .u64 0, .str 0 0]) _ (by kernel_rfl) rfl rfl (ld .nilp (ld (.agg _ _ (lc o1 (lc o2 (lc o3 .nil)))) (lc o7 (ld (.agg _ _ (lc o12 (lc o13 (lc o14 (lc o15 (lc o16 (lc o17 (lc o18 (lc o19 (lc o20 (lc o21 (lc o22 .nil)))))))))))) (lc o25 .nil))))) w
theorem remove_nil (c7 : Value) (o7 : c7.oneCell' = true) : Calls Tryz.prog 17 #[.pointer none, .agg #[c1, c2, c3], c7, .int .u64 1] w fun e w' => ∃ p, e = .returned (.iface 121 (.pointer (some p))) ∧ BadE w' p ∧ Below w.heap.size w w' :=
  errs1 (s := 300) (args := [.nilp, .agg [.any, .any, .any], .any, .int .u64 1]) (by kernel_rfl) (ld .nilp (ld (.agg _ _ (lc o1 (lc o2 (lc o3 .nil)))) (lc o7 (ld (.int _ _) .nil)))) w
theorem rename_nil (c4 c5 c6 c7 c8 : Value) (o4 : c4.oneCell' = true) (o5 : c5.oneCell' = true) (o6 : c6.oneCell' = true) (o7 : c7.oneCell' = true) (o8 : c8.oneCell' = true) : Calls Tryz.prog 18 #[.pointer none, .agg #[c1, c2, c3], c7, .agg #[c4, c5, c6], c8, .int .u64 1] w fun e w' => ∃ p, e = .returned (.iface 121 (.pointer (some p))) ∧ BadE w' p ∧ Below w.heap.size w w' :=
  errs1 (s := 300) (args := [.nilp, .agg [.any, .any, .any], .any, .agg [.any, .any, .any], .any, .int .u64 1]) (by kernel_rfl) (ld .nilp (ld (.agg _ _ (lc o1 (lc o2 (lc o3 .nil)))) (lc o7 (ld (.agg _ _ (lc o4 (lc o5 (lc o6 .nil)))) (lc o8 (ld (.int _ _) .nil)))))) w
omit o1 o2 o3
theorem stat_nil : Calls Tryz.prog 14 #[.pointer none] w fun e w' => ∃ p, e = .returned (.tuple #[.agg #[.int .u64 0, .int .u64 0], .iface 121 (.pointer (some p))]) ∧ BadE w' p ∧ Below w.heap.size w w' :=
  errs2 (s := 300) (args := [.nilp]) (.agg [.int .u64 0, .int .u64 0]) _ (by kernel_rfl) rfl rfl (ld .nilp .nil) w
theorem plain_nil {f : Nat} {u : AV} {x : Value} (h : isDoneV (callRun Tryz.prog noK 0 300 f [.nilp] ⟨0, .nil⟩) u = true) (hp : plainV u = true) (hx : toV u = x) : Calls Tryz.prog f #[.pointer none] w fun e w' => e = .returned x ∧ Below w.heap.size w w' :=
  (closed_calls h hp (ld .nilp .nil) hx w).mono fun _ _ h => ⟨h.1, h.2.below (Nat.le_refl _) (fun _ h => h.elim)⟩
theorem root_nil : Calls Tryz.prog 19 #[.pointer none] w fun e w' => e = .returned (.int .i64 0) ∧ Below w.heap.size w w' := plain_nil w (u := .int .i64 0) (by kernel_rfl) rfl rfl
theorem settle_nil : Calls Tryz.prog 20 #[.pointer none] w fun e w' => e = .returned (.slice none 0 0) ∧ Below w.heap.size w w' := plain_nil w (u := .nils) (by kernel_rfl) rfl rfl
theorem blocks_nil : Calls Tryz.prog 21 #[.pointer none] w fun e w' => e = .returned (.slice none 0 0) ∧ Below w.heap.size w w' := plain_nil w (u := .nils) (by kernel_rfl) rfl rfl
theorem top_nil : Calls Tryz.prog 22 #[.pointer none] w fun e w' => e = .returned (.agg #[.int .u32 0, .int .u64 0, .int .u32 0]) ∧ Below w.heap.size w w' := plain_nil w (u := .agg [.int .u32 0, .int .u64 0, .int .u32 0]) (by kernel_rfl) rfl rfl
end
end Go.Proofs.YtjcpkckbjhknfaaGreatDoor
