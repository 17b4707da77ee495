/-
  fsops.Code at a chain of errors; calls that end in an error, run by the abstract machine.
-/
import Derived.Test.YtjcpkckbjhknfaaGreatDoorErrAll
set_option maxRecDepth 100000
set_option linter.unusedVariables false
set_option linter.unusedSimpArgs false
set_option linter.constructorNameAsVariable false
namespace Go.Proofs.YtjcpkckbjhknfaaGreatDoor
open Go.RowKit Ab

theorem cell_after {W : World} {q : Nat} {t : TypeId} {u : Value} (n : Int) (h : W.heap[q]? = some (.cells #[u] t (0, 0))) : (W.setCell ⟨q, 0, none⟩ (.int .i64 n)).cell? ⟨q, 0, none⟩ = some (.int .i64 n) := by
  simp [World.cell?, World.setCell, Array.getElem?_modify, h]
set_option maxHeartbeats 4000000 in
/-- What fsops.Code tells of a chain. -/
theorem code_calls (e : Value) (k : Nat) (r : Option Int) (w : World) (hc : Chn w k e r) (hg : ErrT w) : Calls Tryz.prog 15 #[e] w fun ev w' => ev = .returned (.int .i64 (r.getD 2)) ∧ Below w.heap.size w w' := by
  obtain ⟨tt, vv, rfl⟩ := hc.iface
  have hB : Below w.heap.size w (w.alloc (.cells #[.int .i64 0] 60)) := (Below.refl _ _).alloc (Nat.le_refl _) _
  have as1 := as_calls (.iface tt vv) ⟨w.heap.size, 0, none⟩ r k (.int .i64 0) (w.alloc (.cells #[.int .i64 0] 60)) (hc.mono (fun _ _ h => cell_lt _ h)) (hg.below hB) (by rw [World.cell?_alloc_at _ _ _ _ rfl]; rfl) (by rw [World.frozen?_alloc_at _ _ _ _ rfl])
  have hb0 := blk_new w (.cells #[.int .i64 0] 60) rfl
  have hsz : w.heap.size < (w.alloc (.cells #[.int .i64 0] 60)).heap.size := by simp
  have HB := Lib.hid hB
  have Hb0 := Lib.hid hb0
  have Hsz := Lib.hid hsz
  clear hB hb0 hsz hc hg
  go_enter Tryz.func15, Tryz.ntmps15
  cases r with
  | none =>
    go_wp2_with (go_at_call 59; refine as1.mono ?_; rintro e w' ⟨rfl, hpost⟩; obtain ⟨W, hW, rfl⟩ := hpost)
    go_ret
    exact ⟨rfl, below_tr HB.out hW⟩
  | some n =>
    go_wp2_with (go_at_call 59; refine as1.mono ?_; rintro e w' ⟨rfl, hpost⟩; obtain ⟨W, hW, rfl⟩ := hpost; have hcl := cell_after n ((hW.block _ Hsz.out).trans Hb0.out))
    go_ret
    exact ⟨rfl, below_tr HB.out hW |>.setCell (Nat.le_refl _) _⟩

/-! ### calls that end in an error -/
/-- Is it an error that wraps ErrArg? -/
noncomputable def isE (H : AH) (a : AV) : Bool :=
  match a with
  | .iface t (.ptr b off) => Nat.beq t 121 && (match cellAt (H.get b) (Nat.add off 2) with | .iface e (.int .i64 (.ofNat n)) => Nat.beq e 60 && Nat.beq n 2 | _ => false)
  | _ => false
theorem isE_sound {w0 w : World} {G : Nat} {μ : Mu} {H : AH} (h : HR w0 G μ H w) {a : AV} {v : Value} (hv : VR μ a v) (he : isE H a = true) : ∃ p, v = .iface 121 (.pointer (some p)) ∧ Chn w 1 v (some 2) := by
  unfold isE at he
  split at he
  · rename_i t b off
    obtain ⟨u, rfl, hu⟩ := hv.iface_inv
    obtain ⟨L, hL, rfl⟩ := hu.ptr_inv
    rw [Bool.and_eq_true, Nat.beq_eq] at he
    obtain ⟨rfl, he⟩ := he
    split at he
    · rename_i e n hc
      rw [Bool.and_eq_true, Nat.beq_eq, Nat.beq_eq] at he
      obtain ⟨rfl, rfl⟩ := he
      obtain ⟨x, hx, hxr⟩ := cell_sound h hL (off := Nat.add off 2) (by rw [hc]; intro h; cases h)
      rw [hc] at hxr
      obtain ⟨y, rfl, hy⟩ := hxr.iface_inv
      rw [hy.int_inv] at hx
      exact ⟨_, rfl, .fs _ _ 0 _ _ hx (.hit 2)⟩
    · cases he
  · cases he
noncomputable def okE1 (x : X) : Bool := match x with | .done e H => isE H e | _ => false
noncomputable def okE2 (a : AV) (x : X) : Bool := match x with | .done (.tuple [b, e]) H => AV.beq b a && isE H e | _ => false
noncomputable def okE3 (a b : AV) (x : X) : Bool := match x with | .done (.tuple [c, d, e]) H => AV.beq c a && (AV.beq d b && isE H e) | _ => false
theorem errs1 {s f : Nat} {args : List AV} (h : okE1 (callRun Tryz.prog noK 0 s f args ⟨0, .nil⟩) = true) {cargs : Array Value} (ha : LR (fun _ => none) args cargs.toList) (w : World) :
    Calls Tryz.prog f cargs w fun e w' => ∃ p, e = .returned (.iface 121 (.pointer (some p))) ∧ Chn w' 1 (.iface 121 (.pointer (some p))) (some 2) ∧ Below w.heap.size w w' := by
  cases hr : callRun Tryz.prog noK 0 s f args ⟨0, .nil⟩ with
  | done v H =>
    rw [hr] at h
    refine (callRun_sound (w0 := w) (w := w) noK_ok hr ha (HR.start w)).mono ?_
    rintro e w' ⟨u, μ', rfl, hv, hh⟩
    obtain ⟨p, rfl, hc⟩ := isE_sound hh hv h
    exact ⟨p, rfl, hc, hh.below⟩
  | _ => rw [hr] at h; cases h
theorem errs2 {s f : Nat} {args : List AV} (a : AV) (x : Value) (h : okE2 a (callRun Tryz.prog noK 0 s f args ⟨0, .nil⟩) = true) (hp : plainV a = true) (hx : toV a = x) {cargs : Array Value} (ha : LR (fun _ => none) args cargs.toList) (w : World) :
    Calls Tryz.prog f cargs w fun e w' => ∃ p, e = .returned (.tuple #[x, .iface 121 (.pointer (some p))]) ∧ Chn w' 1 (.iface 121 (.pointer (some p))) (some 2) ∧ Below w.heap.size w w' := by
  cases hr : callRun Tryz.prog noK 0 s f args ⟨0, .nil⟩ with
  | done v H =>
    rw [hr] at h
    unfold okE2 at h
    split at h
    · rename_i b e H' heq
      cases heq
      rw [Bool.and_eq_true] at h
      have hb := beq_sound _ _ h.1
      subst hb
      refine (callRun_sound (w0 := w) (w := w) noK_ok hr ha (HR.start w)).mono ?_
      rintro e w' ⟨u, μ', rfl, hv, hh⟩
      obtain ⟨y, rfl, hl⟩ := hv.tuple_inv
      obtain ⟨l⟩ := y
      cases hl with | cons _ v1 _ m h1 t1 =>
      cases t1 with | cons _ v2 _ m2 h2 t2 =>
      cases t2
      obtain ⟨p, rfl, hc⟩ := isE_sound hh h2 h.2
      rw [h1.toV hp, hx]
      exact ⟨p, rfl, hc, hh.below⟩
    · cases h
  | _ => rw [hr] at h; cases h
theorem errs3 {s f : Nat} {args : List AV} (a b : AV) (x y : Value) (h : okE3 a b (callRun Tryz.prog noK 0 s f args ⟨0, .nil⟩) = true) (hp : plainV a = true) (hx : toV a = x) (hq : plainV b = true) (hy : toV b = y) {cargs : Array Value} (ha : LR (fun _ => none) args cargs.toList) (w : World) :
    Calls Tryz.prog f cargs w fun e w' => ∃ p, e = .returned (.tuple #[x, y, .iface 121 (.pointer (some p))]) ∧ Chn w' 1 (.iface 121 (.pointer (some p))) (some 2) ∧ Below w.heap.size w w' := by
  cases hr : callRun Tryz.prog noK 0 s f args ⟨0, .nil⟩ with
  | done v H =>
    rw [hr] at h
    unfold okE3 at h
    split at h
    · rename_i c d e H' heq
      cases heq
      rw [Bool.and_eq_true, Bool.and_eq_true] at h
      have hb := beq_sound _ _ h.1
      subst hb
      have hd := beq_sound _ _ h.2.1
      subst hd
      refine (callRun_sound (w0 := w) (w := w) noK_ok hr ha (HR.start w)).mono ?_
      rintro e w' ⟨u, μ', rfl, hv, hh⟩
      obtain ⟨z, rfl, hl⟩ := hv.tuple_inv
      obtain ⟨l⟩ := z
      cases hl with | cons _ v1 _ m h1 t1 =>
      cases t1 with | cons _ v2 _ m2 h2 t2 =>
      cases t2 with | cons _ v3 _ m3 h3 t3 =>
      cases t3
      obtain ⟨p, rfl, hc⟩ := isE_sound hh h3 h.2.2
      rw [h1.toV hp, hx, h2.toV hq, hy]
      exact ⟨p, rfl, hc, hh.below⟩
    · cases h
  | _ => rw [hr] at h; cases h
end Go.Proofs.YtjcpkckbjhknfaaGreatDoor
