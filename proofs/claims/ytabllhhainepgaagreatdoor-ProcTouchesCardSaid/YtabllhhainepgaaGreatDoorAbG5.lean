/-
  An abstract machine that Lean's kernel can run: calls, maps, operations. This text speaks of no program.
-/
import Derived.Test.YtabllhhainepgaaGreatDoorAbG4
import Derived.Lib.Bytealg
import Derived.Lib.BytesEntry
import Derived.Laws.Externs
import Derived.KernelRfl
/-
  The abstract machine: the rest of the plain operations, calls.
-/
set_option linter.unusedVariables false
set_option linter.unusedSimpArgs false
namespace Go.Proofs.YtabllhhainepgaaGreatDoor.Ab
open Go.RowKit

section
variable {P : Program} {w0 w : World} {G : Nat} {μ : Mu} {H : AH} {r : Result Next}
theorem XR.transport {x : X} {s : Sem Value} (hX : XR P w0 G μ H.size x ((do pure (Next.value (← s)) : Sem Next).run P w)) (hr : ∀ v w', s.run P w = .ok v w' → r = .ok (.value v) w') : XR P w0 G μ H.size x r := by
  have key : ∀ n w', ((do pure (Next.value (← s)) : Sem Next).run P w) = .ok n w' → ∃ v, n = .value v ∧ r = .ok (.value v) w' := fun n w' h => by
    rw [Sem.run_bind] at h
    cases hs : s.run P w with
    | ok v w1 =>
      rw [hs] at h
      simp only [Result.andThen_ok, Sem.run_pure, Result.ok.injEq] at h
      obtain ⟨rfl, rfl⟩ := h
      exact ⟨v, rfl, hr v _ hs⟩
    | _ => rw [hs] at h; cases h
  induction x with
  | fork y z ihy ihz => exact Or.imp ihy ihz hX
  | val v H' =>
    obtain ⟨μ', w', u, hc, h1, h2, h3⟩ := hX
    rcases hc with hc | ⟨hc, _⟩
    · obtain ⟨v', e, h4⟩ := key _ _ hc
      cases e
      exact ⟨μ', w', u, .inl h4, h1, h2, h3⟩
    · obtain ⟨v', e, _⟩ := key _ _ hc
      cases e
  | enter f args H' =>
    obtain ⟨cargs, w', hc, _⟩ := hX
    obtain ⟨v', e, _⟩ := key _ _ hc
    cases e
  | round l args H' =>
    obtain ⟨L, cargs, w', h1, h2, h3, h4⟩ := hX
    refine ⟨L, cargs, w', h1, h2, h3, fun lo hlo hsz => ?_⟩
    obtain ⟨v', e, _⟩ := key _ _ (h4 lo hlo hsz)
    cases e
  | _ => trivial
theorem un_sound (h : HR w0 G μ H w) (op : UnOp) {x : AV} {xv : Value} (hx : VR μ x xv)
    (hr : ∀ v w', (Op.unary op xv).run P w = .ok v w' → r = .ok (.value v) w') : XR P w0 G μ H.size (unA op x H) r := by
  unfold unA
  split
  · rename_i k n
    have hx := hx.int_inv
    subst hx
    exact XR.rInt h (m := k.wrap (0 - n)) (by rw [wrapA_eq, Int.zero_sub]; rfl) (hr _ _ (by simp [Op.unary, Op.intArith]))
  · rename_i k n
    have hx := hx.int_inv
    subst hx
    refine XR.cond (fun _ => trivial) (fun hk => XR.cond (fun hlt => ?_) (fun _ => trivial))
    rw [Nat.blt_eq, bitsN_eq] at hlt
    have hlt : n < 2 ^ k.bits := hlt
    have e : (k.wrap ((BitVec.ofInt k.bits k.max ^^^ BitVec.ofInt k.bits (n : Int)).toNat : Int)) = (Int.ofNat (2 ^ k.bits - 1 - n)) := by
      have hm : BitVec.ofInt k.bits k.max = BitVec.allOnes k.bits := by cases k <;> first | (simp [IntKind.signed] at hk; done) | decide
      rw [hm, BitVec.allOnes_xor, BitVec.toNat_not, bv_nat hlt]
      unfold IntKind.wrap
      simp only [hk, Bool.false_and, Bool.false_eq_true, if_false]
      rw [Int.ofNat_eq_natCast]
      have hp : (0 : Nat) < 2 ^ k.bits := Nat.pow_pos (by omega)
      have e2 : ((2 : Int) ^ k.bits) = ((2 ^ k.bits : Nat) : Int) := by simp
      rw [e2, ← Int.natCast_emod, Nat.mod_eq_of_lt (by omega)]
    exact XR.rInt h (m := k.wrap ((BitVec.ofInt k.bits k.max ^^^ BitVec.ofInt k.bits (n : Int)).toNat : Int)) (by rw [e, bitsN_eq]; rfl) (hr _ _ (by simp [Op.unary, Op.intBits, hk]))
  · rename_i b
    have hx := hx.bool_inv
    subst hx
    exact XR.rBool h rfl (hr _ _ rfl)
  · trivial
theorem eqA_junk_l (d : Nat) (t : TypeId) (y : AV) : eqA P H d t .junk y = none := by
  cases d with
  | zero => rfl
  | succ d => unfold eqA; cases P.underlying t with
    | none => rfl
    | some u => cases u <;> first | rfl | (cases y <;> rfl)
theorem eqA_junk_r (d : Nat) (t : TypeId) (x : AV) : eqA P H d t x .junk = none := by
  cases d with
  | zero => rfl
  | succ d => unfold eqA; cases P.underlying t with
    | none => rfl
    | some u => cases u <;> first | rfl | (cases x <;> rfl)
/-- A value of which nothing is known. -/
def Unk : AV → Prop
  | .junk | .any => True
  | _ => False
theorem eqA_unk_l (d : Nat) (t : TypeId) {x : AV} (hx : Unk x) (y : AV) : eqA P H d t x y = none := by
  cases x <;> first | (exact hx.elim) | skip
  · exact eqA_junk_l d t y
  · cases d with
    | zero => rfl
    | succ d => unfold eqA; cases P.underlying t with
      | none => rfl
      | some u => cases u <;> first | rfl | (cases y <;> rfl)
theorem eqA_unk_r (d : Nat) (t : TypeId) (x : AV) {y : AV} (hy : Unk y) : eqA P H d t x y = none := by
  cases y <;> first | (exact hy.elim) | skip
  · exact eqA_junk_r d t x
  · cases d with
    | zero => rfl
    | succ d => unfold eqA; cases P.underlying t with
      | none => rfl
      | some u => cases u <;> first | rfl | (cases x <;> rfl)
def Alike : Value → Value → Prop
  | .int .., .int .. | .float .., .float .. | .complex .., .complex .. | .string _, .string _ | .nilIface, .nilIface | .agg _, .agg _ => True
  | _, _ => False
theorem binOp_eql {t : TypeId} {a b : Value} (h : ¬ Alike a b) : binOp .eql t a b = (do pure (.bool (← Op.equal t a b))) := by
  cases a <;> first | rfl | (cases b <;> first | rfl | exact absurd trivial h)
theorem binOp_neq {t : TypeId} {a b : Value} (h : ¬ Alike a b) : binOp .neq t a b = (do pure (.bool (!(← Op.equal t a b)))) := by
  cases a <;> first | rfl | (cases b <;> first | rfl | exact absurd trivial h)
theorem eqGuard_apart {op : BinOp} {t : TypeId} {x y : Operand} {a b : Value} (h : ¬ Alike a b) : (eqGuard op t x y a b).run P w = .ok () w := by
  unfold eqGuard
  cases op <;> first | rfl | (cases a <;> first | rfl | (cases b <;> first | rfl | exact absurd trivial h))
theorem alike_not {a b : AV} {av bv : Value} (ha : VR μ a av) (hb : VR μ b bv) (ja : ¬ Unk a) (jb : ¬ Unk b) (h1 : ∀ k n k' n', a = .int k n → b = .int k' n' → False) (h2 : ∀ n N n' N', a = .str n N → b = .str n' N' → False) (h3 : a = .nili → b = .nili → False) (h4 : ∀ l l', a = .agg l → b = .agg l' → False) : ¬ Alike av bv := by
  intro hs
  cases av <;> cases bv <;> first | exact hs | (cases ha <;> first | exact absurd trivial ja | (cases hb <;> first | exact absurd trivial jb | exact h1 _ _ _ _ rfl rfl | exact h2 _ _ _ _ rfl rfl | exact h3 rfl rfl | exact h4 _ _ rfl rfl))
theorem binEq_sound (h : HR w0 G μ H w) (op : BinOp) (t : TypeId) (x y : Operand) {a b : AV} {av bv : Value} (ha : VR μ a av) (hb : VR μ b bv) {n m : Nat}
    (hg : ¬ Unk a → ¬ Unk b → (eqGuard op t x y av bv).run P w = .ok () w ∧ binOp .eql t av bv = (do pure (.bool (← Op.equal t av bv))) ∧ binOp .neq t av bv = (do pure (.bool (!(← Op.equal t av bv)))))
    (hr : ∀ v w', (do eqGuard op t x y av bv; binOp op t av bv : Sem Value).run P w = .ok v w' → r = .ok (.value v) w') :
    XR P w0 G μ H.size (match (generalizing := false) op with | .eql => rOptB (eqA P H 30 t a b) n H | .neq => rOptB ((eqA P H 30 t a b).map (!·)) n H | _ => .fail m) r := by
  have hj : eqA P H 30 t a b ≠ none → ¬ Unk a ∧ ¬ Unk b := fun hq => ⟨fun e => hq (eqA_unk_l _ _ e _), fun e => hq (eqA_unk_r _ _ _ e)⟩
  split
  · cases hq : eqA P H 30 t a b with
    | none => trivial
    | some c =>
      obtain ⟨g1, g2, g3⟩ := hg (hj (by rw [hq]; intro h; cases h)).1 (hj (by rw [hq]; intro h; cases h)).2
      have := eqA_sound (P := P) h 30 Op.maxDepth t a b av bv c (by decide) ha hb hq
      refine XR.rBool h rfl (hr _ _ ?_)
      rw [Sem.run_bind, g1, Result.andThen_ok, g2, Sem.run_bind]
      show ((Op.equalIn Op.maxDepth t av bv).run P w).andThen _ = _
      rw [this]; rfl
  · cases hq : eqA P H 30 t a b with
    | none => trivial
    | some c =>
      obtain ⟨g1, g2, g3⟩ := hg (hj (by rw [hq]; intro h; cases h)).1 (hj (by rw [hq]; intro h; cases h)).2
      have := eqA_sound (P := P) h 30 Op.maxDepth t a b av bv c (by decide) ha hb hq
      refine XR.rBool h (c := !c) rfl (hr _ _ ?_)
      rw [Sem.run_bind, g1, Result.andThen_ok, g3, Sem.run_bind]
      show ((Op.equalIn Op.maxDepth t av bv).run P w).andThen _ = _
      rw [this]; rfl
  · trivial
theorem bin_sound (h : HR w0 G μ H w) (op : BinOp) (t : TypeId) (x y : Operand) {a b : AV} {av bv : Value} (ha : VR μ a av) (hb : VR μ b bv)
    (hr : ∀ v w', (do eqGuard op t x y av bv; binOp op t av bv : Sem Value).run P w = .ok v w' → r = .ok (.value v) w') : XR P w0 G μ H.size (binA P op t x y a b H) r := by
  refine XR.onInt (fun k m hka => XR.onInt (fun k' n hkb => XR.onB (fun hc => ?_) (fun _ => trivial)) trivial) ?_
  · subst hka hkb
    have ha := ha.int_inv
    have hb := hb.int_inv
    subst ha hb
    rw [Bool.or_eq_true, Nat.beq_eq] at hc
    have := intOp_sound (P := P) h op t k k' m n (hc.imp_left kindCode_inj)
    refine XR.transport this fun v w' hv => hr v w' ?_
    rw [Sem.run_bind]
    have hg : (eqGuard op t x y (.int k m) (.int k' n)).run P w = .ok () w := by unfold eqGuard; cases op <;> rfl
    rw [hg, Result.andThen_ok]; exact hv
  · unfold binSlow
    split
    · trivial
    · obtain ⟨s, rfl, h1, h2⟩ := ha.str_inv
      obtain ⟨s', rfl, h1', h2'⟩ := hb.str_inv
      refine strOp_sound h op ⟨h1, h2⟩ ⟨h1', h2'⟩ fun v hv => hr v _ ?_
      have hg : (eqGuard op t x y (.string s) (.string s')).run P w = .ok () w := by unfold eqGuard; cases op <;> rfl
      rw [Sem.run_bind, hg, Result.andThen_ok]
      have e : binOp op t (.string s) (.string s') = Op.stringOp op s s' := by cases op <;> rfl
      rw [e]; exact hv
    · cases ha
      cases hb
      refine XR.cond (fun hc => ?_) (fun _ => trivial)
      refine binEq_sound h op t x y .nili .nili (fun _ _ => ⟨?_, rfl, rfl⟩) hr
      rw [Bool.or_eq_true] at hc
      unfold eqGuard
      cases op <;> first | rfl | (cases x <;> cases y <;> first | rfl | (simp [isConstB] at hc))
    · obtain ⟨xa, rfl, hl⟩ := ha.agg_inv
      obtain ⟨ya, rfl, hl'⟩ := hb.agg_inv
      refine XR.cond (fun _ => trivial) (fun hc => ?_)
      refine binEq_sound h op t x y ha hb (fun _ _ => ⟨?_, rfl, rfl⟩) hr
      unfold eqGuard
      cases op <;> first | rfl | simp [hc]
    · rename_i h1 h2 h3 h4
      exact binEq_sound h op t x y ha hb (fun ja jb => by
        have := alike_not ha hb ja jb (fun k n k' n' e e' => h1 _ _ _ _ e e') (fun _ _ _ _ e e' => h2 _ _ _ _ e e') h3 (fun _ _ e e' => h4 _ _ e e')
        exact ⟨eqGuard_apart this, binOp_eql this, binOp_neq this⟩) hr
/-- A variable read for a call's sake. -/
theorem loadA_sound (h : HR w0 G μ H w) {t : TypeId} {b off : Nat} {L : Loc} (hL : μ b = some L) {v : AV} (hv : loadA P t b off H = some v) : ∃ u, (loadVar t ⟨L.blk, L.base + off, none⟩).run P w = .ok u w ∧ VR μ v u := by
  unfold loadA at hv
  split at hv
  · rename_i ha
    split at hv
    · cases hv
    · rename_i x hj
      simp only [Option.some.injEq] at hv
      subst hv
      suffices hs : ∃ u, w.cell? ⟨L.blk, L.base + off, none⟩ = some u ∧ VR μ (cellAt (H.get b) off) u by
        obtain ⟨u, h1, h2⟩ := hs
        exact ⟨u, run_loadVar_cell ha h1, h2⟩
      cases hg : H.get b with
      | bytes n N e st =>
        rw [hg] at hj
        simp only [cellAt] at hj ⊢
        by_cases hlt : Nat.blt off n = true
        · rw [hlt]
          rw [Nat.blt_eq] at hlt
          obtain ⟨arr, fz, ho, _, _, hc, _⟩ := h.bytes hL hg
          exact ⟨_, by rw [cell_arr ho]; exact hc off hlt, .int _ _⟩
        · rw [Bool.not_eq_true] at hlt
          rw [hlt] at hj
          exact absurd rfl hj
      | rows n s c z e =>
        rw [hg] at hj
        simp only [cellAt] at hj ⊢
        by_cases hlt : Nat.blt off (Nat.mul n s) = true
        · rw [hlt] at hj ⊢
          simp only [cond_true] at hj ⊢
          rw [Nat.blt_eq] at hlt
          obtain ⟨r1, r2, r3⟩ := row_lt (show off < n * s from hlt)
          obtain ⟨arr, ho, hsz, hcell⟩ := h.rows hL hg
          obtain ⟨c1, c2⟩ := hcell _ r1
          have hdm := div_mod off s
          cases hq : (getR c (path (Nat.div off s)) z)[Nat.mod off s]? with
          | none => unfold obN at hj; rw [hq] at hj; exact absurd rfl hj
          | some a =>
            obtain ⟨u, hu, hur⟩ := c2 _ a hq
            refine ⟨u, ?_, by unfold obN; rw [hq]; exact hur⟩
            rw [cell_arr ho, ← hu]
            congr 1
            show L.base + off = L.base + off / s * s + off % s
            omega
        · rw [Bool.not_eq_true] at hlt
          rw [hlt] at hj
          exact absurd rfl hj
      | _ => rw [hg] at hj; exact absurd rfl hj
  · rename_i ha
    split at hv
    · rename_i hs
      simp only [Option.some.injEq] at hv
      subst hv
      exact ⟨_, run_loadVar_agg ha hs (vs := []) rfl (fun j v hv => by simp at hv), .agg _ _ .nil⟩
    · rename_i k hs hk
      cases hc : cellsAt (H.get b) off k with
      | none => rw [hc] at hv; cases hv
      | some l =>
        rw [hc] at hv
        simp only [Option.map_some, Option.some.injEq] at hv
        subst hv
        obtain ⟨vs, h1, h2, h3⟩ := cellsAt_sound h hL hc
        exact ⟨_, run_loadVar_agg ha hk h1 h3, .agg _ _ (by simpa using h2)⟩
    · cases hv
  · cases hv
theorem makeIface_sound (h : HR w0 G μ H w) (t : TypeId) {x : AV} {xv : Value} (hx : VR μ x xv)
    (hr : ∀ v w', (Instr.makeInterface t xv).run P w = .ok v w' → r = .ok (.value v) w') : XR P w0 G μ H.size (ifaceX P t x H) r := by
  unfold ifaceX
  split
  · trivial
  · trivial
  · rename_i u hu hni hj
    refine XR.value h (.iface t _ _ hx) (hr _ _ ?_)
    unfold Instr.makeInterface
    rw [Sem.run_bind, run_underlying (by assumption), Result.andThen_ok]
    cases u <;> first | rfl | (exfalso; exact hni _ rfl) | (exfalso; exact hu _ rfl) | (exfalso; exact hj _ rfl)
  · trivial
theorem makeFunc_sound (h : HR w0 G μ H w) (fn : Fn) {a b : List AV} {av bv : Array Value} (ha : LR μ a av.toList) (hb : LR μ b bv.toList)
    (hr : ∀ v w', (Instr.makeFunc fn av bv).run P w = .ok v w' → r = .ok (.value v) w') : XR P w0 G μ H.size (makeFuncX fn a b H) r := by
  unfold makeFuncX
  split
  · exact XR.value h (.func _ _ _ av bv ha hb) (hr _ _ rfl)
  · obtain ⟨u, hu, hur⟩ := ha.one
    have e : av = #[u] := by apply Array.ext'; rw [hu]
    subst e
    exact XR.value h (.meth _ _ u bv hur) (hr _ _ rfl)
  · trivial
theorem makeMap_sound (h : HR w0 G μ H w) (t : TypeId) {o : Option AV} {ov : Option Value} (ho : OVR μ o ov)
    (hr : ∀ v w', (Instr.makeMap t ov).run P w = .ok v w' → r = .ok (.value v) w') : XR P w0 G μ H.size (makeMapX P t o H) r := by
  have new : (∀ w', w' = { w with heap := w.heap.push (.map #[] 0) } → (Instr.makeMap t ov).run P w = .ok (.map (some w.heap.size)) w') → XR P w0 G μ H.size (H.pushK (.map [] 0) fun H' => .val (.map H.size) H') r := fun hrun => by
    rw [pushK_eq]
    have hp := h.push (L := ⟨w.heap.size, 0, 0⟩) (o := .map [] 0) (grew w (.map #[] 0)) rfl ⟨#[], rfl, rfl, fun i e c he _ => by simp at he⟩
    exact XR.new hp (.map _ _ (Mu.up_same _ _ _)) (hr _ _ (hrun _ rfl))
  unfold makeMapX
  split
  · have := OVR.none' ho rfl
    subst this
    exact new fun w' hw => by subst hw; rfl
  · rename_i v
    obtain ⟨u, rfl, hu⟩ := OVR.some' ho _ rfl
    split
    · rename_i ht k n
      have hu' := hu.int_inv
      subst hu'
      refine new fun w' hw => ?_
      subst hw
      unfold Instr.makeMap
      simp only [Sem.run_bind, run_underlying (by assumption), Result.andThen_ok, asInt, asIntOf, Sem.run_pure, run_newObj]
    · trivial
theorem extract_sound (h : HR w0 G μ H w) (i : Nat) {x : AV} {xv : Value} (hx : VR μ x xv)
    (hr : ∀ v w', (Instr.extract xv i).run P w = .ok v w' → r = .ok (.value v) w') : XR P w0 G μ H.size (extractX x i H) r := by
  unfold extractX
  refine XR.rOpt h fun v hv => ?_
  unfold extractA at hv
  split at hv
  · obtain ⟨y, rfl, hl⟩ := hx.tuple_inv
    obtain ⟨u, hu, hur⟩ := hl.get i v hv
    rw [Array.getElem?_toList] at hu
    exact ⟨u, hur, hr _ _ (by simp [Instr.extract, hu])⟩
  · cases hv

/-! ### calls -/
theorem find_ib {fn : Func} (hn : fn.name = "internal/bytealg.IndexByteString") : Extern.find fn = some Extern.BytealgIndexByte.indexByte := by
  have e1 : Extern.allGenericRows.lookup "internal/bytealg.IndexByteString" = none := by kernel_rfl
  have e2 : Extern.allTypedRows.lookup "internal/bytealg.IndexByteString" = none := by kernel_rfl
  have e3 : Extern.allRows.lookup "internal/bytealg.IndexByteString" = some Extern.BytealgIndexByte.indexByte := by kernel_rfl
  unfold Extern.find
  simp only [hn, e1, e2, e3, Option.map_none, HOrElse.hOrElse, OrElse.orElse, Option.orElse]
theorem next_ib {fn : Func} (hn : fn.name = "internal/bytealg.IndexByteString") (ho : fn.origin = "") : Extern.findNext fn = none := by
  have e1 : Extern.allNextRows.lookup "internal/bytealg.IndexByteString" = none := by kernel_rfl
  have e2 : Extern.allNextRows.lookup "" = none := by kernel_rfl
  unfold Extern.findNext
  simp only [hn, ho, e1, e2, Option.map_none, HOrElse.hOrElse, OrElse.orElse, Option.orElse]
theorem firstIdx_sound {s : ByteArray} {n N c : Nat} (h : StrR n N s) (hc : c < 256) : firstIdx s (Int.toNat (.ofNat c)).toUInt8 = indexB n N c := by
  have hs : s.size = n := h.1
  have key : ∀ l : List Nat, (∀ i ∈ l, i < n) → (l.find? fun i => s[i]! == (Int.toNat (.ofNat c)).toUInt8) = l.find? fun i => Nat.beq (byteAt N i) c := by
    intro l
    induction l with
    | nil => intro _; rfl
    | cons i l ih =>
      intro hl
      obtain ⟨b, hb, hb2⟩ := h.byte i (hl i (by simp))
      have e1 : s[i]! = b := by
        rw [getElem!_pos s i (by rw [hs]; exact hl i (by simp))]
        exact (Array.getElem?_eq_some_iff.1 hb).2
      have e2 : (s[i]! == (Int.toNat (.ofNat c)).toUInt8) = Nat.beq (byteAt N i) c := by
        rw [e1, ← hb2, Bool.eq_iff_iff, beq_iff_eq, Nat.beq_eq]
        show b = c.toUInt8 ↔ b.toNat = c
        constructor
        · intro e
          rw [e]; simp; omega
        · intro e
          rw [← e]; simp
      rw [List.find?_cons, List.find?_cons, e2, ih (fun j hj => hl j (by simp [hj]))]
  unfold firstIdx indexB
  rw [hs, key _ (fun i hi => by simpa using hi)]
  rfl
theorem find_cmp {fn : Func} (hn : fn.name = "internal/bytealg.Compare") : Extern.find fn = some Extern.BytealgCompare.compare := by
  have e1 : Extern.allGenericRows.lookup "internal/bytealg.Compare" = none := by kernel_rfl
  have e2 : Extern.allTypedRows.lookup "internal/bytealg.Compare" = none := by kernel_rfl
  have e3 : Extern.allRows.lookup "internal/bytealg.Compare" = some Extern.BytealgCompare.compare := by kernel_rfl
  unfold Extern.find
  simp only [hn, e1, e2, e3, Option.map_none, HOrElse.hOrElse, OrElse.orElse, Option.orElse]
theorem next_cmp {fn : Func} (hn : fn.name = "internal/bytealg.Compare") (ho : fn.origin = "") : Extern.findNext fn = none := by
  have e1 : Extern.allNextRows.lookup "internal/bytealg.Compare" = none := by kernel_rfl
  have e2 : Extern.allNextRows.lookup "" = none := by kernel_rfl
  unfold Extern.findNext
  simp only [hn, ho, e1, e2, Option.map_none, HOrElse.hOrElse, OrElse.orElse, Option.orElse]
theorem find_cl {fn : Func} (hn : fn.name = "maps.clone") : Extern.find fn = some Extern.MapsClone.clone := by
  have e1 : Extern.allGenericRows.lookup "maps.clone" = none := by kernel_rfl
  have e2 : Extern.allTypedRows.lookup "maps.clone" = none := by kernel_rfl
  have e3 : Extern.allRows.lookup "maps.clone" = some Extern.MapsClone.clone := by kernel_rfl
  unfold Extern.find
  simp only [hn, e1, e2, e3, Option.map_none, HOrElse.hOrElse, OrElse.orElse, Option.orElse]
theorem next_cl {fn : Func} (hn : fn.name = "maps.clone") (ho : fn.origin = "") : Extern.findNext fn = none := by
  have e1 : Extern.allNextRows.lookup "maps.clone" = none := by kernel_rfl
  have e2 : Extern.allNextRows.lookup "" = none := by kernel_rfl
  unfold Extern.findNext
  simp only [hn, ho, e1, e2, Option.map_none, HOrElse.hOrElse, OrElse.orElse, Option.orElse]
theorem isExt_sound {f : Nat} {name : String} (h : isExt P f name = true) : ∃ fn, P.funcs[f]? = some fn ∧ fn.body.isNone = true ∧ fn.name = name ∧ fn.origin = "" := by
  unfold isExt at h
  cases hf : P.funcs[f]? with
  | none => rw [hf] at h; cases h
  | some fn =>
    rw [hf] at h
    simp only [Bool.and_eq_true, decide_eq_true_eq] at h
    exact ⟨fn, rfl, h.1, h.2.1, h.2.2⟩
theorem packOf_sound (h : HR w0 G μ H w) {x : AV} {xv : Value} (hx : VR μ x xv) {n N : Nat} (hp : packOf H x = some (n, N)) :
    ∃ s : ByteArray, (Extern.Bytes.bytesOf xv).run P w = .ok s w ∧ StrR n N s := by
  have h0 : StrR 0 0 ByteArray.empty := ⟨rfl, rfl⟩
  unfold packOf at hp
  split at hp
  · rename_i b off len cap g
    obtain ⟨L, hL, rfl⟩ := hx.slice_inv
    have hzero : len = 0 → (Extern.Bytes.bytesOf (.slice (some ⟨L.blk, L.base + off, none⟩) len (cap + if g then L.slack else 0))).run P w = .ok .empty w := fun e => by
      subst e; rfl
    split at hp
    · rename_i hq
      simp only [Option.some.injEq, Prod.mk.injEq] at hp
      obtain ⟨rfl, rfl⟩ := hp
      have : len = 0 := by
        rcases Nat.eq_zero_or_pos len with e | e
        · exact e
        · obtain ⟨vs, v1, v2, _⟩ := seqOf_cells h hL (by omega) hq
          have v2 : vs = [] := v2
          subst v2
          simp at v1; omega
      exact ⟨_, hzero this, h0⟩
    · rename_i n' N' hq
      simp only [Option.some.injEq, Prod.mk.injEq] at hp
      obtain ⟨rfl, rfl⟩ := hp
      have hk : len ≠ 0 := fun e => by
        subst e
        simp [seqOf] at hq
      obtain ⟨vs, v1, v2, v3⟩ := seqOf_cells h hL hk hq
      obtain ⟨_, hn, hN, hb⟩ := v2
      rw [Nat.mul_one] at v1
      have e1 : len = n' := by omega
      subst e1
      have hl := Lib.run_loadBytesX (P := P) w ((List.range len).map fun i => ((byteAt N' i : Nat) : Int)) ⟨L.blk, L.base + off, none⟩ .empty (fun j x hj => by
        have hjl : j < len := by have := (List.getElem?_eq_some_iff.1 hj).1; simpa using this
        rw [List.getElem?_map, List.getElem?_range hjl] at hj
        simp only [Option.map_some, Option.some.injEq] at hj
        rw [Addr.add_mid, v3 j _ (hb j hjl), ← hj]; rfl)
      rw [List.length_map, List.length_range] at hl
      refine ⟨_, hl, StrR.mk' ?_ hN fun i hi => ⟨UInt8.ofNat (byteAt N' i), ?_, ofNat_byte N' i⟩⟩
      · simp [Lib.bytesOf]
      · simp [Lib.bytesOf, hi]
    · cases hp
  · cases hx
    simp only [Option.some.injEq, Prod.mk.injEq] at hp
    obtain ⟨rfl, rfl⟩ := hp
    exact ⟨_, rfl, h0⟩
  · cases hx
    simp only [Option.some.injEq, Prod.mk.injEq] at hp
    obtain ⟨rfl, rfl⟩ := hp
    exact ⟨_, rfl, h0⟩
  · cases hp
theorem cmp_sound {s t : ByteArray} {n N m M : Nat} (h1 : StrR n N s) (h2 : StrR m M t) : Extern.BytealgCompare.cmp s t = cmpB n N m M := by
  have hs : s.size = n := h1.1
  have ht : t.size = m := h2.1
  have hmin : min n m = bif Nat.ble n m then n else m := by
    cases hb : Nat.ble n m with
    | true => rw [Nat.ble_eq] at hb; simp only [cond_true]; omega
    | false => rw [← Bool.not_eq_true, Nat.ble_eq] at hb; simp only [cond_false]; omega
  have hget : ∀ i, i < min n m → s[i]!.toNat = byteAt N i ∧ t[i]!.toNat = byteAt M i := fun i hi => by
    obtain ⟨b, hb, hb2⟩ := h1.byte i (by omega)
    obtain ⟨c, hc, hc2⟩ := h2.byte i (by omega)
    have e1 : s[i]! = b := by
      rw [getElem!_pos s i (by rw [hs]; omega)]
      exact (Array.getElem?_eq_some_iff.1 hb).2
    have e2 : t[i]! = c := by
      rw [getElem!_pos t i (by rw [ht]; omega)]
      exact (Array.getElem?_eq_some_iff.1 hc).2
    rw [e1, e2]; exact ⟨hb2, hc2⟩
  have key : ∀ l : List Nat, (∀ i ∈ l, i < min n m) → (l.find? fun i => s[i]! != t[i]!) = l.find? fun i => !(Nat.beq (byteAt N i) (byteAt M i)) := by
    intro l
    induction l with
    | nil => intro _; rfl
    | cons i l ih =>
      intro hl
      obtain ⟨g1, g2⟩ := hget i (hl i (by simp))
      have e2 : (s[i]! != t[i]!) = !(Nat.beq (byteAt N i) (byteAt M i)) := by
        rw [← g1, ← g2, bne]
        congr 1
        rw [Bool.eq_iff_iff, beq_iff_eq, Nat.beq_eq, UInt8.toNat_inj]
      rw [List.find?_cons, List.find?_cons, e2, ih (fun j hj => hl j (by simp [hj]))]
  unfold Extern.BytealgCompare.cmp cmpB
  rw [hs, ht, key _ (fun i hi => by simpa using hi), hmin]
  cases hf : (List.range (bif Nat.ble n m then n else m)).find? (fun i => !(Nat.beq (byteAt N i) (byteAt M i))) with
  | some i =>
    simp only []
    have hi : i < min n m := by
      have := List.mem_of_find?_eq_some hf
      rw [← hmin] at this
      simpa using this
    obtain ⟨g1, g2⟩ := hget i hi
    rw [← g1, ← g2]
    cases hb : Nat.blt s[i]!.toNat t[i]!.toNat with
    | true => rw [Nat.blt_eq] at hb; rw [if_pos (UInt8.lt_iff_toNat_lt.2 hb)]; rfl
    | false => rw [← Bool.not_eq_true, Nat.blt_eq] at hb; rw [if_neg (fun e => hb (UInt8.lt_iff_toNat_lt.1 e))]; rfl
  | none =>
    simp only []
    cases hb : Nat.blt n m with
    | true => rw [Nat.blt_eq] at hb; rw [if_pos hb]; rfl
    | false =>
      rw [← Bool.not_eq_true, Nat.blt_eq] at hb
      rw [if_neg hb]
      cases hc : Nat.blt m n with
      | true => rw [Nat.blt_eq] at hc; rw [if_pos hc]; rfl
      | false => rw [← Bool.not_eq_true, Nat.blt_eq] at hc; rw [if_neg hc]; rfl
theorem externA_sound (h : HR w0 G μ H w) {f : Nat} {args : List AV} {cargs : Array Value} (ha : LR μ args cargs.toList) : XR P w0 G μ H.size (externA P f args H) ((callFunc f cargs).run P w) := by
  unfold externA
  split
  · rename_i n N c
    refine XR.cond (fun hc => ?_) (fun _ => trivial)
    rw [Bool.and_eq_true, Nat.blt_eq] at hc
    obtain ⟨hc, he⟩ := hc
    unfold isExt at he
    cases hf : P.funcs[f]? with
    | none => rw [hf] at he; cases he
    | some fn =>
    rw [hf] at he
    simp only [Bool.and_eq_true, decide_eq_true_eq] at he
    obtain ⟨hb, hn, ho⟩ := he
    obtain ⟨s, hs, rfl⟩ : ∃ s : ByteArray, StrR n N s ∧ cargs = #[.string s, .int .u8 (.ofNat c)] := by
      obtain ⟨l⟩ := cargs
      cases ha with | cons _ v _ m h1 t1 =>
      cases t1 with | cons _ v2 _ m2 h2 t2 =>
      cases t2
      obtain ⟨s, rfl, q1, q2⟩ := h1.str_inv
      rw [h2.int_inv]
      exact ⟨s, ⟨q1, q2⟩, rfl⟩
    refine XR.rInt h rfl ?_
    rw [run_callFunc_extern hf (by rw [hn]; decide) hb (next_ib hn ho) (find_ib hn), run_indexByte_string, firstIdx_sound hs hc]
    rfl
  · rename_i t b
    refine XR.cond (fun he => ?_) (fun _ => trivial)
    obtain ⟨fn, hf, hb, hn, ho⟩ := isExt_sound he
    split
    · rename_i es clock hg
      obtain ⟨u, L, hL, rfl⟩ : ∃ (u : Value) (L : Loc), μ b = some L ∧ cargs = #[.iface t (.map (some L.blk))] := by
        obtain ⟨l⟩ := cargs
        cases ha with | cons _ v _ m h1 t1 =>
        cases t1
        obtain ⟨u, rfl, h2⟩ := h1.iface_inv
        obtain ⟨L, hL, rfl⟩ := h2.map_inv
        exact ⟨undef, L, hL, rfl⟩
      obtain ⟨o, ho2, hor⟩ := h.obj b L hL (by rw [hg]; intro h; cases h)
      rw [hg] at hor
      obtain ⟨cs, rfl, her⟩ := hor
      rw [pushK_eq]
      have hp := h.push (L := ⟨w.heap.size, 0, 0⟩) (o := .map es clock) (grew w (.map cs clock)) rfl ⟨cs, rfl, her.mono (Mu.up_le (h.dom _ (Nat.le_refl _)) _)⟩
      refine XR.new hp (.iface t _ _ (.map _ ⟨w.heap.size, 0, 0⟩ (Mu.up_same _ _ _))) ?_
      rw [run_callFunc_extern hf (by rw [hn]; decide) hb (next_cl hn ho) (find_cl hn)]
      have e1 : Extern.MapsClone.clone #[.iface t (.map (some L.blk))] = (do
          let .map entries clock ← getObj L.blk | stuck "maps.clone: a map expected"
          pure (.iface t (.map (some (← newObj (.map entries clock)))))) := rfl
      rw [e1]
      simp only [Sem.run_bind, run_getObj_at ho2, Result.andThen_ok, run_newObj, Sem.run_pure]
    · trivial
  · rename_i a b _
    refine XR.cond (fun he => ?_) (fun _ => trivial)
    obtain ⟨fn, hf, hb, hn, ho⟩ := isExt_sound he
    split
    · rename_i n N m M hpa hpb
      obtain ⟨u, v, rfl, hu, hv⟩ : ∃ u v : Value, cargs = #[u, v] ∧ VR μ a u ∧ VR μ b v := by
        obtain ⟨l⟩ := cargs
        cases ha with | cons _ v _ m h1 t1 =>
        cases t1 with | cons _ v2 _ m2 h2 t2 =>
        cases t2
        exact ⟨_, _, rfl, h1, h2⟩
      obtain ⟨s, hs, hs2⟩ := packOf_sound (P := P) h hu hpa
      obtain ⟨t, ht, ht2⟩ := packOf_sound (P := P) h hv hpb
      refine XR.rInt h rfl ?_
      rw [run_callFunc_extern hf (by rw [hn]; decide) hb (next_cmp hn ho) (find_cmp hn)]
      have e1 : Extern.BytealgCompare.compare #[u, v] = (do pure (goInt (Extern.BytealgCompare.cmp (← Extern.Bytes.bytesOf u) (← Extern.Bytes.bytesOf v)))) := rfl
      rw [e1]
      simp only [Sem.run_bind, hs, ht, Result.andThen_ok, Sem.run_pure, cmp_sound hs2 ht2]
      rfl
    · trivial
  · trivial
theorem callA_sound (h : HR w0 G μ H w) {f : Nat} {args : List AV} {cargs : Array Value} (ha : LR μ args cargs.toList) : XR P w0 G μ H.size (callA P f args H) ((callFunc f cargs).run P w) := by
  refine XR.onB (fun hc => ?_) (fun _ => externA_sound h ha)
  refine ⟨cargs, w, ?_, ha, h, hc⟩
  unfold callOk at hc
  cases hf : P.funcs[f]? with
  | none => rw [hf] at hc; cases hc
  | some fn =>
    rw [hf] at hc
    simp only [Bool.and_eq_true, Bool.not_eq_true'] at hc
    have hb : fn.body.isNone = false := by cases hq : fn.body <;> simp_all
    unfold callFunc
    simp only [Sem.run_bind, run_program, Result.andThen_ok, hf, hc.1, Bool.false_eq_true, if_false, hb, Sem.run_pure]
theorem run_nilchk (ts : Array TypeId) (t : TypeId) (a : Addr) (s m : String) : (Builtin.ssaWrapNilChk_ ts t #[.pointer (some a), strVal s, strVal m]).run P w = .ok (.pointer (some a)) w := rfl
theorem method_sound (h : HR w0 G μ H w) {t : TypeId} {v : AV} {vv : Value} (hv : VR μ v vv) {name : String} {f : Nat} {x : AV} (hm : methodA P H t v name = some (f, x)) (n : Nat) :
    ∃ u, (method (n + 1) t vv name).run P w = .ok (f, u) w ∧ VR μ x u := by
  unfold methodA at hm
  cases hi : P.info? t with
  | none => rw [hi] at hm; cases hm
  | some i =>
    rw [hi] at hm
    simp only [] at hm
    cases hf : i.methods.find? (·.name == name) with
    | none => rw [hf] at hm; cases hm
    | some m =>
      rw [hf] at hm
      simp only [] at hm
      cases hp : m.path.toList with
      | cons a l => rw [hp] at hm; cases hm
      | nil =>
        rw [hp] at hm
        cases hmf : m.func with
        | none => rw [hmf] at hm; cases hm
        | some q =>
          obtain ⟨g, ptr⟩ := q
          rw [hmf] at hm
          simp only [] at hm
          have hstart : ∀ (u : Value), (receiverAt t (.val vv) ptr (if m.path.isEmpty then some ((name.splitOn ".").getLastD name) else none)).run P w = .ok u w → (method (n + 1) t vv name).run P w = .ok (g, u) w := fun u hu => by
            unfold method
            simp only [Sem.run_bind, typeInfo, run_program, hi, Result.andThen_ok, Sem.run_pure, hf, hp, follow, hmf, hu]
          have hemp : m.path.isEmpty = true := by
            rw [Array.isEmpty_iff]; apply Array.ext'; rw [hp]
          split at hm
          · rename_i hu
            simp only [Option.some.injEq, Prod.mk.injEq] at hm
            obtain ⟨rfl, rfl⟩ := hm
            refine ⟨vv, hstart _ ?_, hv⟩
            unfold receiverAt
            simp only [Sem.run_bind, run_underlying (by assumption), Result.andThen_ok, Place.get, Sem.run_pure]
          · rename_i e hu
            cases v with
            | ptr b off =>
              simp only [] at hm
              obtain ⟨L, hL, rfl⟩ := hv.ptr_inv
              cases hl : loadA P e b off H with
              | none => rw [hl] at hm; cases hm
              | some y =>
                rw [hl] at hm
                simp only [Option.map_some, Option.some.injEq, Prod.mk.injEq] at hm
                obtain ⟨rfl, rfl⟩ := hm
                obtain ⟨u, hu1, hu2⟩ := loadA_sound h hL hl
                refine ⟨u, hstart _ ?_, hu2⟩
                unfold receiverAt
                rw [if_pos hemp]
                simp only [Sem.run_bind, run_underlying (by assumption), Result.andThen_ok, Place.get, Sem.run_pure, run_nilchk, asAddr, hu1]
            | _ => cases hm
          · simp only [Option.some.injEq, Prod.mk.injEq] at hm
            obtain ⟨rfl, rfl⟩ := hm
            refine ⟨vv, hstart _ ?_, hv⟩
            rename_i u hne hu
            unfold receiverAt
            rw [Sem.run_bind, run_underlying (by assumption), Result.andThen_ok]
            cases u <;> first | rfl | (exfalso; exact hne _ rfl) | (exfalso; exact hu _ rfl)
          · cases hm
end
end Go.Proofs.YtabllhhainepgaaGreatDoor.Ab
/-
  The abstract machine: keys of maps are found.
-/
namespace Go.Proofs.YtabllhhainepgaaGreatDoor.Ab
open Go.RowKit

section
variable {P : Program} {w0 w : World} {G : Nat} {μ : Mu} {H : AH} {r : Result Next}
theorem equal_sameNow {key : TypeId} {d : TypeDesc} (hu : P.underlying key = some d) {a b : Value} {c : Bool} (h : Instr.sameNow d a b = some c) : (Op.equal key a b).run P w = .ok c w := by
  show (Op.equalIn Op.maxDepth key a b).run P w = _
  rw [show Op.maxDepth = (Op.maxDepth - 1) + 1 by decide]
  unfold Instr.sameNow at h
  split at h
  · split at h
    · rename_i hk
      simp only [Option.some.injEq] at h
      subst hk h
      simp only [Op.equalIn, Sem.run_bind, run_underlying hu, Result.andThen_ok]
      simp
    · cases h
  · simp only [Option.some.injEq] at h
    subst h
    simp only [Op.equalIn, Sem.run_bind, run_underlying hu, Result.andThen_ok]
    simp
  · simp only [Option.some.injEq] at h
    subst h
    simp only [Op.equalIn, Sem.run_bind, run_underlying hu, Result.andThen_ok]
    simp
  · cases h
theorem now_asking {key : TypeId} {d : TypeDesc} (hu : P.underlying key = some d) {k : Value} : ∀ (es : List MapEntry) (i : Nat) (a : Option (Nat × Value)), Instr.findNow d k es i = some a → (Instr.findAsking key k es i).run P w = .ok a w
  | [], i, a, h => by simp only [Instr.findNow, Option.some.injEq] at h; subst h; rfl
  | e :: es, i, a, h => by
    simp only [Instr.findNow] at h
    cases hs : Instr.sameNow d k e.key with
    | none => rw [hs] at h; cases h
    | some c =>
      rw [hs] at h
      have he := equal_sameNow (w := w) hu hs
      cases c with
      | true =>
        simp only [Option.some.injEq] at h
        subst h
        simp only [Instr.findAsking, Sem.run_bind, he, Result.andThen_ok, if_true, Sem.run_pure]
      | false =>
        simp only [Instr.findAsking, Sem.run_bind, he, Result.andThen_ok, Bool.false_eq_true, if_false]
        exact now_asking hu es (i + 1) a h
/-- What is found: a place, and what lies there. -/
def FoundR (μ : Mu) (f : Option (Nat × AV)) (g : Option (Nat × Value)) : Prop :=
  match f, g with
  | none, none => True
  | some (i, v), some (j, u) => i = j ∧ VR μ v u
  | _, _ => False
theorem asking_sound (h : HR w0 G μ H w) {key : TypeId} {k : AV} {kv : Value} (hk : VR μ k kv) : ∀ (es : List (AV × AV × Nat)) (cs : List MapEntry) (i : Nat) (f : Option (Nat × AV)), ER μ es cs → findA P H key (eqA P H 30) k es i = some f → ∃ g, (Instr.findAsking key kv cs i).run P w = .ok g w ∧ FoundR μ f g
  | [], cs, i, f, he, hf => by
    have : cs = [] := List.eq_nil_of_length_eq_zero (by rw [← he.1]; rfl)
    subst this
    simp only [findA, Option.some.injEq] at hf
    subst hf
    exact ⟨none, rfl, trivial⟩
  | e :: es, [], i, f, he, hf => by have := he.1; simp at this
  | e :: es, c :: cs, i, f, he, hf => by
    obtain ⟨e1, e2, e3⟩ := he.2 0 e c rfl rfl
    have he' : ER μ es cs := ⟨by have := he.1; simpa using this, fun j x y hx hy => he.2 (j + 1) x y (by simpa using hx) (by simpa using hy)⟩
    simp only [findA] at hf
    cases hq : eqA P H 30 key k e.1 with
    | none => rw [hq] at hf; cases hf
    | some b =>
      rw [hq] at hf
      have hrun : (Op.equal key kv c.key).run P w = .ok b w := eqA_sound (P := P) h 30 Op.maxDepth key k e.1 kv c.key b (by decide) hk e1 hq
      cases b with
      | true =>
        simp only [Option.some.injEq] at hf
        subst hf
        exact ⟨some (i, c.val), by simp only [Instr.findAsking, Sem.run_bind, hrun, Result.andThen_ok, if_true, Sem.run_pure], rfl, e2⟩
      | false =>
        obtain ⟨g, g1, g2⟩ := asking_sound h hk es cs (i + 1) f he' hf
        exact ⟨g, by simp only [Instr.findAsking, Sem.run_bind, hrun, Result.andThen_ok, Bool.false_eq_true, if_false]; exact g1, g2⟩
theorem find_sound (h : HR w0 G μ H w) {key : TypeId} {d : TypeDesc} (hu : P.underlying key = some d) {k : AV} {kv : Value} (hk : VR μ k kv) {es : List (AV × AV × Nat)} {cs : List MapEntry} {f : Option (Nat × AV)} (he : ER μ es cs) (hf : findA P H key (eqA P H 30) k es 0 = some f) : ∃ g, (Instr.findKey key kv cs).run P w = .ok g w ∧ FoundR μ f g := by
  obtain ⟨g, g1, g2⟩ := asking_sound h hk es cs 0 f he hf
  refine ⟨g, ?_, g2⟩
  unfold Instr.findKey
  rw [Sem.run_bind, run_underlying hu, Result.andThen_ok]
  cases hq : Instr.findNow d kv cs 0 with
  | none => exact g1
  | some a =>
    have := now_asking (w := w) hu cs 0 a hq
    rw [g1] at this
    cases this
    rfl
end
end Go.Proofs.YtabllhhainepgaaGreatDoor.Ab
/-
  The abstract machine: keys that may be asked for.
-/
namespace Go.Proofs.YtabllhhainepgaaGreatDoor.Ab
open Go.RowKit

section
variable {P : Program} {w0 w : World} {G : Nat} {μ : Mu} {H : AH} {r : Result Next}
theorem run_forIn_list {α : Type} {f : α → PUnit → Sem (ForInStep PUnit)} : ∀ (l : List α), (∀ x ∈ l, (f x ()).run P w = .ok (.yield ()) w) → (forIn l () f).run P w = .ok () w
  | [], _ => rfl
  | x :: l, h => by
    rw [List.forIn_cons, Sem.run_bind, h x (by simp), Result.andThen_ok]
    exact run_forIn_list l fun y hy => h y (by simp [hy])
theorem keyElems_all {chk : TypeId → AV → Bool} {cs : List AV} {e : TypeId} {n : Nat} : ∀ (left i : Nat), keyElems chk P cs e n left i = true → ∀ j, i ≤ j → j < i + left → ∃ v, partA P e cs (j * n) = some v ∧ chk e v = true
  | 0, i, _, j, h1, h2 => by omega
  | m + 1, i, h, j, h1, h2 => by
    simp only [keyElems, Bool.and_eq_true] at h
    by_cases hj : j = i
    · subst hj
      have := h.1
      cases hp : partA P e cs (j * n) with
      | none => rw [hp] at this; cases this
      | some v => rw [hp] at this; exact ⟨v, rfl, this⟩
    · exact keyElems_all m (i + 1) h.2 j (by omega) (by omega)
theorem keyFields_all {chk : TypeId → AV → Bool} {cs : List AV} : ∀ (fs : List Field), keyFields chk P cs fs = true → ∀ f ∈ fs, f.name ≠ "_" → ∃ v, partA P f.type cs f.offset = some v ∧ chk f.type v = true
  | [], _, f, hf, _ => by cases hf
  | g :: fs, h, f, hf, hn => by
    simp only [keyFields, Bool.and_eq_true] at h
    rcases List.mem_cons.1 hf with rfl | hm
    · have := h.1
      rw [if_neg hn] at this
      cases hp : partA P f.type cs f.offset with
      | none => rw [hp] at this; cases this
      | some v => rw [hp] at this; exact ⟨v, rfl, this⟩
    · exact keyFields_all fs h.2 f hm hn
theorem check_sound (em : Bool) : ∀ (d n : Nat) (t : TypeId) (v : AV) (vv : Value), VR μ v vv → keyA P d t v = true → (Instr.checkKey em (d + n) t vv).run P w = .ok () w
  | 0, _, _, _, _, _, h => by cases h
  | d + 1, n, t, v, vv, hv, h => by
    rw [show d + 1 + n = (d + n) + 1 by omega]
    unfold keyA at h
    split at h
    · rename_i hu
      have := hv.int_inv
      subst this
      simp only [Instr.checkKey, Sem.run_bind, run_underlying hu, Result.andThen_ok, Sem.run_pure]
    · rename_i hu
      simp only [Instr.checkKey, Sem.run_bind, run_underlying hu, Result.andThen_ok]
      cases vv <;> rfl
    · rename_i hu
      obtain ⟨s, rfl, _, _⟩ := hv.str_inv
      simp only [Instr.checkKey, Sem.run_bind, run_underlying hu, Result.andThen_ok, Sem.run_pure]
    · rename_i hu
      have := hv.bool_inv
      subst this
      simp only [Instr.checkKey, Sem.run_bind, run_underlying hu, Result.andThen_ok, Sem.run_pure]
    · rename_i hu
      obtain ⟨L, hL, rfl⟩ := hv.ptr_inv
      simp only [Instr.checkKey, Sem.run_bind, run_underlying hu, Result.andThen_ok, Sem.run_pure]
    · rename_i len e cs hu
      obtain ⟨x, rfl, hx⟩ := hv.agg_inv
      split at h
      · rename_i sz hs
        simp only [Instr.checkKey, Sem.run_bind, run_underlying hu, Result.andThen_ok, Std.Legacy.Range.forIn_eq_forIn_range']
        refine (congrArg (fun q => Result.andThen q _) (run_forIn_list _ fun j hj => ?_)).trans rfl
        have hj' : j < len := by simpa [Std.Legacy.Range.size] using hj
        obtain ⟨v, hp, hk⟩ := keyElems_all len 0 h j (by omega) (by omega)
        obtain ⟨u, hu1, hu2⟩ := part_sound (w := w) hx hp
        simp only [Sem.run_bind, run_sizeOf hs, Result.andThen_ok, hu2, check_sound em d n e v u hu1 hk, Sem.run_pure]
      · cases h
    · rename_i fs cs hu
      obtain ⟨x, rfl, hx⟩ := hv.agg_inv
      simp only [Instr.checkKey, Sem.run_bind, run_underlying hu, Result.andThen_ok]
      rw [← Array.forIn_toList]
      refine (congrArg (fun q => Result.andThen q _) (run_forIn_list _ fun f hf => ?_)).trans rfl
      by_cases hn : f.name = "_"
      · simp [hn]
      · obtain ⟨v, hp, hk⟩ := keyFields_all fs.toList h f hf hn
        obtain ⟨u, hu1, hu2⟩ := part_sound (w := w) hx hp
        simp [hn, Sem.run_bind, Result.andThen_ok, hu2, check_sound em d n f.type v u hu1 hk, Sem.run_pure]
    · cases h
theorem lookup_tail (h : HR w0 G μ H w) {t key elem : TypeId} (hu : P.underlying t = some (.map key elem)) {x k : AV} {xv kv : Value} (hk : VR μ k kv) (hkey : keyA P 20 key k = true) (ok : Bool) {es : List (AV × AV × Nat)} {cs : Array MapEntry} (he : ER μ es cs.toList)
    (hrun : (Instr.lookup t xv kv ok).run P w = (do
      Instr.checkKey cs.isEmpty 10000 key kv
      let (v, o) ← match ← Instr.findKey key kv cs.toList with
        | some (_, v) => pure (v, true)
        | none => pure (← zeroValue elem, false)
      pure (if ok then .tuple #[v, .bool o] else v) : Sem Value).run P w)
    (hr : ∀ v w', (Instr.lookup t xv kv ok).run P w = .ok v w' → r = .ok (.value v) w') :
    XR P w0 G μ H.size (match findA P H key (eqA P H 30) k es 0 with
        | some (some (_, v)) => bif ok then .val (.tuple [v, .bool true]) H else .val v H
        | some none => match zeroA P elem with
          | some z => bif ok then .val (.tuple [z, .bool false]) H else .val z H
          | none => .fail 210
        | none => .fail 211) r := by
  have hck := check_sound (P := P) (w := w) cs.isEmpty 20 9980 key k kv hk hkey
  split
  · rename_i i v hf
    obtain ⟨kd, hkd⟩ : ∃ d, P.underlying key = some d := by
      cases hq : P.underlying key with
      | none => unfold keyA at hkey; rw [hq] at hkey; cases hkey
      | some d => exact ⟨d, rfl⟩
    obtain ⟨g, g1, g2⟩ := find_sound (P := P) h hkd hk he hf
    cases g with
    | none => exact g2.elim
    | some p =>
      obtain ⟨j, u⟩ := p
      obtain ⟨_, hv⟩ := g2
      have := hrun
      rw [Sem.run_bind, hck, Result.andThen_ok, Sem.run_bind, g1, Result.andThen_ok] at this
      simp only [Sem.run_bind, Sem.run_pure, Result.andThen_ok] at this
      cases ok
      · exact XR.value h hv (hr _ _ this)
      · exact XR.value h (.tuple _ #[u, .bool true] (.mk2 hv (.bool true))) (hr _ _ this)
  · rename_i hf
    obtain ⟨kd, hkd⟩ : ∃ d, P.underlying key = some d := by
      cases hq : P.underlying key with
      | none => unfold keyA at hkey; rw [hq] at hkey; cases hkey
      | some d => exact ⟨d, rfl⟩
    obtain ⟨g, g1, g2⟩ := find_sound (P := P) h hkd hk he hf
    cases g with
    | some p => exact g2.elim
    | none =>
      split
      · rename_i z hz
        obtain ⟨zv, z1, z2⟩ := run_zero (w := w) hz
        have hzv : VR μ z zv := by rw [← z2]; exact VR.ofConst μ zv
        have := hrun
        rw [Sem.run_bind, hck, Result.andThen_ok, Sem.run_bind, g1, Result.andThen_ok] at this
        simp only [Sem.run_bind, z1, Sem.run_pure, Result.andThen_ok] at this
        cases ok
        · exact XR.value h hzv (hr _ _ this)
        · exact XR.value h (.tuple _ #[zv, .bool false] (.mk2 hzv (.bool false))) (hr _ _ this)
      · trivial
  · trivial
theorem lookup_sound (h : HR w0 G μ H w) (t : TypeId) {x k : AV} {xv kv : Value} (hx : VR μ x xv) (hk : VR μ k kv) (ok : Bool)
    (hr : ∀ v w', (Instr.lookup t xv kv ok).run P w = .ok v w' → r = .ok (.value v) w') : XR P w0 G μ H.size (lookupA P t x k ok H) r := by
  unfold lookupA
  split
  · rename_i key elem hu
    refine XR.cond (fun hkey => ?_) (fun _ => trivial)
    split
    · rename_i es hes
      split at hes
      · simp only [Option.some.injEq] at hes
        subst hes
        cases hx
        refine lookup_tail (x := .nilm) h hu hk hkey ok (es := []) (cs := #[]) ⟨rfl, fun i e c he _ => by simp at he⟩ ?_ hr
        unfold Instr.lookup
        simp only [Sem.run_bind, run_underlying hu, Result.andThen_ok, Sem.run_pure]
        try rfl
      · rename_i b
        obtain ⟨L, hL, rfl⟩ := hx.map_inv
        split at hes
        · rename_i es' clock hg
          simp only [Option.some.injEq] at hes
          subst hes
          obtain ⟨o, ho, hor⟩ := h.obj b L hL (by rw [hg]; intro h; cases h)
          rw [hg] at hor
          obtain ⟨cs, rfl, her⟩ := hor
          refine lookup_tail (x := .map b) h hu hk hkey ok (cs := cs) her ?_ hr
          unfold Instr.lookup
          simp only [Sem.run_bind, run_underlying hu, run_getObj_at ho, Result.andThen_ok, Sem.run_pure]
          rfl
        · cases hes
      · cases hes
    · trivial
  · trivial
end
end Go.Proofs.YtabllhhainepgaaGreatDoor.Ab
/-
  The abstract machine: keys that are alike, bit for bit.
-/
namespace Go.Proofs.YtabllhhainepgaaGreatDoor.Ab
open Go.RowKit

section
variable {P : Program} {w0 w : World} {G : Nat} {μ : Mu} {H : AH} {r : Result Next}
theorem sameC_sound {a b : AV} {av bv : Value} (n : Nat) (ha : VR μ a av) (hb : VR μ b bv) (h : sameC a b = true) : Instr.sameBits n av bv = true := by
  unfold sameC at h
  split at h
  · have e1 := ha.bool_inv; have e2 := hb.bool_inv; subst e1 e2; unfold Instr.sameBits; exact h
  · have e1 := ha.int_inv; have e2 := hb.int_inv; subst e1 e2
    rw [Bool.and_eq_true, decide_eq_true_eq, eqI_eq] at h
    unfold Instr.sameBits
    simp [h.1, beq_iff_eq.1 h.2]
  · obtain ⟨s, rfl, h1, h2⟩ := ha.str_inv
    obtain ⟨s', rfl, h3, h4⟩ := hb.str_inv
    have := StrR.eq (s := s) (t := s') ⟨h1, h2⟩ ⟨h3, h4⟩
    rw [h] at this
    unfold Instr.sameBits
    rw [beq_toListBytes]; exact this
  · obtain ⟨L, hL, rfl⟩ := ha.ptr_inv
    obtain ⟨L', hL', rfl⟩ := hb.ptr_inv
    rw [Bool.and_eq_true, Nat.beq_eq, Nat.beq_eq] at h
    obtain ⟨rfl, rfl⟩ := h
    rw [hL] at hL'
    cases hL'
    unfold Instr.sameBits
    simp
  · cases ha; cases hb; unfold Instr.sameBits; simp
  · cases h
theorem sameCs_sound (n : Nat) : ∀ {l m : List AV} {x y : List Value}, LR μ l x → LR μ m y → sameCs l m = true → x.length = y.length ∧ (x.zip y).all (fun (a, b) => Instr.sameBits n a b) = true
  | [], [], _, _, h1, h2, _ => by cases h1; cases h2; exact ⟨rfl, rfl⟩
  | [], _ :: _, _, _, _, _, h => by cases h
  | _ :: _, [], _, _, _, _, h => by cases h
  | a :: l, b :: m, _, _, h1, h2, h => by
    cases h1 with | cons _ u _ x hu h1 =>
    cases h2 with | cons _ v _ y hv h2 =>
    simp only [sameCs, Bool.and_eq_true] at h
    obtain ⟨i1, i2⟩ := sameCs_sound n h1 h2 h.2
    refine ⟨by simp [i1], ?_⟩
    rw [List.zip_cons_cons, List.all_cons, Bool.and_eq_true]
    exact ⟨sameC_sound n hu hv h.1, i2⟩
theorem sameK_sound {a b : AV} {av bv : Value} (n : Nat) (ha : VR μ a av) (hb : VR μ b bv) (h : sameK a b = true) : Instr.sameBits (n + 1) av bv = true := by
  unfold sameK at h
  split at h
  · obtain ⟨x, rfl, h1⟩ := ha.agg_inv
    obtain ⟨y, rfl, h2⟩ := hb.agg_inv
    obtain ⟨i1, i2⟩ := sameCs_sound n h1 h2 h
    unfold Instr.sameBits
    rw [Bool.and_eq_true]
    exact ⟨by simpa using i1, i2⟩
  · exact sameC_sound (n + 1) ha hb h
end
end Go.Proofs.YtabllhhainepgaaGreatDoor.Ab
/-
  The abstract machine: maps are written.
-/
namespace Go.Proofs.YtabllhhainepgaaGreatDoor.Ab
open Go.RowKit

section
variable {P : Program} {w0 w : World} {G : Nat} {μ : Mu} {H : AH} {r : Result Next}
theorem run_setObj' {q : Nat} {es : Array MapEntry} {clock : Nat} (o' : Obj) (h : w.heap[q]? = some (.map es clock)) : (setObj q o').run P w = .ok () { w with heap := w.heap.setIfInBounds q o' } := by
  simp [setObj, Sem.run, h]
theorem apart_set (w : World) (q : Nat) (o : Obj) : Apart q w { w with heap := w.heap.setIfInBounds q o } :=
  ⟨rfl, rfl, rfl, by simp, fun k hk => by simp only [Array.getElem?_setIfInBounds]; rw [if_neg (fun e => hk e.symm)]⟩
theorem get_setIf {q : Nat} {o o' : Obj} (h : w.heap[q]? = some o) : (w.heap.setIfInBounds q o')[q]? = some o' := by
  rw [Array.getElem?_setIfInBounds, if_pos rfl, if_pos (Array.getElem?_eq_some_iff.1 h).1]
/-- A map is written. -/
theorem HR.setMap (h : HR w0 G μ H w) {b : Nat} {L : Loc} (hL : μ b = some L) (hG : G ≤ b) {es : List (AV × AV × Nat)} {clock : Nat} (hg : H.get b = .map es clock) {cs : Array MapEntry} (ho : w.heap[L.blk]? = some (.map cs clock))
    {es' : List (AV × AV × Nat)} {c' : Nat} {cs' : Array MapEntry} (he : ER μ es' cs'.toList) : HR w0 G μ (H.set b (.map es' c')) { w with heap := w.heap.setIfInBounds L.blk (.map cs' c') } :=
  h.set hL hG (by rw [hg]; intro e; cases e) (apart_set w L.blk _) (get_setIf ho) ⟨cs', rfl, he⟩
theorem ER.push {es : List (AV × AV × Nat)} {cs : List MapEntry} (h : ER μ es cs) {k v : AV} {kv vv : Value} (hk : VR μ k kv) (hv : VR μ v vv) (n : Nat) : ER μ (es ++ [(k, v, n)]) (cs ++ [{ key := kv, val := vv, born := n }]) := by
  refine ⟨by simp [h.1], fun i e c he hc => ?_⟩
  by_cases hi : i < es.length
  · rw [List.getElem?_append_left hi] at he
    rw [List.getElem?_append_left (by rw [← h.1]; exact hi)] at hc
    exact h.2 i e c he hc
  · rw [List.getElem?_append_right (by omega)] at he
    rw [List.getElem?_append_right (by rw [← h.1]; omega), ← h.1] at hc
    cases hj : i - es.length with
    | zero =>
      rw [hj] at he hc
      simp at he hc
      subst he hc
      exact ⟨hk, hv, rfl⟩
    | succ j => rw [hj] at he; simp at he
theorem ER.set {es : List (AV × AV × Nat)} {cs : List MapEntry} (h : ER μ es cs) {i : Nat} {e : AV × AV × Nat} {f : MapEntry → MapEntry} (hf : ∀ c, cs[i]? = some c → VR μ e.1 (f c).key ∧ VR μ e.2.1 (f c).val ∧ e.2.2 = (f c).born) : ER μ (es.set i e) (cs.modify i f) := by
  refine ⟨by simp [h.1], fun j x c hx hc => ?_⟩
  rw [List.getElem?_set] at hx
  rw [List.getElem?_modify] at hc
  by_cases hj : i = j
  · subst hj
    rw [if_pos rfl] at hx
    simp only [if_pos] at hc
    split at hx
    · simp only [Option.some.injEq] at hx
      subst hx
      cases hq : cs[i]? with
      | none => rw [hq] at hc; cases hc
      | some c0 =>
        rw [hq] at hc
        simp at hc
        subst hc
        exact hf c0 hq
    · cases hx
  · rw [if_neg hj] at hx
    simp only [if_neg hj] at hc
    have hc : cs[j]? = some c := by simpa using hc
    exact h.2 j x c hx hc
theorem ER.erase {es : List (AV × AV × Nat)} {cs : List MapEntry} (h : ER μ es cs) (i : Nat) : ER μ (es.eraseIdx i) (cs.eraseIdx i) := by
  refine ⟨by rw [List.length_eraseIdx, List.length_eraseIdx, h.1], fun j x c hx hc => ?_⟩
  rw [List.getElem?_eraseIdx] at hx hc
  split at hx
  · rename_i hj
    rw [if_pos hj] at hc
    exact h.2 j x c hx hc
  · rename_i hj
    rw [if_neg hj] at hc
    exact h.2 (j + 1) x c hx hc
theorem key_desc {key : TypeId} {k : AV} (hkey : keyA P 20 key k = true) : ∃ d, P.underlying key = some d := by
  cases hq : P.underlying key with
  | none => unfold keyA at hkey; rw [hq] at hkey; cases hkey
  | some d => exact ⟨d, rfl⟩
theorem keyStays {k e : AV} {kv ev : Value} (hk : VR μ k kv) (he : VR μ e ev) (h : sameK e k = true) : (Instr.keyThatStays ev kv).run P w = .ok kv w := by
  have hs : Instr.sameBits 10000 ev kv = true := sameK_sound 9999 he hk h
  unfold Instr.keyThatStays
  rw [hs]; rfl
theorem mapUpdate_sound (h : HR w0 G μ H w) (t : TypeId) {m k x : AV} {mv kv xv : Value} (hm : VR μ m mv) (hk : VR μ k kv) (hx : VR μ x xv)
    (hr : ∀ w', (Instr.mapUpdate t mv kv xv).run P w = .ok () w' → r = .ok .skip w') : XR P w0 G μ H.size (mapUpdateA P G t m k x H) r := by
  unfold mapUpdateA
  split
  · rename_i key elem b hu
    refine XR.cond (fun hc => ?_) (fun _ => trivial)
    rw [Bool.and_eq_true, Nat.ble_eq] at hc
    obtain ⟨hkey, hG⟩ := hc
    obtain ⟨L, hL, rfl⟩ := hm.map_inv
    obtain ⟨kd, hkd⟩ := key_desc hkey
    split
    · rename_i es clock hg
      obtain ⟨o, ho, hor⟩ := h.obj b L hL (by rw [hg]; intro h; cases h)
      rw [hg] at hor
      obtain ⟨cs, rfl, her⟩ := hor
      have hck := check_sound (P := P) (w := w) false 20 9980 key k kv hk hkey
      have hrun : (Instr.mapUpdate t (.map (some L.blk)) kv xv).run P w = (do
          match ← Instr.findKey key kv cs.toList with
          | some (i, _) => do
            let key ← Instr.keyThatStays (((cs[i]?).map (·.key)).getD kv) kv
            setObj L.blk (.map (cs.modify i fun e => { e with key, val := xv }) clock)
          | none => setObj L.blk (.map (cs.push { key := kv, val := xv, born := clock }) (clock + 1)) : Sem Unit).run P w := by
        unfold Instr.mapUpdate
        simp only [Sem.run_bind, run_underlying hu, run_getObj_at ho, Result.andThen_ok, hck]
        try rfl
      split
      · rename_i i v hf
        obtain ⟨g, g1, g2⟩ := find_sound (P := P) h hkd hk her hf
        cases g with
        | none => exact g2.elim
        | some p =>
          obtain ⟨j, u⟩ := p
          obtain ⟨rfl, hv⟩ := g2
          rw [Sem.run_bind, g1, Result.andThen_ok] at hrun
          split
          · rename_i e he
            refine XR.cond (fun hsk => ?_) (fun _ => trivial)
            have hi : i < es.length := (List.getElem?_eq_some_iff.1 he).1
            obtain ⟨c0, hc0⟩ : ∃ c0, cs.toList[i]? = some c0 := ⟨_, List.getElem?_eq_getElem (by rw [← her.1]; exact hi)⟩
            obtain ⟨k1, k2, k3⟩ := her.2 i e c0 he hc0
            have hc0' : cs[i]? = some c0 := by simpa using hc0
            simp only [hc0', Option.map_some, Option.getD_some, Sem.run_bind, keyStays hk k1 hsk, Result.andThen_ok] at hrun
            rw [run_setObj' _ ho] at hrun
            rw [setK_eq]
            refine XR.skip (h.setMap hL hG hg ho ?_) (hr _ hrun)
            rw [Array.toList_modify]
            exact her.set fun c hc => by rw [hc0] at hc; cases hc; exact ⟨hk, hx, k3⟩
          · trivial
      · rename_i hf
        obtain ⟨g, g1, g2⟩ := find_sound (P := P) h hkd hk her hf
        cases g with
        | some p => exact g2.elim
        | none =>
          rw [Sem.run_bind, g1, Result.andThen_ok] at hrun
          simp only [] at hrun
          rw [run_setObj' _ ho] at hrun
          rw [fNat_eq, setK_eq]
          refine XR.skip (h.setMap hL hG hg ho ?_) (hr _ hrun)
          rw [Array.toList_push]
          exact her.push hk hx clock
      · trivial
    · trivial
  · trivial
theorem mapEntry_sound (h : HR w0 G μ H w) (t : TypeId) {m k : AV} {mv kv : Value} (hm : VR μ m mv) (hk : VR μ k kv)
    (hr : ∀ v w', (Instr.mapEntry t mv kv).run P w = .ok v w' → r = .ok (.value v) w') : XR P w0 G μ H.size (mapEntryA P G t m k H) r := by
  unfold mapEntryA
  split
  · rename_i key elem b hu
    refine XR.cond (fun hc => ?_) (fun _ => trivial)
    rw [Bool.and_eq_true, Nat.ble_eq] at hc
    obtain ⟨hkey, hG⟩ := hc
    obtain ⟨L, hL, rfl⟩ := hm.map_inv
    obtain ⟨kd, hkd⟩ := key_desc hkey
    split
    · rename_i es clock hg
      obtain ⟨o, ho, hor⟩ := h.obj b L hL (by rw [hg]; intro h; cases h)
      rw [hg] at hor
      obtain ⟨cs, rfl, her⟩ := hor
      have hck := check_sound (P := P) (w := w) false 20 9980 key k kv hk hkey
      have hrun : (Instr.mapEntry t (.map (some L.blk)) kv).run P w = (do
          match ← Instr.findKey key kv cs.toList with
          | some (i, v) => do
            let key ← Instr.keyThatStays (((cs[i]?).map (·.key)).getD kv) kv
            setObj L.blk (.map (cs.modify i fun e => { e with key }) clock)
            pure (.tuple #[v, goInt (((cs[i]?).map (·.born)).getD 0)])
          | none => do
            let zero ← zeroValue elem
            setObj L.blk (.map (cs.push { key := kv, val := zero, born := clock }) (clock + 1))
            pure (.tuple #[zero, goInt clock]) : Sem Value).run P w := by
        unfold Instr.mapEntry
        simp only [Sem.run_bind, run_underlying hu, run_getObj_at ho, Result.andThen_ok, hck]
        try rfl
      split
      · rename_i i v hf
        obtain ⟨g, g1, g2⟩ := find_sound (P := P) h hkd hk her hf
        cases g with
        | none => exact g2.elim
        | some p =>
          obtain ⟨j, u⟩ := p
          obtain ⟨rfl, hv⟩ := g2
          rw [Sem.run_bind, g1, Result.andThen_ok] at hrun
          split
          · rename_i e he
            refine XR.cond (fun hsk => ?_) (fun _ => trivial)
            have hi : i < es.length := (List.getElem?_eq_some_iff.1 he).1
            obtain ⟨c0, hc0⟩ : ∃ c0, cs.toList[i]? = some c0 := ⟨_, List.getElem?_eq_getElem (by rw [← her.1]; exact hi)⟩
            obtain ⟨k1, k2, k3⟩ := her.2 i e c0 he hc0
            have hc0' : cs[i]? = some c0 := by simpa using hc0
            simp only [hc0', Option.map_some, Option.getD_some, Sem.run_bind, keyStays hk k1 hsk, Result.andThen_ok, run_setObj' _ ho, Sem.run_pure] at hrun
            rw [setK_eq]
            refine XR.new ⟨h.setMap hL hG hg ho ?_, μ.lx_refl _⟩ (.tuple _ #[u, goInt c0.born] (.mk2 hv (by rw [k3]; exact .int _ _))) (hr _ _ hrun)
            rw [Array.toList_modify]
            exact her.set fun c hc => by rw [hc0] at hc; cases hc; exact ⟨hk, k2, k3⟩
          · trivial
      · rename_i hf
        obtain ⟨g, g1, g2⟩ := find_sound (P := P) h hkd hk her hf
        cases g with
        | some p => exact g2.elim
        | none =>
          split
          · rename_i z hz
            obtain ⟨zv, z1, z2⟩ := run_zero (w := w) hz
            have hzv : VR μ z zv := by rw [← z2]; exact VR.ofConst μ zv
            rw [Sem.run_bind, g1, Result.andThen_ok] at hrun
            simp only [Sem.run_bind, z1, Result.andThen_ok, run_setObj' _ ho, Sem.run_pure] at hrun
            rw [fNat_eq, setK_eq]
            refine XR.new ⟨h.setMap hL hG hg ho ?_, μ.lx_refl _⟩ (.tuple _ #[zv, goInt clock] (.mk2 hzv (.int _ _))) (hr _ _ hrun)
            rw [Array.toList_push]
            exact her.push hk hzv clock
          · trivial
      · trivial
    · trivial
  · trivial
theorem findBorn_sound {n : Nat} : ∀ {es : List (AV × AV × Nat)} {cs : List MapEntry} {i j : Nat} {e : AV × AV × Nat}, ER μ es cs → findBorn n es i = some (j, e) → ∃ k, j = i + k ∧ es[k]? = some e ∧ cs.findIdx? (fun e => (e.born : Int) == (n : Int)) = some k
  | [], cs, i, j, e, _, h => by cases h
  | x :: es, [], i, j, e, he, h => by have := he.1; simp at this
  | x :: es, c :: cs, i, j, e, he, h => by
    obtain ⟨e1, e2, e3⟩ := he.2 0 x c rfl rfl
    have he' : ER μ es cs := ⟨by have := he.1; simpa using this, fun j x y hx hy => he.2 (j + 1) x y (by simpa using hx) (by simpa using hy)⟩
    simp only [findBorn] at h
    by_cases hb : x.2.2 = n
    · have : Nat.beq x.2.2 n = true := by rw [Nat.beq_eq]; exact hb
      rw [this] at h
      simp only [cond_true, Option.some.injEq, Prod.mk.injEq] at h
      refine ⟨0, h.1.symm, by simp [h.2], ?_⟩
      rw [List.findIdx?_cons]
      have : ((c.born : Int) == (n : Int)) = true := by rw [← e3, hb]; simp
      simp [this]
    · rw [beq_ff hb] at h
      simp only [cond_false] at h
      obtain ⟨k, k1, k2, k3⟩ := findBorn_sound he' h
      refine ⟨k + 1, by omega, by simpa using k2, ?_⟩
      rw [List.findIdx?_cons]
      have : ((c.born : Int) == (n : Int)) = false := by
        rw [← e3]
        simp only [beq_eq_false_iff_ne]
        intro hh
        exact hb (by omega)
      simp [this, k3]
theorem entryStore_sound (h : HR w0 G μ H w) (t : TypeId) {m s x : AV} {mv sv xv : Value} (hm : VR μ m mv) (hs : VR μ s sv) (hx : VR μ x xv)
    (hr : ∀ w', (Instr.entryStore t mv sv xv).run P w = .ok () w' → r = .ok .skip w') : XR P w0 G μ H.size (entryStoreA G m s x H) r := by
  unfold entryStoreA
  split
  · rename_i b k n
    refine XR.cond (fun hG => ?_) (fun _ => trivial)
    rw [Nat.ble_eq] at hG
    obtain ⟨L, hL, rfl⟩ := hm.map_inv
    have := hs.int_inv
    subst this
    split
    · rename_i es clock hg
      obtain ⟨o, ho, hor⟩ := h.obj b L hL (by rw [hg]; intro h; cases h)
      rw [hg] at hor
      obtain ⟨cs, rfl, her⟩ := hor
      split
      · rename_i i e hf
        obtain ⟨k', k1, k2, k3⟩ := findBorn_sound her hf
        have : i = k' := by omega
        subst this
        have hrun : (Instr.entryStore t (.map (some L.blk)) (.int k (Int.ofNat n)) xv).run P w = (setObj L.blk (.map (cs.modify i fun e => { e with val := xv }) clock)).run P w := by
          unfold Instr.entryStore
          have : cs.findIdx? (fun e => (e.born : Int) == (n : Int)) = some i := by obtain ⟨cl⟩ := cs; simpa using k3
          simp only [Sem.run_bind, run_getObj_at ho, Result.andThen_ok, asInt, asIntOf, Sem.run_pure, Int.ofNat_eq_natCast, this]
        rw [run_setObj' _ ho] at hrun
        rw [setK_eq]
        refine XR.skip (h.setMap hL hG hg ho ?_) (hr _ hrun)
        rw [Array.toList_modify]
        exact her.set fun c hc => by obtain ⟨q1, q2, q3⟩ := her.2 i e c k2 hc; exact ⟨q1, hx, q3⟩
      · trivial
    · trivial
  · trivial
theorem delete_sound (h : HR w0 G μ H w) {types : Array TypeId} {t : TypeId} {ts : List TypeId} (ht : types.toList = t :: ts) {m k : AV} {mv kv : Value} (hm : VR μ m mv) (hk : VR μ k kv) (ty : TypeId)
    (hr : ∀ v w', (Builtin.delete_ types ty #[mv, kv]).run P w = .ok v w' → r = .ok (.value v) w') : XR P w0 G μ H.size (deleteA P G t m k H) r := by
  have ht0 : types[0]? = some t := by rw [← Array.getElem?_toList, ht]; rfl
  unfold deleteA
  split
  · rename_i key e hu
    refine XR.cond (fun hkey => ?_) (fun _ => trivial)
    cases hm
    have hck := check_sound (P := P) (w := w) true 20 9980 key k kv hk hkey
    refine XR.value h .undef (hr _ _ ?_)
    unfold Builtin.delete_
    simp only [ht0, List.getElem?_toArray, List.getElem?_cons_zero, List.getElem?_cons_succ, Sem.run_bind, run_underlying hu, Result.andThen_ok, hck, Sem.run_pure]
    try rfl
  · rename_i key e b hu
    refine XR.cond (fun hc => ?_) (fun _ => trivial)
    rw [Bool.and_eq_true, Nat.ble_eq] at hc
    obtain ⟨hkey, hG⟩ := hc
    obtain ⟨L, hL, rfl⟩ := hm.map_inv
    obtain ⟨kd, hkd⟩ := key_desc hkey
    split
    · rename_i es clock hg
      obtain ⟨o, ho, hor⟩ := h.obj b L hL (by rw [hg]; intro h; cases h)
      rw [hg] at hor
      obtain ⟨cs, rfl, her⟩ := hor
      have hck := check_sound (P := P) (w := w) cs.isEmpty 20 9980 key k kv hk hkey
      have hrun : (Builtin.delete_ types ty #[.map (some L.blk), kv]).run P w = (do
          match ← Instr.findKey key kv cs.toList with
          | some (i, _) => setObj L.blk (.map (cs.eraseIdxIfInBounds i) clock)
          | none => setObj L.blk (.map cs clock)
          pure (.tuple #[]) : Sem Value).run P w := by
        unfold Builtin.delete_
        simp only [ht0, List.getElem?_toArray, List.getElem?_cons_zero, List.getElem?_cons_succ, Sem.run_bind, run_underlying hu, run_getObj_at ho, Result.andThen_ok, hck]
        try rfl
      split
      · rename_i i v hf
        obtain ⟨g, g1, g2⟩ := find_sound (P := P) h hkd hk her hf
        cases g with
        | none => exact g2.elim
        | some p =>
          obtain ⟨j, u⟩ := p
          obtain ⟨rfl, hv⟩ := g2
          rw [Sem.run_bind, g1, Result.andThen_ok] at hrun
          simp only [Sem.run_bind, run_setObj' _ ho, Result.andThen_ok, Sem.run_pure] at hrun
          rw [setK_eq]
          refine XR.new ⟨h.setMap hL hG hg ho ?_, μ.lx_refl _⟩ .undef (hr _ _ hrun)
          have : (cs.eraseIdxIfInBounds i).toList = cs.toList.eraseIdx i := by
            rw [Array.eraseIdxIfInBounds]
            split
            · simp
            · rename_i hh
              rw [List.eraseIdx_of_length_le (by simpa using hh)]
          rw [this]
          exact her.erase i
      · rename_i hf
        obtain ⟨g, g1, g2⟩ := find_sound (P := P) h hkd hk her hf
        cases g with
        | some p => exact g2.elim
        | none =>
          rw [Sem.run_bind, g1, Result.andThen_ok] at hrun
          simp only [Sem.run_bind, run_setObj' _ ho, Result.andThen_ok, Sem.run_pure] at hrun
          have hw : { w with heap := w.heap.setIfInBounds L.blk (.map cs clock) } = w := by
            have : w.heap.setIfInBounds L.blk (.map cs clock) = w.heap := by
              apply Array.ext_getElem?
              intro q
              rw [Array.getElem?_setIfInBounds]
              split
              · rename_i e; subst e
                rw [if_pos (Array.getElem?_eq_some_iff.1 ho).1, ho]
              · rfl
            rw [this]
          rw [hw] at hrun
          exact XR.value h .undef (hr _ _ hrun)
      · trivial
    · trivial
  · trivial
end
end Go.Proofs.YtabllhhainepgaaGreatDoor.Ab
/-
  The abstract machine: maps.
-/
namespace Go.Proofs.YtabllhhainepgaaGreatDoor.Ab
open Go.RowKit

section
variable {P : Program} {w0 w : World} {G : Nat} {μ : Mu} {H : AH} {r : Result Next}
theorem clear_sound (h : HR w0 G μ H w) {types : Array TypeId} {t : TypeId} {ts : List TypeId} (ht : types.toList = t :: ts) {m : AV} {mv : Value} (hm : VR μ m mv) (ty : TypeId)
    (hr : ∀ v w', (Builtin.clear_ types ty #[mv]).run P w = .ok v w' → r = .ok (.value v) w') : XR P w0 G μ H.size (clearA P G t m H) r := by
  have ht0 : types[0]? = some t := by rw [← Array.getElem?_toList, ht]; rfl
  unfold clearA
  split
  · rename_i d hu
    cases hm
    refine XR.value h .undef (hr _ _ ?_)
    unfold Builtin.clear_
    simp only [ht0, List.getElem?_toArray, List.getElem?_cons_zero, Sem.run_bind, run_underlying hu, Result.andThen_ok, Sem.run_pure]
    try rfl
  · rename_i d b hu
    refine XR.cond (fun hG => ?_) (fun _ => trivial)
    rw [Nat.ble_eq] at hG
    obtain ⟨L, hL, rfl⟩ := hm.map_inv
    split
    · rename_i es clock hg
      obtain ⟨o, ho, hor⟩ := h.obj b L hL (by rw [hg]; intro h; cases h)
      rw [hg] at hor
      obtain ⟨cs, rfl, her⟩ := hor
      have hrun : (Builtin.clear_ types ty #[.map (some L.blk)]).run P w = .ok (.tuple #[]) { w with heap := w.heap.setIfInBounds L.blk (.map #[] clock) } := by
        unfold Builtin.clear_
        simp only [ht0, List.getElem?_toArray, List.getElem?_cons_zero, Sem.run_bind, run_underlying hu, Result.andThen_ok, run_getObj_at ho, run_setObj' _ ho, Sem.run_pure]
      rw [setK_eq]
      exact XR.new ⟨h.setMap hL hG hg ho ⟨rfl, fun i e c he => by simp at he⟩, μ.lx_refl _⟩ .undef (hr _ _ hrun)
    · trivial
  · rename_i d hu
    cases hm
    refine XR.value h .undef (hr _ _ ?_)
    unfold Builtin.clear_
    simp only [ht0, List.getElem?_toArray, List.getElem?_cons_zero, Sem.run_bind, run_underlying hu, Result.andThen_ok, Sem.run_pure]
    try rfl
  · rename_i d hu
    cases hm
    refine XR.value h .undef (hr _ _ ?_)
    unfold Builtin.clear_
    simp only [ht0, List.getElem?_toArray, List.getElem?_cons_zero, Sem.run_bind, run_underlying hu, Result.andThen_ok, Sem.run_pure]
    try rfl
  · rename_i e b off n c g hu
    refine XR.cond (fun hG => ?_) (fun _ => trivial)
    rw [Nat.ble_eq] at hG
    obtain ⟨L, hL, rfl⟩ := hm.slice_inv
    split
    · rename_i z hz
      obtain ⟨zv, hzv, hzl⟩ := zero_all hz
      have hrun : ∀ w', (storeCells ⟨L.blk, L.base + off, none⟩ (Builtin.zeroCells zv.cells (n + 1)).toList).run P w = .ok () w' → (Builtin.clear_ types ty #[.slice (some ⟨L.blk, L.base + off, none⟩) (n + 1) (c + if g then L.slack else 0)]).run P w = .ok (.tuple #[]) w' := fun w' hst => by
        unfold Builtin.clear_
        simp only [ht0, List.getElem?_toArray, List.getElem?_cons_zero, Sem.run_bind, run_underlying hu, Result.andThen_ok, hzv, hst, Sem.run_pure]
      have hfin : ∀ q, SeqR μ z.length q (Builtin.zeroCells zv.cells (n + 1)).toList → XR P w0 G μ H.size (putSeqK (H.get b) z.length off q (.fail 246) fun o => H.setK b o fun H' => .val (.tuple []) H') r := fun q hq =>
        putSeq_sound h hL hG hq (zeros_ones hz (hzl μ) (n + 1)) fun H' w' hH hst => XR.new ⟨hH, μ.lx_refl _⟩ .undef (hr _ _ (hrun w' hst))
      cases hb : isByteA P e with
      | true =>
        simp only [cond_true]
        refine hfin _ ?_
        have := zeros_bytes hb hz (hzl μ) (n + 1)
        obtain ⟨hz1, _⟩ := byte_zero hb hz
        rw [hz1]; exact this
      | false =>
        simp only [cond_false]
        exact hfin _ (zeros_rows (hzl μ) (n + 1))
    · trivial
  · trivial
theorem range_sound (h : HR w0 G μ H w) (t : TypeId) {x : AV} {xv : Value} (hx : VR μ x xv)
    (hr : ∀ v w', (Instr.range t xv).run P w = .ok v w' → r = .ok (.value v) w') : XR P w0 G μ H.size (rangeA P t x H) r := by
  have mk : ∀ (o : AObj) (obj : Obj), (∀ ν : Mu, μ.le ν → OR ν ⟨w.heap.size, 0, 0⟩ o obj) → (Instr.range t xv).run P w = .ok (.pointer (some ⟨w.heap.size, 0, none⟩)) { w with heap := w.heap.push obj } → XR P w0 G μ H.size (H.pushK o fun H' => .val (.ptr H.size 0) H') r := fun o obj ho hrun => by
    rw [pushK_eq]
    have hp := h.push (L := ⟨w.heap.size, 0, 0⟩) (o := o) (grew w obj) rfl (ho _ (Mu.up_le (h.dom _ (Nat.le_refl _)) _))
    exact XR.new hp (VR.ptr0 (Mu.up_same _ _ _)) (hr _ _ hrun)
  unfold rangeA
  split
  · rename_i n N hu
    obtain ⟨s, rfl, h1, h2⟩ := hx.str_inv
    refine mk _ (.stringIter s 0) (fun ν _ => ⟨rfl, s, rfl, h1, h2⟩) ?_
    unfold Instr.range
    simp only [Sem.run_bind, run_underlying hu, Result.andThen_ok, Sem.run_pure, run_newObj]
  · rename_i k e hu
    cases hx
    refine mk _ (.mapIter none 0 #[] 0) (fun ν _ => ⟨rfl, none, rfl, rfl⟩) ?_
    unfold Instr.range
    simp only [Sem.run_bind, run_underlying hu, Result.andThen_ok, Sem.run_pure, run_newObj]
  · rename_i k e m hu
    split
    · rename_i es clock hg
      obtain ⟨L, hL, rfl⟩ := hx.map_inv
      obtain ⟨o, ho, hor⟩ := h.obj m L hL (by rw [hg]; intro h; cases h)
      rw [hg] at hor
      obtain ⟨cs, rfl, her⟩ := hor
      refine mk _ (.mapIter (some L.blk) clock #[] clock) (fun ν hν => ⟨rfl, some L.blk, rfl, L, hν _ _ hL, rfl⟩) ?_
      unfold Instr.range
      simp only [Sem.run_bind, run_underlying hu, Result.andThen_ok, run_getObj_at ho, Sem.run_pure, run_newObj]
    · trivial
  · trivial
theorem ER.cons_inv {e : AV × AV × Nat} {c : MapEntry} {es : List (AV × AV × Nat)} {cs : List MapEntry} (h : ER μ (e :: es) (c :: cs)) : (VR μ e.1 c.key ∧ VR μ e.2.1 c.val ∧ e.2.2 = c.born) ∧ ER μ es cs :=
  ⟨h.2 0 e c rfl rfl, by have := h.1; simpa using this, fun j x y hx hy => h.2 (j + 1) x y (by simpa using hx) (by simpa using hy)⟩
theorem ER.cons {e : AV × AV × Nat} {c : MapEntry} {es : List (AV × AV × Nat)} {cs : List MapEntry} (h0 : VR μ e.1 c.key ∧ VR μ e.2.1 c.val ∧ e.2.2 = c.born) (h : ER μ es cs) : ER μ (e :: es) (c :: cs) :=
  ⟨by simp [h.1], fun j x y hx hy => by
    cases j with
    | zero => simp at hx hy; subst hx hy; exact h0
    | succ j => exact h.2 j x y (by simpa using hx) (by simpa using hy)⟩
theorem ER.filter (p : Nat → Bool) : ∀ {es : List (AV × AV × Nat)} {cs : List MapEntry}, ER μ es cs → ER μ (es.filter fun e => p e.2.2) (cs.filter fun c => p c.born)
  | [], [], h => h
  | [], _ :: _, h => by have := h.1; simp at this
  | _ :: _, [], h => by have := h.1; simp at this
  | e :: es, c :: cs, h => by
    obtain ⟨h0, h1⟩ := h.cons_inv
    have := ER.filter p h1
    rw [List.filter_cons, List.filter_cons, h0.2.2]
    cases p c.born
    · simpa using this
    · simpa using ER.cons h0 this
theorem ER.all (p : Nat → Bool) : ∀ {es : List (AV × AV × Nat)} {cs : List MapEntry}, ER μ es cs → (es.all fun e => p e.2.2) = (cs.all fun c => p c.born)
  | [], [], h => rfl
  | [], _ :: _, h => by have := h.1; simp at this
  | _ :: _, [], h => by have := h.1; simp at this
  | e :: es, c :: cs, h => by
    obtain ⟨h0, h1⟩ := h.cons_inv
    rw [List.all_cons, List.all_cons, ER.all p h1, h0.2.2]
theorem decode_low {s : ByteArray} {n N pos : Nat} (hs : StrR n N s) (hp : pos < n) (hb : byteAt N pos < 128) : Utf8.decode s pos = (byteAt N pos, 1) := by
  obtain ⟨h1, h2⟩ := hs
  subst h1 h2
  have hg : (s.get! (pos + 0)).toNat = byteAt (pack s.data.toList) pos := by
    rw [byteAt_pack _ _ (by simpa using hp)]
    have : s.get! (pos + 0) = s.data[pos] := by
      show s.data[pos + 0]! = _
      exact getElem!_pos s.data pos hp
    rw [this]; simp
  unfold Utf8.decode
  simp only [hg]
  rw [if_pos hb]
theorem run_setIter {q : Nat} {s : ByteArray} {pos : Nat} (o' : Obj) (h : w.heap[q]? = some (.stringIter s pos)) : (setObj q o').run P w = .ok () { w with heap := w.heap.setIfInBounds q o' } := by
  simp [setObj, Sem.run, h]
theorem run_setMapIter {q : Nat} {m : Option Nat} {a c : Nat} {b : Array Nat} (o' : Obj) (h : w.heap[q]? = some (.mapIter m a b c)) : (setObj q o').run P w = .ok () { w with heap := w.heap.setIfInBounds q o' } := by
  simp [setObj, Sem.run, h]
theorem HR.redrawn (h : HR w0 G μ H w) (n : Nat) : HR w0 G μ H { w with drawn := n } :=
  ⟨⟨h.below.os, h.below.tape, h.below.output, h.below.size, h.below.block⟩, h.dom, h.obj, h.own, h.inj, h.lt, h.live, h.gs⟩
theorem entry_sound (h : HR w0 G μ H w) {x : AV} {xv : Value} (hx : VR μ x xv)
    (hr : ∀ v w', (Instr.entry xv).run P w = .ok v w' → r = .ok (.value v) w') : XR P w0 G μ H.size (entryA x H) r := by
  unfold entryA
  split
  · rename_i b
    obtain ⟨L, hL, rfl⟩ := hx.ptr_inv
    split
    · rename_i m since seen stepped hg
      obtain ⟨o, ho, hor⟩ := h.obj b L hL (by rw [hg]; intro h; cases h)
      rw [hg] at hor
      obtain ⟨h0, m', rfl, K, hK, rfl⟩ := hor
      rw [h0, Nat.add_zero] at hr
      split
      · rename_i stamp es clock hst hgm
        obtain ⟨o2, ho2, hor2⟩ := h.obj m K hK (by rw [hgm]; intro h; cases h)
        rw [hgm] at hor2
        obtain ⟨cs, rfl, her⟩ := hor2
        refine XR.cond (fun hc => ?_) (fun _ => trivial)
        rw [Nat.beq_eq] at hc
        subst hc
        split
        · rename_i e hf
          have hfind : ∀ (es : List (AV × AV × Nat)) (cs : List MapEntry), ER μ es cs → es.find? (fun e => Nat.beq e.2.2 stamp) = some e → ∃ c, cs.find? (fun c => c.born == stamp) = some c ∧ VR μ e.1 c.key ∧ VR μ e.2.1 c.val := by
            intro es
            induction es with
            | nil => intro cs _ h; cases h
            | cons y ys ih =>
              intro cs her h
              cases cs with
              | nil => have := her.1; simp at this
              | cons c cs =>
                obtain ⟨h0, h1⟩ := her.cons_inv
                rw [List.find?_cons] at h ⊢
                have hq : (c.born == stamp) = Nat.beq y.2.2 stamp := by rw [← h0.2.2]; rw [Bool.eq_iff_iff, beq_iff_eq, Nat.beq_eq]
                rw [hq]
                cases hb : Nat.beq y.2.2 stamp with
                | true =>
                  rw [hb] at h
                  simp only [Option.some.injEq] at h
                  subst h
                  exact ⟨c, rfl, h0.1, h0.2.1⟩
                | false =>
                  rw [hb] at h
                  exact ih cs h1 h
          obtain ⟨c, hcf, k1, k2⟩ := hfind es cs.toList her hf
          refine XR.value h (.tuple _ #[c.key, c.val] (.mk2 k1 k2)) (hr _ _ ?_)
          unfold Instr.entry
          have hb : seen.toArray.back? = some stamp := by rw [List.back?_toArray]; exact hst
          have hcf' : cs.find? (fun c => c.born == stamp) = some c := by rw [← Array.find?_toList]; exact hcf
          simp only [Sem.run_bind, run_getObj_at ho, run_getObj_at ho2, Result.andThen_ok, hb, hcf', Sem.run_pure]
          simp
        · trivial
      · trivial
    · trivial
  · trivial
theorem next_sound (h : HR w0 G μ H w) (t : TypeId) (s : Bool) {x : AV} {xv : Value} (hx : VR μ x xv)
    (hr : ∀ v w', (Instr.next xv s t).run P w = .ok v w' → r = .ok (.value v) w') : XR P w0 G μ H.size (nextA G x s H) r := by
  unfold nextA
  split
  · rename_i b
    obtain ⟨L, hL, rfl⟩ := hx.ptr_inv
    refine XR.cond (fun hG => ?_) (fun _ => trivial)
    rw [Nat.ble_eq] at hG
    split
    · rename_i n N pos hg
      obtain ⟨o, ho, hor⟩ := h.obj b L hL (by rw [hg]; intro h; cases h)
      rw [hg] at hor
      obtain ⟨h0, str, rfl, hs⟩ := hor
      rw [h0, Nat.add_zero] at hr
      have hsz : str.size = n := hs.1
      refine XR.cond (fun hp => ?_) (fun hp => ?_)
      · rw [Nat.blt_eq] at hp
        dsimp only
        refine XR.cond (fun hb => ?_) (fun _ => trivial)
        rw [Nat.blt_eq] at hb
        rw [fNat_eq, fNat_eq, setK_eq]
        have hrun : (Instr.next (.pointer (some ⟨L.blk, 0, none⟩)) true t).run P w = .ok (.tuple #[.bool true, goInt pos, .int .i32 (byteAt N pos)]) { w with heap := w.heap.setIfInBounds L.blk (.stringIter str (pos + 1)) } := by
          unfold Instr.next
          simp only [Sem.run_bind, run_getObj_at ho, Result.andThen_ok, hsz, hp, if_true, decode_low hs hp hb, run_setIter _ ho, Sem.run_pure]
        refine XR.new ⟨h.set hL hG (by rw [hg]; intro e; cases e) (apart_set w L.blk _) (get_setIf ho) ⟨h0, str, rfl, hs⟩, μ.lx_refl _⟩ (.tuple _ #[.bool true, goInt pos, .int .i32 (byteAt N pos)] ?_) (hr _ _ hrun)
        exact .cons _ _ _ _ (.bool true) (.mk2 (.int _ _) (.int _ _))
      · rw [← Bool.not_eq_true, Nat.blt_eq] at hp
        refine XR.value h (.tuple [.bool false] #[.bool false] (.mk1 (.bool false))) (hr _ _ ?_)
        unfold Instr.next
        simp only [Sem.run_bind, run_getObj_at ho, Result.andThen_ok, hsz, hp, if_false, Sem.run_pure]
    · rename_i a c d hg
      obtain ⟨o, ho, hor⟩ := h.obj b L hL (by rw [hg]; intro h; cases h)
      rw [hg] at hor
      obtain ⟨h0, m', rfl, hm⟩ := hor
      have hm : m' = none := hm
      subst hm
      rw [h0, Nat.add_zero] at hr
      refine XR.value h (.tuple [.bool false] #[.bool false] (.mk1 (.bool false))) (hr _ _ ?_)
      unfold Instr.next
      simp only [Sem.run_bind, run_getObj_at ho, Result.andThen_ok, Sem.run_pure]
    · rename_i m since seen last hg
      obtain ⟨o, ho, hor⟩ := h.obj b L hL (by rw [hg]; intro h; cases h)
      rw [hg] at hor
      obtain ⟨h0, m', rfl, K, hK, rfl⟩ := hor
      rw [h0, Nat.add_zero] at hr
      split
      · rename_i es clock hgm
        obtain ⟨o2, ho2, hor2⟩ := h.obj m K hK (by rw [hgm]; intro h; cases h)
        rw [hgm] at hor2
        obtain ⟨cs, rfl, her⟩ := hor2
        refine XR.cond (fun _ => trivial) (fun hall => ?_)
        dsimp only
        have e1 : (es.all fun e => Nat.ble last e.2.2) = cs.all (fun c => decide (c.born ≥ last)) := by
          rw [her.all (fun n => Nat.ble last n), ← Array.all_toList]
          congr 1; funext c
          rw [Bool.eq_iff_iff, Nat.ble_eq, decide_eq_true_iff]
        have e2 : es.isEmpty = cs.isEmpty := by
          have h1 : es.length = cs.size := her.1
          rw [Array.isEmpty, Bool.eq_iff_iff, List.isEmpty_iff_length_eq_zero, decide_eq_true_iff, h1]
        have e3 : (!seen.toArray.isEmpty && !cs.isEmpty && cs.all (fun c => decide (c.born ≥ last))) = false := by
          rw [← e1, ← e2, ← hall]; simp
        have hleft := her.filter (fun n => !(seen.contains n))
        have hold := hleft.filter (fun n => Nat.blt n since)
        have hnew := hleft.filter (fun n => !(Nat.blt n since))
        have c1 : (cs.filter fun c => !seen.toArray.contains c.born).filter (fun c => decide (c.born < since)) = ((cs.toList.filter fun c => !(seen.contains c.born)).filter fun c => Nat.blt c.born since).toArray := by
          apply Array.ext'
          simp only [Array.toList_filter]
          congr 1
          · funext c; rw [Bool.eq_iff_iff, Nat.blt_eq, decide_eq_true_iff]
          · congr 1; funext c; simp
        have c2 : (cs.filter fun c => !seen.toArray.contains c.born).filter (fun c => decide (c.born ≥ since)) = ((cs.toList.filter fun c => !(seen.contains c.born)).filter fun c => !(Nat.blt c.born since)).toArray := by
          apply Array.ext'
          simp only [Array.toList_filter]
          congr 1
          · funext c; rw [Bool.eq_iff_iff, Bool.not_eq_true', ← Bool.not_eq_true, Nat.blt_eq, decide_eq_true_iff]; omega
          · congr 1; funext c; simp
        split
        · rename_i ho' hn'
          rw [ho'] at hold
          rw [hn'] at hnew
          have d1 := List.eq_nil_of_length_eq_zero hold.1.symm
          have d2 := List.eq_nil_of_length_eq_zero hnew.1.symm
          refine XR.value h (.tuple [.bool false] #[.bool false] (.mk1 (.bool false))) (hr _ _ ?_)
          unfold Instr.next
          simp only [Sem.run_bind, run_getObj_at ho, run_getObj_at ho2, Result.andThen_ok, e3, Bool.false_eq_true, if_false, c1, c2, d1, d2, run_choose, Question.forced]
          simp
        · rename_i e l ho' hn'
          rw [ho'] at hold
          rw [hn'] at hnew
          have d2 := List.eq_nil_of_length_eq_zero hnew.1.symm
          generalize hD : ((cs.toList.filter fun c => !(seen.contains c.born)).filter fun c => Nat.blt c.born since) = D at hold c1
          have hlen : l.length + 1 = D.length := hold.1
          obtain ⟨j, n, hj, hch⟩ : ∃ j n, j < D.length ∧ (choose (.mapNext D.length)).run P w = .ok j { w with drawn := n } := by
            rw [run_choose]
            by_cases hq : (Question.mapNext D.length).forced = true
            · exact ⟨0, w.drawn, by omega, by rw [if_pos hq]⟩
            · exact ⟨(Question.mapNext D.length).cut (w.tape w.drawn (.mapNext D.length)), w.drawn + 1, by show _ % D.length < D.length; exact Nat.mod_lt _ (by omega), by rw [if_neg hq]⟩
          have hDj : D[j]? = some D[j] := List.getElem?_eq_getElem hj
          obtain ⟨e', he'⟩ : ∃ e', (e :: l)[j]? = some e' := ⟨_, List.getElem?_eq_getElem (by simp; omega)⟩
          obtain ⟨k1, k2, k3⟩ := hold.2 j e' D[j] he' hDj
          have hcand : (if D.toArray.isEmpty = true then #[(none : Option MapEntry)] else #[]) ++ (D.toArray ++ ([] : List MapEntry).toArray).map some = (D.map some).toArray := by
            cases D with
            | nil => simp at hlen
            | cons c D => simp
          have hh1 : HR w0 G μ H { w with drawn := n } := h.redrawn n
          have hrun : (Instr.next (.pointer (some ⟨L.blk, 0, none⟩)) false t).run P w = .ok (.tuple #[.bool true, D[j].key, D[j].val]) { w with drawn := n, heap := w.heap.setIfInBounds L.blk (.mapIter (some K.blk) since (seen.toArray.push D[j].born) clock) } := by
            unfold Instr.next
            simp only [Sem.run_bind, run_getObj_at ho, run_getObj_at ho2, Result.andThen_ok, e3, Bool.false_eq_true, if_false, c1, c2, d2]
            rw [hcand]
            have hsz : (D.map some).toArray.size = D.length := by simp
            rw [hsz, hch]
            have hget : (D.map some).toArray[j]? = some (some D[j]) := by simp [hDj]
            simp only [Result.andThen_ok, hget]
            have ho1 : ({ w with drawn := n } : World).heap[L.blk]? = some (.mapIter (some K.blk) since seen.toArray last) := ho
            simp only [Sem.run_bind, run_setMapIter _ ho1, Result.andThen_ok, Sem.run_pure]
          refine XR.forkL e l ⟨e', List.mem_of_getElem? he', ?_⟩
          rw [setK_eq]
          refine XR.new ⟨hh1.set hL hG (by rw [hg]; intro e; cases e) (apart_set { w with drawn := n } L.blk _) (get_setIf (w := { w with drawn := n }) ho) ⟨h0, some K.blk, ?_, K, hK, rfl⟩, μ.lx_refl _⟩ (.tuple _ #[.bool true, D[j].key, D[j].val] ?_) (hr _ _ hrun)
          · rw [← k3]; simp
          · exact .cons _ _ _ _ (.bool true) (.mk2 k1 k2)
        · trivial
      · trivial
    · trivial
  · trivial
end
end Go.Proofs.YtabllhhainepgaaGreatDoor.Ab
/-
  The abstract machine: each operation.
-/
namespace Go.Proofs.YtabllhhainepgaaGreatDoor.Ab
open Go.RowKit

section
variable {P : Program} {w0 w : World} {G : Nat} {μ : Mu} {H : AH} {r : Result Next}
theorem builtin_sound (h : HR w0 G μ H w) (b : Builtin) (types : Array TypeId) (ty : TypeId) (cs : Array Bool) {args : List AV} {cargs : Array Value} (ha : LR μ args cargs.toList) : XR P w0 G μ H.size (builtinA P G b types.toList args H) ((builtin b types ty cs cargs).run P w) := by
  have two : ∀ {s x : AV}, LR μ [s, x] cargs.toList → ∃ sv xv, cargs = #[sv, xv] ∧ VR μ s sv ∧ VR μ x xv := fun hl => by
    obtain ⟨sv, xv, he, h1, h2⟩ := hl.two
    exact ⟨sv, xv, by apply Array.ext'; rw [he], h1, h2⟩
  have one : ∀ {s : AV}, LR μ [s] cargs.toList → ∃ sv, cargs = #[sv] ∧ VR μ s sv := fun hl => by
    obtain ⟨sv, he, h1⟩ := hl.one
    exact ⟨sv, by apply Array.ext'; rw [he], h1⟩
  generalize hts : types.toList = tl
  cases b with
  | append =>
    match tl, args, hts, ha with
    | t :: t2 :: ts, [s, x], hts, ha =>
      obtain ⟨sv, xv, rfl, h1, h2⟩ := two ha
      exact append_sound h hts h1 h2 ty fun v w' hv => run_v hv
    | [], _, _, _ => exact trivial
    | [_], _, _, _ => exact trivial
    | _ :: _ :: _, [], _, _ => exact trivial
    | _ :: _ :: _, [_], _, _ => exact trivial
    | _ :: _ :: _, _ :: _ :: _ :: _, _, _ => exact trivial
  | copy =>
    match tl, args, hts, ha with
    | t :: ts, [s, x], hts, ha =>
      obtain ⟨sv, xv, rfl, h1, h2⟩ := two ha
      exact copy_sound h hts h1 h2 ty fun v w' hv => run_v hv
    | [], _, _, _ => exact trivial
    | _ :: _, [], _, _ => exact trivial
    | _ :: _, [_], _, _ => exact trivial
    | _ :: _, _ :: _ :: _ :: _, _, _ => exact trivial
  | len =>
    match tl, args, hts, ha with
    | t :: ts, [x], hts, ha =>
      obtain ⟨xv, rfl, h1⟩ := one ha
      exact len_sound h hts h1 ty fun v w' hv => run_v hv
    | [], _, _, _ => exact trivial
    | _ :: _, [], _, _ => exact trivial
    | _ :: _, _ :: _ :: _, _, _ => exact trivial
  | cap =>
    match tl, args, hts, ha with
    | t :: ts, [x], hts, ha =>
      obtain ⟨xv, rfl, h1⟩ := one ha
      have e0 : types[0]? = some t := by rw [← Array.getElem?_toList, hts]; rfl
      show XR P w0 G μ H.size (match (generalizing := false) P.underlying t, x with | some (.slice _), .nils => _ | some (.slice _), .slice _ _ _ c false => _ | some (.array n _), _ => _ | _, _ => _) _
      split
      · cases h1
        exact XR.value h (.int _ _) (run_v (by
          unfold Builtin.cap_
          simp only [e0, List.getElem?_toArray, List.getElem?_cons_zero, Sem.run_bind, run_underlying (by assumption), Result.andThen_ok, Sem.run_pure]; rfl))
      · obtain ⟨L, hL, rfl⟩ := h1.slice_inv
        exact XR.value h (.int _ _) (run_v (by
          unfold Builtin.cap_
          simp only [e0, List.getElem?_toArray, List.getElem?_cons_zero, Sem.run_bind, run_underlying (by assumption), Result.andThen_ok, Sem.run_pure]; rfl))
      · exact XR.value h (.int _ _) (run_v (by
          unfold Builtin.cap_
          simp only [e0, List.getElem?_toArray, List.getElem?_cons_zero, Sem.run_bind, run_underlying (by assumption), Result.andThen_ok, Sem.run_pure]; rfl))
      · trivial
    | [], _, _, _ => exact trivial
    | _ :: _, [], _, _ => exact trivial
    | _ :: _, _ :: _ :: _, _, _ => exact trivial
  | min =>
    refine XR.rOpt h fun v hv => ?_
    cases args with
    | nil => cases hv
    | cons a l =>
      cases a with
      | int k x =>
        generalize hc : cargs.toList = cl at ha
        cases ha with | cons _ u _ m hu hl =>
        obtain ⟨y, rfl, hy⟩ := mins_sound (P := P) (w := w) false k l m x v hl hv
        have := hu.int_inv
        subst this
        refine ⟨_, .int k y, run_v ?_⟩
        unfold Builtin.min_
        rw [hc]; exact hy
      | _ => cases hv
  | max =>
    refine XR.rOpt h fun v hv => ?_
    cases args with
    | nil => cases hv
    | cons a l =>
      cases a with
      | int k x =>
        generalize hc : cargs.toList = cl at ha
        cases ha with | cons _ u _ m hu hl =>
        obtain ⟨y, rfl, hy⟩ := mins_sound (P := P) (w := w) true k l m x v hl hv
        have := hu.int_inv
        subst this
        refine ⟨_, .int k y, run_v ?_⟩
        unfold Builtin.max_
        rw [hc]; exact hy
      | _ => cases hv
  | delete =>
    match tl, args, hts, ha with
    | t :: ts, [s, x], hts, ha =>
      obtain ⟨sv, xv, rfl, h1, h2⟩ := two ha
      exact delete_sound h hts h1 h2 ty fun v w' hv => run_v hv
    | [], _, _, _ => exact trivial
    | _ :: _, [], _, _ => exact trivial
    | _ :: _, [_], _, _ => exact trivial
    | _ :: _, _ :: _ :: _ :: _, _, _ => exact trivial
  | clear =>
    match tl, args, hts, ha with
    | t :: ts, [x], hts, ha =>
      obtain ⟨xv, rfl, h1⟩ := one ha
      exact clear_sound h hts h1 ty fun v w' hv => run_v hv
    | [], _, _, _ => exact trivial
    | _ :: _, [], _, _ => exact trivial
    | _ :: _, _ :: _ :: _, _, _ => exact trivial
  | _ => exact trivial
theorem nilAhead_sound (h : HR w0 G μ H w) {t : TypeId} {v : AV} {vv : Value} (hv : VR μ v vv) {name : String} (ha : aheadB P t v name = true) (n : Nat) : (nilAhead (n + 1) t vv name).run P w = .ok (some false) w := by
  unfold aheadB at ha
  cases hi : P.info? t with
  | none => rw [hi] at ha; cases ha
  | some i =>
    rw [hi] at ha
    simp only [] at ha
    cases hf : i.methods.find? (·.name == name) with
    | none => rw [hf] at ha; cases ha
    | some m =>
      rw [hf] at ha
      simp only [] at ha
      cases hp : m.path.toList with
      | cons a l => rw [hp] at ha; cases ha
      | nil =>
        rw [hp] at ha
        cases hmf : m.func with
        | none => rw [hmf] at ha; cases ha
        | some q =>
          obtain ⟨g, ptr⟩ := q
          rw [hmf] at ha
          cases ptr with
          | true =>
            unfold nilAhead
            simp only [Sem.run_bind, typeInfo, run_program, hi, Result.andThen_ok, Sem.run_pure, hf, hp, followBlind, hmf]
          | false =>
            unfold nilAhead
            simp only [Sem.run_bind, typeInfo, run_program, hi, Result.andThen_ok, Sem.run_pure, hf, hp, followBlind, hmf]
            simp only [] at ha
            cases hu : P.underlying t with
            | none => rw [hu] at ha; simp at ha
            | some u =>
              rw [run_underlying hu, Result.andThen_ok]
              rw [hu] at ha
              cases u <;> first | rfl | skip
              cases v <;> first | (simp at ha; done) | skip
              obtain ⟨L, hL, rfl⟩ := hv.ptr_inv
              rfl
theorem invoke_sound (h : HR w0 G μ H w) {x : AV} {xv : Value} (hx : VR μ x xv) {name : String} {args : List AV} {cargs : Array Value} (ha : LR μ args cargs.toList) : XR P w0 G μ H.size (invokeV P x name args H) ((callMethod xv name cargs).run P w) := by
  unfold invokeV
  split
  · rename_i t v
    obtain ⟨vv, rfl, hv⟩ := hx.iface_inv
    split
    · rename_i f recv hm
      obtain ⟨u, hu1, hu2⟩ := method_sound h hv hm (P.types.size + 99)
      have hc := callA_sound (P := P) h (f := f) (args := recv :: args) (cargs := #[u] ++ cargs) (by simpa using .cons _ _ _ _ hu2 ha)
      refine XR.congr hc ?_
      unfold callMethod
      simp only [Sem.run_bind, run_program, Result.andThen_ok]
      rw [show P.types.size + Made.depth = P.types.size + 99 + 1 from rfl, hu1, Result.andThen_ok]
    · trivial
  · trivial
theorem yield_sound (h : HR w0 G μ H w) {l : Nat} {L : Loc} (hL : μ l = some L) {args : List AV} {cargs : Array Value} (ha : LR μ args cargs.toList) : XR P w0 G μ H.size (.round l args H) ((Instr.yield L.blk cargs).run P w) := by
  refine ⟨L, cargs, w, hL, ha, h, fun lo hlo hsz => ?_⟩
  unfold Instr.yield Instr.getLoop
  simp only [Sem.run_bind, run_getObj_at hlo, Result.andThen_ok, Sem.run_pure, hsz, ne_eq, not_true_eq_false, if_false]
theorem callV_sound (h : HR w0 G μ H w) {x : AV} {xv : Value} (hx : VR μ x xv) {args : List AV} {cargs : Array Value} (ha : LR μ args cargs.toList) : XR P w0 G μ H.size (callV P x args H) ((do let d ← Deferred.ofValue xv cargs; invoke d.target d.args : Sem Next).run P w) := by
  unfold callV
  split
  · obtain ⟨x, y, rfl, h1, h2⟩ := hx.func_inv
    refine XR.congr (callA_sound (P := P) h (cargs := x ++ cargs ++ y) (by simpa using h1.append (ha.append h2))) ?_
    simp only [Deferred.ofValue, Sem.run_bind, Sem.run_pure, Result.andThen_ok, invoke]
  · obtain ⟨L, hL, rfl⟩ := hx.yield_inv
    refine XR.congr (yield_sound h hL ha) ?_
    simp only [Deferred.ofValue, Sem.run_bind, Sem.run_pure, Result.andThen_ok, invoke]
    simp
  · trivial
theorem evs_sound {tm : TM} {ρ : Operand → Value} (hρ : ∀ x, VR μ (ev tm x) (ρ x)) : ∀ l : List Operand, LR μ (evs tm l) (l.map ρ)
  | [] => .nil
  | x :: l => .cons _ _ _ _ (hρ x) (evs_sound hρ l)
theorem evsArr_sound {tm : TM} {ρ : Operand → Value} (hρ : ∀ x, VR μ (ev tm x) (ρ x)) (l : Array Operand) : LR μ (evs tm l.toList) (l.map ρ).toList := by rw [Array.toList_map]; exact evs_sound hρ _
theorem evsParts_sound {tm : TM} {ρ : Operand → Value} (hρ : ∀ x, VR μ (ev tm x) (ρ x)) : ∀ l : List (Nat × Operand), (evsParts tm l).length = l.length ∧ ∀ (i : Nat) (p : Nat × AV) (c : Nat × Operand), (evsParts tm l)[i]? = some p → l[i]? = some c → p.1 = c.1 ∧ VR μ p.2 (ρ c.2)
  | [] => ⟨rfl, fun i p c h => by simp [evsParts] at h⟩
  | x :: l => by
    obtain ⟨h1, h2⟩ := evsParts_sound hρ l
    refine ⟨by show ((x.1, ev tm x.2) :: evsParts tm l).length = _; simp [h1], fun i p c hp hc => ?_⟩
    cases i with
    | zero =>
      have hp : some (x.1, ev tm x.2) = some p := hp
      simp only [List.getElem?_cons_zero, Option.some.injEq] at hc
      cases hp; cases hc
      exact ⟨rfl, hρ _⟩
    | succ i => exact h2 i p c hp (by simpa using hc)
theorem evO_sound {tm : TM} {ρ : Operand → Value} (hρ : ∀ x, VR μ (ev tm x) (ρ x)) (o : Option Operand) : OVR μ (o.map (ev tm)) (o.map ρ) := by
  cases o with
  | none => trivial
  | some x => exact hρ x
theorem moveX_sound (h : HR w0 G μ H w) {x : AV} {xv : Value} (hx : VR μ x xv) : XR P w0 G μ H.size (moveX x H) ((pure (Next.value xv) : Sem Next).run P w) :=
  XR.onJunk (fun _ => XR.value h (.junk _) rfl) (XR.value h hx rfl)
theorem callX_sound (h : HR w0 G μ H w) {tm : TM} {ρ : Operand → Value} (hρ : ∀ x, VR μ (ev tm x) (ρ x)) (c : Call) (ty : TypeId) : XR P w0 G μ H.size (callX c P G tm H) ((do let d ← resolve ρ c ty; invoke d.target d.args : Sem Next).run P w) := by
  have ha := evsArr_sound hρ c.args
  unfold callX
  cases hc : c.callee with
  | value f =>
    refine XR.congr (callV_sound h (hρ f) ha) ?_
    simp only [resolve, hc]
  | invoke x name =>
    refine XR.congr (invoke_sound h (hρ x) (name := name) ha) ?_
    simp only [resolve, hc, Sem.run_bind, Sem.run_pure, Result.andThen_ok, invoke]
    have e1 : (#[ρ x] ++ c.args.map ρ)[0]? = some (ρ x) := by rw [Array.getElem?_append_left (by simp)]; rfl
    have e2 : (#[ρ x] ++ c.args.map ρ).extract 1 (#[ρ x] ++ c.args.map ρ).size = c.args.map ρ := by
      apply Array.ext'; simp; rw [List.take_of_length_le (by simp)]
    rw [e1, e2]
  | builtin b =>
    unfold resolve
    rw [hc]
    simp only [Sem.run_bind, Sem.run_pure, Result.andThen_ok, invoke]
    exact builtin_sound h b c.argTypes ty _ ha
theorem buildSliceOp (h : HR w0 G μ H w) {tm : TM} {ρ : Operand → Value} (hρ : ∀ x, VR μ (ev tm x) (ρ x)) (t : TypeId) (n : Nat) (ps : Array (Nat × Operand)) (f : Nat × Operand → Nat × Value) (hf : ∀ p, f p = (p.1, ρ p.2)) :
    XR P w0 G μ H.size (buildSliceA P t n (evsParts tm ps.toList) H) ((do pure (Next.value (← Instr.buildSlice t n (ps.map f))) : Sem Next).run P w) := by
  obtain ⟨h1, h2⟩ := evsParts_sound hρ ps.toList
  exact buildSlice_sound h (by simpa using h1) (fun i p c hp hc => by
    rw [Array.toList_map, List.getElem?_map] at hc
    cases hq : ps.toList[i]? with
    | none => rw [hq] at hc; cases hc
    | some q =>
      rw [hq] at hc
      simp only [Option.map_some, Option.some.injEq] at hc
      subst hc
      rw [hf]
      exact h2 i p q hp hq) fun v w' hv => run_v hv
theorem opA_sound (h : HR w0 G μ H w) {tm : TM} {ρ : Operand → Value} (hρ : ∀ x, VR μ (ev tm x) (ρ x)) (o : Oper) : XR P w0 G μ H.size (opA P G o tm H) ((execOp ρ o).run P w) := by
  unfold opA execOp
  cases hop : o.op with
  | move x => exact moveX_sound h (hρ x)
  | assign x => exact moveX_sound h (hρ x)
  | pick c a b =>
    refine XR.onBool (fun t ht => ?_) trivial
    have hc := hρ c
    rw [ht] at hc
    have hc := hc.bool_inv
    cases t
    · refine XR.congr (moveX_sound h (hρ b)) ?_
      simp only [hc, asBool, Sem.run_bind, Sem.run_pure, Result.andThen_ok, Bool.false_eq_true, if_false]
    · refine XR.congr (moveX_sound h (hρ a)) ?_
      simp only [hc, asBool, Sem.run_bind, Sem.run_pure, Result.andThen_ok, if_true]
  | alloc t =>
    refine XR.onOV (fun z hz => ?_) trivial
    obtain ⟨zv, h1, h2⟩ := run_zero (w := w) hz
    refine newVar_sound h (by rw [← h2]; exact VR.ofConst μ zv) (run_v ?_)
    simp only [Instr.alloc, Sem.run_bind, h1, Result.andThen_ok, newVar, run_newRow, Sem.run_pure]
  | box t x =>
    refine newVar_sound h (hρ x) (run_v ?_)
    simp only [Instr.box, newVar, Sem.run_bind, run_newRow, Result.andThen_ok, Sem.run_pure]
  | build t ps =>
    obtain ⟨h1, h2⟩ := evsParts_sound hρ ps.toList
    exact build_sound h (cs := ps.map fun (i, x) => (i, ρ x)) (by simpa using h1) (fun i p c hp hc => by
      simp only [Array.toList_map, List.getElem?_map] at hc
      cases hq : ps.toList[i]? with
      | none => rw [hq] at hc; cases hc
      | some q =>
        rw [hq] at hc
        simp only [Option.map_some, Option.some.injEq] at hc
        subst hc
        exact h2 i p q hp hq) fun v hv => run_v hv
  | buildSlice t n ps => exact buildSliceOp h hρ t n ps _ (fun _ => rfl)
  | load t a =>
    refine XR.onPtr (fun b off hp => ?_) trivial
    have ha := hρ a
    rw [hp] at ha
    obtain ⟨L, hL, hv⟩ := ha.ptr_inv
    refine loadX_sound h hL fun v hl => run_v ?_
    simp only [Instr.loadAt, hv, Instr.sureAddr, asAddr, Sem.run_bind, Sem.run_pure, Result.andThen_ok, hl]
  | store t a x =>
    refine XR.onPtr (fun b off hp => ?_) trivial
    have ha := hρ a
    rw [hp] at ha
    obtain ⟨L, hL, hv⟩ := ha.ptr_inv
    refine storeX_sound h hL (hρ x) fun w' hl => run_u ?_
    simp only [Instr.storeAt, hv, Instr.sureAddr, asAddr, Sem.run_bind, Sem.run_pure, Result.andThen_ok, hl]
  | nilCheck x =>
    have hx := hρ x
    refine XR.onPtr (fun b off hp => ?_) ?_
    · rw [hp] at hx
      obtain ⟨L, hL, hv⟩ := hx.ptr_inv
      simp only [hv]
      exact XR.value h (.ptr b off L hL) rfl
    · unfold nilSlow
      split
      · rename_i f a b he
        rw [he] at hx
        obtain ⟨y, z, hv, h1, h2⟩ := hx.func_inv
        simp only [hv]
        exact XR.value h (.func _ _ _ _ _ h1 h2) rfl
      · rename_i l he
        rw [he] at hx
        obtain ⟨L, hL, hv⟩ := hx.yield_inv
        simp only [hv]
        exact XR.value h (.yield _ _ hL) rfl
      · rename_i t v he
        rw [he] at hx
        obtain ⟨u, hv, h1⟩ := hx.iface_inv
        simp only [hv]
        exact XR.value h (.iface _ _ _ h1) rfl
      · rename_i name t v he
        rw [he] at hx
        obtain ⟨u, y, hv, h1⟩ := hx.meth_inv
        obtain ⟨vv, rfl, h2⟩ := h1.iface_inv
        refine XR.cond (fun ha => ?_) (fun _ => trivial)
        simp only [hv]
        refine XR.value h (.meth name _ _ y h1) ?_
        have := nilAhead_sound (P := P) h h2 ha (P.types.size + 99)
        simp only [List.getElem?_toArray, List.getElem?_cons_zero, Sem.run_bind, run_program, Result.andThen_ok]
        rw [show P.types.size + Made.depth = P.types.size + 99 + 1 from rfl, this, Result.andThen_ok]
        simp
      · trivial
  | binOp op t x y g => exact bin_sound h op t x y (hρ x) (hρ y) fun v w' hv => run_v hv
  | unOp op t x => exact un_sound h op (hρ x) fun v w' hv => run_v hv
  | convert s d x =>
    refine XR.onInt (fun k n hk => XR.onK (fun k' hkk => ?_) ?_) (conv_sound h (hρ x) fun v w' hv => run_v hv)
    · have hx := hρ x
      rw [hk] at hx
      have hx := hx.int_inv
      unfold convKind at hkk
      split at hkk
      · rename_i ss k2 hs hd
        simp only [Option.some.injEq] at hkk
        subst hkk
        refine XR.rInt h (m := k2.wrap n) (wrapZ_eq _ _) (run_v ?_)
        unfold convert
        simp only [Sem.run_bind, run_underlying hs, run_underlying hd, Result.andThen_ok, hx, Conv.intToInt, Sem.run_pure]
      · cases hkk
    · exact conv_sound h (by have := hρ x; rw [hk] at this; exact this) fun v w' hv => run_v hv
  | makeInterface t x => exact makeIface_sound h t (hρ x) fun v w' hv => run_v hv
  | makeFunc fn a b => exact makeFunc_sound h fn (evsArr_sound hρ a) (evsArr_sound hρ b) fun v w' hv => run_v hv
  | makeMap t r => exact makeMap_sound h t (evO_sound hρ r) fun v w' hv => run_v hv
  | makeSlice t l c => exact makeSlice_sound h (hρ l) (hρ c) fun v w' hv => run_v hv
  | slice t x lo hi mx => exact slice_sound h (hρ x) (evO_sound hρ lo) (evO_sound hρ hi) (evO_sound hρ mx) fun v hv => run_v hv
  | fieldAddr s x f => exact fieldAddr_sound h (hρ x) fun v hv => run_v hv
  | field t x f => exact field_sound h (hρ x) fun v hv => run_v hv
  | indexAddr t x i => exact indexAddr_sound h (hρ x) (hρ i) fun v hv => run_v hv
  | index t x i => exact index_sound h (hρ x) (hρ i) fun v hv => run_v hv
  | lookup t x k ok => exact lookup_sound h t (hρ x) (hρ k) ok fun v w' hv => run_v hv
  | insert t m k x => exact mapUpdate_sound h t (hρ m) (hρ k) (hρ x) fun w' hv => run_u hv
  | mapUpdate t m k x => exact mapUpdate_sound h t (hρ m) (hρ k) (hρ x) fun w' hv => run_u hv
  | mapEntry t m k => exact mapEntry_sound h t (hρ m) (hρ k) fun v w' hv => run_v hv
  | entryStore t m s x => exact entryStore_sound h t (hρ m) (hρ s) (hρ x) fun w' hv => run_u hv
  | range t x => exact range_sound h t (hρ x) fun v w' hv => run_v hv
  | entry it => exact entry_sound h (hρ it) fun v w' hv => run_v hv
  | next it s => exact next_sound h o.type s (hρ it) fun v w' hv => run_v hv
  | typeAssert x xt t ok => exact typeAssert_sound h (hρ x) xt t ok fun v w' hv => run_v hv
  | extract x i => exact extract_sound h i (hρ x) fun v w' hv => run_v hv
  | call c => exact callX_sound h hρ c o.type
  | _ => exact trivial
end
end Go.Proofs.YtabllhhainepgaaGreatDoor.Ab
