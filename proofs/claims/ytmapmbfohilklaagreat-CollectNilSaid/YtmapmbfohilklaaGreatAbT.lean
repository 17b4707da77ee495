/-
  The abstract machine: the rest of the plain operations, calls.
-/
import Derived.Test.YtmapmbfohilklaaGreatAbS
namespace Go.Proofs.YtmapmbfohilklaaGreat.Ab
open Go.RowKit

section
variable {P : Program} {w0 w : World} {G : Nat} {μ : Mu} {H : AH} {r : Result Next}
theorem XR.transport {x : X} {s : Sem Value} (hX : XR P w0 G μ H.size x ((do pure (Next.value (← s)) : Sem Next).run P w)) (hr : ∀ v w', s.run P w = .ok v w' → r = .ok (.value v) w') : XR P w0 G μ H.size x r := by
  have key : ∀ n w', ((do pure (Next.value (← s)) : Sem Next).run P w) = .ok n w' → ∃ v, n = .value v ∧ r = .ok (.value v) w' := fun n w' h => by
    rw [Sem.run_bind] at h
    cases hs : s.run P w with
    | ok v w1 =>
      rw [hs] at h
      simp only [Result.andThen_ok, Sem.run_pure, Result.ok.injEq] at h
      obtain ⟨rfl, rfl⟩ := h
      exact ⟨v, rfl, hr v _ hs⟩
    | _ => rw [hs] at h; cases h
  cases x with
  | val v H' =>
    obtain ⟨μ', w', u, hc, h1, h2, h3⟩ := hX
    rcases hc with hc | ⟨hc, _⟩
    · obtain ⟨v', e, h4⟩ := key _ _ hc
      cases e
      exact ⟨μ', w', u, .inl h4, h1, h2, h3⟩
    · obtain ⟨v', e, _⟩ := key _ _ hc
      cases e
  | enter f args H' =>
    obtain ⟨cargs, w', hc, _⟩ := hX
    obtain ⟨v', e, _⟩ := key _ _ hc
    cases e
  | round l args H' =>
    obtain ⟨L, cargs, w', h1, h2, h3, h4⟩ := hX
    refine ⟨L, cargs, w', h1, h2, h3, fun lo hlo hsz => ?_⟩
    obtain ⟨v', e, _⟩ := key _ _ (h4 lo hlo hsz)
    cases e
  | _ => trivial
theorem un_sound (h : HR w0 G μ H w) (op : UnOp) {x : AV} {xv : Value} (hx : VR μ x xv)
    (hr : ∀ v w', (Op.unary op xv).run P w = .ok v w' → r = .ok (.value v) w') : XR P w0 G μ H.size (unA op x H) r := by
  unfold unA
  split
  · rename_i k n
    have hx := hx.int_inv
    subst hx
    exact XR.rInt h (m := k.wrap (0 - n)) (by rw [wrapA_eq, Int.zero_sub]; rfl) (hr _ _ (by simp [Op.unary, Op.intArith]))
  · rename_i k n
    have hx := hx.int_inv
    subst hx
    refine XR.cond (fun _ => trivial) (fun hk => XR.cond (fun hlt => ?_) (fun _ => trivial))
    rw [Nat.blt_eq, bitsN_eq] at hlt
    have hlt : n < 2 ^ k.bits := hlt
    have e : (k.wrap ((BitVec.ofInt k.bits k.max ^^^ BitVec.ofInt k.bits (n : Int)).toNat : Int)) = (Int.ofNat (2 ^ k.bits - 1 - n)) := by
      have hm : BitVec.ofInt k.bits k.max = BitVec.allOnes k.bits := by cases k <;> first | (simp [IntKind.signed] at hk; done) | decide
      rw [hm, BitVec.allOnes_xor, BitVec.toNat_not, bv_nat hlt]
      unfold IntKind.wrap
      simp only [hk, Bool.false_and, Bool.false_eq_true, if_false]
      rw [Int.ofNat_eq_natCast]
      have hp : (0 : Nat) < 2 ^ k.bits := Nat.pow_pos (by omega)
      have e2 : ((2 : Int) ^ k.bits) = ((2 ^ k.bits : Nat) : Int) := by simp
      rw [e2, ← Int.natCast_emod, Nat.mod_eq_of_lt (by omega)]
    exact XR.rInt h (m := k.wrap ((BitVec.ofInt k.bits k.max ^^^ BitVec.ofInt k.bits (n : Int)).toNat : Int)) (by rw [e, bitsN_eq]; rfl) (hr _ _ (by simp [Op.unary, Op.intBits, hk]))
  · rename_i b
    have hx := hx.bool_inv
    subst hx
    exact XR.rBool h rfl (hr _ _ rfl)
  · trivial
theorem eqA_junk_l (d : Nat) (t : TypeId) (y : AV) : eqA P H d t .junk y = none := by
  cases d with
  | zero => rfl
  | succ d => unfold eqA; cases P.underlying t with
    | none => rfl
    | some u => cases u <;> first | rfl | (cases y <;> rfl)
theorem eqA_junk_r (d : Nat) (t : TypeId) (x : AV) : eqA P H d t x .junk = none := by
  cases d with
  | zero => rfl
  | succ d => unfold eqA; cases P.underlying t with
    | none => rfl
    | some u => cases u <;> first | rfl | (cases x <;> rfl)
/-- A value of which nothing is known. -/
def Unk : AV → Prop
  | .junk | .any => True
  | _ => False
theorem eqA_unk_l (d : Nat) (t : TypeId) {x : AV} (hx : Unk x) (y : AV) : eqA P H d t x y = none := by
  cases x <;> first | (exact hx.elim) | skip
  · exact eqA_junk_l d t y
  · cases d with
    | zero => rfl
    | succ d => unfold eqA; cases P.underlying t with
      | none => rfl
      | some u => cases u <;> first | rfl | (cases y <;> rfl)
theorem eqA_unk_r (d : Nat) (t : TypeId) (x : AV) {y : AV} (hy : Unk y) : eqA P H d t x y = none := by
  cases y <;> first | (exact hy.elim) | skip
  · exact eqA_junk_r d t x
  · cases d with
    | zero => rfl
    | succ d => unfold eqA; cases P.underlying t with
      | none => rfl
      | some u => cases u <;> first | rfl | (cases x <;> rfl)
def Alike : Value → Value → Prop
  | .int .., .int .. | .float .., .float .. | .complex .., .complex .. | .string _, .string _ | .nilIface, .nilIface | .agg _, .agg _ => True
  | _, _ => False
theorem binOp_eql {t : TypeId} {a b : Value} (h : ¬ Alike a b) : binOp .eql t a b = (do pure (.bool (← Op.equal t a b))) := by
  cases a <;> first | rfl | (cases b <;> first | rfl | exact absurd trivial h)
theorem binOp_neq {t : TypeId} {a b : Value} (h : ¬ Alike a b) : binOp .neq t a b = (do pure (.bool (!(← Op.equal t a b)))) := by
  cases a <;> first | rfl | (cases b <;> first | rfl | exact absurd trivial h)
theorem eqGuard_apart {op : BinOp} {t : TypeId} {x y : Operand} {a b : Value} (h : ¬ Alike a b) : (eqGuard op t x y a b).run P w = .ok () w := by
  unfold eqGuard
  cases op <;> first | rfl | (cases a <;> first | rfl | (cases b <;> first | rfl | exact absurd trivial h))
theorem alike_not {a b : AV} {av bv : Value} (ha : VR μ a av) (hb : VR μ b bv) (ja : ¬ Unk a) (jb : ¬ Unk b) (h1 : ∀ k n k' n', a = .int k n → b = .int k' n' → False) (h2 : ∀ n N n' N', a = .str n N → b = .str n' N' → False) (h3 : a = .nili → b = .nili → False) (h4 : ∀ l l', a = .agg l → b = .agg l' → False) : ¬ Alike av bv := by
  intro hs
  cases av <;> cases bv <;> first | exact hs | (cases ha <;> first | exact absurd trivial ja | (cases hb <;> first | exact absurd trivial jb | exact h1 _ _ _ _ rfl rfl | exact h2 _ _ _ _ rfl rfl | exact h3 rfl rfl | exact h4 _ _ rfl rfl))
theorem binEq_sound (h : HR w0 G μ H w) (op : BinOp) (t : TypeId) (x y : Operand) {a b : AV} {av bv : Value} (ha : VR μ a av) (hb : VR μ b bv) {n m : Nat}
    (hg : ¬ Unk a → ¬ Unk b → (eqGuard op t x y av bv).run P w = .ok () w ∧ binOp .eql t av bv = (do pure (.bool (← Op.equal t av bv))) ∧ binOp .neq t av bv = (do pure (.bool (!(← Op.equal t av bv)))))
    (hr : ∀ v w', (do eqGuard op t x y av bv; binOp op t av bv : Sem Value).run P w = .ok v w' → r = .ok (.value v) w') :
    XR P w0 G μ H.size (match (generalizing := false) op with | .eql => rOptB (eqA P H 30 t a b) n H | .neq => rOptB ((eqA P H 30 t a b).map (!·)) n H | _ => .fail m) r := by
  have hj : eqA P H 30 t a b ≠ none → ¬ Unk a ∧ ¬ Unk b := fun hq => ⟨fun e => hq (eqA_unk_l _ _ e _), fun e => hq (eqA_unk_r _ _ _ e)⟩
  split
  · cases hq : eqA P H 30 t a b with
    | none => trivial
    | some c =>
      obtain ⟨g1, g2, g3⟩ := hg (hj (by rw [hq]; intro h; cases h)).1 (hj (by rw [hq]; intro h; cases h)).2
      have := eqA_sound (P := P) h 30 Op.maxDepth t a b av bv c (by decide) ha hb hq
      refine XR.rBool h rfl (hr _ _ ?_)
      rw [Sem.run_bind, g1, Result.andThen_ok, g2, Sem.run_bind]
      show ((Op.equalIn Op.maxDepth t av bv).run P w).andThen _ = _
      rw [this]; rfl
  · cases hq : eqA P H 30 t a b with
    | none => trivial
    | some c =>
      obtain ⟨g1, g2, g3⟩ := hg (hj (by rw [hq]; intro h; cases h)).1 (hj (by rw [hq]; intro h; cases h)).2
      have := eqA_sound (P := P) h 30 Op.maxDepth t a b av bv c (by decide) ha hb hq
      refine XR.rBool h (c := !c) rfl (hr _ _ ?_)
      rw [Sem.run_bind, g1, Result.andThen_ok, g3, Sem.run_bind]
      show ((Op.equalIn Op.maxDepth t av bv).run P w).andThen _ = _
      rw [this]; rfl
  · trivial
theorem bin_sound (h : HR w0 G μ H w) (op : BinOp) (t : TypeId) (x y : Operand) {a b : AV} {av bv : Value} (ha : VR μ a av) (hb : VR μ b bv)
    (hr : ∀ v w', (do eqGuard op t x y av bv; binOp op t av bv : Sem Value).run P w = .ok v w' → r = .ok (.value v) w') : XR P w0 G μ H.size (binA P op t x y a b H) r := by
  refine XR.onInt (fun k m hka => XR.onInt (fun k' n hkb => XR.onB (fun hc => ?_) (fun _ => trivial)) trivial) ?_
  · subst hka hkb
    have ha := ha.int_inv
    have hb := hb.int_inv
    subst ha hb
    rw [Bool.or_eq_true, Nat.beq_eq] at hc
    have := intOp_sound (P := P) h op t k k' m n (hc.imp_left kindCode_inj)
    refine XR.transport this fun v w' hv => hr v w' ?_
    rw [Sem.run_bind]
    have hg : (eqGuard op t x y (.int k m) (.int k' n)).run P w = .ok () w := by unfold eqGuard; cases op <;> rfl
    rw [hg, Result.andThen_ok]; exact hv
  · unfold binSlow
    split
    · trivial
    · obtain ⟨s, rfl, h1, h2⟩ := ha.str_inv
      obtain ⟨s', rfl, h1', h2'⟩ := hb.str_inv
      refine strOp_sound h op ⟨h1, h2⟩ ⟨h1', h2'⟩ fun v hv => hr v _ ?_
      have hg : (eqGuard op t x y (.string s) (.string s')).run P w = .ok () w := by unfold eqGuard; cases op <;> rfl
      rw [Sem.run_bind, hg, Result.andThen_ok]
      have e : binOp op t (.string s) (.string s') = Op.stringOp op s s' := by cases op <;> rfl
      rw [e]; exact hv
    · cases ha
      cases hb
      refine XR.cond (fun hc => ?_) (fun _ => trivial)
      refine binEq_sound h op t x y .nili .nili (fun _ _ => ⟨?_, rfl, rfl⟩) hr
      rw [Bool.or_eq_true] at hc
      unfold eqGuard
      cases op <;> first | rfl | (cases x <;> cases y <;> first | rfl | (simp [isConstB] at hc))
    · obtain ⟨xa, rfl, hl⟩ := ha.agg_inv
      obtain ⟨ya, rfl, hl'⟩ := hb.agg_inv
      refine XR.cond (fun _ => trivial) (fun hc => ?_)
      refine binEq_sound h op t x y ha hb (fun _ _ => ⟨?_, rfl, rfl⟩) hr
      unfold eqGuard
      cases op <;> first | rfl | simp [hc]
    · rename_i h1 h2 h3 h4
      exact binEq_sound h op t x y ha hb (fun ja jb => by
        have := alike_not ha hb ja jb (fun k n k' n' e e' => h1 _ _ _ _ e e') (fun _ _ _ _ e e' => h2 _ _ _ _ e e') h3 (fun _ _ e e' => h4 _ _ e e')
        exact ⟨eqGuard_apart this, binOp_eql this, binOp_neq this⟩) hr
/-- A variable read for a call's sake. -/
theorem loadA_sound (h : HR w0 G μ H w) {t : TypeId} {b off : Nat} {L : Loc} (hL : μ b = some L) {v : AV} (hv : loadA P t b off H = some v) : ∃ u, (loadVar t ⟨L.blk, L.base + off, none⟩).run P w = .ok u w ∧ VR μ v u := by
  unfold loadA at hv
  split at hv
  · rename_i ha
    split at hv
    · cases hv
    · rename_i x hj
      simp only [Option.some.injEq] at hv
      subst hv
      suffices hs : ∃ u, w.cell? ⟨L.blk, L.base + off, none⟩ = some u ∧ VR μ (cellAt (H.get b) off) u by
        obtain ⟨u, h1, h2⟩ := hs
        exact ⟨u, run_loadVar_cell ha h1, h2⟩
      cases hg : H.get b with
      | bytes n N e st =>
        rw [hg] at hj
        simp only [cellAt] at hj ⊢
        by_cases hlt : Nat.blt off n = true
        · rw [hlt]
          rw [Nat.blt_eq] at hlt
          obtain ⟨arr, fz, ho, _, _, hc, _⟩ := h.bytes hL hg
          exact ⟨_, by rw [cell_arr ho]; exact hc off hlt, .int _ _⟩
        · rw [Bool.not_eq_true] at hlt
          rw [hlt] at hj
          exact absurd rfl hj
      | rows n s c z e =>
        rw [hg] at hj
        simp only [cellAt] at hj ⊢
        by_cases hlt : Nat.blt off (Nat.mul n s) = true
        · rw [hlt] at hj ⊢
          simp only [cond_true] at hj ⊢
          rw [Nat.blt_eq] at hlt
          obtain ⟨r1, r2, r3⟩ := row_lt (show off < n * s from hlt)
          obtain ⟨arr, ho, hsz, hcell⟩ := h.rows hL hg
          obtain ⟨c1, c2⟩ := hcell _ r1
          have hdm := div_mod off s
          cases hq : (getR c (path (Nat.div off s)) z)[Nat.mod off s]? with
          | none => unfold obN at hj; rw [hq] at hj; exact absurd rfl hj
          | some a =>
            obtain ⟨u, hu, hur⟩ := c2 _ a hq
            refine ⟨u, ?_, by unfold obN; rw [hq]; exact hur⟩
            rw [cell_arr ho, ← hu]
            congr 1
            show L.base + off = L.base + off / s * s + off % s
            omega
        · rw [Bool.not_eq_true] at hlt
          rw [hlt] at hj
          exact absurd rfl hj
      | _ => rw [hg] at hj; exact absurd rfl hj
  · rename_i ha
    split at hv
    · rename_i hs
      simp only [Option.some.injEq] at hv
      subst hv
      exact ⟨_, run_loadVar_agg ha hs (vs := []) rfl (fun j v hv => by simp at hv), .agg _ _ .nil⟩
    · rename_i k hs hk
      cases hc : cellsAt (H.get b) off k with
      | none => rw [hc] at hv; cases hv
      | some l =>
        rw [hc] at hv
        simp only [Option.map_some, Option.some.injEq] at hv
        subst hv
        obtain ⟨vs, h1, h2, h3⟩ := cellsAt_sound h hL hc
        exact ⟨_, run_loadVar_agg ha hk h1 h3, .agg _ _ (by simpa using h2)⟩
    · cases hv
  · cases hv
theorem makeIface_sound (h : HR w0 G μ H w) (t : TypeId) {x : AV} {xv : Value} (hx : VR μ x xv)
    (hr : ∀ v w', (Instr.makeInterface t xv).run P w = .ok v w' → r = .ok (.value v) w') : XR P w0 G μ H.size (ifaceX P t x H) r := by
  unfold ifaceX
  split
  · trivial
  · trivial
  · rename_i u hu hni hj
    refine XR.value h (.iface t _ _ hx) (hr _ _ ?_)
    unfold Instr.makeInterface
    rw [Sem.run_bind, run_underlying (by assumption), Result.andThen_ok]
    cases u <;> first | rfl | (exfalso; exact hni _ rfl) | (exfalso; exact hu _ rfl) | (exfalso; exact hj _ rfl)
  · trivial
theorem makeFunc_sound (h : HR w0 G μ H w) (fn : Fn) {a b : List AV} {av bv : Array Value} (ha : LR μ a av.toList) (hb : LR μ b bv.toList)
    (hr : ∀ v w', (Instr.makeFunc fn av bv).run P w = .ok v w' → r = .ok (.value v) w') : XR P w0 G μ H.size (makeFuncX fn a b H) r := by
  unfold makeFuncX
  split
  · exact XR.value h (.func _ _ _ av bv ha hb) (hr _ _ rfl)
  · obtain ⟨u, hu, hur⟩ := ha.one
    have e : av = #[u] := by apply Array.ext'; rw [hu]
    subst e
    exact XR.value h (.meth _ _ u bv hur) (hr _ _ rfl)
  · trivial
theorem makeMap_sound (h : HR w0 G μ H w) (t : TypeId) {o : Option AV} {ov : Option Value} (ho : OVR μ o ov)
    (hr : ∀ v w', (Instr.makeMap t ov).run P w = .ok v w' → r = .ok (.value v) w') : XR P w0 G μ H.size (makeMapX P t o H) r := by
  have new : (∀ w', w' = { w with heap := w.heap.push (.map #[] 0) } → (Instr.makeMap t ov).run P w = .ok (.map (some w.heap.size)) w') → XR P w0 G μ H.size (H.pushK (.map [] 0) fun H' => .val (.map H.size) H') r := fun hrun => by
    rw [pushK_eq]
    have hp := h.push (L := ⟨w.heap.size, 0, 0⟩) (o := .map [] 0) (grew w (.map #[] 0)) rfl ⟨#[], rfl, rfl, fun i e c he _ => by simp at he⟩
    exact XR.new hp (.map _ _ (Mu.up_same _ _ _)) (hr _ _ (hrun _ rfl))
  unfold makeMapX
  split
  · have := OVR.none' ho rfl
    subst this
    exact new fun w' hw => by subst hw; rfl
  · rename_i v
    obtain ⟨u, rfl, hu⟩ := OVR.some' ho _ rfl
    split
    · rename_i ht k n
      have hu' := hu.int_inv
      subst hu'
      refine new fun w' hw => ?_
      subst hw
      unfold Instr.makeMap
      simp only [Sem.run_bind, run_underlying (by assumption), Result.andThen_ok, asInt, asIntOf, Sem.run_pure, run_newObj]
    · trivial
theorem extract_sound (h : HR w0 G μ H w) (i : Nat) {x : AV} {xv : Value} (hx : VR μ x xv)
    (hr : ∀ v w', (Instr.extract xv i).run P w = .ok v w' → r = .ok (.value v) w') : XR P w0 G μ H.size (extractX x i H) r := by
  unfold extractX
  refine XR.rOpt h fun v hv => ?_
  unfold extractA at hv
  split at hv
  · obtain ⟨y, rfl, hl⟩ := hx.tuple_inv
    obtain ⟨u, hu, hur⟩ := hl.get i v hv
    rw [Array.getElem?_toList] at hu
    exact ⟨u, hur, hr _ _ (by simp [Instr.extract, hu])⟩
  · cases hv

/-! ### calls -/
theorem callA_sound (h : HR w0 G μ H w) {f : Nat} {args : List AV} {cargs : Array Value} (ha : LR μ args cargs.toList) : XR P w0 G μ H.size (callA P f args H) ((callFunc f cargs).run P w) := by
  refine XR.onB (fun hc => ?_) (fun _ => trivial)
  refine ⟨cargs, w, ?_, ha, h, hc⟩
  unfold callOk at hc
  cases hf : P.funcs[f]? with
  | none => rw [hf] at hc; cases hc
  | some fn =>
    rw [hf] at hc
    simp only [Bool.and_eq_true, Bool.not_eq_true'] at hc
    have hb : fn.body.isNone = false := by cases hq : fn.body <;> simp_all
    unfold callFunc
    simp only [Sem.run_bind, run_program, Result.andThen_ok, hf, hc.1, Bool.false_eq_true, if_false, hb, Sem.run_pure]
theorem run_nilchk (ts : Array TypeId) (t : TypeId) (a : Addr) (s m : String) : (Builtin.ssaWrapNilChk_ ts t #[.pointer (some a), strVal s, strVal m]).run P w = .ok (.pointer (some a)) w := rfl
theorem method_sound (h : HR w0 G μ H w) {t : TypeId} {v : AV} {vv : Value} (hv : VR μ v vv) {name : String} {f : Nat} {x : AV} (hm : methodA P H t v name = some (f, x)) (n : Nat) :
    ∃ u, (method (n + 1) t vv name).run P w = .ok (f, u) w ∧ VR μ x u := by
  unfold methodA at hm
  cases hi : P.info? t with
  | none => rw [hi] at hm; cases hm
  | some i =>
    rw [hi] at hm
    simp only [] at hm
    cases hf : i.methods.find? (·.name == name) with
    | none => rw [hf] at hm; cases hm
    | some m =>
      rw [hf] at hm
      simp only [] at hm
      cases hp : m.path.toList with
      | cons a l => rw [hp] at hm; cases hm
      | nil =>
        rw [hp] at hm
        cases hmf : m.func with
        | none => rw [hmf] at hm; cases hm
        | some q =>
          obtain ⟨g, ptr⟩ := q
          rw [hmf] at hm
          simp only [] at hm
          have hstart : ∀ (u : Value), (receiverAt t (.val vv) ptr (if m.path.isEmpty then some ((name.splitOn ".").getLastD name) else none)).run P w = .ok u w → (method (n + 1) t vv name).run P w = .ok (g, u) w := fun u hu => by
            unfold method
            simp only [Sem.run_bind, typeInfo, run_program, hi, Result.andThen_ok, Sem.run_pure, hf, hp, follow, hmf, hu]
          have hemp : m.path.isEmpty = true := by
            rw [Array.isEmpty_iff]; apply Array.ext'; rw [hp]
          split at hm
          · rename_i hu
            simp only [Option.some.injEq, Prod.mk.injEq] at hm
            obtain ⟨rfl, rfl⟩ := hm
            refine ⟨vv, hstart _ ?_, hv⟩
            unfold receiverAt
            simp only [Sem.run_bind, run_underlying (by assumption), Result.andThen_ok, Place.get, Sem.run_pure]
          · rename_i e hu
            cases v with
            | ptr b off =>
              simp only [] at hm
              obtain ⟨L, hL, rfl⟩ := hv.ptr_inv
              cases hl : loadA P e b off H with
              | none => rw [hl] at hm; cases hm
              | some y =>
                rw [hl] at hm
                simp only [Option.map_some, Option.some.injEq, Prod.mk.injEq] at hm
                obtain ⟨rfl, rfl⟩ := hm
                obtain ⟨u, hu1, hu2⟩ := loadA_sound h hL hl
                refine ⟨u, hstart _ ?_, hu2⟩
                unfold receiverAt
                rw [if_pos hemp]
                simp only [Sem.run_bind, run_underlying (by assumption), Result.andThen_ok, Place.get, Sem.run_pure, run_nilchk, asAddr, hu1]
            | _ => cases hm
          · simp only [Option.some.injEq, Prod.mk.injEq] at hm
            obtain ⟨rfl, rfl⟩ := hm
            refine ⟨vv, hstart _ ?_, hv⟩
            rename_i u hne hu
            unfold receiverAt
            rw [Sem.run_bind, run_underlying (by assumption), Result.andThen_ok]
            cases u <;> first | rfl | (exfalso; exact hne _ rfl) | (exfalso; exact hu _ rfl)
          · cases hm
end
end Go.Proofs.YtmapmbfohilklaaGreat.Ab
