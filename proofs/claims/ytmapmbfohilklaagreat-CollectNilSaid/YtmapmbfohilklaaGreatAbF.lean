/-
  The abstract machine: what an operation comes to stands for what the model's comes to: whole numbers, strings.
-/
import Derived.Test.YtmapmbfohilklaaGreatAbE
import Derived.IntWalk
import Derived.Laws.BitsAllLaws
import Derived.Laws.Bits64
namespace Go.Proofs.YtmapmbfohilklaaGreat.Ab
open Go.RowKit

def XR (P : Program) (w0 : World) (G : Nat) (μ : Mu) (s : Nat) (x : X) (r : Result Next) : Prop :=
  match x with
  | .val v H' => ∃ (μ' : Mu) (w' : World) (u : Value), (r = .ok (.value u) w' ∨ (r = .ok .skip w' ∧ u = undef)) ∧ VR μ' v u ∧ HR w0 G μ' H' w' ∧ μ.lx s μ'
  | .enter f args H' => ∃ (cargs : Array Value) (w' : World), r = .ok (.enter f cargs) w' ∧ LR μ args cargs.toList ∧ HR w0 G μ H' w' ∧ callOk P f = true
  | .round l args H' => ∃ (L : Loc) (cargs : Array Value) (w' : World), μ l = some L ∧ LR μ args cargs.toList ∧ HR w0 G μ H' w' ∧
      ∀ lo : Loop, w'.heap[L.blk]? = some (.loop lo) → cargs.size = lo.params.size →
        r = .ok (.round L.blk lo.fn ((lo.params.zip cargs).foldl (fun tmps (t, a) => tmps.setIfInBounds t a) lo.tmps) lo.assign lo.body) w'
  | _ => True

section
variable {P : Program} {w0 w : World} {G : Nat} {μ : Mu} {H : AH} {s : Nat} {r : Result Next}
theorem XR.value (h : HR w0 G μ H w) {v : AV} {u : Value} (hv : VR μ v u) (hr : r = .ok (.value u) w) : XR P w0 G μ s (.val v H) r := ⟨μ, w, u, .inl hr, hv, h, μ.lx_refl _⟩
theorem XR.new {ν : Mu} {H' : AH} {w' : World} {v : AV} {u : Value} (h : HR w0 G ν H' w' ∧ μ.lx s ν) (hv : VR ν v u) (hr : r = .ok (.value u) w') : XR P w0 G μ s (.val v H') r := ⟨ν, w', u, .inl hr, hv, h.1, h.2⟩
theorem XR.skip {H' : AH} {w' : World} (h : HR w0 G μ H' w') (hr : r = .ok .skip w') : XR P w0 G μ s (.val (.tuple []) H') r := ⟨μ, w', undef, .inr ⟨hr, rfl⟩, .undef, h, μ.lx_refl _⟩
theorem XR.fail (n : Nat) : XR P w0 G μ s (.fail n) r := trivial
theorem XR.rInt (h : HR w0 G μ H w) {k : IntKind} {n m : Int} (hn : n = m) (hr : r = .ok (.value (.int k m)) w) : XR P w0 G μ s (rInt k n H) r := by
  unfold Ab.rInt; rw [fInt_eq]; subst hn; exact XR.value h (.int k n) hr
theorem XR.rBool (h : HR w0 G μ H w) {b c : Bool} (hb : b = c) (hr : r = .ok (.value (.bool c)) w) : XR P w0 G μ s (rBool b H) r := by
  subst hb; cases b <;> exact XR.value h (.bool _) hr
theorem XR.rStr (h : HR w0 G μ H w) {n N : Nat} {t : ByteArray} (hs : StrR n N t) (hr : r = .ok (.value (.string t)) w) : XR P w0 G μ s (rStr n N H) r := by
  unfold Ab.rStr; rw [fNat_eq, fNat_eq]; exact XR.value h (.str _ _ t hs.1 hs.2) hr
theorem XR.rPtr (h : HR w0 G μ H w) {b off : Nat} {u : Value} (hv : VR μ (.ptr b off) u) (hr : r = .ok (.value u) w) : XR P w0 G μ s (rPtr b off H) r := by
  unfold Ab.rPtr; rw [fNat_eq, fNat_eq]; exact XR.value h hv hr
theorem rSlice_eq (b off len cap : Nat) (g : Bool) (H : AH) : rSlice b off len cap g H = .val (.slice b off len cap g) H := by
  unfold rSlice; rw [fNat_eq, fNat_eq, fNat_eq, fNat_eq]
theorem XR.rOpt (h : HR w0 G μ H w) {o : Option AV} {n : Nat} (hv : ∀ v, o = some v → ∃ u, VR μ v u ∧ r = .ok (.value u) w) : XR P w0 G μ s (rOpt o n H) r := by
  cases o with
  | none => trivial
  | some v => obtain ⟨u, h1, h2⟩ := hv v rfl; exact XR.value h h1 h2
theorem XR.rOptB (h : HR w0 G μ H w) {o : Option Bool} {n : Nat} (hv : ∀ b, o = some b → r = .ok (.value (.bool b)) w) : XR P w0 G μ s (rOptB o n H) r := by
  cases o with
  | none => trivial
  | some b => exact XR.rBool h rfl (hv b rfl)

/-! ### one kind, or else -/
theorem XR.onInt {v : AV} {f : IntKind → Int → X} {e : X} (h1 : ∀ k n, v = .int k n → XR P w0 G μ s (f k n) r) (h2 : XR P w0 G μ s e r) : XR P w0 G μ s (onInt v f e) r := by
  cases v <;> first | exact h2 | exact h1 _ _ rfl
theorem XR.onBool {v : AV} {f : Bool → X} {e : X} (h1 : ∀ b, v = .bool b → XR P w0 G μ s (f b) r) (h2 : XR P w0 G μ s e r) : XR P w0 G μ s (onBool v f e) r := by
  cases v <;> first | exact h2 | exact h1 _ rfl
theorem XR.onPtr {v : AV} {f : Nat → Nat → X} {e : X} (h1 : ∀ b o, v = .ptr b o → XR P w0 G μ s (f b o) r) (h2 : XR P w0 G μ s e r) : XR P w0 G μ s (onPtr v f e) r := by
  cases v <;> first | exact h2 | exact h1 _ _ rfl
theorem XR.onSlice {v : AV} {f : Nat → Nat → Nat → Nat → Bool → X} {e : X} (h1 : ∀ b o l c g, v = .slice b o l c g → XR P w0 G μ s (f b o l c g) r) (h2 : XR P w0 G μ s e r) : XR P w0 G μ s (onSlice v f e) r := by
  cases v <;> first | exact h2 | exact h1 _ _ _ _ _ rfl
theorem XR.onJunk {v : AV} {f : X} {e : X} (h1 : v = .junk → XR P w0 G μ s f r) (h2 : XR P w0 G μ s e r) : XR P w0 G μ s (onJunk v f e) r := by
  cases v <;> first | exact h2 | exact h1 rfl
theorem XR.onON {o : Option Nat} {f : Nat → X} {e : X} (h1 : ∀ n, o = some n → XR P w0 G μ s (f n) r) (h2 : XR P w0 G μ s e r) : XR P w0 G μ s (onON o f e) r := by
  cases o <;> first | exact h2 | exact h1 _ rfl
theorem XR.onOV {o : Option AV} {f : AV → X} {e : X} (h1 : ∀ n, o = some n → XR P w0 G μ s (f n) r) (h2 : XR P w0 G μ s e r) : XR P w0 G μ s (onOV o f e) r := by
  cases o <;> first | exact h2 | exact h1 _ rfl
theorem XR.onOL {o : Option (List AV)} {f : List AV → X} {e : X} (h1 : ∀ n, o = some n → XR P w0 G μ s (f n) r) (h2 : XR P w0 G μ s e r) : XR P w0 G μ s (onOL o f e) r := by
  cases o <;> first | exact h2 | exact h1 _ rfl
theorem XR.onK {o : Option IntKind} {f : IntKind → X} {e : X} (h1 : ∀ n, o = some n → XR P w0 G μ s (f n) r) (h2 : XR P w0 G μ s e r) : XR P w0 G μ s (onK o f e) r := by
  cases o <;> first | exact h2 | exact h1 _ rfl
theorem XR.onB {b : Bool} {f e : Unit → X} (h1 : b = true → XR P w0 G μ s (f ()) r) (h2 : b = false → XR P w0 G μ s (e ()) r) : XR P w0 G μ s (onB b f e) r := by
  cases b <;> first | exact h2 rfl | exact h1 rfl
theorem XR.onNat {n : Int} {f : Nat → X} {e : X} (h1 : ∀ m : Nat, n = (m : Int) → XR P w0 G μ s (f m) r) (h2 : XR P w0 G μ s e r) : XR P w0 G μ s (onNat n f e) r := by
  cases n with
  | ofNat m => exact h1 m rfl
  | negSucc m => exact h2
theorem XR.cond {b : Bool} {f e : X} (h1 : b = true → XR P w0 G μ s f r) (h2 : b = false → XR P w0 G μ s e r) : XR P w0 G μ s (bif b then f else e) r := by
  cases b <;> first | exact h2 rfl | exact h1 rfl
end

/-! ### an operation that yields a value -/
theorem run_v {P : Program} {w w' : World} {s : Sem Value} {u : Value} (h : s.run P w = .ok u w') : (do pure (Next.value (← s)) : Sem Next).run P w = .ok (.value u) w' := by simp [h]
theorem run_u {P : Program} {w w' : World} {s : Sem Unit} (h : s.run P w = .ok () w') : (do s; pure Next.skip : Sem Next).run P w = .ok .skip w' := by simp [h]

/-! ### whole numbers -/
theorem ltA_eq (x y : Int) : ltA x y = decide (x < y) := by
  rw [Bool.eq_iff_iff, decide_eq_true_iff]
  cases x <;> cases y <;> unfold ltA <;> simp [Nat.blt_eq] <;> omega
theorem addA_eq (x y : Int) : addA x y = x + y := by cases x <;> cases y <;> rfl
theorem subA_eq (x y : Int) : subA x y = x - y := by
  cases x with
  | ofNat a =>
    cases y with
    | ofNat b =>
      unfold subA
      by_cases h : b ≤ a
      · have : Nat.ble b a = true := by rw [Nat.ble_eq]; exact h
        simp only [this, cond_true]
        have e : Nat.sub a b = a - b := rfl
        rw [e]; simp only [Int.ofNat_eq_natCast]; omega
      · have : Nat.ble b a = false := by rw [← Bool.not_eq_true, Nat.ble_eq]; exact h
        simp only [this, cond_false]; rfl
    | negSucc b => rfl
  | negSucc a => cases y <;> rfl
theorem eqI2_eq (x y : Int) : eqI2 x y = (x == y) := by
  rw [Bool.eq_iff_iff, beq_iff_eq]
  cases x <;> cases y <;> unfold eqI2 <;> simp [Nat.beq_eq] <;> omega
theorem eqI_eq (x y : Int) : eqI x y = (x == y) := by
  rw [Bool.eq_iff_iff, beq_iff_eq]
  cases x <;> cases y <;> unfold eqI <;> simp [Nat.beq_eq] <;> omega
theorem wrapA_u8 (m : Nat) : wrapA .u8 (.ofNat m) = IntKind.u8.wrap (.ofNat m) := by
  rw [Int.ofNat_eq_natCast m]; rw [IntKind.wrap_u8']; exact Int.natCast_emod m 256
theorem wrapA_u16 (m : Nat) : wrapA .u16 (.ofNat m) = IntKind.u16.wrap (.ofNat m) := by
  rw [Int.ofNat_eq_natCast m]; rw [IntKind.wrap_u16]; exact Int.natCast_emod m 65536
theorem wrapA_u32 (m : Nat) : wrapA .u32 (.ofNat m) = IntKind.u32.wrap (.ofNat m) := by
  rw [Int.ofNat_eq_natCast m]; rw [IntKind.wrap_u32']; exact Int.natCast_emod m 4294967296
theorem wrapA_u64 (m : Nat) : wrapA .u64 (.ofNat m) = IntKind.u64.wrap (.ofNat m) := by
  rw [Int.ofNat_eq_natCast m]; rw [IntKind.wrap_u64]; exact Int.natCast_emod m 18446744073709551616
theorem wrapA_i32 (m : Nat) : wrapA .i32 (.ofNat m) = IntKind.i32.wrap (.ofNat m) := by
  unfold wrapA
  by_cases h : Nat.blt m 2147483648 = true
  · simp only [h, cond_true]; rw [Nat.blt_eq] at h; exact (IntWalk.i32_in (.ofNat m) (by rw [Int.ofNat_eq_natCast]; omega)).symm
  · rw [Bool.not_eq_true] at h; simp only [h, cond_false]
theorem wrapA_i64 (m : Nat) : wrapA .i64 (.ofNat m) = IntKind.i64.wrap (.ofNat m) := by
  unfold wrapA
  by_cases h : Nat.blt m 9223372036854775808 = true
  · simp only [h, cond_true]; rw [Nat.blt_eq] at h; exact (IntWalk.i64_in (.ofNat m) (by rw [Int.ofNat_eq_natCast]; omega)).symm
  · rw [Bool.not_eq_true] at h; simp only [h, cond_false]
theorem neg_bound (m : Nat) (h : m < 9223372036854775808) : -9223372036854775808 ≤ Int.negSucc m ∧ Int.negSucc m ≤ 9223372036854775807 := by rw [Int.negSucc_eq]; omega
theorem cond_or {α : Type} (b : Bool) (x y z : α) (h1 : b = true → x = z) (h2 : b = false → y = z) : (bif b then x else y) = z := by cases b; exact h2 rfl; exact h1 rfl
theorem wrapA_i64n0 (m : Nat) : wrapA .i64 (.negSucc m) = bif Nat.blt m 9223372036854775808 then .negSucc m else IntKind.wrap .i64 (.negSucc m) := rfl
theorem wrapA_i64n (m : Nat) : wrapA .i64 (.negSucc m) = IntKind.i64.wrap (.negSucc m) :=
  (wrapA_i64n0 m).trans (cond_or _ _ _ _ (fun h => (IntWalk.i64_in (Int.negSucc m) (neg_bound m (by rwa [Nat.blt_eq] at h))).symm) (fun _ => rfl))
theorem wrapA_nu8 (m : Nat) : wrapA .u8 (.negSucc m) = IntKind.wrap .u8 (.negSucc m) := rfl
theorem wrapA_nu16 (m : Nat) : wrapA .u16 (.negSucc m) = IntKind.wrap .u16 (.negSucc m) := rfl
theorem wrapA_nu32 (m : Nat) : wrapA .u32 (.negSucc m) = IntKind.wrap .u32 (.negSucc m) := rfl
theorem wrapA_nu64 (m : Nat) : wrapA .u64 (.negSucc m) = IntKind.wrap .u64 (.negSucc m) := rfl
theorem wrapA_ni8 (m : Nat) : wrapA .i8 (.negSucc m) = IntKind.wrap .i8 (.negSucc m) := rfl
theorem wrapA_ni16 (m : Nat) : wrapA .i16 (.negSucc m) = IntKind.wrap .i16 (.negSucc m) := rfl
theorem wrapA_ni32 (m : Nat) : wrapA .i32 (.negSucc m) = IntKind.wrap .i32 (.negSucc m) := rfl
theorem wrapA_i8 (m : Nat) : wrapA .i8 (.ofNat m) = IntKind.wrap .i8 (.ofNat m) := rfl
theorem wrapA_i16 (m : Nat) : wrapA .i16 (.ofNat m) = IntKind.wrap .i16 (.ofNat m) := rfl
theorem wrapA_pos (k : IntKind) (m : Nat) : wrapA k (.ofNat m) = IntKind.wrap k (.ofNat m) := by
  cases k
  · exact wrapA_i8 m
  · exact wrapA_i16 m
  · exact wrapA_i32 m
  · exact wrapA_i64 m
  · exact wrapA_u8 m
  · exact wrapA_u16 m
  · exact wrapA_u32 m
  · exact wrapA_u64 m
theorem wrapA_neg (k : IntKind) (m : Nat) : wrapA k (.negSucc m) = IntKind.wrap k (.negSucc m) := by
  cases k
  · exact wrapA_ni8 m
  · exact wrapA_ni16 m
  · exact wrapA_ni32 m
  · exact wrapA_i64n m
  · exact wrapA_nu8 m
  · exact wrapA_nu16 m
  · exact wrapA_nu32 m
  · exact wrapA_nu64 m
theorem wrapA_eq (k : IntKind) (n : Int) : wrapA k n = k.wrap n := by
  cases n with
  | ofNat m => exact wrapA_pos k m
  | negSucc m => exact wrapA_neg k m
theorem wrapN_eq (k : IntKind) (m : Nat) : wrapN k m = k.wrap (m : Int) := by
  rw [← wrapA_eq]
  cases k <;> rfl
theorem wrapZ_eq (k : IntKind) (n : Int) : wrapZ k n = k.wrap n := by
  cases n with
  | ofNat m => exact wrapN_eq k m
  | negSucc m => exact wrapA_eq k (Int.negSucc m)
theorem bitsN_eq (k : IntKind) : bitsN k = k.bits := by cases k <;> rfl
theorem kindCode_inj {k k' : IntKind} (h : kindCode k = kindCode k') : k = k' := by cases k <;> cases k' <;> first | rfl | simp [kindCode] at h
theorem pow_eq (a b : Nat) : Nat.pow a b = a ^ b := rfl
theorem bv_nat {n a : Nat} (h : a < 2 ^ n) : (BitVec.ofInt n (a : Int)).toNat = a := by
  rw [BitVec.toNat_ofInt]
  have e : ((a : Int) % ((2 ^ n : Nat) : Int)) = ((a % 2 ^ n : Nat) : Int) := by simp
  rw [e, Int.toNat_natCast, Nat.mod_eq_of_lt h]

section
variable {P : Program} {w0 w : World} {G : Nat} {μ : Mu} {H : AH}
theorem XR.on2 {r : Result Next} {k : IntKind} {x y : Int} {f : Nat → Nat → X} (hf : ∀ a b : Nat, x = (a : Int) → y = (b : Int) → a < 2 ^ k.bits → b < 2 ^ k.bits → XR P w0 G μ H.size (f a b) r) : XR P w0 G μ H.size (on2 k x y f) r := by
  unfold Ab.on2
  refine XR.onNat (fun a ha => XR.onNat (fun b hb => XR.onB (fun h => ?_) (fun _ => trivial)) trivial) trivial
  rw [Bool.and_eq_true, Nat.blt_eq, Nat.blt_eq, bitsN_eq] at h
  exact hf a b ha hb h.1 h.2
theorem intOp_sound (h : HR w0 G μ H w) (op : BinOp) (t : TypeId) (k k' : IntKind) (x y : Int) (hk : k = k' ∨ isShift op = true) :
    XR P w0 G μ H.size (intOp op k x y H) ((do pure (Next.value (← binOp op t (.int k x) (.int k' y))) : Sem Next).run P w) := by
  cases op
  case shl =>
    refine XR.onNat (fun b hb => XR.onB (fun hle => ?_) (fun _ => trivial)) trivial
    rw [Nat.ble_eq, bitsN_eq] at hle
    subst hb
    refine XR.rInt h (m := k.wrap (x * 2 ^ b)) ?_ (run_v ?_)
    · rw [wrapZ_eq]; simp only [Int.ofNat_eq_natCast, pow_eq]; congr 1
    · simp only [binOp, Op.shift]
      rw [if_neg (by omega), Int.toNat_natCast, Nat.min_eq_left hle]; rfl
  case shr =>
    refine XR.onNat (fun b hb => XR.onNat (fun a ha => XR.onB (fun hle => ?_) (fun _ => trivial)) trivial) trivial
    rw [Nat.ble_eq, bitsN_eq] at hle
    subst hb ha
    refine XR.rInt h (m := ((a : Int)).fdiv (2 ^ b)) ?_ (run_v ?_)
    · rw [Int.fdiv_eq_ediv_of_nonneg _ (by exact Int.pow_nonneg (by omega))]
      have : ((2 : Int) ^ b) = ((2 ^ b : Nat) : Int) := by simp
      rw [this, ← Int.natCast_ediv]; rfl
    · simp only [binOp, Op.shift]
      rw [if_neg (by omega), Int.toNat_natCast, Nat.min_eq_left hle]; rfl
  all_goals (obtain rfl : k = k' := hk.resolve_right (by simp [isShift]))
  case add => exact XR.rInt h (m := k.wrap (x + y)) (by rw [wrapZ_eq, addA_eq]) (run_v (by simp [binOp, Op.intArith]))
  case sub => exact XR.rInt h (m := k.wrap (x - y)) (by rw [wrapZ_eq, subA_eq]) (run_v (by simp [binOp, Op.intArith]))
  case mul => exact XR.rInt h (m := k.wrap (x * y)) (by rw [wrapZ_eq]; rfl) (run_v (by simp [binOp, Op.intArith]))
  case quo =>
    refine XR.onNat (fun a ha => XR.onNat (fun b hb => XR.onB (fun hlt => ?_) (fun _ => trivial)) trivial) trivial
    rw [Nat.blt_eq] at hlt
    subst ha hb
    refine XR.rInt h (m := k.wrap ((a : Int).tdiv b)) (by rw [wrapN_eq]; rfl) (run_v ?_)
    have : ¬ (b : Int) = 0 := by omega
    simp only [binOp, Op.intDiv, this, ne_eq, not_true_eq_false, if_false, Sem.run_pure]
  case rem =>
    refine XR.onNat (fun a ha => XR.onNat (fun b hb => XR.onB (fun hlt => ?_) (fun _ => trivial)) trivial) trivial
    rw [Nat.blt_eq] at hlt
    subst ha hb
    refine XR.rInt h (m := (a : Int).tmod b) rfl (run_v ?_)
    have : ¬ (b : Int) = 0 := by omega
    simp only [binOp, Op.intDiv, this, ne_eq, not_true_eq_false, if_false, Sem.run_pure]
  case and =>
    refine XR.on2 fun a b ha hb la lb => ?_
    subst ha hb
    refine XR.rInt h (m := k.wrap ((BitVec.ofInt k.bits (a : Int) &&& BitVec.ofInt k.bits (b : Int)).toNat : Int)) ?_ (run_v (by simp [binOp, Op.intBits]))
    rw [wrapN_eq, BitVec.toNat_and, bv_nat la, bv_nat lb]; rfl
  case or =>
    refine XR.on2 fun a b ha hb la lb => ?_
    subst ha hb
    refine XR.rInt h (m := k.wrap ((BitVec.ofInt k.bits (a : Int) ||| BitVec.ofInt k.bits (b : Int)).toNat : Int)) ?_ (run_v (by simp [binOp, Op.intBits]))
    rw [wrapN_eq, BitVec.toNat_or, bv_nat la, bv_nat lb]; rfl
  case xor =>
    refine XR.on2 fun a b ha hb la lb => ?_
    subst ha hb
    refine XR.rInt h (m := k.wrap ((BitVec.ofInt k.bits (a : Int) ^^^ BitVec.ofInt k.bits (b : Int)).toNat : Int)) ?_ (run_v (by simp [binOp, Op.intBits]))
    rw [wrapN_eq, BitVec.toNat_xor, bv_nat la, bv_nat lb]; rfl
  case andNot =>
    refine XR.on2 fun a b ha hb la lb => ?_
    subst ha hb
    refine XR.rInt h (m := k.wrap ((BitVec.ofInt k.bits (a : Int) &&& ~~~ BitVec.ofInt k.bits (b : Int)).toNat : Int)) ?_ (run_v (by simp [binOp, Op.intBits]))
    have e : (BitVec.ofInt k.bits (a : Int) &&& ~~~ BitVec.ofInt k.bits (b : Int)) = BitVec.ofInt k.bits (a : Int) ^^^ (BitVec.ofInt k.bits (a : Int) &&& BitVec.ofInt k.bits (b : Int)) := by
      ext i hi
      simp only [BitVec.getElem_and, BitVec.getElem_not, BitVec.getElem_xor]
      cases (BitVec.ofInt k.bits (a : Int))[i] <;> cases (BitVec.ofInt k.bits (b : Int))[i] <;> rfl
    rw [wrapN_eq, e, BitVec.toNat_xor, BitVec.toNat_and, bv_nat la, bv_nat lb]; rfl
  case eql => exact XR.rBool h (c := x == y) (eqI2_eq x y) (run_v (by simp [binOp, Op.intCmp]))
  case neq => exact XR.rBool h (c := x != y) (by rw [eqI2_eq]; rfl) (run_v (by simp [binOp, Op.intCmp]))
  case lss => exact XR.rBool h (c := decide (x < y)) (ltA_eq x y) (run_v (by simp [binOp, Op.intCmp]))
  case leq => exact XR.rBool h (c := decide (x ≤ y)) (by rw [ltA_eq, Bool.eq_iff_iff]; simp) (run_v (by simp [binOp, Op.intCmp]))
  case gtr => exact XR.rBool h (c := decide (x > y)) (ltA_eq y x) (run_v (by simp [binOp, Op.intCmp]))
  case geq => exact XR.rBool h (c := decide (x ≥ y)) (by rw [ltA_eq, Bool.eq_iff_iff]; simp) (run_v (by simp [binOp, Op.intCmp]))
end
end Go.Proofs.YtmapmbfohilklaaGreat.Ab
