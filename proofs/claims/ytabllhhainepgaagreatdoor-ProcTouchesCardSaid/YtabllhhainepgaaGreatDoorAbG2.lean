/-
  An abstract machine that Lean's kernel can run: how values and heaps stand for the model's; numbers and memory. This text speaks of no program.
-/
import Derived.Test.YtabllhhainepgaaGreatDoorAbG1
import Derived.Below
import Derived.Laws.CopyRow
import Derived.Lib.FrozenHead
import Derived.Deep.MidRow
import Derived.IntWalk
import Derived.Laws.BitsAllLaws
import Derived.Laws.Bits64
/-
  The abstract machine: what trees and packed bytes read as.
-/
set_option linter.unusedVariables false
set_option linter.unusedSimpArgs false
namespace Go.Proofs.YtabllhhainepgaaGreatDoor.Ab

/-! ### trees -/
theorem getV_nil (p : List Bool) (d : AV) : getV .nil p d = d := rfl
theorem getV_here (v : AV) (l r : Tr AV) (d : AV) : getV (.node v l r) [] d = v := rfl
theorem getV_l (v : AV) (l r : Tr AV) (p : List Bool) (d : AV) : getV (.node v l r) (true :: p) d = getV l p d := rfl
theorem getV_r (v : AV) (l r : Tr AV) (p : List Bool) (d : AV) : getV (.node v l r) (false :: p) d = getV r p d := rfl

/-- The tree that setV hands on. -/
def putV : List Bool → Tr AV → AV → AV → Tr AV
  | [], .nil, x, _ => .node x .nil .nil
  | [], .node _ l r, x, _ => .node x l r
  | true :: p, .nil, x, d => .node d (putV p .nil x d) .nil
  | false :: p, .nil, x, d => .node d .nil (putV p .nil x d)
  | true :: p, .node v l r, x, d => .node v (putV p l x d) r
  | false :: p, .node v l r, x, d => .node v l (putV p r x d)
theorem setV_eq (p : List Bool) : ∀ (t : Tr AV) (x d : AV) (k : Tr AV → X), setV p t x d k = k (putV p t x d) := by
  induction p with
  | nil => intro t x d k; cases t <;> rfl
  | cons b p ih =>
    intro t x d k
    cases t <;> cases b
    · exact ih .nil x d (fun r => k (.node d .nil r))
    · exact ih .nil x d (fun l => k (.node d l .nil))
    · rename_i v l r; exact ih r x d (fun r' => k (.node v l r'))
    · rename_i v l r; exact ih l x d (fun l' => k (.node v l' r))
theorem get_putV (p : List Bool) : ∀ (t : Tr AV) (x d : AV) (q : List Bool), getV (putV p t x d) q d = if q = p then x else getV t q d := by
  induction p with
  | nil => intro t x d q; cases t <;> cases q <;> (try rename_i b q; cases b) <;> simp [putV, getV_nil, getV_here, getV_l, getV_r]
  | cons b p ih =>
    intro t x d q
    cases t <;> cases b <;> cases q <;> (try rename_i c q; cases c) <;> simp [putV, getV_nil, getV_here, getV_l, getV_r, ih]
def putO : List Bool → Tr AObj → AObj → AObj → Tr AObj
  | [], .nil, x, _ => .node x .nil .nil
  | [], .node _ l r, x, _ => .node x l r
  | true :: p, .nil, x, d => .node d (putO p .nil x d) .nil
  | false :: p, .nil, x, d => .node d .nil (putO p .nil x d)
  | true :: p, .node v l r, x, d => .node v (putO p l x d) r
  | false :: p, .node v l r, x, d => .node v l (putO p r x d)
theorem getO_nil (p : List Bool) (d : AObj) : getO .nil p d = d := rfl
theorem getO_here (v : AObj) (l r : Tr AObj) (d : AObj) : getO (.node v l r) [] d = v := rfl
theorem getO_l (v : AObj) (l r : Tr AObj) (p : List Bool) (d : AObj) : getO (.node v l r) (true :: p) d = getO l p d := rfl
theorem getO_r (v : AObj) (l r : Tr AObj) (p : List Bool) (d : AObj) : getO (.node v l r) (false :: p) d = getO r p d := rfl
theorem setO_eq (p : List Bool) : ∀ (t : Tr AObj) (x d : AObj) (k : Tr AObj → X), setO p t x d k = k (putO p t x d) := by
  induction p with
  | nil => intro t x d k; cases t <;> rfl
  | cons b p ih =>
    intro t x d k
    cases t <;> cases b
    · exact ih .nil x d (fun r => k (.node d .nil r))
    · exact ih .nil x d (fun l => k (.node d l .nil))
    · rename_i v l r; exact ih r x d (fun r' => k (.node v l r'))
    · rename_i v l r; exact ih l x d (fun l' => k (.node v l' r))
theorem get_putO (p : List Bool) : ∀ (t : Tr AObj) (x d : AObj) (q : List Bool), getO (putO p t x d) q d = if q = p then x else getO t q d := by
  induction p with
  | nil => intro t x d q; cases t <;> cases q <;> (try rename_i b q; cases b) <;> simp [putO, getO_nil, getO_here, getO_l, getO_r]
  | cons b p ih =>
    intro t x d q
    cases t <;> cases b <;> cases q <;> (try rename_i c q; cases c) <;> simp [putO, getO_nil, getO_here, getO_l, getO_r, ih]
def putR : List Bool → Tr (List AV) → List AV → List AV → Tr (List AV)
  | [], .nil, x, _ => .node x .nil .nil
  | [], .node _ l r, x, _ => .node x l r
  | true :: p, .nil, x, d => .node d (putR p .nil x d) .nil
  | false :: p, .nil, x, d => .node d .nil (putR p .nil x d)
  | true :: p, .node v l r, x, d => .node v (putR p l x d) r
  | false :: p, .node v l r, x, d => .node v l (putR p r x d)
theorem getR_nil (p : List Bool) (d : List AV) : getR .nil p d = d := rfl
theorem getR_here (v : List AV) (l r : Tr (List AV)) (d : List AV) : getR (.node v l r) [] d = v := rfl
theorem getR_l (v : List AV) (l r : Tr (List AV)) (p : List Bool) (d : List AV) : getR (.node v l r) (true :: p) d = getR l p d := rfl
theorem getR_r (v : List AV) (l r : Tr (List AV)) (p : List Bool) (d : List AV) : getR (.node v l r) (false :: p) d = getR r p d := rfl
theorem setR_eq (p : List Bool) : ∀ (t : Tr (List AV)) (x d : List AV) (k : Tr (List AV) → X), setR p t x d k = k (putR p t x d) := by
  induction p with
  | nil => intro t x d k; cases t <;> rfl
  | cons b p ih =>
    intro t x d k
    cases t <;> cases b
    · exact ih .nil x d (fun r => k (.node d .nil r))
    · exact ih .nil x d (fun l => k (.node d l .nil))
    · rename_i v l r; exact ih r x d (fun r' => k (.node v l r'))
    · rename_i v l r; exact ih l x d (fun l' => k (.node v l' r))
theorem get_putR (p : List Bool) : ∀ (t : Tr (List AV)) (x d : List AV) (q : List Bool), getR (putR p t x d) q d = if q = p then x else getR t q d := by
  induction p with
  | nil => intro t x d q; cases t <;> cases q <;> (try rename_i b q; cases b) <;> simp [putR, getR_nil, getR_here, getR_l, getR_r]
  | cons b p ih =>
    intro t x d q
    cases t <;> cases b <;> cases q <;> (try rename_i c q; cases c) <;> simp [putR, getR_nil, getR_here, getR_l, getR_r, ih]

theorem beq_ff {n m : Nat} (h : n ≠ m) : Nat.beq n m = false := by rw [← Bool.not_eq_true, Nat.beq_eq]; exact h
/-- Places have paths of their own. -/
theorem pathF_inj : ∀ (f g n m : Nat), n ≤ f → m ≤ g → pathF f n = pathF g m → n = m := by
  intro f
  induction f with
  | zero =>
    intro g n m hn hm h
    have : n = 0 := by omega
    subst this
    cases g with
    | zero => omega
    | succ g =>
      unfold pathF at h
      by_cases h0 : m = 0
      · exact h0.symm
      · have : Nat.beq m 0 = false := beq_ff h0
        simp [this] at h
  | succ f ih =>
    intro g n m hn hm h
    cases g with
    | zero =>
      have : m = 0 := by omega
      subst this
      unfold pathF at h
      by_cases h0 : n = 0
      · exact h0
      · have : Nat.beq n 0 = false := beq_ff h0
        simp [this] at h
    | succ g =>
      unfold pathF at h
      by_cases h0 : n = 0
      · by_cases h1 : m = 0
        · omega
        · have e0 : Nat.beq n 0 = true := by simp [h0]
          have e1 : Nat.beq m 0 = false := beq_ff h1
          simp [e0, e1] at h
      · by_cases h1 : m = 0
        · have e0 : Nat.beq m 0 = true := by simp [h1]
          have e1 : Nat.beq n 0 = false := beq_ff h0
          simp [e0, e1] at h
        · have e0 : Nat.beq n 0 = false := beq_ff h0
          have e1 : Nat.beq m 0 = false := beq_ff h1
          simp only [e0, e1, cond_false, List.cons.injEq] at h
          obtain ⟨hb, ht⟩ := h
          by_cases p : n % 2 = 1
          · have q : m % 2 = 1 := by
              have : Nat.beq (Nat.mod n 2) 1 = true := by rw [Nat.beq_eq]; exact p
              rw [this] at hb
              have := hb.symm
              rw [Nat.beq_eq] at this; exact this
            have x1 : Nat.beq (Nat.mod n 2) 1 = true := by rw [Nat.beq_eq]; exact p
            have x2 : Nat.beq (Nat.mod m 2) 1 = true := by rw [Nat.beq_eq]; exact q
            simp only [x1, x2, cond_true] at ht
            have := ih g (n / 2) (m / 2) (by omega) (by omega) ht
            omega
          · have q : ¬ m % 2 = 1 := by
              intro q
              have x2 : Nat.beq (Nat.mod m 2) 1 = true := by rw [Nat.beq_eq]; exact q
              rw [x2] at hb
              rw [Nat.beq_eq] at hb
              exact p hb
            have x1 : Nat.beq (Nat.mod n 2) 1 = false := by rw [← Bool.not_eq_true, Nat.beq_eq]; exact p
            have x2 : Nat.beq (Nat.mod m 2) 1 = false := by rw [← Bool.not_eq_true, Nat.beq_eq]; exact q
            simp only [x1, x2, cond_false] at ht
            have := ih g (n / 2 - 1) (m / 2 - 1) (by omega) (by omega) ht
            omega
theorem path_inj {n m : Nat} (h : path n = path m) : n = m := pathF_inj n m n m (Nat.le_refl _) (Nat.le_refl _) h

/-! ### data handed on -/
theorem fNat_eq (n : Nat) (k : Nat → X) : fNat n k = k n := by cases n <;> rfl
theorem fInt_eq (n : Int) (k : Int → X) : fInt n k = k n := by
  cases n with
  | ofNat m => exact fNat_eq m fun m => k (Int.ofNat m)
  | negSucc m => exact fNat_eq m fun m => k (Int.negSucc m)
def AH.set (H : AH) (b : Nat) (o : AObj) : AH := ⟨H.size, putO (path b) H.tr o .dead⟩
def AH.push (H : AH) (o : AObj) : AH := ⟨H.size + 1, putO (path H.size) H.tr o .dead⟩
theorem setK_eq (H : AH) (b : Nat) (o : AObj) (k : AH → X) : H.setK b o k = k (H.set b o) := by
  cases H; exact setO_eq _ _ _ _ _
theorem pushK_eq (H : AH) (o : AObj) (k : AH → X) : H.pushK o k = k (H.push o) := by
  cases H with | mk n t =>
  show fNat (Nat.succ n) (fun n' => setO (path n) t o .dead fun t' => k (.mk n' t')) = _
  rw [fNat_eq, setO_eq]
  rfl
theorem get_set (H : AH) (b : Nat) (o : AObj) (c : Nat) : (H.set b o).get c = if c = b then o else H.get c := by
  unfold AH.get AH.set
  rw [get_putO]
  by_cases h : c = b
  · simp [h]
  · rw [if_neg h, if_neg (fun e => h (path_inj e))]
theorem get_push (H : AH) (o : AObj) (c : Nat) : (H.push o).get c = if c = H.size then o else H.get c := by
  unfold AH.get AH.push
  rw [get_putO]
  by_cases h : c = H.size
  · simp [h]
  · rw [if_neg h, if_neg (fun e => h (path_inj e))]
theorem core_seal (N : Nat) : coreB (sealB N) = N := by
  show (N * 4294967296 + N % 4294967291) / 4294967296 = N
  omega
theorem core_zero : coreB 0 = 0 := rfl

/-! ### bytes in one number -/
theorem byteAt_eq (N i : Nat) : byteAt N i = N / 256 ^ i % 256 := rfl
theorem byteAt_lt (N i : Nat) : byteAt N i < 256 := by rw [byteAt_eq]; omega
theorem byteAt_zero (i : Nat) : byteAt 0 i = 0 := by simp [byteAt_eq]
theorem byteAt_div (N a j : Nat) : byteAt (N / 256 ^ a) j = byteAt N (a + j) := by
  rw [byteAt_eq, byteAt_eq, Nat.div_div_eq_div_mul, ← Nat.pow_add]
theorem byteAt_mod {N i j : Nat} (h : j < i) : byteAt (N % 256 ^ i) j = byteAt N j := by
  rw [byteAt_eq, byteAt_eq]
  obtain ⟨d, rfl⟩ : ∃ d, i = j + (d + 1) := ⟨i - j - 1, by omega⟩
  rw [Nat.pow_add, Nat.mod_mul_right_div_self]
  rw [Nat.pow_succ, Nat.mul_comm (256 ^ d) 256, Nat.mod_mul_right_mod]
theorem byteAt_mod_hi {N i j : Nat} (h : i ≤ j) : byteAt (N % 256 ^ i) j = 0 := by
  rw [byteAt_eq]
  have h1 : N % 256 ^ i < 256 ^ i := Nat.mod_lt _ (Nat.pow_pos (by omega))
  have h2 : 256 ^ i ≤ 256 ^ j := Nat.pow_le_pow_right (by omega) h
  rw [Nat.div_eq_of_lt (by omega)]
theorem byteAt_join {lo hi i : Nat} (h : lo < 256 ^ i) (j : Nat) : byteAt (lo + 256 ^ i * hi) j = if j < i then byteAt lo j else byteAt hi (j - i) := by
  by_cases hj : j < i
  · rw [if_pos hj]
    have e : (lo + 256 ^ i * hi) % 256 ^ i = lo := by rw [Nat.add_mul_mod_self_left, Nat.mod_eq_of_lt h]
    rw [← byteAt_mod (N := lo + 256 ^ i * hi) hj, e]
  · rw [if_neg hj]
    have e : (lo + 256 ^ i * hi) / 256 ^ i = hi := by rw [Nat.add_mul_div_left _ _ (Nat.pow_pos (by omega)), Nat.div_eq_of_lt h]; omega
    have := byteAt_div (lo + 256 ^ i * hi) i (j - i)
    rw [e] at this
    rw [this]; congr 1; omega
theorem cutB_eq (N i k : Nat) : cutB N i k = N / 256 ^ i % 256 ^ k := rfl
theorem cutB_lt (N i k : Nat) : cutB N i k < 256 ^ k := Nat.mod_lt _ (Nat.pow_pos (by omega))
theorem byteAt_cutB {N i k j : Nat} (h : j < k) : byteAt (cutB N i k) j = byteAt N (i + j) := by rw [cutB_eq, byteAt_mod h, byteAt_div]
theorem putB_eq (N i k M : Nat) : putB N i k M = N % 256 ^ i + 256 ^ i * (M + 256 ^ k * (N / 256 ^ (i + k))) := rfl
theorem byteAt_putB {N i k M : Nat} (hM : M < 256 ^ k) (j : Nat) : byteAt (putB N i k M) j = if j < i then byteAt N j else if j < i + k then byteAt M (j - i) else byteAt N j := by
  rw [putB_eq, byteAt_join (Nat.mod_lt _ (Nat.pow_pos (by omega)))]
  by_cases h : j < i
  · rw [if_pos h, if_pos h, byteAt_mod h]
  · rw [if_neg h, if_neg h, byteAt_join hM]
    by_cases h' : j < i + k
    · rw [if_pos h', if_pos (by omega)]
    · rw [if_neg h', if_neg (by omega), byteAt_div]; congr 1; omega
theorem join_lt {N n M m : Nat} (hN : N < 256 ^ n) (hM : M < 256 ^ m) : N + 256 ^ n * M < 256 ^ (n + m) := by
  have h4 : 256 ^ n * (M + 1) ≤ 256 ^ n * 256 ^ m := Nat.mul_le_mul_left _ hM
  rw [Nat.pow_add]; rw [Nat.mul_add, Nat.mul_one] at h4; omega
theorem putB_lt {N n i k M : Nat} (hN : N < 256 ^ n) (hM : M < 256 ^ k) (h : i + k ≤ n) : putB N i k M < 256 ^ n := by
  rw [putB_eq]
  have h1 : N % 256 ^ i < 256 ^ i := Nat.mod_lt _ (Nat.pow_pos (by omega))
  obtain ⟨d, rfl⟩ : ∃ d, n = i + (k + d) := ⟨n - (i + k), by omega⟩
  have h2 : N / 256 ^ (i + k) < 256 ^ d := by
    rw [Nat.div_lt_iff_lt_mul (Nat.pow_pos (by omega)), ← Nat.pow_add, show d + (i + k) = i + (k + d) by omega]; exact hN
  exact join_lt h1 (join_lt hM h2)
/-- Two numbers of so many bytes that read alike are one. -/
theorem bytes_ext : ∀ (n N M : Nat), N < 256 ^ n → M < 256 ^ n → (∀ i, i < n → byteAt N i = byteAt M i) → N = M := by
  intro n
  induction n with
  | zero => intro N M hN hM _; simp at hN hM; omega
  | succ n ih =>
    intro N M hN hM h
    have h0 := h 0 (by omega)
    have hd : N / 256 = M / 256 := ih (N / 256) (M / 256) (by rw [Nat.div_lt_iff_lt_mul (by omega)]; rw [Nat.pow_succ] at hN; exact hN)
      (by rw [Nat.div_lt_iff_lt_mul (by omega)]; rw [Nat.pow_succ] at hM; exact hM) (fun i hi => by
        have := h (1 + i) (by omega)
        rw [← byteAt_div, ← byteAt_div] at this
        simpa using this)
    simp only [byteAt_eq, Nat.pow_zero, Nat.div_one] at h0
    omega
theorem pack_lt : ∀ l : List UInt8, pack l < 256 ^ l.length
  | [] => by simp [pack]
  | b :: l => by
    have h := pack_lt l
    have hb : b.toNat < 256 := b.toNat_lt
    simp only [pack, List.length_cons, Nat.pow_succ]; omega
theorem byteAt_pack : ∀ (l : List UInt8) (i : Nat) (h : i < l.length), byteAt (pack l) i = (l[i]).toNat
  | b :: l, 0, _ => by
    have hb : b.toNat < 256 := b.toNat_lt
    simp only [pack, byteAt_eq, Nat.pow_zero, Nat.div_one, List.getElem_cons_zero]; omega
  | b :: l, i + 1, h => by
    have hb : b.toNat < 256 := b.toNat_lt
    have := byteAt_pack l i (by simpa using h)
    rw [List.getElem_cons_succ, ← this, Nat.add_comm i 1, ← byteAt_div, Nat.pow_one]
    congr 1
    simp only [pack]; omega
theorem pack_inj {l m : List UInt8} (hl : l.length = m.length) (h : pack l = pack m) : l = m := by
  refine List.ext_getElem hl fun i h1 h2 => ?_
  have := byteAt_pack l i h1
  rw [h, byteAt_pack m i h2] at this
  exact (UInt8.toNat_inj.1 this).symm
end Go.Proofs.YtabllhhainepgaaGreatDoor.Ab
/-
  The abstract machine: how values, objects and heaps stand for the model's.
-/
namespace Go.Proofs.YtabllhhainepgaaGreatDoor.Ab
open Go.RowKit

/-- Where an abstract block lies: block, first cell, elements of spare room that nobody counted. -/
structure Loc where
  blk : Nat
  base : Nat
  slack : Nat
abbrev Mu := Nat → Option Loc
def Mu.le (μ ν : Mu) : Prop := ∀ b L, μ b = some L → ν b = some L
theorem Mu.le_refl (μ : Mu) : μ.le μ := fun _ _ h => h
theorem Mu.le.trans {μ ν ρ : Mu} (h : μ.le ν) (k : ν.le ρ) : μ.le ρ := fun b L hb => k b L (h b L hb)
def Mu.up (μ : Mu) (b : Nat) (L : Loc) : Mu := fun c => if c = b then some L else μ c
theorem Mu.up_le {μ : Mu} {b : Nat} (h : μ b = none) (L : Loc) : μ.le (μ.up b L) := fun c K hc => by
  unfold Mu.up; by_cases e : c = b
  · rw [e, h] at hc; cases hc
  · rw [if_neg e]; exact hc
/-- More places are known, none below n. -/
def Mu.lx (n : Nat) (μ ν : Mu) : Prop := μ.le ν ∧ ∀ b, b < n → ν b = μ b
theorem Mu.lx_refl (μ : Mu) (n : Nat) : μ.lx n μ := ⟨μ.le_refl, fun _ _ => rfl⟩
theorem Mu.lx.trans {n : Nat} {μ ν ρ : Mu} (h : μ.lx n ν) (k : ν.lx n ρ) : μ.lx n ρ := ⟨h.1.trans k.1, fun b hb => (k.2 b hb).trans (h.2 b hb)⟩
theorem Mu.lx.weak {n m : Nat} {μ ν : Mu} (h : μ.lx n ν) (hm : m ≤ n) : μ.lx m ν := ⟨h.1, fun b hb => h.2 b (by omega)⟩
theorem Mu.up_lx {μ : Mu} {n : Nat} {L : Loc} (h : μ.le (μ.up n L)) : μ.lx n (μ.up n L) := ⟨h, fun b hb => by unfold Mu.up; rw [if_neg (by omega)]⟩
theorem Mu.up_same (μ : Mu) (b : Nat) (L : Loc) : (μ.up b L) b = some L := by simp [Mu.up]

mutual
inductive VR (μ : Mu) : AV → Value → Prop
  | junk (v : Value) : VR μ .junk v
  | bool (b : Bool) : VR μ (.bool b) (.bool b)
  | int (k : IntKind) (n : Int) : VR μ (.int k n) (.int k n)
  | str (n N : Nat) (s : ByteArray) (h1 : s.data.size = n) (h2 : pack s.data.toList = N) : VR μ (.str n N) (.string s)
  | nilp : VR μ .nilp (.pointer none)
  | ptr (b off : Nat) (L : Loc) (h : μ b = some L) : VR μ (.ptr b off) (.pointer (some ⟨L.blk, L.base + off, none⟩))
  | nils : VR μ .nils (.slice none 0 0)
  | slice (b off len cap : Nat) (g : Bool) (L : Loc) (h : μ b = some L) : VR μ (.slice b off len cap g) (.slice (some ⟨L.blk, L.base + off, none⟩) len (cap + if g then L.slack else 0))
  | sliceE (b off : Nat) (a : Addr) (c : Nat) (L : Loc) (h : μ b = some L) (ha : c = 0 ∨ (a = ⟨L.blk, L.base + off, none⟩ ∧ c = L.slack)) : VR μ (.sliceE b off) (.slice (some a) 0 c)
  | nilm : VR μ .nilm (.map none)
  | map (b : Nat) (L : Loc) (h : μ b = some L) : VR μ (.map b) (.map (some L.blk))
  | nilf : VR μ .nilf .nilFunc
  | func (f : Nat) (a c : List AV) (x y : Array Value) (ha : LR μ a x.toList) (hc : LR μ c y.toList) : VR μ (.func f a c) (.func (.func f) x y)
  | yield (l : Nat) (L : Loc) (h : μ l = some L) : VR μ (.yield l) (.func (.yield L.blk) #[] #[])
  | meth (name : String) (r : AV) (v : Value) (y : Array Value) (h : VR μ r v) : VR μ (.meth name r) (.func (.method name) #[v] y)
  | nili : VR μ .nili .nilIface
  | iface (t : Nat) (a : AV) (v : Value) (h : VR μ a v) : VR μ (.iface t a) (.iface t v)
  | agg (l : List AV) (x : Array Value) (h : LR μ l x.toList) : VR μ (.agg l) (.agg x)
  | tuple (l : List AV) (x : Array Value) (h : LR μ l x.toList) : VR μ (.tuple l) (.tuple x)
  | any (v : Value) (h : v.oneCell' = true) : VR μ .any v
inductive LR (μ : Mu) : List AV → List Value → Prop
  | nil : LR μ [] []
  | cons (a : AV) (v : Value) (l : List AV) (m : List Value) (h : VR μ a v) (t : LR μ l m) : LR μ (a :: l) (v :: m)
end

theorem VR.mono {μ ν : Mu} (hm : μ.le ν) {a : AV} {v : Value} (h : VR μ a v) : VR ν a v := by
  refine VR.rec (motive_1 := fun a v _ => VR ν a v) (motive_2 := fun l m _ => LR ν l m) ?_ ?_ ?_ ?_ ?_ ?_ ?_ ?_ ?_ ?_ ?_ ?_ ?_ ?_ ?_ ?_ ?_ ?_ ?_ ?_ ?_ ?_ h
  · exact fun v => .junk v
  · exact fun b => .bool b
  · exact fun k n => .int k n
  · exact fun n N s h1 h2 => .str n N s h1 h2
  · exact .nilp
  · exact fun b off L h => .ptr b off L (hm _ _ h)
  · exact .nils
  · exact fun b off len cap g L h => .slice b off len cap g L (hm _ _ h)
  · exact fun b off a c L h ha => .sliceE b off a c L (hm _ _ h) ha
  · exact .nilm
  · exact fun b L h => .map b L (hm _ _ h)
  · exact .nilf
  · exact fun f a c x y _ _ ha hc => .func f a c x y ha hc
  · exact fun l L h => .yield l L (hm _ _ h)
  · exact fun name r v y _ h => .meth name r v y h
  · exact .nili
  · exact fun t a v _ h => .iface t a v h
  · exact fun l x _ h => .agg l x h
  · exact fun l x _ h => .tuple l x h
  · exact fun v h => .any v h
  · exact .nil
  · exact fun a v l m _ _ h t => .cons a v l m h t
theorem LR.mono {μ ν : Mu} (hm : μ.le ν) : ∀ {l : List AV} {m : List Value}, LR μ l m → LR ν l m
  | [], _, h => by cases h; exact .nil
  | a :: l, _, h => by cases h with | cons _ v _ m h t => exact .cons a v l m (h.mono hm) (t.mono hm)
theorem LR.length {μ : Mu} : ∀ {l : List AV} {m : List Value}, LR μ l m → l.length = m.length
  | [], _, h => by cases h; rfl
  | a :: l, _, h => by cases h with | cons _ v _ m h t => simp [t.length]
theorem LR.get {μ : Mu} : ∀ {l : List AV} {m : List Value}, LR μ l m → ∀ (i : Nat) (a : AV), l[i]? = some a → ∃ v, m[i]? = some v ∧ VR μ a v
  | [], _, h, i, a, hi => by simp at hi
  | b :: l, _, h, i, a, hi => by
    cases h with | cons _ v _ m h t =>
    cases i with
    | zero => simp at hi; subst hi; exact ⟨v, rfl, h⟩
    | succ i => simp at hi; simpa using t.get i a hi
theorem LR.of_get {μ : Mu} : ∀ {l : List AV} {m : List Value}, l.length = m.length → (∀ (i : Nat) (a : AV) (v : Value), l[i]? = some a → m[i]? = some v → VR μ a v) → LR μ l m
  | [], [], _, _ => .nil
  | [], _ :: _, h, _ => by simp at h
  | _ :: _, [], h, _ => by simp at h
  | a :: l, v :: m, h, H => .cons a v l m (H 0 a v rfl rfl) (LR.of_get (by simpa using h) fun i a v ha hv => H (i + 1) a v (by simpa using ha) (by simpa using hv))
theorem LR.append {μ : Mu} : ∀ {l : List AV} {m : List Value} {l' : List AV} {m' : List Value}, LR μ l m → LR μ l' m' → LR μ (l ++ l') (m ++ m')
  | [], _, _, _, h, h' => by cases h; exact h'
  | a :: l, _, _, _, h, h' => by cases h with | cons _ v _ m h t => exact .cons _ _ _ _ h (t.append h')
theorem LR.take {μ : Mu} : ∀ (n : Nat) {l : List AV} {m : List Value}, LR μ l m → LR μ (l.take n) (m.take n)
  | 0, _, _, _ => by simp; exact .nil
  | n + 1, _, _, h => by cases h with
    | nil => simp; exact .nil
    | cons a v l m h t => simp; exact .cons _ _ _ _ h (t.take n)
theorem LR.drop {μ : Mu} : ∀ (n : Nat) {l : List AV} {m : List Value}, LR μ l m → LR μ (l.drop n) (m.drop n)
  | 0, _, _, h => by simpa using h
  | n + 1, _, _, h => by cases h with
    | nil => simp; exact .nil
    | cons a v l m h t => simpa using t.drop n
theorem LR.zero {μ : Mu} {m : List Value} (h : LR μ [] m) : m = [] := by cases h; rfl
theorem LR.one {μ : Mu} {a : AV} {m : List Value} (h : LR μ [a] m) : ∃ v, m = [v] ∧ VR μ a v := by
  cases h with | cons _ v _ m h t => cases t; exact ⟨v, rfl, h⟩
theorem LR.two {μ : Mu} {a b : AV} {m : List Value} (h : LR μ [a, b] m) : ∃ v u, m = [v, u] ∧ VR μ a v ∧ VR μ b u := by
  cases h with | cons _ v _ m h t => obtain ⟨u, rfl, hu⟩ := t.one; exact ⟨v, u, rfl, h, hu⟩
theorem LR.mk1 {μ : Mu} {a : AV} {v : Value} (h : VR μ a v) : LR μ [a] [v] := .cons _ _ _ _ h .nil
theorem LR.mk2 {μ : Mu} {a b : AV} {v u : Value} (h : VR μ a v) (k : VR μ b u) : LR μ [a, b] [v, u] := .cons _ _ _ _ h (.mk1 k)
theorem LR.map {μ : Mu} {α : Type} (f : α → AV) (g : α → Value) : ∀ (l : List α), (∀ x ∈ l, VR μ (f x) (g x)) → LR μ (l.map f) (l.map g)
  | [], _ => .nil
  | x :: l, h => .cons _ _ _ _ (h x (by simp)) (LR.map f g l fun y hy => h y (by simp [hy]))

/-! ### what a value tells of the value that it stands for -/
section
variable {μ : Mu} {v : Value}
theorem VR.bool_inv {b : Bool} (h : VR μ (.bool b) v) : v = .bool b := by cases h; rfl
theorem VR.int_inv {k : IntKind} {n : Int} (h : VR μ (.int k n) v) : v = .int k n := by cases h; rfl
theorem VR.str_inv {n N : Nat} (h : VR μ (.str n N) v) : ∃ s : ByteArray, v = .string s ∧ s.data.size = n ∧ pack s.data.toList = N := by cases h with | str _ _ s h1 h2 => exact ⟨s, rfl, h1, h2⟩
theorem VR.ptr_inv {b off : Nat} (h : VR μ (.ptr b off) v) : ∃ L, μ b = some L ∧ v = .pointer (some ⟨L.blk, L.base + off, none⟩) := by cases h with | ptr _ _ L h => exact ⟨L, h, rfl⟩
theorem VR.slice_inv {b off len cap : Nat} {g : Bool} (h : VR μ (.slice b off len cap g) v) : ∃ L, μ b = some L ∧ v = .slice (some ⟨L.blk, L.base + off, none⟩) len (cap + if g then L.slack else 0) := by
  cases h with | slice _ _ _ _ _ L h => exact ⟨L, h, rfl⟩
theorem VR.map_inv {b : Nat} (h : VR μ (.map b) v) : ∃ L, μ b = some L ∧ v = .map (some L.blk) := by cases h with | map _ L h => exact ⟨L, h, rfl⟩
theorem VR.agg_inv {l : List AV} (h : VR μ (.agg l) v) : ∃ x : Array Value, v = .agg x ∧ LR μ l x.toList := by cases h with | agg _ x h => exact ⟨x, rfl, h⟩
theorem VR.tuple_inv {l : List AV} (h : VR μ (.tuple l) v) : ∃ x : Array Value, v = .tuple x ∧ LR μ l x.toList := by cases h with | tuple _ x h => exact ⟨x, rfl, h⟩
theorem VR.iface_inv {t : Nat} {a : AV} (h : VR μ (.iface t a) v) : ∃ u, v = .iface t u ∧ VR μ a u := by cases h with | iface _ _ u h => exact ⟨u, rfl, h⟩
theorem VR.func_inv {f : Nat} {a c : List AV} (h : VR μ (.func f a c) v) : ∃ x y : Array Value, v = .func (.func f) x y ∧ LR μ a x.toList ∧ LR μ c y.toList := by
  cases h with | func _ _ _ x y ha hc => exact ⟨x, y, rfl, ha, hc⟩
theorem VR.yield_inv {l : Nat} (h : VR μ (.yield l) v) : ∃ L, μ l = some L ∧ v = .func (.yield L.blk) #[] #[] := by cases h with | yield _ L h => exact ⟨L, h, rfl⟩
theorem VR.meth_inv {s : String} {r : AV} (h : VR μ (.meth s r) v) : ∃ (u : Value) (y : Array Value), v = .func (.method s) #[u] y ∧ VR μ r u := by cases h with | meth _ _ u y h => exact ⟨u, y, rfl, h⟩
theorem VR.undef : VR μ (.tuple []) undef := .tuple [] #[] .nil
/-- A value that may lie in one cell stands for one. -/
theorem VR.one {a : AV} (hb : cellB a = true) (h : VR μ a v) : v.oneCell' = true := by
  cases h <;> first | rfl | assumption | simp [cellB] at hb
theorem VR.cells {a : AV} {l : List AV} (h : VR μ a v) (hl : cellsOfA a = some l) : LR μ l v.cells.toList := by
  cases h <;> simp only [cellsOfA, Option.some.injEq, reduceCtorEq] at hl <;> subst hl <;> simp only [Value.cells]
  all_goals first
    | assumption
    | (refine .mk1 ?_; constructor <;> assumption)
    | exact .mk1 (.bool _)
    | exact .mk1 (.int _ _)
    | (rename_i hv; cases v <;> first | exact .mk1 (.any _ rfl) | cases hv)
end

/-! ### objects -/
/-- The cells of an array from o on stand for a row. -/
def RowR (μ : Mu) (arr : Array Value) (o : Nat) (row : List AV) : Prop := ∀ j a, row[j]? = some a → ∃ v, arr[o + j]? = some v ∧ VR μ a v
/-- Each cell holds what may lie in one. -/
def One (arr : Array Value) : Prop := ∀ v ∈ arr.toList, v.oneCell' = true
/-- No cell below n is frozen. -/
def Free (fz : Nat × Nat) (n : Nat) : Prop := fz = (0, 0) ∨ n ≤ fz.1
theorem Free.not {fz : Nat × Nat} {n : Nat} (h : Free fz n) : ∀ j, j < n → ¬ (fz.1 ≤ j ∧ j < fz.2) := fun j hj => by
  rcases h with h | h
  · rw [h]; simp
  · omega
def StrR (n N : Nat) (s : ByteArray) : Prop := s.data.size = n ∧ pack s.data.toList = N
/-- The slots of a frame. -/
def SR (μ : Mu) (n : Nat) (tm : TM) (tmps : Array Value) : Prop := n ≤ tmps.size ∧ ∀ t, VR μ (getT tm t) (tmps.getD t undef)
def ER (μ : Mu) (es : List (AV × AV × Nat)) (cs : List MapEntry) : Prop :=
  es.length = cs.length ∧ ∀ (i : Nat) (e : AV × AV × Nat) (c : MapEntry), es[i]? = some e → cs[i]? = some c → VR μ e.1 c.key ∧ VR μ e.2.1 c.val ∧ e.2.2 = c.born
def OR (μ : Mu) (L : Loc) (o : AObj) (obj : Obj) : Prop :=
  match o with
  | .dead => True
  | .bytes n N e st => ∃ arr fz, obj = .cells arr e fz ∧ coreB N < 256 ^ n ∧ L.base + n + L.slack ≤ arr.size ∧ (∀ i, i < n → arr[L.base + i]? = some (.int .u8 (.ofNat (byteAt (coreB N) i)))) ∧ Free fz arr.size ∧ (st = false → fz = (0, 0))
  | .rows n s c z e => ∃ arr, obj = .cells arr e (0, 0) ∧ L.base + (n + L.slack) * s ≤ arr.size ∧ (∀ i, i < n → (getR c (path i) z).length = s ∧ RowR μ arr (L.base + i * s) (getR c (path i) z)) ∧ One arr
  | .map es clock => ∃ cs, obj = .map cs clock ∧ ER μ es cs.toList
  | .strIter n N pos => L.base = 0 ∧ ∃ s, obj = .stringIter s pos ∧ StrR n N s
  | .mapIter m since seen stepped => L.base = 0 ∧ ∃ m', obj = .mapIter m' since seen.toArray stepped ∧ (match m with | none => m' = none | some b => ∃ K, μ b = some K ∧ m' = some K.blk)
  | .loop st p fn mask tr n ps asg body d => ∃ tmps K, obj = .loop ⟨st, p, fn, tmps, ps, asg, body, K.blk⟩ ∧ μ d = some K ∧ SR μ n (.mk mask .nil tr) tmps
  | .deferred t => obj = .deferred (if t then some [] else none)

theorem RowR.mono {μ ν : Mu} (hm : μ.le ν) {arr : Array Value} {o : Nat} {row : List AV} (h : RowR μ arr o row) : RowR ν arr o row := fun j a ha => let ⟨v, h1, h2⟩ := h j a ha; ⟨v, h1, h2.mono hm⟩
theorem SR.mono {μ ν : Mu} (hm : μ.le ν) {n : Nat} {tm : TM} {tmps : Array Value} (h : SR μ n tm tmps) : SR ν n tm tmps := ⟨h.1, fun t => (h.2 t).mono hm⟩
theorem ER.mono {μ ν : Mu} (hm : μ.le ν) {es : List (AV × AV × Nat)} {cs : List MapEntry} (h : ER μ es cs) : ER ν es cs :=
  ⟨h.1, fun i e c he hc => let ⟨a, b, d⟩ := h.2 i e c he hc; ⟨a.mono hm, b.mono hm, d⟩⟩
theorem OR.mono {μ ν : Mu} (hm : μ.le ν) {L : Loc} {o : AObj} {obj : Obj} (h : OR μ L o obj) : OR ν L o obj := by
  cases o with
  | dead => trivial
  | bytes n N e st => exact h
  | rows n s c z e => obtain ⟨arr, h1, h2, h3, h4⟩ := h; exact ⟨arr, h1, h2, fun i hi => ⟨(h3 i hi).1, (h3 i hi).2.mono hm⟩, h4⟩
  | map es clock => obtain ⟨cs, h1, h2⟩ := h; exact ⟨cs, h1, h2.mono hm⟩
  | strIter n N pos => exact h
  | mapIter m since seen stepped =>
    obtain ⟨h0, m', h1, h2⟩ := h
    refine ⟨h0, m', h1, ?_⟩
    cases m with
    | none => exact h2
    | some b => obtain ⟨K, h3, h4⟩ := h2; exact ⟨K, hm _ _ h3, h4⟩
  | loop st p fn mask tr n ps asg body d => obtain ⟨tmps, K, h1, h2, h3⟩ := h; exact ⟨tmps, K, h1, hm _ _ h2, h3.mono hm⟩
  | deferred t => exact h

/-! ### heaps -/
structure HR (w0 : World) (G : Nat) (μ : Mu) (H : AH) (w : World) : Prop where
  below : Below w0.heap.size w0 w
  dom : ∀ b, H.size ≤ b → μ b = none
  obj : ∀ b L, μ b = some L → H.get b ≠ .dead → ∃ o, w.heap[L.blk]? = some o ∧ OR μ L (H.get b) o
  own : ∀ b L, G ≤ b → μ b = some L → w0.heap.size ≤ L.blk
  inj : ∀ b c L K, H.get b ≠ .dead → H.get c ≠ .dead → μ b = some L → μ c = some K → L.blk = K.blk → b = c
  lt : ∀ b L, μ b = some L → L.blk < w.heap.size
  live : ∀ b, H.size ≤ b → H.get b = .dead
  gs : G ≤ H.size

/-- Two worlds that differ in block r alone (and in what has been drawn). -/
structure Apart (r : Nat) (w w' : World) : Prop where
  os : w'.os = w.os
  tape : w'.tape = w.tape
  output : w'.output = w.output
  size : w'.heap.size = w.heap.size
  block : ∀ k, k ≠ r → w'.heap[k]? = w.heap[k]?
/-- A world with one block more. -/
structure Grew (o : Obj) (w w' : World) : Prop where
  os : w'.os = w.os
  tape : w'.tape = w.tape
  output : w'.output = w.output
  heap : w'.heap = w.heap.push o

section
variable {w0 : World} {G : Nat} {μ : Mu} {H : AH} {w w' : World}
/-- A block is made. -/
theorem HR.push (h : HR w0 G μ H w) {o : AObj} {obj : Obj} (hg : Grew obj w w') {L : Loc} (hL : L.blk = w.heap.size)
    (ho : OR (μ.up H.size L) L o obj) : HR w0 G (μ.up H.size L) (H.push o) w' ∧ μ.lx H.size (μ.up H.size L) := by
  have hle : μ.le (μ.up H.size L) := Mu.up_le (h.dom _ (Nat.le_refl _)) L
  have hsz : w'.heap.size = w.heap.size + 1 := by rw [hg.heap]; simp
  have hold : ∀ k, k < w.heap.size → w'.heap[k]? = w.heap[k]? := fun k hk => by rw [hg.heap, Array.getElem?_push_lt hk]; simp [hk]
  refine ⟨⟨?_, ?_, ?_, ?_, ?_, ?_, ?_, Nat.le_succ_of_le h.gs⟩, Mu.up_lx hle⟩
  · exact ⟨hg.os.trans h.below.os, hg.tape.trans h.below.tape, hg.output.trans h.below.output, by have := h.below.size; omega,
      fun k hk => (hold k (by have := h.below.size; omega)).trans (h.below.block k hk)⟩
  · intro b hb
    have hb' : H.size + 1 ≤ b := hb
    unfold Mu.up
    rw [if_neg (by omega)]; exact h.dom b (by omega)
  · intro b K hK hd
    rw [get_push] at hd ⊢
    unfold Mu.up at hK
    by_cases e : b = H.size
    · rw [if_pos e] at hK
      cases hK
      rw [if_pos e]
      exact ⟨obj, by rw [hL, hg.heap]; simp, ho⟩
    · rw [if_neg e] at hK hd
      rw [if_neg e]
      obtain ⟨x, hx, hr⟩ := h.obj b K hK hd
      exact ⟨x, (hold _ (h.lt b K hK)).trans hx, hr.mono hle⟩
  · intro b K hb hK
    unfold Mu.up at hK
    by_cases e : b = H.size
    · rw [if_pos e] at hK
      cases hK
      have := h.below.size; omega
    · rw [if_neg e] at hK; exact h.own b K hb hK
  · intro b c K K' hb hc hK hK' he
    rw [get_push] at hb hc
    unfold Mu.up at hK hK'
    by_cases e : b = H.size
    · by_cases e' : c = H.size
      · omega
      · rw [if_pos e] at hK
        rw [if_neg e'] at hK'
        cases hK
        have := h.lt c K' hK'
        omega
    · by_cases e' : c = H.size
      · rw [if_neg e] at hK
        rw [if_pos e'] at hK'
        cases hK'
        have := h.lt b K hK
        omega
      · rw [if_neg e] at hK hb
        rw [if_neg e'] at hK' hc
        exact h.inj b c K K' hb hc hK hK' he
  · intro b K hK
    unfold Mu.up at hK
    by_cases e : b = H.size
    · rw [if_pos e] at hK
      cases hK
      omega
    · rw [if_neg e] at hK
      have := h.lt b K hK; omega
  · intro b hb
    have hb' : H.size + 1 ≤ b := hb
    rw [get_push, if_neg (by omega)]; exact h.live b (by omega)
/-- A block is written. -/
theorem HR.set (h : HR w0 G μ H w) {b : Nat} {L : Loc} (hL : μ b = some L) (hG : G ≤ b) (hd : H.get b ≠ .dead) {o : AObj} {obj : Obj} (hw : Apart L.blk w w')
    (hobj : w'.heap[L.blk]? = some obj) (ho : OR μ L o obj) : HR w0 G μ (H.set b o) w' := by
  refine ⟨?_, h.dom, ?_, h.own, ?_, ?_, ?_, h.gs⟩
  · exact ⟨hw.os.trans h.below.os, hw.tape.trans h.below.tape, hw.output.trans h.below.output, by have := h.below.size; have := hw.size; omega,
      fun k hk => (hw.block k (by have := h.own b L hG hL; omega)).trans (h.below.block k hk)⟩
  · intro c K hK hc
    rw [get_set] at hc ⊢
    by_cases e : c = b
    · subst e
      rw [hL] at hK
      cases hK
      rw [if_pos rfl]
      exact ⟨obj, hobj, ho⟩
    · rw [if_neg e] at hc ⊢
      obtain ⟨x, hx, hr⟩ := h.obj c K hK hc
      exact ⟨x, (hw.block _ (fun e' => e (h.inj c b K L hc hd hK hL e'))).trans hx, hr⟩
  · intro c d K K' hc hd' hK hK' he
    rw [get_set] at hc hd'
    refine h.inj c d K K' ?_ ?_ hK hK' he
    · by_cases e : c = b
      · rw [e]; exact hd
      · rwa [if_neg e] at hc
    · by_cases e : d = b
      · rw [e]; exact hd
      · rwa [if_neg e] at hd'
  · intro c K hK; rw [hw.size]; exact h.lt c K hK
  · intro c hc
    have hc' : H.size ≤ c := hc
    rw [get_set]
    by_cases e : c = b
    · subst e
      rw [h.dom c hc'] at hL; cases hL
    · rw [if_neg e]; exact h.live c hc'
/-- What has been drawn does not count. -/
theorem HR.drawn (h : HR w0 G μ H w) {r : Nat} (hw : Apart r w w') (hr : w'.heap[r]? = w.heap[r]?) : HR w0 G μ H w' := by
  have hall : ∀ k, w'.heap[k]? = w.heap[k]? := fun k => by
    by_cases e : k = r
    · rw [e]; exact hr
    · exact hw.block k e
  refine ⟨?_, h.dom, ?_, h.own, h.inj, ?_, h.live, h.gs⟩
  · exact ⟨hw.os.trans h.below.os, hw.tape.trans h.below.tape, hw.output.trans h.below.output, by have := h.below.size; have := hw.size; omega,
      fun k hk => (hall k).trans (h.below.block k hk)⟩
  · intro c K hK hc
    obtain ⟨x, hx, hr'⟩ := h.obj c K hK hc
    exact ⟨x, (hall _).trans hx, hr'⟩
  · intro c K hK; rw [hw.size]; exact h.lt c K hK
/-- A block's name dies. -/
theorem HR.kill (h : HR w0 G μ H w) (b : Nat) : HR w0 G μ (H.set b .dead) w := by
  refine ⟨h.below, h.dom, ?_, h.own, ?_, h.lt, ?_, h.gs⟩
  · intro c K hK hc
    rw [get_set] at hc ⊢
    by_cases e : c = b
    · rw [if_pos e] at hc; exact absurd rfl hc
    · rw [if_neg e] at hc ⊢; exact h.obj c K hK hc
  · intro c d K K' hc hd' hK hK' he
    rw [get_set] at hc hd'
    refine h.inj c d K K' ?_ ?_ hK hK' he
    · by_cases e : c = b
      · rw [if_pos e] at hc; exact absurd rfl hc
      · rwa [if_neg e] at hc
    · by_cases e : d = b
      · rw [if_pos e] at hd'; exact absurd rfl hd'
      · rwa [if_neg e] at hd'
  · intro c hc
    rw [get_set]
    by_cases e : c = b
    · rw [if_pos e]
    · rw [if_neg e]; exact h.live c hc
/-- A second name for a place whose first name has died (what was there grew where it lay). -/
theorem HR.rename (h : HR w0 G μ H w) {b : Nat} {L : Loc} (hL : μ b = some L) (hb : G ≤ b) (hd : H.get b ≠ .dead) {o : AObj} {obj : Obj} {K : Loc} (hK : K.blk = L.blk) (hw : Apart L.blk w w')
    (hobj : w'.heap[L.blk]? = some obj) (ho : OR (μ.up H.size K) K o obj) : HR w0 G (μ.up H.size K) ((H.set b .dead).push o) w' ∧ μ.lx H.size (μ.up H.size K) := by
  have hle : μ.le (μ.up H.size K) := Mu.up_le (h.dom _ (Nat.le_refl _)) K
  have hbs : b < H.size := by
    rcases Nat.lt_or_ge b H.size with h' | h'
    · exact h'
    · rw [h.dom b h'] at hL; cases hL
  have hgp : ∀ c, ((H.set b .dead).push o).get c = if c = H.size then o else if c = b then .dead else H.get c := fun c => by
    rw [get_push, get_set]; rfl
  refine ⟨⟨?_, ?_, ?_, ?_, ?_, ?_, ?_, Nat.le_succ_of_le h.gs⟩, Mu.up_lx hle⟩
  · exact ⟨hw.os.trans h.below.os, hw.tape.trans h.below.tape, hw.output.trans h.below.output, by have := h.below.size; have := hw.size; omega,
      fun k hk => (hw.block k (by have := h.own b L hb hL; omega)).trans (h.below.block k hk)⟩
  · intro c hc
    have hc' : H.size + 1 ≤ c := hc
    unfold Mu.up
    rw [if_neg (by omega)]; exact h.dom c (by omega)
  · intro c M hM hc
    rw [hgp] at hc ⊢
    unfold Mu.up at hM
    by_cases e : c = H.size
    · rw [if_pos e] at hM
      cases hM
      rw [if_pos e, hK]
      exact ⟨obj, hobj, ho⟩
    · rw [if_neg e] at hM hc
      rw [if_neg e]
      by_cases e' : c = b
      · rw [if_pos e'] at hc; exact absurd rfl hc
      · rw [if_neg e'] at hc ⊢
        obtain ⟨x, hx, hr⟩ := h.obj c M hM hc
        exact ⟨x, (hw.block _ (fun e'' => e' (h.inj c b M L hc hd hM hL e''))).trans hx, hr.mono hle⟩
  · intro c M hc hM
    unfold Mu.up at hM
    by_cases e : c = H.size
    · rw [if_pos e] at hM
      cases hM
      rw [hK]; exact h.own b L hb hL
    · rw [if_neg e] at hM; exact h.own c M hc hM
  · intro c d M M' hc hd' hM hM' he
    rw [hgp] at hc hd'
    unfold Mu.up at hM hM'
    by_cases e : c = H.size
    · by_cases e' : d = H.size
      · omega
      · rw [if_neg e'] at hd' hM'
        rw [if_pos e] at hM
        cases hM
        by_cases e'' : d = b
        · rw [if_pos e''] at hd'; exact absurd rfl hd'
        · rw [if_neg e''] at hd'
          exact absurd (h.inj d b M' L hd' hd hM' hL (by omega)) e''
    · rw [if_neg e] at hc hM
      by_cases e1 : c = b
      · rw [if_pos e1] at hc; exact absurd rfl hc
      · rw [if_neg e1] at hc
        by_cases e' : d = H.size
        · rw [if_pos e'] at hM'
          cases hM'
          exact absurd (h.inj c b M L hc hd hM hL (by omega)) e1
        · rw [if_neg e'] at hd' hM'
          by_cases e'' : d = b
          · rw [if_pos e''] at hd'; exact absurd rfl hd'
          · rw [if_neg e''] at hd'
            exact h.inj c d M M' hc hd' hM hM' he
  · intro c M hM
    unfold Mu.up at hM
    rw [hw.size]
    by_cases e : c = H.size
    · rw [if_pos e] at hM
      cases hM
      rw [hK]; exact h.lt b L hL
    · rw [if_neg e] at hM; exact h.lt c M hM
  · intro c hc
    have hc' : H.size + 1 ≤ c := hc
    rw [hgp, if_neg (by omega)]
    by_cases e' : c = b
    · rw [if_pos e']
    · rw [if_neg e']; exact h.live c (by omega)
end
end Go.Proofs.YtabllhhainepgaaGreatDoor.Ab
/-
  The abstract machine: what an operation comes to stands for what the model's comes to: whole numbers, strings.
-/
namespace Go.Proofs.YtabllhhainepgaaGreatDoor.Ab
open Go.RowKit

def XR (P : Program) (w0 : World) (G : Nat) (μ : Mu) (s : Nat) (x : X) (r : Result Next) : Prop :=
  match x with
  | .fork a b => XR P w0 G μ s a r ∨ XR P w0 G μ s b r
  | .val v H' => ∃ (μ' : Mu) (w' : World) (u : Value), (r = .ok (.value u) w' ∨ (r = .ok .skip w' ∧ u = undef)) ∧ VR μ' v u ∧ HR w0 G μ' H' w' ∧ μ.lx s μ'
  | .enter f args H' => ∃ (cargs : Array Value) (w' : World), r = .ok (.enter f cargs) w' ∧ LR μ args cargs.toList ∧ HR w0 G μ H' w' ∧ callOk P f = true
  | .round l args H' => ∃ (L : Loc) (cargs : Array Value) (w' : World), μ l = some L ∧ LR μ args cargs.toList ∧ HR w0 G μ H' w' ∧
      ∀ lo : Loop, w'.heap[L.blk]? = some (.loop lo) → cargs.size = lo.params.size →
        r = .ok (.round L.blk lo.fn ((lo.params.zip cargs).foldl (fun tmps (t, a) => tmps.setIfInBounds t a) lo.tmps) lo.assign lo.body) w'
  | _ => True

section
variable {P : Program} {w0 w : World} {G : Nat} {μ : Mu} {H : AH} {s : Nat} {r : Result Next}
theorem XR.forkL {α : Type} {f : α → X} : ∀ (e : α) (l : List α), (∃ x ∈ e :: l, XR P w0 G μ s (f x) r) → XR P w0 G μ s (forkL f e l) r
  | e, [], h => by
    obtain ⟨x, hx, h⟩ := h
    rw [List.mem_singleton] at hx
    subst hx; exact h
  | e, e' :: l, h => by
    obtain ⟨x, hx, h⟩ := h
    rcases List.mem_cons.1 hx with rfl | hx
    · exact .inl h
    · exact .inr (XR.forkL e' l ⟨x, hx, h⟩)
theorem XR.value (h : HR w0 G μ H w) {v : AV} {u : Value} (hv : VR μ v u) (hr : r = .ok (.value u) w) : XR P w0 G μ s (.val v H) r := ⟨μ, w, u, .inl hr, hv, h, μ.lx_refl _⟩
theorem XR.new {ν : Mu} {H' : AH} {w' : World} {v : AV} {u : Value} (h : HR w0 G ν H' w' ∧ μ.lx s ν) (hv : VR ν v u) (hr : r = .ok (.value u) w') : XR P w0 G μ s (.val v H') r := ⟨ν, w', u, .inl hr, hv, h.1, h.2⟩
theorem XR.skip {H' : AH} {w' : World} (h : HR w0 G μ H' w') (hr : r = .ok .skip w') : XR P w0 G μ s (.val (.tuple []) H') r := ⟨μ, w', undef, .inr ⟨hr, rfl⟩, .undef, h, μ.lx_refl _⟩
theorem XR.fail (n : Nat) : XR P w0 G μ s (.fail n) r := trivial
theorem XR.rInt (h : HR w0 G μ H w) {k : IntKind} {n m : Int} (hn : n = m) (hr : r = .ok (.value (.int k m)) w) : XR P w0 G μ s (rInt k n H) r := by
  unfold Ab.rInt; rw [fInt_eq]; subst hn; exact XR.value h (.int k n) hr
theorem XR.rBool (h : HR w0 G μ H w) {b c : Bool} (hb : b = c) (hr : r = .ok (.value (.bool c)) w) : XR P w0 G μ s (rBool b H) r := by
  subst hb; cases b <;> exact XR.value h (.bool _) hr
theorem XR.rStr (h : HR w0 G μ H w) {n N : Nat} {t : ByteArray} (hs : StrR n N t) (hr : r = .ok (.value (.string t)) w) : XR P w0 G μ s (rStr n N H) r := by
  unfold Ab.rStr; rw [fNat_eq, fNat_eq]; exact XR.value h (.str _ _ t hs.1 hs.2) hr
theorem XR.rPtr (h : HR w0 G μ H w) {b off : Nat} {u : Value} (hv : VR μ (.ptr b off) u) (hr : r = .ok (.value u) w) : XR P w0 G μ s (rPtr b off H) r := by
  unfold Ab.rPtr; rw [fNat_eq, fNat_eq]; exact XR.value h hv hr
theorem rSlice_eq (b off len cap : Nat) (g : Bool) (H : AH) : rSlice b off len cap g H = .val (.slice b off len cap g) H := by
  unfold rSlice; rw [fNat_eq, fNat_eq, fNat_eq, fNat_eq]
theorem XR.rOpt (h : HR w0 G μ H w) {o : Option AV} {n : Nat} (hv : ∀ v, o = some v → ∃ u, VR μ v u ∧ r = .ok (.value u) w) : XR P w0 G μ s (rOpt o n H) r := by
  cases o with
  | none => trivial
  | some v => obtain ⟨u, h1, h2⟩ := hv v rfl; exact XR.value h h1 h2
theorem XR.rOptB (h : HR w0 G μ H w) {o : Option Bool} {n : Nat} (hv : ∀ b, o = some b → r = .ok (.value (.bool b)) w) : XR P w0 G μ s (rOptB o n H) r := by
  cases o with
  | none => trivial
  | some b => exact XR.rBool h rfl (hv b rfl)

/-! ### one kind, or else -/
theorem XR.onInt {v : AV} {f : IntKind → Int → X} {e : X} (h1 : ∀ k n, v = .int k n → XR P w0 G μ s (f k n) r) (h2 : XR P w0 G μ s e r) : XR P w0 G μ s (onInt v f e) r := by
  cases v <;> first | exact h2 | exact h1 _ _ rfl
theorem XR.onBool {v : AV} {f : Bool → X} {e : X} (h1 : ∀ b, v = .bool b → XR P w0 G μ s (f b) r) (h2 : XR P w0 G μ s e r) : XR P w0 G μ s (onBool v f e) r := by
  cases v <;> first | exact h2 | exact h1 _ rfl
theorem XR.onPtr {v : AV} {f : Nat → Nat → X} {e : X} (h1 : ∀ b o, v = .ptr b o → XR P w0 G μ s (f b o) r) (h2 : XR P w0 G μ s e r) : XR P w0 G μ s (onPtr v f e) r := by
  cases v <;> first | exact h2 | exact h1 _ _ rfl
theorem XR.onSlice {v : AV} {f : Nat → Nat → Nat → Nat → Bool → X} {e : X} (h1 : ∀ b o l c g, v = .slice b o l c g → XR P w0 G μ s (f b o l c g) r) (h2 : XR P w0 G μ s e r) : XR P w0 G μ s (onSlice v f e) r := by
  cases v <;> first | exact h2 | exact h1 _ _ _ _ _ rfl
theorem XR.onJunk {v : AV} {f : X} {e : X} (h1 : v = .junk → XR P w0 G μ s f r) (h2 : XR P w0 G μ s e r) : XR P w0 G μ s (onJunk v f e) r := by
  cases v <;> first | exact h2 | exact h1 rfl
theorem XR.onON {o : Option Nat} {f : Nat → X} {e : X} (h1 : ∀ n, o = some n → XR P w0 G μ s (f n) r) (h2 : XR P w0 G μ s e r) : XR P w0 G μ s (onON o f e) r := by
  cases o <;> first | exact h2 | exact h1 _ rfl
theorem XR.onOV {o : Option AV} {f : AV → X} {e : X} (h1 : ∀ n, o = some n → XR P w0 G μ s (f n) r) (h2 : XR P w0 G μ s e r) : XR P w0 G μ s (onOV o f e) r := by
  cases o <;> first | exact h2 | exact h1 _ rfl
theorem XR.onOL {o : Option (List AV)} {f : List AV → X} {e : X} (h1 : ∀ n, o = some n → XR P w0 G μ s (f n) r) (h2 : XR P w0 G μ s e r) : XR P w0 G μ s (onOL o f e) r := by
  cases o <;> first | exact h2 | exact h1 _ rfl
theorem XR.onK {o : Option IntKind} {f : IntKind → X} {e : X} (h1 : ∀ n, o = some n → XR P w0 G μ s (f n) r) (h2 : XR P w0 G μ s e r) : XR P w0 G μ s (onK o f e) r := by
  cases o <;> first | exact h2 | exact h1 _ rfl
theorem XR.onB {b : Bool} {f e : Unit → X} (h1 : b = true → XR P w0 G μ s (f ()) r) (h2 : b = false → XR P w0 G μ s (e ()) r) : XR P w0 G μ s (onB b f e) r := by
  cases b <;> first | exact h2 rfl | exact h1 rfl
theorem XR.onNat {n : Int} {f : Nat → X} {e : X} (h1 : ∀ m : Nat, n = (m : Int) → XR P w0 G μ s (f m) r) (h2 : XR P w0 G μ s e r) : XR P w0 G μ s (onNat n f e) r := by
  cases n with
  | ofNat m => exact h1 m rfl
  | negSucc m => exact h2
theorem XR.cond {b : Bool} {f e : X} (h1 : b = true → XR P w0 G μ s f r) (h2 : b = false → XR P w0 G μ s e r) : XR P w0 G μ s (bif b then f else e) r := by
  cases b <;> first | exact h2 rfl | exact h1 rfl
end

/-! ### an operation that yields a value -/
theorem run_v {P : Program} {w w' : World} {s : Sem Value} {u : Value} (h : s.run P w = .ok u w') : (do pure (Next.value (← s)) : Sem Next).run P w = .ok (.value u) w' := by simp [h]
theorem run_u {P : Program} {w w' : World} {s : Sem Unit} (h : s.run P w = .ok () w') : (do s; pure Next.skip : Sem Next).run P w = .ok .skip w' := by simp [h]

/-! ### whole numbers -/
theorem ltA_eq (x y : Int) : ltA x y = decide (x < y) := by
  rw [Bool.eq_iff_iff, decide_eq_true_iff]
  cases x <;> cases y <;> unfold ltA <;> simp [Nat.blt_eq] <;> omega
theorem addA_eq (x y : Int) : addA x y = x + y := by cases x <;> cases y <;> rfl
theorem subA_eq (x y : Int) : subA x y = x - y := by
  cases x with
  | ofNat a =>
    cases y with
    | ofNat b =>
      unfold subA
      by_cases h : b ≤ a
      · have : Nat.ble b a = true := by rw [Nat.ble_eq]; exact h
        simp only [this, cond_true]
        have e : Nat.sub a b = a - b := rfl
        rw [e]; simp only [Int.ofNat_eq_natCast]; omega
      · have : Nat.ble b a = false := by rw [← Bool.not_eq_true, Nat.ble_eq]; exact h
        simp only [this, cond_false]; rfl
    | negSucc b => rfl
  | negSucc a => cases y <;> rfl
theorem eqI2_eq (x y : Int) : eqI2 x y = (x == y) := by
  rw [Bool.eq_iff_iff, beq_iff_eq]
  cases x <;> cases y <;> unfold eqI2 <;> simp [Nat.beq_eq] <;> omega
theorem eqI_eq (x y : Int) : eqI x y = (x == y) := by
  rw [Bool.eq_iff_iff, beq_iff_eq]
  cases x <;> cases y <;> unfold eqI <;> simp [Nat.beq_eq] <;> omega
theorem wrapA_u8 (m : Nat) : wrapA .u8 (.ofNat m) = IntKind.u8.wrap (.ofNat m) := by
  rw [Int.ofNat_eq_natCast m]; rw [IntKind.wrap_u8']; exact Int.natCast_emod m 256
theorem wrapA_u16 (m : Nat) : wrapA .u16 (.ofNat m) = IntKind.u16.wrap (.ofNat m) := by
  rw [Int.ofNat_eq_natCast m]; rw [IntKind.wrap_u16]; exact Int.natCast_emod m 65536
theorem wrapA_u32 (m : Nat) : wrapA .u32 (.ofNat m) = IntKind.u32.wrap (.ofNat m) := by
  rw [Int.ofNat_eq_natCast m]; rw [IntKind.wrap_u32']; exact Int.natCast_emod m 4294967296
theorem wrapA_u64 (m : Nat) : wrapA .u64 (.ofNat m) = IntKind.u64.wrap (.ofNat m) := by
  rw [Int.ofNat_eq_natCast m]; rw [IntKind.wrap_u64]; exact Int.natCast_emod m 18446744073709551616
theorem wrapA_i32 (m : Nat) : wrapA .i32 (.ofNat m) = IntKind.i32.wrap (.ofNat m) := by
  unfold wrapA
  by_cases h : Nat.blt m 2147483648 = true
  · simp only [h, cond_true]; rw [Nat.blt_eq] at h; exact (IntWalk.i32_in (.ofNat m) (by rw [Int.ofNat_eq_natCast]; omega)).symm
  · rw [Bool.not_eq_true] at h; simp only [h, cond_false]
theorem wrapA_i64 (m : Nat) : wrapA .i64 (.ofNat m) = IntKind.i64.wrap (.ofNat m) := by
  unfold wrapA
  by_cases h : Nat.blt m 9223372036854775808 = true
  · simp only [h, cond_true]; rw [Nat.blt_eq] at h; exact (IntWalk.i64_in (.ofNat m) (by rw [Int.ofNat_eq_natCast]; omega)).symm
  · rw [Bool.not_eq_true] at h; simp only [h, cond_false]
theorem neg_bound (m : Nat) (h : m < 9223372036854775808) : -9223372036854775808 ≤ Int.negSucc m ∧ Int.negSucc m ≤ 9223372036854775807 := by rw [Int.negSucc_eq]; omega
theorem cond_or {α : Type} (b : Bool) (x y z : α) (h1 : b = true → x = z) (h2 : b = false → y = z) : (bif b then x else y) = z := by cases b; exact h2 rfl; exact h1 rfl
theorem wrapA_i64n0 (m : Nat) : wrapA .i64 (.negSucc m) = bif Nat.blt m 9223372036854775808 then .negSucc m else IntKind.wrap .i64 (.negSucc m) := rfl
theorem wrapA_i64n (m : Nat) : wrapA .i64 (.negSucc m) = IntKind.i64.wrap (.negSucc m) :=
  (wrapA_i64n0 m).trans (cond_or _ _ _ _ (fun h => (IntWalk.i64_in (Int.negSucc m) (neg_bound m (by rwa [Nat.blt_eq] at h))).symm) (fun _ => rfl))
theorem wrapA_nu8 (m : Nat) : wrapA .u8 (.negSucc m) = IntKind.wrap .u8 (.negSucc m) := rfl
theorem wrapA_nu16 (m : Nat) : wrapA .u16 (.negSucc m) = IntKind.wrap .u16 (.negSucc m) := rfl
theorem wrapA_nu32 (m : Nat) : wrapA .u32 (.negSucc m) = IntKind.wrap .u32 (.negSucc m) := rfl
theorem wrapA_nu64 (m : Nat) : wrapA .u64 (.negSucc m) = IntKind.wrap .u64 (.negSucc m) := rfl
theorem wrapA_ni8 (m : Nat) : wrapA .i8 (.negSucc m) = IntKind.wrap .i8 (.negSucc m) := rfl
theorem wrapA_ni16 (m : Nat) : wrapA .i16 (.negSucc m) = IntKind.wrap .i16 (.negSucc m) := rfl
theorem wrapA_ni32 (m : Nat) : wrapA .i32 (.negSucc m) = IntKind.wrap .i32 (.negSucc m) := rfl
theorem wrapA_i8 (m : Nat) : wrapA .i8 (.ofNat m) = IntKind.wrap .i8 (.ofNat m) := rfl
theorem wrapA_i16 (m : Nat) : wrapA .i16 (.ofNat m) = IntKind.wrap .i16 (.ofNat m) := rfl
theorem wrapA_pos (k : IntKind) (m : Nat) : wrapA k (.ofNat m) = IntKind.wrap k (.ofNat m) := by
  cases k
  · exact wrapA_i8 m
  · exact wrapA_i16 m
  · exact wrapA_i32 m
  · exact wrapA_i64 m
  · exact wrapA_u8 m
  · exact wrapA_u16 m
  · exact wrapA_u32 m
  · exact wrapA_u64 m
theorem wrapA_neg (k : IntKind) (m : Nat) : wrapA k (.negSucc m) = IntKind.wrap k (.negSucc m) := by
  cases k
  · exact wrapA_ni8 m
  · exact wrapA_ni16 m
  · exact wrapA_ni32 m
  · exact wrapA_i64n m
  · exact wrapA_nu8 m
  · exact wrapA_nu16 m
  · exact wrapA_nu32 m
  · exact wrapA_nu64 m
theorem wrapA_eq (k : IntKind) (n : Int) : wrapA k n = k.wrap n := by
  cases n with
  | ofNat m => exact wrapA_pos k m
  | negSucc m => exact wrapA_neg k m
theorem wrapN_eq (k : IntKind) (m : Nat) : wrapN k m = k.wrap (m : Int) := by
  rw [← wrapA_eq]
  cases k <;> rfl
theorem wrapZ_eq (k : IntKind) (n : Int) : wrapZ k n = k.wrap n := by
  cases n with
  | ofNat m => exact wrapN_eq k m
  | negSucc m => exact wrapA_eq k (Int.negSucc m)
theorem bitsN_eq (k : IntKind) : bitsN k = k.bits := by cases k <;> rfl
theorem kindCode_inj {k k' : IntKind} (h : kindCode k = kindCode k') : k = k' := by cases k <;> cases k' <;> first | rfl | simp [kindCode] at h
theorem pow_eq (a b : Nat) : Nat.pow a b = a ^ b := rfl
theorem bv_nat {n a : Nat} (h : a < 2 ^ n) : (BitVec.ofInt n (a : Int)).toNat = a := by
  rw [BitVec.toNat_ofInt]
  have e : ((a : Int) % ((2 ^ n : Nat) : Int)) = ((a % 2 ^ n : Nat) : Int) := by simp
  rw [e, Int.toNat_natCast, Nat.mod_eq_of_lt h]

section
variable {P : Program} {w0 w : World} {G : Nat} {μ : Mu} {H : AH}
theorem resI_eq {k : IntKind} {x : Int} (h : resI k x < 2 ^ k.bits) : (BitVec.ofInt k.bits x).toNat = resI k x := by
  cases x with
  | ofNat m => exact bv_nat h
  | negSucc m =>
    have e : resI k (.negSucc m) = 2 ^ k.bits - 1 - m % 2 ^ k.bits := by
      show Nat.sub (Nat.sub (Nat.pow 2 (bitsN k)) 1) (Nat.mod m (Nat.pow 2 (bitsN k))) = _
      rw [bitsN_eq]; rfl
    rw [e, BitVec.toNat_ofInt, Int.negSucc_emod]
    · have hp : 0 < 2 ^ k.bits := Nat.pow_pos (by omega)
      have hl : m % 2 ^ k.bits < 2 ^ k.bits := Nat.mod_lt _ hp
      have e2 : ((m : Int) % ((2 ^ k.bits : Nat) : Int)) = ((m % 2 ^ k.bits : Nat) : Int) := by simp
      rw [e2]
      generalize m % 2 ^ k.bits = q at hl
      generalize 2 ^ k.bits = p at hl
      omega
    · have hp : 0 < 2 ^ k.bits := Nat.pow_pos (by omega)
      exact_mod_cast hp
theorem XR.on2 {r : Result Next} {k : IntKind} {x y : Int} {f : Nat → Nat → X} (hf : ∀ a b : Nat, (BitVec.ofInt k.bits x).toNat = a → (BitVec.ofInt k.bits y).toNat = b → XR P w0 G μ H.size (f a b) r) : XR P w0 G μ H.size (on2 k x y f) r := by
  unfold Ab.on2
  rw [fNat_eq, fNat_eq]
  refine XR.onB (fun h => ?_) (fun _ => trivial)
  rw [Bool.and_eq_true, Nat.blt_eq, Nat.blt_eq, bitsN_eq] at h
  exact hf _ _ (resI_eq h.1) (resI_eq h.2)
theorem intOp_sound (h : HR w0 G μ H w) (op : BinOp) (t : TypeId) (k k' : IntKind) (x y : Int) (hk : k = k' ∨ isShift op = true) :
    XR P w0 G μ H.size (intOp op k x y H) ((do pure (Next.value (← binOp op t (.int k x) (.int k' y))) : Sem Next).run P w) := by
  cases op
  case shl =>
    refine XR.onNat (fun b hb => XR.onB (fun hle => ?_) (fun _ => trivial)) trivial
    rw [Nat.ble_eq, bitsN_eq] at hle
    subst hb
    refine XR.rInt h (m := k.wrap (x * 2 ^ b)) ?_ (run_v ?_)
    · rw [wrapZ_eq]; simp only [Int.ofNat_eq_natCast, pow_eq]; congr 1
    · simp only [binOp, Op.shift]
      rw [if_neg (by omega), Int.toNat_natCast, Nat.min_eq_left hle]; rfl
  case shr =>
    refine XR.onNat (fun b hb => XR.onNat (fun a ha => XR.onB (fun hle => ?_) (fun _ => trivial)) trivial) trivial
    rw [Nat.ble_eq, bitsN_eq] at hle
    subst hb ha
    refine XR.rInt h (m := ((a : Int)).fdiv (2 ^ b)) ?_ (run_v ?_)
    · rw [Int.fdiv_eq_ediv_of_nonneg _ (by exact Int.pow_nonneg (by omega))]
      have : ((2 : Int) ^ b) = ((2 ^ b : Nat) : Int) := by simp
      rw [this, ← Int.natCast_ediv]; rfl
    · simp only [binOp, Op.shift]
      rw [if_neg (by omega), Int.toNat_natCast, Nat.min_eq_left hle]; rfl
  all_goals (obtain rfl : k = k' := hk.resolve_right (by simp [isShift]))
  case add => exact XR.rInt h (m := k.wrap (x + y)) (by rw [wrapZ_eq, addA_eq]) (run_v (by simp [binOp, Op.intArith]))
  case sub => exact XR.rInt h (m := k.wrap (x - y)) (by rw [wrapZ_eq, subA_eq]) (run_v (by simp [binOp, Op.intArith]))
  case mul => exact XR.rInt h (m := k.wrap (x * y)) (by rw [wrapZ_eq]; rfl) (run_v (by simp [binOp, Op.intArith]))
  case quo =>
    refine XR.onNat (fun a ha => XR.onNat (fun b hb => XR.onB (fun hlt => ?_) (fun _ => trivial)) trivial) trivial
    rw [Nat.blt_eq] at hlt
    subst ha hb
    refine XR.rInt h (m := k.wrap ((a : Int).tdiv b)) (by rw [wrapN_eq]; rfl) (run_v ?_)
    have : ¬ (b : Int) = 0 := by omega
    simp only [binOp, Op.intDiv, this, ne_eq, not_true_eq_false, if_false, Sem.run_pure]
  case rem =>
    refine XR.onNat (fun a ha => XR.onNat (fun b hb => XR.onB (fun hlt => ?_) (fun _ => trivial)) trivial) trivial
    rw [Nat.blt_eq] at hlt
    subst ha hb
    refine XR.rInt h (m := (a : Int).tmod b) rfl (run_v ?_)
    have : ¬ (b : Int) = 0 := by omega
    simp only [binOp, Op.intDiv, this, ne_eq, not_true_eq_false, if_false, Sem.run_pure]
  case and =>
    refine XR.on2 fun a b ha hb => ?_
    refine XR.rInt h (m := k.wrap ((BitVec.ofInt k.bits x &&& BitVec.ofInt k.bits y).toNat : Int)) ?_ (run_v (by simp [binOp, Op.intBits]))
    rw [wrapN_eq, BitVec.toNat_and, ha, hb]; rfl
  case or =>
    refine XR.on2 fun a b ha hb => ?_
    refine XR.rInt h (m := k.wrap ((BitVec.ofInt k.bits x ||| BitVec.ofInt k.bits y).toNat : Int)) ?_ (run_v (by simp [binOp, Op.intBits]))
    rw [wrapN_eq, BitVec.toNat_or, ha, hb]; rfl
  case xor =>
    refine XR.on2 fun a b ha hb => ?_
    refine XR.rInt h (m := k.wrap ((BitVec.ofInt k.bits x ^^^ BitVec.ofInt k.bits y).toNat : Int)) ?_ (run_v (by simp [binOp, Op.intBits]))
    rw [wrapN_eq, BitVec.toNat_xor, ha, hb]; rfl
  case andNot =>
    refine XR.on2 fun a b ha hb => ?_
    refine XR.rInt h (m := k.wrap ((BitVec.ofInt k.bits x &&& ~~~ BitVec.ofInt k.bits y).toNat : Int)) ?_ (run_v (by simp [binOp, Op.intBits]))
    have e : (BitVec.ofInt k.bits x &&& ~~~ BitVec.ofInt k.bits y) = BitVec.ofInt k.bits x ^^^ (BitVec.ofInt k.bits x &&& BitVec.ofInt k.bits y) := by
      ext i hi
      simp only [BitVec.getElem_and, BitVec.getElem_not, BitVec.getElem_xor]
      cases (BitVec.ofInt k.bits x)[i] <;> cases (BitVec.ofInt k.bits y)[i] <;> rfl
    rw [wrapN_eq, e, BitVec.toNat_xor, BitVec.toNat_and, ha, hb]; rfl
  case eql => exact XR.rBool h (c := x == y) (eqI2_eq x y) (run_v (by simp [binOp, Op.intCmp]))
  case neq => exact XR.rBool h (c := x != y) (by rw [eqI2_eq]; rfl) (run_v (by simp [binOp, Op.intCmp]))
  case lss => exact XR.rBool h (c := decide (x < y)) (ltA_eq x y) (run_v (by simp [binOp, Op.intCmp]))
  case leq => exact XR.rBool h (c := decide (x ≤ y)) (by rw [ltA_eq, Bool.eq_iff_iff]; simp) (run_v (by simp [binOp, Op.intCmp]))
  case gtr => exact XR.rBool h (c := decide (x > y)) (ltA_eq y x) (run_v (by simp [binOp, Op.intCmp]))
  case geq => exact XR.rBool h (c := decide (x ≥ y)) (by rw [ltA_eq, Bool.eq_iff_iff]; simp) (run_v (by simp [binOp, Op.intCmp]))
end
end Go.Proofs.YtabllhhainepgaaGreatDoor.Ab
/-
  The abstract machine: variables read and written, blocks made.
-/
namespace Go.Proofs.YtabllhhainepgaaGreatDoor.Ab
open Go.RowKit

theorem div_mod (a s : Nat) : a = a / s * s + a % s := by have := Nat.div_add_mod a s; rw [Nat.mul_comm] at this; omega
theorem row_lt {off n s : Nat} (h : off < n * s) : off / s < n ∧ off % s < s ∧ 0 < s := by
  have hs : 0 < s := by
    rcases Nat.eq_zero_or_pos s with e | e
    · subst e; simp at h
    · exact e
  exact ⟨by rw [Nat.div_lt_iff_lt_mul hs]; exact h, Nat.mod_lt _ hs, hs⟩
theorem mul_step {i n : Nat} (h : i < n) (s : Nat) : i * s + s ≤ n * s := by
  have := Nat.mul_le_mul_right s h
  rw [Nat.succ_mul] at this; exact this

/-! ### types -/
section
variable {P : Program} {w : World} {t : TypeId}
theorem und_of_isAgg {b : Bool} (h : isAggA P t = some b) : ∃ d, P.underlying t = some d ∧ (match d with | .struct _ | .array _ _ => true | _ => false) = b := by
  unfold isAggA at h
  cases hu : P.underlying t with
  | none => rw [hu] at h; cases h
  | some d => rw [hu] at h; refine ⟨d, rfl, ?_⟩; cases d <;> simp_all
theorem run_isAgg {b : Bool} (h : isAggA P t = some b) : (isAgg t).run P w = .ok b w := by
  obtain ⟨d, hu, hd⟩ := und_of_isAgg h
  unfold isAgg
  rw [Sem.run_bind, run_underlying hu w, Result.andThen_ok]
  cases d <;> simp_all
theorem run_sizeOf {s : Nat} (h : sizeA P t = some s) : (sizeOf t).run P w = .ok s w := by
  unfold sizeA at h
  cases hi : P.info? t with
  | none => rw [hi] at h; cases h
  | some i => rw [hi] at h; simp only [Option.map_some, Option.some.injEq] at h; simp [sizeOf, typeInfo, hi, h]
theorem run_zero {z : AV} (h : zeroA P t = some z) : ∃ v, (zeroValue t).run P w = .ok v w ∧ ofConst v = z := by
  unfold zeroA at h
  cases hi : P.info? t with
  | none => rw [hi] at h; cases h
  | some i =>
    rw [hi] at h
    simp only [Option.bind_some] at h
    cases hz : i.zero with
    | none => rw [hz] at h; cases h
    | some v => rw [hz] at h; simp only [Option.map_some, Option.some.injEq] at h; exact ⟨v, by simp [zeroValue, typeInfo, hi, hz], h⟩
end

/-! ### constants -/
theorem VR.ofConst0 (μ : Mu) (v : Value) : VR μ (ofConst0 v) v := by
  unfold Ab.ofConst0
  split <;> first | exact .junk _ | exact .bool _ | exact .int _ _ | exact .str _ _ _ rfl rfl | exact .nilp | exact .nils | exact .nilm | exact .nilf | exact .nili
theorem VR.ofConst (μ : Mu) (v : Value) : VR μ (ofConst v) v := by
  unfold Ab.ofConst
  split
  · rename_i cs
    refine .agg _ _ (LR.of_get (by simp) fun i a u ha hu => ?_)
    rw [List.getElem?_map, hu] at ha
    simp only [Option.map_some, Option.some.injEq] at ha
    subst ha; exact VR.ofConst0 μ u
  · rename_i vs
    split
    · rename_i h
      have : vs = #[] := Array.eq_empty_of_size_eq_zero h
      subst this; exact .tuple _ _ .nil
    · exact .junk _
  · exact VR.ofConst0 μ _

/-! ### cells of an array -/
def splice (arr : Array Value) (k : Nat) (vs : List Value) : Array Value := (arr.toList.take k ++ vs ++ arr.toList.drop (k + vs.length)).toArray
theorem splice_size {arr : Array Value} {k : Nat} {vs : List Value} (h : k + vs.length ≤ arr.size) : (splice arr k vs).size = arr.size := by
  simp [splice]; omega
theorem splice_get {arr : Array Value} {k : Nat} {vs : List Value} (h : k + vs.length ≤ arr.size) (m : Nat) : (splice arr k vs)[m]? = if m < k then arr[m]? else if m < k + vs.length then vs[m - k]? else arr[m]? := by
  unfold splice
  rw [List.getElem?_toArray]
  have hlen : (arr.toList.take k).length = k := by simp; omega
  by_cases h1 : m < k
  · rw [if_pos h1, List.append_assoc, List.getElem?_append_left (by omega), List.getElem?_take, if_pos h1]; simp
  · rw [if_neg h1]
    by_cases h2 : m < k + vs.length
    · rw [if_pos h2, List.append_assoc, List.getElem?_append_right (by omega), hlen, List.getElem?_append_left (by omega)]
    · rw [if_neg h2, List.getElem?_append_right (by simp; omega), List.getElem?_drop]
      simp only [List.length_append, hlen, Array.getElem?_toList]
      congr 1; omega
theorem run_storeCells_free (P : Program) (g o : Nat) (t : TypeId) (fz : Nat × Nat) : ∀ (vs : List Value) (i : Nat) (cur : Array Value) (w : World), w.heap[g]? = some (.cells cur t fz) → Free fz cur.size → o + i + vs.length ≤ cur.size → (∀ v ∈ vs, v.oneCell' = true) →
    (storeCells ⟨g, o, none⟩ vs i).run P w = .ok () (w.setRow g (splice cur (o + i) vs))
  | [], i, cur, w, hg, _, _, _ => by
    simp only [storeCells, splice, List.append_nil, List.length_nil, Nat.add_zero, List.take_append_drop, Array.toArray_toList]
    rw [setRow_self w g cur t fz hg]
    rfl
  | v :: rest, i, cur, w, hg, hfz, hl, h1 => by
    have hi : o + i < cur.size := by simp at hl; omega
    have hadd : (⟨g, o, none⟩ : Addr).add i = ⟨g, o + i, none⟩ := by unfold Addr.add; split <;> simp_all
    have hcell : w.cell? ⟨g, o + i, none⟩ = some cur[o + i] := by simp [World.cell?, hg, hi]
    have hfro : w.frozen? ⟨g, o + i, none⟩ = false := by
      have := hfz.not (o + i) hi
      obtain ⟨lo, hi'⟩ := fz
      simp only [World.frozen?, hg, Bool.and_eq_false_iff, decide_eq_false_iff_not]
      simp only at this
      omega
    have hst : (store ((⟨g, o, none⟩ : Addr).add i) v).run P w = .ok () (w.setRow g (cur.setIfInBounds (o + i) v)) := by
      rw [hadd, run_store P w _ v _ (h1 v (by simp)), hcell]
      simp [hfro, setCell_eq_setRow w g (o + i) cur t fz v hg]
    have ih := run_storeCells_free P g o t fz rest (i + 1) (cur.setIfInBounds (o + i) v) (w.setRow g (cur.setIfInBounds (o + i) v)) (setRow_heap w g cur _ t _ hg) (by simpa using hfz) (by simp at hl ⊢; omega) (fun x hx => h1 x (by simp [hx]))
    simp only [storeCells, Sem.run_bind, hst, Result.andThen_ok, ih, setRow_setRow, splice]
    congr 3
    have e := list_seg_step cur.toList (o + i) v rest (by simp at hl ⊢; omega)
    simpa [Array.toList_setIfInBounds, Nat.add_assoc] using e
theorem apart_setRow (w : World) (g : Nat) (cs : Array Value) : Apart g w (w.setRow g cs) := ⟨rfl, rfl, rfl, by simp, fun k hk => setRow_other w g k cs hk⟩
theorem cell_arr {w : World} {g o : Nat} {arr : Array Value} {t : TypeId} {fz : Nat × Nat} (h : w.heap[g]? = some (.cells arr t fz)) : w.cell? ⟨g, o, none⟩ = arr[o]? := by simp [World.cell?, h]

/-! ### packed cells -/
theorem byteOfA_inv {v : AV} {b : Nat} (h : byteOfA v = some b) : v = .int .u8 (.ofNat b) ∧ b < 256 := by
  unfold byteOfA at h
  split at h
  · rename_i x
    by_cases hx : Nat.blt x 256 = true
    · rw [hx] at h; simp only [cond_true, Option.some.injEq] at h; subst h; exact ⟨rfl, by rwa [Nat.blt_eq] at hx⟩
    · rw [Bool.not_eq_true] at hx; rw [hx] at h; cases h
  · cases h
theorem packA_spec : ∀ {l : List AV} {M : Nat}, packA l = some M → M < 256 ^ l.length ∧ ∀ i, i < l.length → l[i]? = some (.int .u8 (.ofNat (byteAt M i)))
  | [], M, h => by simp only [packA, Option.some.injEq] at h; subst h; exact ⟨by simp, fun i hi => by simp at hi⟩
  | v :: l, M, h => by
    simp only [packA] at h
    cases hb : byteOfA v with
    | none => rw [hb] at h; cases h
    | some b =>
      cases hp : packA l with
      | none => rw [hb, hp] at h; cases h
      | some N =>
        rw [hb, hp] at h
        simp only [Option.some.injEq] at h
        obtain ⟨rfl, hlt⟩ := byteOfA_inv hb
        obtain ⟨h1, h2⟩ := packA_spec hp
        subst h
        refine ⟨by simp only [List.length_cons, Nat.pow_succ]; omega, fun i hi => ?_⟩
        have hj := byteAt_join (lo := b) (hi := N) (i := 1) (by simpa using hlt) i
        rw [Nat.pow_one] at hj
        cases i with
        | zero => rw [hj, if_pos (by omega)]; simp [byteAt_eq]; omega
        | succ i => rw [hj, if_neg (by omega)]; simpa using h2 i (by simpa using hi)
theorem LR.packed {μ : Mu} {l : List AV} {vs : List Value} {M : Nat} (h : LR μ l vs) (hp : packA l = some M) : M < 256 ^ vs.length ∧ l.length = vs.length ∧ ∀ i, i < vs.length → vs[i]? = some (.int .u8 (.ofNat (byteAt M i))) := by
  obtain ⟨h1, h2⟩ := packA_spec hp
  have hl := h.length
  refine ⟨hl ▸ h1, hl, fun i hi => ?_⟩
  obtain ⟨v, hv, hr⟩ := h.get i _ (h2 i (by omega))
  rw [hv, hr.int_inv]
theorem LR.allOne {μ : Mu} : ∀ {l : List AV} {vs : List Value}, LR μ l vs → allCells l = true → ∀ v ∈ vs, v.oneCell' = true
  | [], _, h, _, v, hv => by cases h; simp at hv
  | a :: l, _, h, hc, v, hv => by
    cases h with | cons _ u _ m h t =>
    simp only [allCells, Bool.and_eq_true] at hc
    rcases List.mem_cons.1 hv with e | e
    · subst e; exact h.one hc.1
    · exact t.allOne hc.2 v e
theorem packed_one {vs : List Value} {M : Nat} (h : ∀ i, i < vs.length → vs[i]? = some (.int .u8 (.ofNat (byteAt M i)))) : ∀ v ∈ vs, v.oneCell' = true := fun v hv => by
  obtain ⟨i, hi, rfl⟩ := List.getElem_of_mem hv
  have := h i hi
  rw [List.getElem?_eq_getElem hi] at this
  simp only [Option.some.injEq] at this
  rw [this]; rfl

/-! ### what is written into an object -/
section
variable {μ : Mu} {L : Loc}
theorem putAt_get {l new : List AV} {j : Nat} (h : j + new.length ≤ l.length) (m : Nat) : (putAt l j new)[m]? = if m < j then l[m]? else if m < j + new.length then new[m - j]? else l[m]? := by
  unfold putAt
  have hlen : (l.take j).length = j := by simp; omega
  by_cases h1 : m < j
  · rw [if_pos h1, List.getElem?_append_left (by omega), List.getElem?_take, if_pos h1]
  · rw [if_neg h1, List.getElem?_append_right (by omega), hlen]
    by_cases h2 : m < j + new.length
    · rw [if_pos h2, List.getElem?_append_left (by omega)]
    · rw [if_neg h2, List.getElem?_append_right (by omega), List.getElem?_drop]; congr 1; omega
theorem putAt_length {l new : List AV} {j : Nat} (h : j + new.length ≤ l.length) : (putAt l j new).length = l.length := by simp [putAt]; omega
theorem rows_put {n s : Nat} {c : Tr (List AV)} {z : List AV} {arr : Array Value} {new : List AV} {vs : List Value} {i j : Nat}
    (hsz : L.base + (n + L.slack) * s ≤ arr.size) (hr : ∀ i, i < n → (getR c (path i) z).length = s ∧ RowR μ arr (L.base + i * s) (getR c (path i) z)) (hi : i < n) (hj : j + new.length ≤ s) (hl : LR μ new vs) :
    L.base + i * s + j + vs.length ≤ arr.size ∧
    ∀ k, k < n → (getR (putR (path i) c (putAt (getR c (path i) z) j new) z) (path k) z).length = s ∧ RowR μ (splice arr (L.base + i * s + j) vs) (L.base + k * s) (getR (putR (path i) c (putAt (getR c (path i) z) j new) z) (path k) z) := by
  have hlen := hl.length
  have hb : L.base + i * s + j + vs.length ≤ arr.size := by
    have := mul_step hi s
    have := Nat.mul_le_mul_right s (Nat.le_add_right n L.slack)
    omega
  refine ⟨hb, fun k hk => ?_⟩
  rw [get_putR]
  obtain ⟨hlk, hrk⟩ := hr k hk
  by_cases e : k = i
  · subst e
    rw [if_pos rfl]
    refine ⟨by rw [putAt_length (by omega)]; exact hlk, fun m a ha => ?_⟩
    have hm : m < s := by
      have := (List.getElem?_eq_some_iff.1 ha).1
      rw [putAt_length (by omega)] at this; omega
    rw [putAt_get (by omega)] at ha
    rw [splice_get hb]
    by_cases h1 : m < j
    · rw [if_pos h1] at ha
      rw [if_pos (by omega)]
      exact hrk m a ha
    · rw [if_neg h1] at ha
      rw [if_neg (by omega)]
      by_cases h2 : m < j + new.length
      · rw [if_pos h2] at ha
        rw [if_pos (by omega)]
        obtain ⟨v, hv, hvr⟩ := hl.get _ _ ha
        exact ⟨v, by rw [← hv]; congr 1; omega, hvr⟩
      · rw [if_neg h2] at ha
        rw [if_neg (by omega)]
        exact hrk m a ha
  · rw [if_neg (fun e' => e (path_inj e'))]
    refine ⟨hlk, fun m a ha => ?_⟩
    have hm : m < s := by have := (List.getElem?_eq_some_iff.1 ha).1; omega
    obtain ⟨v, hv, hvr⟩ := hrk m a ha
    refine ⟨v, ?_, hvr⟩
    rw [splice_get hb, ← hv]
    rcases Nat.lt_or_ge k i with h' | h'
    · have := mul_step h' s
      rw [if_pos (by omega)]
    · have h'' : i < k := by omega
      have := mul_step h'' s
      rw [if_neg (by omega), if_neg (by omega)]
theorem bytes_put {n N : Nat} {arr : Array Value} {M : Nat} {vs : List Value} {off : Nat} (hN : N < 256 ^ n) (hsz : L.base + n + L.slack ≤ arr.size)
    (hr : ∀ i, i < n → arr[L.base + i]? = some (.int .u8 (.ofNat (byteAt N i)))) (hM : M < 256 ^ vs.length) (hv : ∀ i, i < vs.length → vs[i]? = some (.int .u8 (.ofNat (byteAt M i)))) (hj : off + vs.length ≤ n) :
    L.base + off + vs.length ≤ arr.size ∧ putB N off vs.length M < 256 ^ n ∧ ∀ i, i < n → (splice arr (L.base + off) vs)[L.base + i]? = some (.int .u8 (.ofNat (byteAt (putB N off vs.length M) i))) := by
  have hb : L.base + off + vs.length ≤ arr.size := by omega
  refine ⟨hb, putB_lt hN hM hj, fun i hi => ?_⟩
  rw [splice_get hb, byteAt_putB hM]
  by_cases h1 : i < off
  · rw [if_pos (by omega), if_pos h1]; exact hr i hi
  · rw [if_neg (by omega), if_neg h1]
    by_cases h2 : i < off + vs.length
    · rw [if_pos (by omega), if_pos h2, ← hv (i - off) (by omega)]; congr 1; omega
    · rw [if_neg (by omega), if_neg h2]; exact hr i hi
end

section
variable {P : Program} {w0 w : World} {G : Nat} {μ : Mu} {H : AH} {r : Result Next}
/-- Where a block's cells lie. -/
theorem HR.bytes (h : HR w0 G μ H w) {b : Nat} {L : Loc} (hL : μ b = some L) {n N : Nat} {e : TypeId} {st : Bool} (hg : H.get b = .bytes n N e st) :
    ∃ arr fz, w.heap[L.blk]? = some (.cells arr e fz) ∧ coreB N < 256 ^ n ∧ L.base + n + L.slack ≤ arr.size ∧ (∀ i, i < n → arr[L.base + i]? = some (.int .u8 (.ofNat (byteAt (coreB N) i)))) ∧ Free fz arr.size ∧ (st = false → fz = (0, 0)) := by
  obtain ⟨o, ho, hr⟩ := h.obj b L hL (by rw [hg]; intro h; cases h)
  rw [hg] at hr
  obtain ⟨arr, fz, rfl, rest⟩ := hr
  exact ⟨arr, fz, ho, rest⟩
theorem HR.rows (h : HR w0 G μ H w) {b : Nat} {L : Loc} (hL : μ b = some L) {n s : Nat} {c : Tr (List AV)} {z : List AV} {e : TypeId} (hg : H.get b = .rows n s c z e) :
    ∃ arr, w.heap[L.blk]? = some (.cells arr e (0, 0)) ∧ L.base + (n + L.slack) * s ≤ arr.size ∧ ∀ i, i < n → (getR c (path i) z).length = s ∧ RowR μ arr (L.base + i * s) (getR c (path i) z) := by
  obtain ⟨o, ho, hr⟩ := h.obj b L hL (by rw [hg]; intro h; cases h)
  rw [hg] at hr
  obtain ⟨arr, rfl, h1, h2, _⟩ := hr
  exact ⟨arr, ho, h1, h2⟩
theorem HR.rowsOne (h : HR w0 G μ H w) {b : Nat} {L : Loc} (hL : μ b = some L) {n s : Nat} {c : Tr (List AV)} {z : List AV} {e : TypeId} (hg : H.get b = .rows n s c z e) {arr : Array Value} {t : TypeId} {fz : Nat × Nat} (ho : w.heap[L.blk]? = some (.cells arr t fz)) : One arr := by
  obtain ⟨o, ho', hr⟩ := h.obj b L hL (by rw [hg]; intro h; cases h)
  rw [hg] at hr
  obtain ⟨arr', rfl, _, _, h3⟩ := hr
  rw [ho] at ho'
  cases ho'
  exact h3
theorem One.splice {arr : Array Value} {k : Nat} {vs : List Value} (h : One arr) (hv : ∀ v ∈ vs, v.oneCell' = true) : One (splice arr k vs) := fun v hm => by
  simp only [Ab.splice, List.append_assoc, List.mem_append] at hm
  rcases hm with hm | hm | hm
  · exact h v (List.mem_of_mem_take hm)
  · exact hv v hm
  · exact h v (List.mem_of_mem_drop hm)
theorem One.range {b o : Nat} {arr : Array Value} (h : One arr) (hw : ∀ k, w.cell? ⟨b, k, none⟩ = arr[k]?) {vs : List Value} (hr : w.rangeAt b o vs) : ∀ v ∈ vs, v.oneCell' = true := fun v hv => by
  obtain ⟨i, hi, rfl⟩ := List.getElem_of_mem hv
  have := hr i _ (List.getElem?_eq_getElem hi)
  rw [hw] at this
  exact h _ (by rw [Array.mem_toList_iff]; exact Array.mem_of_getElem? this)
theorem nthX_sound (l : List AV) : ∀ (i : Nat) (k : AV → X) (e : X), (∀ v, l[i]? = some v → XR P w0 G μ H.size (k v) r) → XR P w0 G μ H.size e r → XR P w0 G μ H.size (nthX l i k e) r := by
  induction l with
  | nil => intro i k e _ he; exact he
  | cons v l ih =>
    intro i k e hk he
    cases i with
    | zero => exact XR.onJunk (fun _ => he) (hk v rfl)
    | succ i => exact ih i k e (fun v hv => hk v (by simpa using hv)) he
theorem cellX_sound (h : HR w0 G μ H w) {b off : Nat} {L : Loc} (hL : μ b = some L) (hr : ∀ v, w.cell? ⟨L.blk, L.base + off, none⟩ = some v → r = .ok (.value v) w) : XR P w0 G μ H.size (cellX (H.get b) off H) r := by
  cases hg : H.get b with
  | bytes n N e st =>
    refine XR.onB (fun hlt => ?_) (fun _ => trivial)
    rw [Nat.blt_eq] at hlt
    obtain ⟨arr, fz, ho, _, _, hc, _⟩ := h.bytes hL hg
    exact XR.rInt h rfl (hr _ (by rw [cell_arr ho]; exact hc off hlt))
  | rows n s c z e =>
    refine XR.onB (fun hlt => ?_) (fun _ => trivial)
    rw [Nat.blt_eq] at hlt
    obtain ⟨arr, ho, _, hc⟩ := h.rows hL hg
    obtain ⟨h1, h2, h3⟩ := row_lt hlt
    refine nthX_sound _ _ _ _ (fun v hv => ?_) trivial
    obtain ⟨u, hu, hvr⟩ := (hc _ h1).2 _ _ hv
    refine XR.value h hvr (hr u ?_)
    rw [cell_arr ho, ← hu]
    have := div_mod off s
    congr 1
    have e : Nat.mod off s = off % s := rfl
    have e' : Nat.div off s = off / s := rfl
    omega
  | _ => trivial
theorem unpack_get : ∀ (n N i : Nat), i < n → (unpack n N)[i]? = some (byteAt N i)
  | 0, _, _, h => by omega
  | n + 1, N, 0, _ => by show (Nat.mod N 256 :: unpack n (Nat.div N 256))[0]? = _; simp [byteAt_eq]; rfl
  | n + 1, N, i + 1, h => by
    show (Nat.mod N 256 :: unpack n (Nat.div N 256))[i + 1]? = _
    rw [List.getElem?_cons_succ, unpack_get n _ i (by omega)]
    have := byteAt_div N 1 i
    rw [Nat.pow_one] at this
    rw [show Nat.div N 256 = N / 256 from rfl, this, Nat.add_comm]
theorem unpack_length : ∀ (n N : Nat), (unpack n N).length = n
  | 0, _ => rfl
  | n + 1, N => by show (Nat.mod N 256 :: unpack n (Nat.div N 256)).length = _; simp [unpack_length n]
/-- Cells read in one go. -/
theorem cellsAt_sound (h : HR w0 G μ H w) {b off k : Nat} {L : Loc} (hL : μ b = some L) {l : List AV} (hc : cellsAt (H.get b) off k = some l) :
    ∃ vs : List Value, vs.length = k ∧ LR μ l vs ∧ w.rangeAt L.blk (L.base + off) vs := by
  cases hg : H.get b with
  | bytes n N e st =>
    rw [hg] at hc
    simp only [cellsAt] at hc
    by_cases hle : Nat.ble (Nat.add off k) n = true
    · rw [hle] at hc
      simp only [cond_true, Option.some.injEq] at hc
      rw [Nat.ble_eq] at hle
      have hle' : off + k ≤ n := hle
      obtain ⟨arr, fz, ho, _, _, hcell, _⟩ := h.bytes hL hg
      refine ⟨(unpack k (cutB (coreB N) off k)).map fun b => .int .u8 (.ofNat b), by simp [unpack_length], ?_, ?_⟩
      · rw [← hc]; exact LR.map _ _ _ fun x _ => .int _ _
      · intro j v hv
        rw [List.getElem?_map] at hv
        have hj : j < k := by
          rcases Nat.lt_or_ge j k with h' | h'
          · exact h'
          · rw [List.getElem?_eq_none (by rw [unpack_length]; exact h')] at hv; cases hv
        rw [unpack_get _ _ _ hj, byteAt_cutB hj] at hv
        simp only [Option.map_some, Option.some.injEq] at hv
        rw [cell_arr ho, Nat.add_assoc, hcell (off + j) (by omega), ← hv]
    · rw [Bool.not_eq_true] at hle; rw [hle] at hc; cases hc
  | rows n s c z e =>
    rw [hg] at hc
    simp only [cellsAt] at hc
    by_cases hle : (Nat.blt off (Nat.mul n s) && Nat.ble (Nat.add (Nat.mod off s) k) s) = true
    · rw [hle] at hc
      simp only [cond_true] at hc
      rw [Bool.and_eq_true, Nat.blt_eq, Nat.ble_eq] at hle
      obtain ⟨hlt, hk⟩ := hle
      have hk' : off % s + k ≤ s := hk
      obtain ⟨arr, ho, _, hcell⟩ := h.rows hL hg
      obtain ⟨h1, h2, h3⟩ := row_lt hlt
      obtain ⟨hl1, hr1⟩ := hcell _ h1
      have hdm := div_mod off s
      -- the cells of the row, as values
      have key : ∀ m, m < s → ∃ v, arr[L.base + off / s * s + m]? = some v := fun m hm => by
        obtain ⟨v, hv, _⟩ := hr1 m ((getR c (path (off / s)) z)[m]) (List.getElem?_eq_getElem (by omega))
        exact ⟨v, hv⟩
      have hlist : l = ((getR c (path (off / s)) z).drop (off % s)).take k := by
        by_cases hks : Nat.beq k s = true
        · rw [hks] at hc
          simp only [cond_true, Option.some.injEq] at hc
          rw [Nat.beq_eq] at hks
          subst hks
          have h0 : off % k = 0 := by omega
          rw [h0, List.drop_zero, List.take_of_length_le (by omega)]; exact hc.symm
        · rw [Bool.not_eq_true] at hks; rw [hks] at hc; simp only [cond_false, Option.some.injEq] at hc; exact hc.symm
      refine ⟨(List.range k).map fun j => (arr[L.base + off + j]?).getD undef, by simp, ?_, ?_⟩
      · subst hlist
        refine LR.of_get (by simp; omega) fun i a v ha hv => ?_
        have hik : i < k := by have := (List.getElem?_eq_some_iff.1 hv).1; simpa using this
        rw [List.getElem?_take, if_pos hik, List.getElem?_drop] at ha
        obtain ⟨u, hu, hur⟩ := hr1 _ _ ha
        rw [List.getElem?_map, List.getElem?_range hik] at hv
        simp only [Option.map_some, Option.some.injEq] at hv
        rw [← hv]
        rw [show L.base + off + i = L.base + off / s * s + (off % s + i) by omega, hu]
        exact hur
      · intro j v hv
        have hjk : j < k := by have := (List.getElem?_eq_some_iff.1 hv).1; simpa using this
        rw [List.getElem?_map, List.getElem?_range hjk] at hv
        simp only [Option.map_some, Option.some.injEq] at hv
        obtain ⟨u, hu⟩ := key (off % s + j) (by omega)
        rw [cell_arr ho, ← hv]
        rw [show L.base + off + j = L.base + off / s * s + (off % s + j) by omega, hu]
        rfl
    · rw [Bool.not_eq_true] at hle; rw [hle] at hc; cases hc
  | _ => rw [hg] at hc; simp [cellsAt] at hc
theorem loadKind_one {t : TypeId} (h : loadKind P t = 1) : isAggA P t = some false := by
  unfold loadKind at h
  split at h
  · rename_i h1 _; exact h1
  · omega
  · omega
theorem loadKind_two {t : TypeId} {k : Nat} (h : loadKind P t = k + 2) : isAggA P t = some true ∧ sizeA P t = some k := by
  unfold loadKind at h
  split at h
  · omega
  · rename_i k' h1 h2
    obtain rfl : k' = k := by omega
    exact ⟨h1, h2⟩
  · omega
theorem run_loadVar_cell {t : TypeId} (h : isAggA P t = some false) {a : Addr} {v : Value} (hc : w.cell? a = some v) : (loadVar t a).run P w = .ok v w := by
  simp [loadVar, run_isAgg h, hc]
theorem run_loadVar_agg {t : TypeId} {k : Nat} (h : isAggA P t = some true) (hs : sizeA P t = some k) {b o : Nat} {vs : List Value} (hl : vs.length = k) (hc : w.rangeAt b o vs) : (loadVar t ⟨b, o, none⟩).run P w = .ok (.agg vs.toArray) w := by
  have := run_loadCells_list (P := P) w ⟨b, o, none⟩ vs (fun j v hv => by rw [Addr.add_mid]; exact hc j v hv)
  subst hl
  simp [loadVar, run_isAgg h, run_sizeOf hs, this]
theorem loadX_sound (h : HR w0 G μ H w) {t : TypeId} {b off : Nat} {L : Loc} (hL : μ b = some L)
    (hr : ∀ v, (loadVar t ⟨L.blk, L.base + off, none⟩).run P w = .ok v w → r = .ok (.value v) w) : XR P w0 G μ H.size (loadX P t b off H) r := by
  unfold loadX
  cases hk : loadKind P t with
  | zero => trivial
  | succ m =>
    cases m with
    | zero => exact cellX_sound h hL fun v hv => hr v (run_loadVar_cell (loadKind_one hk) hv)
    | succ k =>
      obtain ⟨h1, h2⟩ := loadKind_two hk
      cases k with
      | zero => exact XR.value h (.agg [] #[] .nil) (hr _ (run_loadVar_agg (vs := []) h1 h2 rfl (fun j v hv => by simp at hv)))
      | succ k =>
        refine XR.onOL (fun l hl => ?_) trivial
        obtain ⟨vs, hlen, hlr, hrange⟩ := cellsAt_sound h hL hl
        exact XR.value h (.agg l vs.toArray (by simpa using hlr)) (hr _ (run_loadVar_agg h1 h2 hlen hrange))
end
end Go.Proofs.YtabllhhainepgaaGreatDoor.Ab
/-
  The abstract machine: stores, new variables, literals.
-/
namespace Go.Proofs.YtabllhhainepgaaGreatDoor.Ab
open Go.RowKit

section
variable {P : Program} {w0 w : World} {G : Nat} {μ : Mu} {H : AH} {r : Result Next}
theorem VR.cells_one {a : AV} {u : Value} (h : VR μ a u) (hb : cellB a = true) : u.cells = #[u] := by
  cases h <;> first | rfl | (simp [cellB] at hb; done) | (rename_i hv; cases u <;> first | rfl | cases hv)
theorem byte_cellB {v : AV} {x : Nat} (h : byteOfA v = some x) : cellB v = true := by obtain ⟨rfl, _⟩ := byteOfA_inv h; rfl
theorem run_storeVar (t : TypeId) {s : Nat} (hs : sizeA P t = some s) {g o : Nat} {e : TypeId} {fz : Nat × Nat} {arr : Array Value} (hg : w.heap[g]? = some (.cells arr e fz)) (hf : Free fz arr.size)
    {u : Value} (hl : u.cells.toList.length = s) (hb : o + u.cells.toList.length ≤ arr.size) (h1 : ∀ v ∈ u.cells.toList, v.oneCell' = true) : (storeVar t ⟨g, o, none⟩ u).run P w = .ok () (w.setRow g (splice arr o u.cells.toList)) := by
  have := run_storeCells_free P g o e fz u.cells.toList 0 arr w hg hf (by omega) h1
  rw [Nat.add_zero] at this
  have hl' : u.cells.size = s := by simpa using hl
  simp [storeVar, run_sizeOf hs, hl', this]
theorem free_none (n : Nat) : Free (0, 0) n := .inl rfl
theorem put_bytes (h : HR w0 G μ H w) {b : Nat} {L : Loc} (hL : μ b = some L) (hG : G ≤ b) {n N : Nat} {e : TypeId} {st : Bool} (hg : H.get b = .bytes n N e st) {arr : Array Value} {fz : Nat × Nat}
    (ho : w.heap[L.blk]? = some (.cells arr e fz)) (hf : Free fz arr.size) (hst : st = false → fz = (0, 0)) {off M : Nat} {vs : List Value}
    (hb : L.base + off + vs.length ≤ arr.size) (hlt : putB (coreB N) off vs.length M < 256 ^ n) (hsz : L.base + n + L.slack ≤ arr.size) (hc : ∀ i, i < n → (splice arr (L.base + off) vs)[L.base + i]? = some (.int .u8 (.ofNat (byteAt (putB (coreB N) off vs.length M) i)))) :
    HR w0 G μ (H.set b (.bytes n (sealB (putB (coreB N) off vs.length M)) e st)) (w.setRow L.blk (splice arr (L.base + off) vs)) := by
  have hs := splice_size (arr := arr) (k := L.base + off) (vs := vs) hb
  refine h.set hL hG (by rw [hg]; intro h; cases h) (apart_setRow _ _ _) (setRow_heap w _ _ _ e fz ho) ⟨_, fz, rfl, by rw [core_seal]; exact hlt, by rw [hs]; exact hsz, by rw [core_seal]; exact hc, by rw [hs]; exact hf, hst⟩
theorem cellPut_sound (h : HR w0 G μ H w) {b off : Nat} {L : Loc} (hL : μ b = some L) (hG : G ≤ b) {t : TypeId} (hs : sizeA P t = some 1) {v : AV} {u : Value} (hv : VR μ v u)
    (hr : ∀ w', (storeVar t ⟨L.blk, L.base + off, none⟩ u).run P w = .ok () w' → r = .ok .skip w') : XR P w0 G μ H.size (cellPut (H.get b) off b v H) r := by
  cases hg : H.get b with
  | bytes n N e st =>
    refine XR.onB (fun hlt => XR.onON (fun x hx => ?_) trivial) (fun _ => trivial)
    rw [Nat.blt_eq] at hlt
    rw [fNat_eq, setK_eq]
    obtain ⟨arr, fz, ho, hN, hsz, hc, hf, hst⟩ := h.bytes hL hg
    have hcell := hv.cells_one (byte_cellB hx)
    have hcl : u.cells.toList = [u] := by rw [hcell]
    obtain ⟨rfl, hx2⟩ := byteOfA_inv hx
    have hu := hv.int_inv
    have hb : off + [u].length ≤ n := by simp; omega
    obtain ⟨p1, p2, p3⟩ := bytes_put (M := x) (vs := [u]) (off := off) hN hsz hc (by simpa using hx2) (fun i hi => by
      have : i = 0 := by simpa using hi
      subst this; rw [hu]; simp [byteAt_eq]; omega) hb
    have hrun := run_storeVar (P := P) t hs ho hf (o := L.base + off) (u := u) (by rw [hcl]; rfl) (by rw [hcl]; exact p1) (by rw [hcl]; intro v' hv'; simp at hv'; subst hv'; rw [hu]; rfl)
    rw [hcl] at hrun
    have hput := put_bytes h hL hG hg ho hf hst p1 p2 hsz p3
    rw [List.length_singleton] at hput
    exact XR.skip hput (hr _ hrun)
  | rows n s c z e =>
    refine XR.onB (fun hlt => ?_) (fun _ => trivial)
    have hlt : (Nat.blt off (Nat.mul n s) && cellB v) = true := hlt
    rw [Bool.and_eq_true, Nat.blt_eq] at hlt
    obtain ⟨hlt, hcb⟩ := hlt
    obtain ⟨arr, ho, hsz, hc⟩ := h.rows hL hg
    obtain ⟨h1, h2, h3⟩ := row_lt hlt
    have hcell := hv.cells_one hcb
    have hcl : u.cells.toList = [u] := by rw [hcell]
    have hdm := div_mod off s
    obtain ⟨p1, p2⟩ := rows_put (L := L) (new := [v]) (vs := [u]) (i := off / s) (j := off % s) hsz hc h1 (by simp; omega) (.mk1 hv)
    rw [show L.base + off / s * s + off % s = L.base + off by omega] at p1 p2
    have hrun := run_storeVar (P := P) t hs ho (free_none _) (o := L.base + off) (u := u) (by rw [hcl]; rfl) (by rw [hcl]; exact p1) (by rw [hcl]; intro v' hv'; simp at hv'; subst hv'; exact hv.one hcb)
    rw [hcl] at hrun
    have hss := splice_size (arr := arr) (k := L.base + off) (vs := [u]) p1
    have hfin : HR w0 G μ (H.set b (.rows n s (putR (path (off / s)) c (putAt (getR c (path (off / s)) z) (off % s) [v]) z) z e)) (w.setRow L.blk (splice arr (L.base + off) [u])) :=
      h.set hL hG (by rw [hg]; intro h; cases h) (apart_setRow _ _ _) (setRow_heap w _ _ _ e (0, 0) ho) ⟨_, rfl, by rw [hss]; exact hsz, p2, (h.rowsOne hL hg ho).splice (fun v' hv' => by simp at hv'; subst hv'; exact hv.one hcb)⟩
    refine XR.onB (fun hs1 => ?_) (fun _ => ?_)
    · rw [Nat.beq_eq] at hs1
      subst hs1
      rw [setR_eq, setK_eq]
      have e1 : off / 1 = off := Nat.div_one off
      have e2 : off % 1 = 0 := Nat.mod_one off
      have e3 : putAt (getR c (path off) z) 0 [v] = [v] := by
        have := (hc off (by omega)).1
        simp only [putAt, List.take_zero, List.nil_append, List.length_singleton, Nat.zero_add]
        rw [List.drop_of_length_le (by omega)]; rfl
      rw [e1, e2, e3] at hfin
      exact XR.skip hfin (hr _ hrun)
    · rw [setR_eq, setK_eq]
      exact XR.skip hfin (hr _ hrun)
  | _ => trivial
theorem storeA_sound (h : HR w0 G μ H w) {b off : Nat} {L : Loc} (hL : μ b = some L) {t : TypeId} {v : AV} {u : Value} (hv : VR μ v u)
    (hr : ∀ w', (storeVar t ⟨L.blk, L.base + off, none⟩ u).run P w = .ok () w' → r = .ok .skip w') : XR P w0 G μ H.size (storeA P G t b off v H) r := by
  unfold storeA
  split
  · rename_i l s hl hs
    refine XR.cond (fun hc => ?_) (fun _ => trivial)
    rw [Bool.and_eq_true, Nat.beq_eq, Nat.ble_eq] at hc
    obtain ⟨hlen, hG⟩ := hc
    have hlr := hv.cells hl
    have hlen' : u.cells.toList.length = s := by rw [← hlr.length]; exact hlen
    refine XR.cond (fun h0 => ?_) (fun _ => ?_)
    · rw [Nat.beq_eq] at h0
      subst h0
      have hnil : u.cells.toList = [] := List.length_eq_zero_iff.1 hlen'
      have hz : u.cells.size = 0 := by simpa using hlen'
      exact XR.skip h (hr w (by simp [storeVar, run_sizeOf hs, hz, hnil, storeCells]))
    · unfold putCellsK
      cases hg : H.get b with
      | bytes n N e st =>
        refine XR.cond (fun hle => ?_) (fun _ => trivial)
        rw [Nat.ble_eq] at hle
        have hle : off + l.length ≤ n := hle
        cases hp : packA l with
        | none => trivial
        | some M =>
          show XR P w0 G μ H.size (fNat _ _) r
          rw [fNat_eq]; dsimp only; rw [setK_eq]
          obtain ⟨arr, fz, ho, hN, hsz, hcell, hf, hst⟩ := h.bytes hL hg
          obtain ⟨m1, m2, m3⟩ := hlr.packed hp
          obtain ⟨p1, p2, p3⟩ := bytes_put (off := off) hN hsz hcell m1 m3 (by omega)
          have hrun := run_storeVar (P := P) t hs ho hf (o := L.base + off) (u := u) hlen' p1 (packed_one m3)
          rw [m2]
          exact XR.skip (put_bytes h hL hG hg ho hf hst p1 p2 hsz p3) (hr _ hrun)
      | rows n s' c z e =>
        refine XR.cond (fun hle => ?_) (fun _ => trivial)
        rw [Bool.and_eq_true, Bool.and_eq_true, Nat.blt_eq, Nat.ble_eq] at hle
        obtain ⟨⟨hlt, hk⟩, hall⟩ := hle
        have hk : off % s' + l.length ≤ s' := hk
        obtain ⟨arr, ho, hsz, hcell⟩ := h.rows hL hg
        obtain ⟨h1, h2, h3⟩ := row_lt hlt
        have hdm := div_mod off s'
        obtain ⟨p1, p2⟩ := rows_put (L := L) (new := l) (vs := u.cells.toList) (i := off / s') (j := off % s') hsz hcell h1 hk hlr
        rw [show L.base + off / s' * s' + off % s' = L.base + off by omega] at p1 p2
        have hrun := run_storeVar (P := P) t hs ho (free_none _) (o := L.base + off) (u := u) hlen' p1 (hlr.allOne hall)
        have hss := splice_size (arr := arr) (k := L.base + off) (vs := u.cells.toList) p1
        have hfin : HR w0 G μ (H.set b (.rows n s' (putR (path (off / s')) c (putAt (getR c (path (off / s')) z) (off % s') l) z) z e)) (w.setRow L.blk (splice arr (L.base + off) u.cells.toList)) :=
          h.set hL hG (by rw [hg]; intro h; cases h) (apart_setRow _ _ _) (setRow_heap w _ _ _ e (0, 0) ho) ⟨_, rfl, by rw [hss]; exact hsz, p2, (h.rowsOne hL hg ho).splice (hlr.allOne hall)⟩
        refine XR.cond (fun hs1 => ?_) (fun _ => ?_)
        · rw [Nat.beq_eq] at hs1
          rw [setR_eq]; dsimp only; rw [setK_eq]
          have e2 : off % s' = 0 := by omega
          have e3 : putAt (getR c (path (off / s')) z) (off % s') l = l := by
            have := (hcell (off / s') h1).1
            simp only [putAt, e2, List.take_zero, List.nil_append, Nat.zero_add]
            rw [List.drop_of_length_le (by omega)]; simp
          rw [e3] at hfin
          exact XR.skip hfin (hr _ hrun)
        · rw [setR_eq]; dsimp only; rw [setK_eq]
          exact XR.skip hfin (hr _ hrun)
      | _ => trivial
  · trivial
theorem storeX_sound (h : HR w0 G μ H w) {b off : Nat} {L : Loc} (hL : μ b = some L) {t : TypeId} {v : AV} {u : Value} (hv : VR μ v u)
    (hr : ∀ w', (storeVar t ⟨L.blk, L.base + off, none⟩ u).run P w = .ok () w' → r = .ok .skip w') : XR P w0 G μ H.size (storeX P G t b off v H) r := by
  refine XR.onB (fun hG => ?_) (fun _ => trivial)
  rw [Nat.ble_eq] at hG
  cases hk : loadKind P t with
  | zero => trivial
  | succ m =>
    cases m with
    | zero =>
      refine cellPut_sound h hL hG ?_ hv hr
      unfold loadKind at hk
      split at hk
      · rename_i h1 h2; exact h2
      · omega
      · omega
    | succ k => exact storeA_sound h hL hv hr

/-! ### a block for one variable -/
theorem grew (w : World) (o : Obj) : Grew o w { w with heap := w.heap.push o } := ⟨rfl, rfl, rfl, rfl⟩
theorem run_newRow (w : World) (e : TypeId) (c : Array Value) : (newRow e c).run P w = .ok ⟨w.heap.size, 0, none⟩ { w with heap := w.heap.push (.cells c e) } := by simp [newRow]
theorem VR.ptr0 {b blk slack : Nat} (h : μ b = some ⟨blk, 0, slack⟩) : VR μ (.ptr b 0) (.pointer (some ⟨blk, 0, none⟩)) := .ptr b 0 ⟨blk, 0, slack⟩ h
theorem getR_one (l : List AV) (z : List AV) : getR (.node l .nil .nil) (path 0) z = l := rfl
theorem newVar_sound (h : HR w0 G μ H w) {t : TypeId} {v : AV} {u : Value} (hv : VR μ v u)
    (hr : r = .ok (.value (.pointer (some ⟨w.heap.size, 0, none⟩))) { w with heap := w.heap.push (.cells u.cells t) }) : XR P w0 G μ H.size (newVarK P t v H) r := by
  unfold newVarK
  split
  · rename_i l s hl hs
    refine XR.cond (fun hc => ?_) (fun _ => trivial)
    rw [Bool.and_eq_true, Nat.beq_eq] at hc
    obtain ⟨hlen, hall⟩ := hc
    have hlr := hv.cells hl
    have hlen' : u.cells.size = s := by have := hlr.length; simp at this; omega
    refine XR.cond (fun hby => ?_) (fun _ => ?_)
    · cases hp : packA l with
      | none => trivial
      | some M =>
        show XR P w0 G μ H.size (fNat _ _) r
        rw [fNat_eq, pushK_eq]
        obtain ⟨m1, m2, m3⟩ := hlr.packed hp
        have hone : u.cells.toList.length = 1 := by
          unfold isByteA at hby
          rw [Bool.and_eq_true] at hby
          obtain ⟨_, hz⟩ := hby
          unfold zeroCellsA at hz
          rw [hs] at hz
          cases hq : (zeroA P t).bind cellsOfA with
          | none => rw [hq] at hz; simp at hz
          | some z =>
            rw [hq] at hz
            simp only [] at hz
            by_cases hzl : z.length = s ∧ z.all cellB = true
            · rw [if_pos hzl] at hz
              have hzl := hzl.1
              simp only [] at hz
              have : z.length = 1 := by
                unfold zByte at hz
                split at hz
                · rfl
                · cases hz
              simp; omega
            · rw [if_neg hzl] at hz; simp at hz
        refine XR.new (h.push (L := ⟨w.heap.size, 0, 0⟩) (o := .bytes 1 (sealB M) t false) (grew w _) rfl ⟨u.cells, (0, 0), rfl, by rw [hone] at m1; rw [core_seal]; exact m1, by simp at hone ⊢; omega, fun i hi => ?_, free_none _, fun _ => rfl⟩) (VR.ptr0 (slack := 0) (Mu.up_same _ _ _)) hr
        have := m3 i (by omega)
        rw [core_seal]
        simpa using this
    · rw [pushK_eq]
      refine XR.new (h.push (L := ⟨w.heap.size, 0, 0⟩) (o := .rows 1 s (.node l .nil .nil) l t) (grew w _) rfl ⟨u.cells, rfl, by simp; omega, fun i hi => ?_, hlr.allOne hall⟩) (VR.ptr0 (slack := 0) (Mu.up_same _ _ _)) hr
      obtain rfl : i = 0 := by omega
      rw [getR_one]
      refine ⟨hlen, fun j a ha => ?_⟩
      obtain ⟨x, hx, hxr⟩ := hlr.get j a ha
      exact ⟨x, by simpa using hx, hxr.mono (Mu.up_le (h.dom _ (Nat.le_refl _)) _)⟩
  · trivial

/-! ### literals of structs and arrays -/
theorem foldl_set (vs : List Value) : ∀ (k off : Nat) (arr : Array Value), off + k + vs.length ≤ arr.size → (vs.zipIdx k).foldl (fun cs (x : Value × Nat) => cs.setIfInBounds (off + x.2) x.1) arr = splice arr (off + k) vs := by
  induction vs with
  | nil =>
    intro k off arr _
    simp [splice]
  | cons v vs ih =>
    intro k off arr h
    have h' : off + (k + 1) + vs.length ≤ (arr.setIfInBounds (off + k) v).size := by simp at h ⊢; omega
    rw [List.zipIdx_cons, List.foldl_cons, ih (k + 1) off _ h']
    simp only [splice]
    have e := list_seg_step arr.toList (off + k) v vs (by simp at h ⊢; omega)
    congr 1
    simpa [Array.toList_setIfInBounds, Nat.add_assoc] using e
theorem zipIdx_foldl (arr v : Array Value) (off : Nat) (h : off + v.size ≤ arr.size) : v.zipIdx.foldl (fun cs (x : Value × Nat) => cs.setIfInBounds (off + x.2) x.1) arr = splice arr off v.toList := by
  have := foldl_set v.toList 0 off arr (by simpa using h)
  rw [Nat.add_zero] at this
  rw [← this, ← Array.foldl_toList, Array.toList_zipIdx]
theorem LR.splice {l new : List AV} {arr : Array Value} {vs : List Value} {off : Nat} (h : LR μ l arr.toList) (hn : LR μ new vs) (hb : off + new.length ≤ l.length) : LR μ (putAt l off new) (splice arr off vs).toList := by
  have h1 := h.length
  have h2 := hn.length
  unfold putAt Ab.splice
  simp only [List.append_assoc]
  refine (h.take off).append (hn.append ?_)
  rw [h2]
  exact h.drop _
theorem fill_sound {place : Nat → Option (Nat × Nat)} : ∀ (ps : List (Nat × AV)) (cs : List (Nat × Value)) (l : List AV) (arr : Array Value) (l' : List AV),
    ps.length = cs.length → (∀ (i : Nat) (p : Nat × AV) (c : Nat × Value), ps[i]? = some p → cs[i]? = some c → p.1 = c.1 ∧ VR μ p.2 c.2) → LR μ l arr.toList → fillA place l ps = some l' →
    ∃ arr', Instr.fill place arr cs = some arr' ∧ LR μ l' arr'.toList
  | [], [], l, arr, l', _, _, hl, hf => by simp only [fillA, Option.some.injEq] at hf; subst hf; exact ⟨arr, rfl, hl⟩
  | [], _ :: _, _, _, _, hlen, _, _, _ => by simp at hlen
  | _ :: _, [], _, _, _, hlen, _, _, _ => by simp at hlen
  | (i, v) :: ps, (j, u) :: cs, l, arr, l', hlen, hp, hl, hf => by
    obtain ⟨hij, hv⟩ := hp 0 _ _ rfl rfl
    simp only at hij hv
    subst hij
    simp only [fillA] at hf
    cases hpl : place i with
    | none => rw [hpl] at hf; cases hf
    | some q =>
      obtain ⟨off, size⟩ := q
      cases hc : cellsOfA v with
      | none => rw [hpl, hc] at hf; cases hf
      | some new =>
        rw [hpl, hc] at hf
        simp only [] at hf
        by_cases hcnd : (Nat.beq new.length size && Nat.ble (off + size) l.length) = true
        · rw [hcnd] at hf
          simp only [cond_true] at hf
          rw [Bool.and_eq_true, Nat.beq_eq, Nat.ble_eq] at hcnd
          obtain ⟨h1, h2⟩ := hcnd
          have hlr := hv.cells hc
          have hl1 := hlr.length
          have hl2 := hl.length
          simp only [Array.length_toList] at hl1 hl2
          obtain ⟨arr', ha, hb⟩ := fill_sound ps cs (putAt l off new) (splice arr off u.cells.toList) l' (by simpa using hlen) (fun i p c h1 h2 => hp (i + 1) p c (by simpa using h1) (by simpa using h2)) (hl.splice hlr (by omega)) hf
          refine ⟨arr', ?_, hb⟩
          simp only [Instr.fill, hpl]
          rw [if_neg (by simp; omega), zipIdx_foldl _ _ _ (by omega)]
          exact ha
        · rw [Bool.not_eq_true] at hcnd; rw [hcnd] at hf; cases hf
theorem LR.one_all {l : List AV} {vs : List Value} (h : LR μ l vs) (hl : l.all cellB = true) : ∀ v ∈ vs, v.oneCell' = true := fun v hv => by
  obtain ⟨i, hi, rfl⟩ := List.getElem_of_mem hv
  have hlen := h.length
  obtain ⟨u, hu, hr⟩ := h.get i l[i] (List.getElem?_eq_getElem (by omega))
  rw [List.getElem?_eq_getElem hi, Option.some.injEq] at hu
  rw [hu]
  exact hr.one (List.all_eq_true.1 hl _ (List.getElem_mem _))
theorem zeroCells_all {t : TypeId} {z : List AV} (h : zeroCellsA P t = some z) : z.all cellB = true := by
  unfold zeroCellsA at h
  split at h
  · rename_i l s h1 h2
    by_cases e : l.length = s ∧ l.all cellB = true
    · rw [if_pos e] at h
      simp only [Option.some.injEq] at h
      subst h
      exact e.2
    · rw [if_neg e] at h; cases h
  · cases h
theorem zeroCells_spec {t : TypeId} {z : List AV} (h : zeroCellsA P t = some z) : sizeA P t = some z.length ∧ ∃ v, (zeroValue t).run P w = .ok v w ∧ ∀ μ : Mu, LR μ z v.cells.toList := by
  unfold zeroCellsA at h
  split at h
  · rename_i l s h1 h2
    by_cases e : l.length = s ∧ l.all cellB = true
    · rw [if_pos e] at h
      have e := e.1
      simp only [Option.some.injEq] at h
      subst h
      cases hz : zeroA P t with
      | none => rw [hz] at h1; cases h1
      | some a =>
        rw [hz] at h1
        simp only [Option.bind_some] at h1
        obtain ⟨v, hv, hva⟩ := run_zero (w := w) hz
        exact ⟨by rw [h2, e], v, hv, fun μ => (hva ▸ VR.ofConst μ v).cells h1⟩
    · rw [if_neg e] at h; cases h
  · cases h
theorem run_fieldPlaces : ∀ (fs : List Field) (ps : List (Nat × Nat)), fieldPlaces P fs = some ps → (fs.mapM fun f => do pure (f.offset, ← sizeOf f.type) : Sem (List (Nat × Nat))).run P w = .ok ps w
  | [], ps, h => by simp only [fieldPlaces, Option.some.injEq] at h; subst h; simp
  | f :: fs, ps, h => by
    simp only [fieldPlaces] at h
    split at h
    · rename_i s l h1 h2
      simp only [Option.some.injEq] at h
      subst h
      have := run_fieldPlaces fs l h2
      simp only [List.mapM_cons, Sem.run_bind, Sem.run_pure, Result.andThen_ok, run_sizeOf h1, this]
    · cases h
theorem fastA_fill {place : Nat → Option (Nat × Nat)} {tot : Nat} : ∀ (ps : List (Nat × AV)) (off : Nat) (pre suf l : List AV), pre.length = off → (pre ++ suf).length = tot → fastA place tot off ps = some l → fillA place (pre ++ suf) ps = some (pre ++ l)
  | [], off, pre, suf, l, h1, h2, h => by
    simp only [fastA] at h
    by_cases hb : Nat.beq off tot = true
    · rw [hb] at h
      simp only [cond_true, Option.some.injEq] at h
      subst h
      have := Nat.beq_eq.mp hb
      have : suf = [] := List.eq_nil_of_length_eq_zero (by rw [List.length_append] at h2; omega)
      rw [this]; rfl
    · rw [Bool.not_eq_true] at hb; rw [hb] at h; cases h
  | (i, v) :: ps, off, pre, suf, l, h1, h2, h => by
    simp only [fastA] at h
    cases hpl : place i with
    | none => rw [hpl] at h; cases h
    | some q =>
      obtain ⟨o, size⟩ := q
      cases hc : cellsOfA v with
      | none => rw [hpl, hc] at h; cases h
      | some new =>
        rw [hpl, hc] at h
        simp only [] at h
        by_cases hb : (Nat.beq o off && (Nat.beq new.length size && Nat.ble (Nat.add off size) tot)) = true
        · rw [hb] at h
          simp only [cond_true] at h
          rw [Bool.and_eq_true, Bool.and_eq_true, Nat.beq_eq, Nat.beq_eq, Nat.ble_eq] at hb
          obtain ⟨rfl, hn, hle⟩ := hb
          have hle : o + size ≤ tot := hle
          cases hr : fastA place tot (Nat.add o size) ps with
          | none => rw [hr] at h; cases h
          | some r =>
            rw [hr] at h
            simp only [Option.some.injEq] at h
            subst h
            have hsl : suf.length = tot - o := by rw [List.length_append] at h2; omega
            have e1 : putAt (pre ++ suf) o new = (pre ++ new) ++ suf.drop size := by
              unfold putAt
              rw [List.take_left' h1, List.drop_append, h1, hn, List.drop_of_length_le (by omega)]
              simp [Nat.add_sub_cancel_left]
            have ih := fastA_fill ps (Nat.add o size) (pre ++ new) (suf.drop size) r (by rw [List.length_append, h1, hn]; rfl) (by rw [List.length_append, List.length_append, List.length_drop]; omega) hr
            simp only [fillA, hpl, hc]
            have c1 : (Nat.beq new.length size && Nat.ble (o + size) (pre ++ suf).length) = true := by
              rw [Bool.and_eq_true, Nat.beq_eq, Nat.ble_eq, h2]; exact ⟨hn, hle⟩
            rw [c1, cond_true, e1, ih, List.append_assoc]
        · rw [Bool.not_eq_true] at hb; rw [hb] at h; cases h
theorem fillQ_eq (place : Nat → Option (Nat × Nat)) (z : List AV) (ps : List (Nat × AV)) : fillQ place z ps = fillA place z ps := by
  unfold fillQ
  split
  · rename_i l h
    have := fastA_fill ps 0 [] z l rfl rfl h
    simpa using this.symm
  · rfl
theorem build_sound (h : HR w0 G μ H w) {t : TypeId} {ps : List (Nat × AV)} {cs : Array (Nat × Value)} {n : Nat} (hlen : ps.length = cs.toList.length)
    (hp : ∀ (i : Nat) (p : Nat × AV) (c : Nat × Value), ps[i]? = some p → cs.toList[i]? = some c → p.1 = c.1 ∧ VR μ p.2 c.2)
    (hr : ∀ v, (Instr.build t cs).run P w = .ok v w → r = .ok (.value v) w) : XR P w0 G μ H.size (rOpt (buildA P t ps) n H) r := by
  refine XR.rOpt h fun v hv => ?_
  unfold buildA at hv
  simp only [fillQ_eq] at hv
  split at hv
  · rename_i z fs hz hu
    split at hv
    · rename_i places hpl
      obtain ⟨hs, zv, hzr, hzl⟩ := zeroCells_spec (w := w) hz
      cases hf : fillA (places[·]?) z ps with
      | none => rw [hf] at hv; cases hv
      | some l =>
        rw [hf] at hv
        simp only [Option.map_some, Option.some.injEq] at hv
        subst hv
        obtain ⟨arr, ha, hb⟩ := fill_sound ps cs.toList z zv.cells l hlen hp (hzl μ) hf
        refine ⟨.agg arr, .agg l arr hb, hr _ ?_⟩
        have hm := run_fieldPlaces (w := w) fs.toList places hpl
        have hm' : (fs.mapM fun f => do pure (f.offset, ← sizeOf f.type) : Sem (Array (Nat × Nat))).run P w = .ok places.toArray w := by
          rw [Array.mapM_eq_mapM_toList]
          simp only [Sem.run_map, hm, Result.andThen_ok]
        have ha' : Instr.fill (fun x => places.toArray[x]?) zv.cells cs.toList = some arr := by
          rw [← ha]; congr 1; funext x; simp
        simp only [Instr.build, Sem.run_bind, hzr, Result.andThen_ok, run_underlying hu, hm', ha', Sem.run_pure]
    · cases hv
  · rename_i z n e hz hu
    split at hv
    · rename_i s hsz
      obtain ⟨hs, zv, hzr, hzl⟩ := zeroCells_spec (w := w) hz
      cases hf : fillA (fun i => some (Nat.mul i s, s)) z ps with
      | none => rw [hf] at hv; cases hv
      | some l =>
        rw [hf] at hv
        simp only [Option.map_some, Option.some.injEq] at hv
        subst hv
        obtain ⟨arr, ha, hb⟩ := fill_sound ps cs.toList z zv.cells l hlen hp (hzl μ) hf
        refine ⟨.agg arr, .agg l arr hb, hr _ ?_⟩
        have ha : Instr.fill (fun i => some (i * s, s)) zv.cells cs.toList = some arr := ha
        simp [Instr.build, hzr, run_underlying hu, run_sizeOf hsz, ha]
    · cases hv
  · cases hv
end
end Go.Proofs.YtabllhhainepgaaGreatDoor.Ab
