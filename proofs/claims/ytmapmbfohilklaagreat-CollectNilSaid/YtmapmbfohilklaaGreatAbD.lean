/-
  The abstract machine: what trees and packed bytes read as.
-/
import Derived.Test.YtmapmbfohilklaaGreatAbC
namespace Go.Proofs.YtmapmbfohilklaaGreat.Ab

/-! ### trees -/
theorem getV_nil (p : List Bool) (d : AV) : getV .nil p d = d := rfl
theorem getV_here (v : AV) (l r : Tr AV) (d : AV) : getV (.node v l r) [] d = v := rfl
theorem getV_l (v : AV) (l r : Tr AV) (p : List Bool) (d : AV) : getV (.node v l r) (true :: p) d = getV l p d := rfl
theorem getV_r (v : AV) (l r : Tr AV) (p : List Bool) (d : AV) : getV (.node v l r) (false :: p) d = getV r p d := rfl

/-- The tree that setV hands on. -/
def putV : List Bool → Tr AV → AV → AV → Tr AV
  | [], .nil, x, _ => .node x .nil .nil
  | [], .node _ l r, x, _ => .node x l r
  | true :: p, .nil, x, d => .node d (putV p .nil x d) .nil
  | false :: p, .nil, x, d => .node d .nil (putV p .nil x d)
  | true :: p, .node v l r, x, d => .node v (putV p l x d) r
  | false :: p, .node v l r, x, d => .node v l (putV p r x d)
theorem setV_eq (p : List Bool) : ∀ (t : Tr AV) (x d : AV) (k : Tr AV → X), setV p t x d k = k (putV p t x d) := by
  induction p with
  | nil => intro t x d k; cases t <;> rfl
  | cons b p ih =>
    intro t x d k
    cases t <;> cases b
    · exact ih .nil x d (fun r => k (.node d .nil r))
    · exact ih .nil x d (fun l => k (.node d l .nil))
    · rename_i v l r; exact ih r x d (fun r' => k (.node v l r'))
    · rename_i v l r; exact ih l x d (fun l' => k (.node v l' r))
theorem get_putV (p : List Bool) : ∀ (t : Tr AV) (x d : AV) (q : List Bool), getV (putV p t x d) q d = if q = p then x else getV t q d := by
  induction p with
  | nil => intro t x d q; cases t <;> cases q <;> (try rename_i b q; cases b) <;> simp [putV, getV_nil, getV_here, getV_l, getV_r]
  | cons b p ih =>
    intro t x d q
    cases t <;> cases b <;> cases q <;> (try rename_i c q; cases c) <;> simp [putV, getV_nil, getV_here, getV_l, getV_r, ih]
def putO : List Bool → Tr AObj → AObj → AObj → Tr AObj
  | [], .nil, x, _ => .node x .nil .nil
  | [], .node _ l r, x, _ => .node x l r
  | true :: p, .nil, x, d => .node d (putO p .nil x d) .nil
  | false :: p, .nil, x, d => .node d .nil (putO p .nil x d)
  | true :: p, .node v l r, x, d => .node v (putO p l x d) r
  | false :: p, .node v l r, x, d => .node v l (putO p r x d)
theorem getO_nil (p : List Bool) (d : AObj) : getO .nil p d = d := rfl
theorem getO_here (v : AObj) (l r : Tr AObj) (d : AObj) : getO (.node v l r) [] d = v := rfl
theorem getO_l (v : AObj) (l r : Tr AObj) (p : List Bool) (d : AObj) : getO (.node v l r) (true :: p) d = getO l p d := rfl
theorem getO_r (v : AObj) (l r : Tr AObj) (p : List Bool) (d : AObj) : getO (.node v l r) (false :: p) d = getO r p d := rfl
theorem setO_eq (p : List Bool) : ∀ (t : Tr AObj) (x d : AObj) (k : Tr AObj → X), setO p t x d k = k (putO p t x d) := by
  induction p with
  | nil => intro t x d k; cases t <;> rfl
  | cons b p ih =>
    intro t x d k
    cases t <;> cases b
    · exact ih .nil x d (fun r => k (.node d .nil r))
    · exact ih .nil x d (fun l => k (.node d l .nil))
    · rename_i v l r; exact ih r x d (fun r' => k (.node v l r'))
    · rename_i v l r; exact ih l x d (fun l' => k (.node v l' r))
theorem get_putO (p : List Bool) : ∀ (t : Tr AObj) (x d : AObj) (q : List Bool), getO (putO p t x d) q d = if q = p then x else getO t q d := by
  induction p with
  | nil => intro t x d q; cases t <;> cases q <;> (try rename_i b q; cases b) <;> simp [putO, getO_nil, getO_here, getO_l, getO_r]
  | cons b p ih =>
    intro t x d q
    cases t <;> cases b <;> cases q <;> (try rename_i c q; cases c) <;> simp [putO, getO_nil, getO_here, getO_l, getO_r, ih]
def putR : List Bool → Tr (List AV) → List AV → List AV → Tr (List AV)
  | [], .nil, x, _ => .node x .nil .nil
  | [], .node _ l r, x, _ => .node x l r
  | true :: p, .nil, x, d => .node d (putR p .nil x d) .nil
  | false :: p, .nil, x, d => .node d .nil (putR p .nil x d)
  | true :: p, .node v l r, x, d => .node v (putR p l x d) r
  | false :: p, .node v l r, x, d => .node v l (putR p r x d)
theorem getR_nil (p : List Bool) (d : List AV) : getR .nil p d = d := rfl
theorem getR_here (v : List AV) (l r : Tr (List AV)) (d : List AV) : getR (.node v l r) [] d = v := rfl
theorem getR_l (v : List AV) (l r : Tr (List AV)) (p : List Bool) (d : List AV) : getR (.node v l r) (true :: p) d = getR l p d := rfl
theorem getR_r (v : List AV) (l r : Tr (List AV)) (p : List Bool) (d : List AV) : getR (.node v l r) (false :: p) d = getR r p d := rfl
theorem setR_eq (p : List Bool) : ∀ (t : Tr (List AV)) (x d : List AV) (k : Tr (List AV) → X), setR p t x d k = k (putR p t x d) := by
  induction p with
  | nil => intro t x d k; cases t <;> rfl
  | cons b p ih =>
    intro t x d k
    cases t <;> cases b
    · exact ih .nil x d (fun r => k (.node d .nil r))
    · exact ih .nil x d (fun l => k (.node d l .nil))
    · rename_i v l r; exact ih r x d (fun r' => k (.node v l r'))
    · rename_i v l r; exact ih l x d (fun l' => k (.node v l' r))
theorem get_putR (p : List Bool) : ∀ (t : Tr (List AV)) (x d : List AV) (q : List Bool), getR (putR p t x d) q d = if q = p then x else getR t q d := by
  induction p with
  | nil => intro t x d q; cases t <;> cases q <;> (try rename_i b q; cases b) <;> simp [putR, getR_nil, getR_here, getR_l, getR_r]
  | cons b p ih =>
    intro t x d q
    cases t <;> cases b <;> cases q <;> (try rename_i c q; cases c) <;> simp [putR, getR_nil, getR_here, getR_l, getR_r, ih]

theorem beq_ff {n m : Nat} (h : n ≠ m) : Nat.beq n m = false := by rw [← Bool.not_eq_true, Nat.beq_eq]; exact h
/-- Places have paths of their own. -/
theorem pathF_inj : ∀ (f g n m : Nat), n ≤ f → m ≤ g → pathF f n = pathF g m → n = m := by
  intro f
  induction f with
  | zero =>
    intro g n m hn hm h
    have : n = 0 := by omega
    subst this
    cases g with
    | zero => omega
    | succ g =>
      unfold pathF at h
      by_cases h0 : m = 0
      · exact h0.symm
      · have : Nat.beq m 0 = false := beq_ff h0
        simp [this] at h
  | succ f ih =>
    intro g n m hn hm h
    cases g with
    | zero =>
      have : m = 0 := by omega
      subst this
      unfold pathF at h
      by_cases h0 : n = 0
      · exact h0
      · have : Nat.beq n 0 = false := beq_ff h0
        simp [this] at h
    | succ g =>
      unfold pathF at h
      by_cases h0 : n = 0
      · by_cases h1 : m = 0
        · omega
        · have e0 : Nat.beq n 0 = true := by simp [h0]
          have e1 : Nat.beq m 0 = false := beq_ff h1
          simp [e0, e1] at h
      · by_cases h1 : m = 0
        · have e0 : Nat.beq m 0 = true := by simp [h1]
          have e1 : Nat.beq n 0 = false := beq_ff h0
          simp [e0, e1] at h
        · have e0 : Nat.beq n 0 = false := beq_ff h0
          have e1 : Nat.beq m 0 = false := beq_ff h1
          simp only [e0, e1, cond_false, List.cons.injEq] at h
          obtain ⟨hb, ht⟩ := h
          by_cases p : n % 2 = 1
          · have q : m % 2 = 1 := by
              have : Nat.beq (Nat.mod n 2) 1 = true := by rw [Nat.beq_eq]; exact p
              rw [this] at hb
              have := hb.symm
              rw [Nat.beq_eq] at this; exact this
            have x1 : Nat.beq (Nat.mod n 2) 1 = true := by rw [Nat.beq_eq]; exact p
            have x2 : Nat.beq (Nat.mod m 2) 1 = true := by rw [Nat.beq_eq]; exact q
            simp only [x1, x2, cond_true] at ht
            have := ih g (n / 2) (m / 2) (by omega) (by omega) ht
            omega
          · have q : ¬ m % 2 = 1 := by
              intro q
              have x2 : Nat.beq (Nat.mod m 2) 1 = true := by rw [Nat.beq_eq]; exact q
              rw [x2] at hb
              rw [Nat.beq_eq] at hb
              exact p hb
            have x1 : Nat.beq (Nat.mod n 2) 1 = false := by rw [← Bool.not_eq_true, Nat.beq_eq]; exact p
            have x2 : Nat.beq (Nat.mod m 2) 1 = false := by rw [← Bool.not_eq_true, Nat.beq_eq]; exact q
            simp only [x1, x2, cond_false] at ht
            have := ih g (n / 2 - 1) (m / 2 - 1) (by omega) (by omega) ht
            omega
theorem path_inj {n m : Nat} (h : path n = path m) : n = m := pathF_inj n m n m (Nat.le_refl _) (Nat.le_refl _) h

/-! ### data handed on -/
theorem fNat_eq (n : Nat) (k : Nat → X) : fNat n k = k n := by cases n <;> rfl
theorem fInt_eq (n : Int) (k : Int → X) : fInt n k = k n := by
  cases n with
  | ofNat m => exact fNat_eq m fun m => k (Int.ofNat m)
  | negSucc m => exact fNat_eq m fun m => k (Int.negSucc m)
def AH.set (H : AH) (b : Nat) (o : AObj) : AH := ⟨H.size, putO (path b) H.tr o .dead⟩
def AH.push (H : AH) (o : AObj) : AH := ⟨H.size + 1, putO (path H.size) H.tr o .dead⟩
theorem setK_eq (H : AH) (b : Nat) (o : AObj) (k : AH → X) : H.setK b o k = k (H.set b o) := by
  cases H; exact setO_eq _ _ _ _ _
theorem pushK_eq (H : AH) (o : AObj) (k : AH → X) : H.pushK o k = k (H.push o) := by
  cases H with | mk n t =>
  show fNat (Nat.succ n) (fun n' => setO (path n) t o .dead fun t' => k (.mk n' t')) = _
  rw [fNat_eq, setO_eq]
  rfl
theorem get_set (H : AH) (b : Nat) (o : AObj) (c : Nat) : (H.set b o).get c = if c = b then o else H.get c := by
  unfold AH.get AH.set
  rw [get_putO]
  by_cases h : c = b
  · simp [h]
  · rw [if_neg h, if_neg (fun e => h (path_inj e))]
theorem get_push (H : AH) (o : AObj) (c : Nat) : (H.push o).get c = if c = H.size then o else H.get c := by
  unfold AH.get AH.push
  rw [get_putO]
  by_cases h : c = H.size
  · simp [h]
  · rw [if_neg h, if_neg (fun e => h (path_inj e))]
theorem core_seal (N : Nat) : coreB (sealB N) = N := by
  show (N * 4294967296 + N % 4294967291) / 4294967296 = N
  omega
theorem core_zero : coreB 0 = 0 := rfl

/-! ### bytes in one number -/
theorem byteAt_eq (N i : Nat) : byteAt N i = N / 256 ^ i % 256 := rfl
theorem byteAt_lt (N i : Nat) : byteAt N i < 256 := by rw [byteAt_eq]; omega
theorem byteAt_zero (i : Nat) : byteAt 0 i = 0 := by simp [byteAt_eq]
theorem byteAt_div (N a j : Nat) : byteAt (N / 256 ^ a) j = byteAt N (a + j) := by
  rw [byteAt_eq, byteAt_eq, Nat.div_div_eq_div_mul, ← Nat.pow_add]
theorem byteAt_mod {N i j : Nat} (h : j < i) : byteAt (N % 256 ^ i) j = byteAt N j := by
  rw [byteAt_eq, byteAt_eq]
  obtain ⟨d, rfl⟩ : ∃ d, i = j + (d + 1) := ⟨i - j - 1, by omega⟩
  rw [Nat.pow_add, Nat.mod_mul_right_div_self]
  rw [Nat.pow_succ, Nat.mul_comm (256 ^ d) 256, Nat.mod_mul_right_mod]
theorem byteAt_mod_hi {N i j : Nat} (h : i ≤ j) : byteAt (N % 256 ^ i) j = 0 := by
  rw [byteAt_eq]
  have h1 : N % 256 ^ i < 256 ^ i := Nat.mod_lt _ (Nat.pow_pos (by omega))
  have h2 : 256 ^ i ≤ 256 ^ j := Nat.pow_le_pow_right (by omega) h
  rw [Nat.div_eq_of_lt (by omega)]
theorem byteAt_join {lo hi i : Nat} (h : lo < 256 ^ i) (j : Nat) : byteAt (lo + 256 ^ i * hi) j = if j < i then byteAt lo j else byteAt hi (j - i) := by
  by_cases hj : j < i
  · rw [if_pos hj]
    have e : (lo + 256 ^ i * hi) % 256 ^ i = lo := by rw [Nat.add_mul_mod_self_left, Nat.mod_eq_of_lt h]
    rw [← byteAt_mod (N := lo + 256 ^ i * hi) hj, e]
  · rw [if_neg hj]
    have e : (lo + 256 ^ i * hi) / 256 ^ i = hi := by rw [Nat.add_mul_div_left _ _ (Nat.pow_pos (by omega)), Nat.div_eq_of_lt h]; omega
    have := byteAt_div (lo + 256 ^ i * hi) i (j - i)
    rw [e] at this
    rw [this]; congr 1; omega
theorem cutB_eq (N i k : Nat) : cutB N i k = N / 256 ^ i % 256 ^ k := rfl
theorem cutB_lt (N i k : Nat) : cutB N i k < 256 ^ k := Nat.mod_lt _ (Nat.pow_pos (by omega))
theorem byteAt_cutB {N i k j : Nat} (h : j < k) : byteAt (cutB N i k) j = byteAt N (i + j) := by rw [cutB_eq, byteAt_mod h, byteAt_div]
theorem putB_eq (N i k M : Nat) : putB N i k M = N % 256 ^ i + 256 ^ i * (M + 256 ^ k * (N / 256 ^ (i + k))) := rfl
theorem byteAt_putB {N i k M : Nat} (hM : M < 256 ^ k) (j : Nat) : byteAt (putB N i k M) j = if j < i then byteAt N j else if j < i + k then byteAt M (j - i) else byteAt N j := by
  rw [putB_eq, byteAt_join (Nat.mod_lt _ (Nat.pow_pos (by omega)))]
  by_cases h : j < i
  · rw [if_pos h, if_pos h, byteAt_mod h]
  · rw [if_neg h, if_neg h, byteAt_join hM]
    by_cases h' : j < i + k
    · rw [if_pos h', if_pos (by omega)]
    · rw [if_neg h', if_neg (by omega), byteAt_div]; congr 1; omega
theorem join_lt {N n M m : Nat} (hN : N < 256 ^ n) (hM : M < 256 ^ m) : N + 256 ^ n * M < 256 ^ (n + m) := by
  have h4 : 256 ^ n * (M + 1) ≤ 256 ^ n * 256 ^ m := Nat.mul_le_mul_left _ hM
  rw [Nat.pow_add]; rw [Nat.mul_add, Nat.mul_one] at h4; omega
theorem putB_lt {N n i k M : Nat} (hN : N < 256 ^ n) (hM : M < 256 ^ k) (h : i + k ≤ n) : putB N i k M < 256 ^ n := by
  rw [putB_eq]
  have h1 : N % 256 ^ i < 256 ^ i := Nat.mod_lt _ (Nat.pow_pos (by omega))
  obtain ⟨d, rfl⟩ : ∃ d, n = i + (k + d) := ⟨n - (i + k), by omega⟩
  have h2 : N / 256 ^ (i + k) < 256 ^ d := by
    rw [Nat.div_lt_iff_lt_mul (Nat.pow_pos (by omega)), ← Nat.pow_add, show d + (i + k) = i + (k + d) by omega]; exact hN
  exact join_lt h1 (join_lt hM h2)
/-- Two numbers of so many bytes that read alike are one. -/
theorem bytes_ext : ∀ (n N M : Nat), N < 256 ^ n → M < 256 ^ n → (∀ i, i < n → byteAt N i = byteAt M i) → N = M := by
  intro n
  induction n with
  | zero => intro N M hN hM _; simp at hN hM; omega
  | succ n ih =>
    intro N M hN hM h
    have h0 := h 0 (by omega)
    have hd : N / 256 = M / 256 := ih (N / 256) (M / 256) (by rw [Nat.div_lt_iff_lt_mul (by omega)]; rw [Nat.pow_succ] at hN; exact hN)
      (by rw [Nat.div_lt_iff_lt_mul (by omega)]; rw [Nat.pow_succ] at hM; exact hM) (fun i hi => by
        have := h (1 + i) (by omega)
        rw [← byteAt_div, ← byteAt_div] at this
        simpa using this)
    simp only [byteAt_eq, Nat.pow_zero, Nat.div_one] at h0
    omega
theorem pack_lt : ∀ l : List UInt8, pack l < 256 ^ l.length
  | [] => by simp [pack]
  | b :: l => by
    have h := pack_lt l
    have hb : b.toNat < 256 := b.toNat_lt
    simp only [pack, List.length_cons, Nat.pow_succ]; omega
theorem byteAt_pack : ∀ (l : List UInt8) (i : Nat) (h : i < l.length), byteAt (pack l) i = (l[i]).toNat
  | b :: l, 0, _ => by
    have hb : b.toNat < 256 := b.toNat_lt
    simp only [pack, byteAt_eq, Nat.pow_zero, Nat.div_one, List.getElem_cons_zero]; omega
  | b :: l, i + 1, h => by
    have hb : b.toNat < 256 := b.toNat_lt
    have := byteAt_pack l i (by simpa using h)
    rw [List.getElem_cons_succ, ← this, Nat.add_comm i 1, ← byteAt_div, Nat.pow_one]
    congr 1
    simp only [pack]; omega
theorem pack_inj {l m : List UInt8} (hl : l.length = m.length) (h : pack l = pack m) : l = m := by
  refine List.ext_getElem hl fun i h1 h2 => ?_
  have := byteAt_pack l i h1
  rw [h, byteAt_pack m i h2] at this
  exact (UInt8.toNat_inj.1 this).symm
end Go.Proofs.YtmapmbfohilklaaGreat.Ab
