/-
  Plain laws for the hot loops: the sum of blocks (a fold of bytes), products and sums in the field of 256 elements. This text speaks of no program.
-/
import Derived.Test.YtabllhhainepgaaGreatDoorHotA
set_option maxRecDepth 100000
set_option linter.unusedVariables false
set_option linter.unusedSimpArgs false
set_option linter.constructorNameAsVariable false
namespace Go.Proofs.YtabllhhainepgaaGreatDoor.Ab

/-! ### the sum of blocks -/
def crcT : Nat := 0xf36e6f75e330a81ad3d3e1abc38d26c4b21572c9a24bb5a692a8fc1782f63b787198540d61c693625125dad3417b1dbc30e349b120bd8ede105ec76f00000000
noncomputable def crcN (x : Nat) : Nat := Nat.xor (Nat.div x 16) (Nat.mod (Nat.div crcT (Nat.pow 4294967296 (Nat.mod x 16))) 4294967296)
noncomputable def crcB (x c : Nat) : Nat := frc (Nat.xor x c) fun y => frc (crcN y) fun z => crcN z
theorem crcB_eq (x c : Nat) : crcB x c = crcN (crcN (x ^^^ c)) := by
  unfold crcB
  rw [frc_eq, frc_eq]; rfl
theorem crcT_lt (k : Nat) : Nat.mod (Nat.div crcT (Nat.pow 4294967296 k)) 4294967296 < 2 ^ 32 := Nat.mod_lt _ (by decide)
theorem crcN_lt {x : Nat} (h : x < 2 ^ 32) : crcN x < 2 ^ 32 := by
  unfold crcN
  refine Nat.xor_lt_two_pow ?_ (crcT_lt _)
  exact Nat.lt_of_le_of_lt (Nat.div_le_self x 16) h
theorem crcB_lt {x c : Nat} (h : x < 2 ^ 32) (hc : c < 256) : crcB x c < 2 ^ 32 := by
  rw [crcB_eq]
  exact crcN_lt (crcN_lt (Nat.xor_lt_two_pow h (Nat.lt_trans hc (by decide))))
theorem foldS_crc_lt : ∀ (n M x : Nat), x < 2 ^ 32 → foldS crcB n M x < 2 ^ 32
  | 0, _, _, h => h
  | n + 1, M, x, h => foldS_crc_lt n _ _ (crcB_lt h (Nat.mod_lt _ (by decide)))
theorem foldS_succ (f : Nat → Nat → Nat) (j M x : Nat) : foldS f (j + 1) M x = f (foldS f j M x) (byteAt M j) := by
  rw [foldS_add f j 1]
  simp only [foldS, byteAt_eq]

/-! ### products -/
def mulR (p x b : Nat) : Nat → Nat
  | 0 => p
  | n + 1 => if b = 0 then p else mulR (if b % 2 = 1 then p ^^^ x else p) (if 255 < x * 2 then (x * 2) ^^^ 285 else x * 2) (b / 2) n
def mulG (a b : Nat) : Nat := mulR 0 a b 8
noncomputable def mulK (n : Nat) : Nat → Nat → Nat → Nat :=
  Nat.rec (motive := fun _ => Nat → Nat → Nat → Nat) (fun p _ _ => p)
    (fun _ ih p x b => bif Nat.beq b 0 then p else frc (bif Nat.beq (Nat.mod b 2) 1 then Nat.xor p x else p) fun p' => frc (Nat.mul x 2) fun x' => frc (bif Nat.ble x' 255 then x' else Nat.xor x' 285) fun y => frc (Nat.div b 2) fun b' => ih p' y b') n
theorem mulK_eq : ∀ (n p x b : Nat), mulK n p x b = mulR p x b n
  | 0, _, _, _ => rfl
  | n + 1, p, x, b => by
    show (bif Nat.beq b 0 then p else frc (bif Nat.beq (Nat.mod b 2) 1 then Nat.xor p x else p) fun p' => frc (Nat.mul x 2) fun x' => frc (bif Nat.ble x' 255 then x' else Nat.xor x' 285) fun y => frc (Nat.div b 2) fun b' => mulK n p' y b') = _
    simp only [frc_eq, mulR]
    cases hb : Nat.beq b 0 with
    | true => rw [Nat.beq_eq] at hb; simp [hb]
    | false =>
      have hb' : b ≠ 0 := fun e => by rw [e] at hb; cases hb
      rw [if_neg hb', cond_false, mulK_eq n]
      congr 1
      · cases h1 : Nat.beq (Nat.mod b 2) 1 with
        | true => rw [Nat.beq_eq] at h1; rw [if_pos (show b % 2 = 1 from h1)]; rfl
        | false => rw [if_neg (fun e => by have : Nat.mod b 2 = 1 := e; rw [this] at h1; cases h1)]; rfl
      · cases h1 : Nat.ble (Nat.mul x 2) 255 with
        | true => rw [Nat.ble_eq] at h1; rw [if_neg (by have : x * 2 ≤ 255 := h1; omega)]; rfl
        | false => rw [if_pos (by
            refine Classical.byContradiction fun h => ?_
            have : Nat.mul x 2 ≤ 255 := Nat.le_of_not_lt h
            rw [← Nat.ble_eq, h1] at this; cases this)]; rfl
theorem mulR_lt : ∀ (n p x b : Nat), p < 256 → x < 256 → mulR p x b n < 256
  | 0, _, _, _, hp, _ => hp
  | n + 1, p, x, b, hp, hx => by
    rw [mulR]
    split
    · exact hp
    · refine mulR_lt n _ _ _ ?_ ?_
      · split
        · exact Nat.xor_lt_two_pow (n := 8) hp hx
        · exact hp
      · split
        · rename_i h
          have key : ∀ y, y < 256 → 255 < y * 2 → (y * 2) ^^^ 285 < 256 := by decide +kernel
          exact key x hx h
        · omega
theorem mulG_lt {a b : Nat} (ha : a < 256) : mulG a b < 256 := mulR_lt 8 0 a b (by decide) ha
theorem mulG_zero (a : Nat) : mulG a 0 = 0 := by simp [mulG, mulR]

/-! ### a map of bytes that leaves zero -/
noncomputable def mapZ (g : Nat → Nat) (d : Nat) : Nat → Nat :=
  Nat.rec (motive := fun _ => Nat → Nat) (fun M => bif Nat.beq M 0 then 0 else g (Nat.mod M 256))
    (fun d ih M => bif Nat.beq M 0 then 0 else frc (Nat.pow 256 (Nat.pow 2 d)) fun p => frc (Nat.mod M p) fun M1 => frc (Nat.div M p) fun M2 => frc (ih M1) fun lo => frc (ih M2) fun hi => Nat.add lo (Nat.mul p hi)) d
theorem mapS_zero (g : Nat → Nat) (h0 : g 0 = 0) : ∀ n, mapS g n 0 = 0
  | 0 => rfl
  | n + 1 => by rw [mapS, Nat.zero_mod, Nat.zero_div, h0, mapS_zero g h0 n]
theorem mapZ_eq (g : Nat → Nat) (h0 : g 0 = 0) : ∀ (d M : Nat), mapZ g d M = mapS g (2 ^ d) M
  | 0, M => by
    show (bif Nat.beq M 0 then 0 else g (Nat.mod M 256)) = _
    cases hb : Nat.beq M 0 with
    | true =>
      rw [Nat.beq_eq] at hb
      subst hb
      rw [mapS_zero g h0]; rfl
    | false => simp [mapS]; rfl
  | d + 1, M => by
    show (bif Nat.beq M 0 then 0 else frc (Nat.pow 256 (Nat.pow 2 d)) fun p => frc (Nat.mod M p) fun M1 => frc (Nat.div M p) fun M2 => frc (mapZ g d M1) fun lo => frc (mapZ g d M2) fun hi => Nat.add lo (Nat.mul p hi)) = _
    simp only [frc_eq]
    cases hb : Nat.beq M 0 with
    | true =>
      rw [Nat.beq_eq] at hb
      subst hb
      rw [mapS_zero g h0]; rfl
    | false =>
      rw [cond_false]
      show mapZ g d (M % 256 ^ 2 ^ d) + 256 ^ 2 ^ d * mapZ g d (M / 256 ^ 2 ^ d) = _
      rw [mapZ_eq g h0 d, mapZ_eq g h0 d, mapS_mod g _ _ _ (Nat.le_refl _), show 2 ^ (d + 1) = 2 ^ d + 2 ^ d by rw [Nat.pow_succ]; omega, mapS_add]
theorem byteAt_mapZ (g : Nat → Nat) (h0 : g 0 = 0) (hg : ∀ x, g x < 256) {d M j : Nat} (h : j < 2 ^ d) : byteAt (mapZ g d M) j = g (byteAt M j) := by
  rw [mapZ_eq g h0, byteAt_mapS g hg _ _ _ h]
theorem lt_of_bytes : ∀ (n N : Nat), (∀ j, n ≤ j → byteAt N j = 0) → N < 256 ^ n := by
  intro n N h
  refine Classical.byContradiction fun hn => ?_
  have hle : 256 ^ n ≤ N := Nat.le_of_not_lt hn
  have hK : ∀ k, cutB N n k = 0 := fun k => cutB_zero.2 fun j _ => h (n + j) (by omega)
  have h1 := hK N
  rw [cutB_eq] at h1
  have h2 : N / 256 ^ n < 256 ^ N := Nat.lt_of_le_of_lt (Nat.div_le_self _ _) (Nat.lt_pow_self (by decide))
  rw [Nat.mod_eq_of_lt h2] at h1
  have h3 : 0 < 256 ^ n := Nat.pow_pos (by decide)
  have := Nat.div_pos hle h3
  omega
theorem byteAt_high {n N j : Nat} (h : N < 256 ^ n) (hj : n ≤ j) : byteAt N j = 0 := by
  rw [byteAt_eq, Nat.div_eq_of_lt (Nat.lt_of_lt_of_le h (Nat.pow_le_pow_right (by decide) hj))]
theorem mapZ_lt (g : Nat → Nat) (h0 : g 0 = 0) (hg : ∀ x, g x < 256) {d M n : Nat} (hM : M < 256 ^ n) (hn : n ≤ 2 ^ d) : mapZ g d M < 256 ^ n := by
  refine lt_of_bytes _ _ fun j hj => ?_
  rcases Nat.lt_or_ge j (2 ^ d) with h | h
  · rw [byteAt_mapZ g h0 hg h, byteAt_high hM hj, h0]
  · have := mapS_lt g hg (2 ^ d) M
    rw [mapZ_eq g h0, byteAt_high this h]
theorem byteAt_xor (M N j : Nat) : byteAt (M ^^^ N) j = byteAt M j ^^^ byteAt N j := by
  rw [byteAt_eq, byteAt_eq, byteAt_eq, show (256 : Nat) = 2 ^ 8 by rfl, ← Nat.pow_mul, ← Nat.shiftRight_eq_div_pow, ← Nat.shiftRight_eq_div_pow, ← Nat.shiftRight_eq_div_pow, Nat.shiftRight_xor_distrib, Nat.xor_mod_two_pow]
theorem xor_lt256 {M N n : Nat} (h : M < 256 ^ n) (k : N < 256 ^ n) : M ^^^ N < 256 ^ n := by
  rw [show (256 : Nat) = 2 ^ 8 by rfl, ← Nat.pow_mul] at *
  exact Nat.xor_lt_two_pow h k

/-! ### a number's bytes, the highest first -/
noncomputable def beN (k : Nat) : Nat → Nat := Nat.rec (motive := fun _ => Nat → Nat) (fun _ => 0) (fun k ih x => frc (ih (Nat.div x 256)) fun r => Nat.add r (Nat.mul (Nat.mod x 256) (Nat.pow 256 k))) k
theorem beN_succ (k x : Nat) : beN (k + 1) x = beN k (x / 256) + (x % 256) * 256 ^ k := by
  show frc (beN k (Nat.div x 256)) (fun r => Nat.add r (Nat.mul (Nat.mod x 256) (Nat.pow 256 k))) = _
  rw [frc_eq]; rfl
theorem beN_lt : ∀ (k x : Nat), beN k x < 256 ^ k
  | 0, _ => by show 0 < 1; decide
  | k + 1, x => by
    have h1 := beN_lt k (x / 256)
    have h2 : x % 256 < 256 := Nat.mod_lt _ (by decide)
    rw [beN_succ, Nat.pow_succ]
    have h3 : (x % 256) * 256 ^ k ≤ 255 * 256 ^ k := Nat.mul_le_mul_right _ (by omega)
    omega
theorem byteAt_beN : ∀ {k x j : Nat}, j < k → byteAt (beN k x) j = byteAt x (k - 1 - j)
  | k + 1, x, j, h => by
    have h1 := beN_lt k (x / 256)
    have hp : 0 < 256 ^ k := Nat.pow_pos (by decide)
    rw [beN_succ]
    by_cases e : j = k
    · subst e
      rw [byteAt_eq, Nat.add_mul_div_right _ _ hp, Nat.div_eq_of_lt h1, show j + 1 - 1 - j = 0 by omega, byteAt_eq]
      simp
    · have hj : j < k := by omega
      rw [← byteAt_mod hj, Nat.add_mul_mod_self_right, Nat.mod_eq_of_lt h1, byteAt_beN hj]
      have := byteAt_div x 1 (k - 1 - j)
      rw [Nat.pow_one] at this
      rw [this]
      congr 1
      omega
end Go.Proofs.YtabllhhainepgaaGreatDoor.Ab
