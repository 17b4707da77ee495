/-
  Bytes in one number, walked by halves: tests, folds and maps that the kernel runs fast. This text speaks of no program.
-/
import Derived.Test.YtabllhhainepgaaGreatDoorAbG9
set_option maxRecDepth 100000
set_option linter.unusedVariables false
set_option linter.unusedSimpArgs false
set_option linter.constructorNameAsVariable false
namespace Go.Proofs.YtabllhhainepgaaGreatDoor.Ab

noncomputable def frc {α : Type} (n : Nat) : (Nat → α) → α := Nat.rec (motive := fun _ => (Nat → α) → α) (fun k => k 0) (fun m _ k => k (Nat.succ m)) n
theorem frc_eq {α : Type} (n : Nat) (k : Nat → α) : frc n k = k n := by cases n <;> rfl

/-- All bytes of a piece are zero. -/
theorem cutB_zero {N i : Nat} : ∀ {k : Nat}, cutB N i k = 0 ↔ ∀ j, j < k → byteAt N (i + j) = 0 := by
  intro k
  constructor
  · intro h j hj
    rw [← byteAt_cutB hj, h, byteAt_zero]
  · intro h
    induction k with
    | zero => rw [cutB_eq]; simp [Nat.mod_one]
    | succ k ih =>
      have h1 := ih fun j hj => h j (by omega)
      have h2 := h k (by omega)
      rw [cutB_eq] at h1 ⊢
      rw [byteAt_eq, Nat.pow_add, ← Nat.div_div_eq_div_mul] at h2
      rw [Nat.pow_succ, Nat.mod_mul, h1, h2, Nat.mul_zero]

/-! ### folds -/
def foldS (f : Nat → Nat → Nat) : Nat → Nat → Nat → Nat
  | 0, _, x => x
  | n + 1, M, x => foldS f n (M / 256) (f x (M % 256))
noncomputable def foldB (f : Nat → Nat → Nat) (d : Nat) : Nat → Nat → Nat → Nat :=
  Nat.rec (motive := fun _ => Nat → Nat → Nat → Nat) (fun n M x => bif Nat.beq n 0 then x else f x (Nat.mod M 256))
    (fun d ih n M x => frc (Nat.pow 2 d) fun h => bif Nat.ble n h then ih n M x else frc (Nat.pow 256 h) fun p => frc (ih h (Nat.mod M p) x) fun y => frc (Nat.div M p) fun M' => ih (Nat.sub n h) M' y) d
theorem foldS_add (f : Nat → Nat → Nat) : ∀ (a b M x : Nat), foldS f (a + b) M x = foldS f b (M / 256 ^ a) (foldS f a M x)
  | 0, b, M, x => by simp [foldS]
  | a + 1, b, M, x => by
    rw [show a + 1 + b = (a + b) + 1 by omega, foldS, foldS, foldS_add f a b, Nat.div_div_eq_div_mul, Nat.pow_succ, Nat.mul_comm 256]
theorem mod_div_256 (M k : Nat) : M % 256 ^ (k + 1) / 256 = M / 256 % 256 ^ k := by
  rw [Nat.pow_succ, Nat.mul_comm, Nat.mod_mul_right_div_self]
theorem mod_mod_256 (M k : Nat) : M % 256 ^ (k + 1) % 256 = M % 256 := by
  rw [Nat.pow_succ, Nat.mul_comm, Nat.mod_mul_right_mod]
theorem foldS_mod (f : Nat → Nat → Nat) : ∀ (n k M x : Nat), n ≤ k → foldS f n (M % 256 ^ k) x = foldS f n M x
  | 0, _, _, _, _ => rfl
  | n + 1, 0, _, _, h => by omega
  | n + 1, k + 1, M, x, h => by
    rw [foldS, foldS, mod_div_256, mod_mod_256, foldS_mod f n k _ _ (by omega)]
theorem foldB_eq (f : Nat → Nat → Nat) : ∀ (d n M x : Nat), n ≤ 2 ^ d → foldB f d n M x = foldS f n M x
  | 0, n, M, x, h => by
    show (bif Nat.beq n 0 then x else f x (Nat.mod M 256)) = _
    have : n = 0 ∨ n = 1 := by simp at h; omega
    rcases this with rfl | rfl <;> rfl
  | d + 1, n, M, x, h => by
    show (frc (Nat.pow 2 d) fun h => bif Nat.ble n h then foldB f d n M x else frc (Nat.pow 256 h) fun p => frc (foldB f d h (Nat.mod M p) x) fun y => frc (Nat.div M p) fun M' => foldB f d (Nat.sub n h) M' y) = _
    simp only [frc_eq]
    have e2 : Nat.pow 2 d = 2 ^ d := rfl
    have e256 : Nat.pow 256 (2 ^ d) = 256 ^ (2 ^ d) := rfl
    rw [e2]
    cases hc : Nat.ble n (2 ^ d) with
    | true =>
      rw [Nat.ble_eq] at hc
      exact foldB_eq f d n M x hc
    | false =>
      have hn : 2 ^ d < n := by
        rcases Nat.lt_or_ge (2 ^ d) n with h | h
        · exact h
        · have h' : n ≤ 2 ^ d := h
          rw [← Nat.ble_eq, hc] at h'; cases h'
      have hs : n - 2 ^ d ≤ 2 ^ d := by rw [Nat.pow_succ] at h; omega
      show foldB f d (n - 2 ^ d) (M / 256 ^ (2 ^ d)) (foldB f d (2 ^ d) (M % 256 ^ (2 ^ d)) x) = _
      rw [foldB_eq f d _ _ _ hs, foldB_eq f d _ _ _ (Nat.le_refl _), foldS_mod f _ _ _ _ (Nat.le_refl _)]
      conv => rhs; rw [show n = 2 ^ d + (n - 2 ^ d) by omega, foldS_add]
theorem foldS_congr (f : Nat → Nat → Nat) : ∀ (n M N x : Nat), (∀ j, j < n → byteAt M j = byteAt N j) → foldS f n M x = foldS f n N x
  | 0, _, _, _, _ => rfl
  | n + 1, M, N, x, h => by
    rw [foldS, foldS]
    have h0 := h 0 (by omega)
    simp only [byteAt_eq, Nat.pow_zero, Nat.div_one] at h0
    rw [h0]
    refine foldS_congr f n _ _ _ fun j hj => ?_
    have h1 := h (j + 1) (by omega)
    have e : ∀ K, byteAt (K / 256) j = byteAt K (j + 1) := fun K => by
      have := byteAt_div K 1 j
      rw [Nat.pow_one, Nat.add_comm] at this
      exact this
    rw [e, e, h1]

/-! ### maps -/
def mapS (g : Nat → Nat) : Nat → Nat → Nat
  | 0, _ => 0
  | n + 1, M => g (M % 256) + 256 * mapS g n (M / 256)
noncomputable def mapB (g : Nat → Nat) (d : Nat) : Nat → Nat → Nat :=
  Nat.rec (motive := fun _ => Nat → Nat → Nat) (fun n M => bif Nat.beq n 0 then 0 else g (Nat.mod M 256))
    (fun d ih n M => frc (Nat.pow 2 d) fun h => bif Nat.ble n h then ih n M else frc (Nat.pow 256 h) fun p => frc (Nat.mod M p) fun M1 => frc (Nat.div M p) fun M2 => frc (ih h M1) fun lo => frc (ih (Nat.sub n h) M2) fun hi => Nat.add lo (Nat.mul p hi)) d
theorem mapS_add (g : Nat → Nat) : ∀ (a b M : Nat), mapS g (a + b) M = mapS g a M + 256 ^ a * mapS g b (M / 256 ^ a)
  | 0, b, M => by simp [mapS]
  | a + 1, b, M => by
    rw [show a + 1 + b = (a + b) + 1 by omega, mapS, mapS, mapS_add g a b, Nat.div_div_eq_div_mul, Nat.pow_succ, Nat.mul_comm 256 (256 ^ a), Nat.mul_add, ← Nat.mul_assoc, Nat.mul_comm 256 (256 ^ a), Nat.add_assoc]
theorem mapS_mod (g : Nat → Nat) : ∀ (n k M : Nat), n ≤ k → mapS g n (M % 256 ^ k) = mapS g n M
  | 0, _, _, _ => rfl
  | n + 1, 0, _, h => by omega
  | n + 1, k + 1, M, h => by rw [mapS, mapS, mod_div_256, mod_mod_256, mapS_mod g n k _ (by omega)]
theorem mapB_eq (g : Nat → Nat) : ∀ (d n M : Nat), n ≤ 2 ^ d → mapB g d n M = mapS g n M
  | 0, n, M, h => by
    show (bif Nat.beq n 0 then 0 else g (Nat.mod M 256)) = _
    have : n = 0 ∨ n = 1 := by simp at h; omega
    rcases this with rfl | rfl
    · rfl
    · simp [mapS]; rfl
  | d + 1, n, M, h => by
    show (frc (Nat.pow 2 d) fun h => bif Nat.ble n h then mapB g d n M else frc (Nat.pow 256 h) fun p => frc (Nat.mod M p) fun M1 => frc (Nat.div M p) fun M2 => frc (mapB g d h M1) fun lo => frc (mapB g d (Nat.sub n h) M2) fun hi => Nat.add lo (Nat.mul p hi)) = _
    simp only [frc_eq]
    have e2 : Nat.pow 2 d = 2 ^ d := rfl
    rw [e2]
    cases hc : Nat.ble n (2 ^ d) with
    | true =>
      rw [Nat.ble_eq] at hc
      exact mapB_eq g d n M hc
    | false =>
      have hn : 2 ^ d < n := by
        rcases Nat.lt_or_ge (2 ^ d) n with h | h
        · exact h
        · have h' : n ≤ 2 ^ d := h
          rw [← Nat.ble_eq, hc] at h'; cases h'
      have hs : n - 2 ^ d ≤ 2 ^ d := by rw [Nat.pow_succ] at h; omega
      show mapB g d (2 ^ d) (M % 256 ^ (2 ^ d)) + 256 ^ (2 ^ d) * mapB g d (n - 2 ^ d) (M / 256 ^ (2 ^ d)) = _
      rw [mapB_eq g d _ _ hs, mapB_eq g d _ _ (Nat.le_refl _), mapS_mod g _ _ _ (Nat.le_refl _)]
      conv => rhs; rw [show n = 2 ^ d + (n - 2 ^ d) by omega, mapS_add]
theorem mapS_lt (g : Nat → Nat) (hg : ∀ x, g x < 256) : ∀ (n M : Nat), mapS g n M < 256 ^ n
  | 0, _ => by simp [mapS]
  | n + 1, M => by
    have h1 := mapS_lt g hg n (M / 256)
    have h2 := hg (M % 256)
    rw [mapS, Nat.pow_succ]
    omega
theorem byteAt_mapS (g : Nat → Nat) (hg : ∀ x, g x < 256) : ∀ (n M j : Nat), j < n → byteAt (mapS g n M) j = g (byteAt M j)
  | 0, _, _, h => by omega
  | n + 1, M, 0, _ => by
    have h2 := hg (M % 256)
    rw [mapS, byteAt_eq, byteAt_eq, Nat.pow_zero, Nat.div_one, Nat.div_one]
    omega
  | n + 1, M, j + 1, h => by
    have h2 := hg (M % 256)
    have e : ∀ K, byteAt K (j + 1) = byteAt (K / 256) j := fun K => by
      have := byteAt_div K 1 j
      rw [Nat.pow_one, Nat.add_comm] at this
      exact this.symm
    rw [e, e, ← byteAt_mapS g hg n (M / 256) j (by omega), mapS]
    congr 1
    omega
end Go.Proofs.YtabllhhainepgaaGreatDoor.Ab
