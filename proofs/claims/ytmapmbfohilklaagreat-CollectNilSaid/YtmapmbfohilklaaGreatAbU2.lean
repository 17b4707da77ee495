/-
  The abstract machine: keys that are alike, bit for bit.
-/
import Derived.Test.YtmapmbfohilklaaGreatAbU1
namespace Go.Proofs.YtmapmbfohilklaaGreat.Ab
open Go.RowKit

section
variable {P : Program} {w0 w : World} {G : Nat} {μ : Mu} {H : AH} {r : Result Next}
theorem sameC_sound {a b : AV} {av bv : Value} (n : Nat) (ha : VR μ a av) (hb : VR μ b bv) (h : sameC a b = true) : Instr.sameBits n av bv = true := by
  unfold sameC at h
  split at h
  · have e1 := ha.bool_inv; have e2 := hb.bool_inv; subst e1 e2; unfold Instr.sameBits; exact h
  · have e1 := ha.int_inv; have e2 := hb.int_inv; subst e1 e2
    rw [Bool.and_eq_true, decide_eq_true_eq, eqI_eq] at h
    unfold Instr.sameBits
    simp [h.1, beq_iff_eq.1 h.2]
  · obtain ⟨s, rfl, h1, h2⟩ := ha.str_inv
    obtain ⟨s', rfl, h3, h4⟩ := hb.str_inv
    have := StrR.eq (s := s) (t := s') ⟨h1, h2⟩ ⟨h3, h4⟩
    rw [h] at this
    unfold Instr.sameBits
    rw [beq_toListBytes]; exact this
  · obtain ⟨L, hL, rfl⟩ := ha.ptr_inv
    obtain ⟨L', hL', rfl⟩ := hb.ptr_inv
    rw [Bool.and_eq_true, Nat.beq_eq, Nat.beq_eq] at h
    obtain ⟨rfl, rfl⟩ := h
    rw [hL] at hL'
    cases hL'
    unfold Instr.sameBits
    simp
  · cases ha; cases hb; unfold Instr.sameBits; simp
  · cases h
theorem sameCs_sound (n : Nat) : ∀ {l m : List AV} {x y : List Value}, LR μ l x → LR μ m y → sameCs l m = true → x.length = y.length ∧ (x.zip y).all (fun (a, b) => Instr.sameBits n a b) = true
  | [], [], _, _, h1, h2, _ => by cases h1; cases h2; exact ⟨rfl, rfl⟩
  | [], _ :: _, _, _, _, _, h => by cases h
  | _ :: _, [], _, _, _, _, h => by cases h
  | a :: l, b :: m, _, _, h1, h2, h => by
    cases h1 with | cons _ u _ x hu h1 =>
    cases h2 with | cons _ v _ y hv h2 =>
    simp only [sameCs, Bool.and_eq_true] at h
    obtain ⟨i1, i2⟩ := sameCs_sound n h1 h2 h.2
    refine ⟨by simp [i1], ?_⟩
    rw [List.zip_cons_cons, List.all_cons, Bool.and_eq_true]
    exact ⟨sameC_sound n hu hv h.1, i2⟩
theorem sameK_sound {a b : AV} {av bv : Value} (n : Nat) (ha : VR μ a av) (hb : VR μ b bv) (h : sameK a b = true) : Instr.sameBits (n + 1) av bv = true := by
  unfold sameK at h
  split at h
  · obtain ⟨x, rfl, h1⟩ := ha.agg_inv
    obtain ⟨y, rfl, h2⟩ := hb.agg_inv
    obtain ⟨i1, i2⟩ := sameCs_sound n h1 h2 h
    unfold Instr.sameBits
    rw [Bool.and_eq_true]
    exact ⟨by simpa using i1, i2⟩
  · exact sameC_sound (n + 1) ha hb h
end
end Go.Proofs.YtmapmbfohilklaaGreat.Ab
