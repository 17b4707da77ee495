/-
  ArenaBlocks: chunks in memory; the small functions over them.
-/
import Derived.Test.YtlpkejklejaejaaAbkLaw
import Derived.Test.YtlpkejklejaejaaHotO
import Derived.Test.YtlpkejklejaejaaMem
set_option maxRecDepth 100000
set_option linter.unusedVariables false
set_option linter.unusedSimpArgs false
set_option linter.constructorNameAsVariable false
namespace Go.Proofs.Ytlpkejklejaejaa
open Go.RowKit Abk

/-- The slice v holds slices that hold these bytes. -/
def Chs (w : World) (v : Value) (l : List (List Int)) : Prop :=
  ∃ a c, v = .slice a l.length c ∧ l.length ≤ c ∧ c ≤ maxLen ∧ (l = [] ∨ ∃ g o, a = some ⟨g, o, none⟩ ∧ ∀ i b, l[i]? = some b → ∃ s, w.cell? ⟨g, o + i, none⟩ = some s ∧ Byt w s b)
theorem fits_take_succ {l : List (List Int)} {k : Nat} (h : k < l.length) : fits (l.take (k + 1)) = fits (l.take k) + (2 + l[k].length) := by
  rw [take_snoc' h, fits_append]; simp [fits]
theorem fits_take_le (l : List (List Int)) (k : Nat) : fits (l.take k) ≤ fits l := by
  conv => rhs; rw [← List.take_append_drop k l, fits_append]
  omega
theorem errno_calls (x : Int) (w : World) : Calls Try.prog 11 #[.int .i64 x] w fun e w' => e = .returned (.int .i64 x) ∧ w' = w := by
  go_enter Try.func11, Try.ntmps11
  go_wp2_with fail
  go_ret
  exact ⟨by first | rfl | simp, rfl⟩
theorem fits_calls (v : Value) (l : List (List Int)) (w : World) (h : Chs w v l) (hs : fits l < 1152921504606846976) :
    Calls Try.prog 27 #[v] w fun e w' => e = .returned (.int .i64 (fits l : Nat)) ∧ w' = w := by
  obtain ⟨a, c, rfl, h1, h2, h3⟩ := h
  have H3 := Lib.hid h3
  have hl := fits_ge l
  clear h3 h2
  go_enter Try.func27, Try.ntmps27
  go_wp2_with fail
  go_loopw [3, 4] (fun s i wr => ∃ k : Nat, k ≤ l.length ∧ i = .int .i64 (k : Nat) ∧ s = .int .i64 (fits (l.take k) : Nat) ∧ wr = w) (fun _ i _ => l.length - (intOf i).toNat)
  case atStart => exact ⟨0, Nat.zero_le _, rfl, rfl, rfl⟩
  case round =>
    obtain ⟨k, hk, rfl, rfl, rfl⟩ := hrel
    by_cases hlt : k < l.length
    · obtain ⟨g, o, rfl, hc⟩ := H3.out.resolve_left (fun e => by rw [e] at hlt; simp at hlt)
      obtain ⟨s, hcell, a', c', rfl, _⟩ := hc k l[k] (List.getElem?_eq_getElem hlt)
      have Hst := Lib.hid (fits_take_succ hlt)
      have hb1 := fits_take_succ hlt
      have hb2 := fits_take_le l (k + 1)
      clear hc
      generalize l[k].length = m at *
      generalize fits (l.take k) = x at *
      have hx : x + 2 + m < 1152921504606846976 := by omega
      clear hb1 hb2
      go_wp2_with fail
      go_roundw
      case rel => exact ⟨k + 1, by omega, by simp, by rw [Hst.out]; first | rfl | (simp; omega) | simp, trivial⟩
      case measure => simp [intOf]; omega
    · have ek : k = l.length := by omega
      go_wp2_with fail
      go_ret
      refine ⟨?_, rfl⟩
      show Ending.returned (.int .i64 (fits (l.take k) : Nat)) = _
      rw [ek, List.take_length]
/-- How many bytes, as the law counts them. -/
def sizes : List (List Int) → Nat
  | [] => 0
  | c :: l => c.length + 1 + sizes l
theorem sizes_append : ∀ l k, sizes (l ++ k) = sizes l + sizes k
  | [], k => by simp [sizes]
  | c :: l, k => by simp [sizes, sizes_append l k]; omega
theorem sizes_take_succ {l : List (List Int)} {k : Nat} (h : k < l.length) : sizes (l.take (k + 1)) = sizes (l.take k) + (l[k].length + 1) := by
  rw [take_snoc' h, sizes_append]; simp [sizes]
theorem sizes_take_le (l : List (List Int)) (k : Nat) : sizes (l.take k) ≤ sizes l := by
  conv => rhs; rw [← List.take_append_drop k l, sizes_append]
  omega
def big (l : List (List Int)) : Nat := if 500 ≤ l.length then 8001 else sizes l
theorem bytes_calls (v : Value) (l : List (List Int)) (w : World) (h : Chs w v l) (hs : sizes l < 1152921504606846976) :
    Calls Try.prog 4 #[v] w fun e w' => e = .returned (.int .i64 (big l : Nat)) ∧ w' = w := by
  obtain ⟨a, c, rfl, h1, h2, h3⟩ := h
  have H3 := Lib.hid h3
  have hll : l.length < 9223372036854775808 := by unfold maxLen at h2; omega
  clear h3 h2
  go_enter Try.func4, Try.ntmps4
  go_wp2_with fail
  go_loopw [3, 4] (fun s i wr => ∃ k : Nat, k ≤ l.length ∧ k ≤ 500 ∧ i = .int .i64 (k : Nat) ∧ s = .int .i64 (sizes (l.take k) : Nat) ∧ wr = w) (fun _ i _ => l.length - (intOf i).toNat)
  case atStart => exact ⟨0, Nat.zero_le _, by omega, rfl, rfl, rfl⟩
  case round =>
    obtain ⟨k, hk, h5, rfl, rfl, rfl⟩ := hrel
    by_cases hlt : k < l.length
    · by_cases h500 : k < 500
      · obtain ⟨g, o, rfl, hc⟩ := H3.out.resolve_left (fun e => by rw [e] at hlt; simp at hlt)
        obtain ⟨s, hcell, a', c', rfl, _⟩ := hc k l[k] (List.getElem?_eq_getElem hlt)
        have Hst := Lib.hid (sizes_take_succ hlt)
        have hb1 := sizes_take_succ hlt
        have hb2 := sizes_take_le l (k + 1)
        clear hc
        generalize l[k].length = m at *
        generalize sizes (l.take k) = x at *
        have hx : x + m + 1 < 1152921504606846976 := by omega
        clear hb1 hb2
        go_wp2_with fail
        go_roundw
        case rel => exact ⟨k + 1, by omega, by omega, by simp, by rw [Hst.out]; first | rfl | (simp; omega) | simp, trivial⟩
        case measure => simp [intOf]; omega
      · have e5 : 500 ≤ l.length := by omega
        go_wp2_with fail
        go_ret
        exact ⟨by simp [big, e5], rfl⟩
    · have ek : k = l.length := by omega
      by_cases e5 : 500 ≤ l.length
      · go_wp2_with fail
        go_ret
        exact ⟨by simp [big, e5], rfl⟩
      · go_wp2_with fail
        go_ret
        refine ⟨?_, rfl⟩
        show Ending.returned (.int .i64 (sizes (l.take k) : Nat)) = _
        rw [ek, List.take_length, big, if_neg e5]
end Go.Proofs.Ytlpkejklejaejaa
