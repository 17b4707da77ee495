/-
  ArenaBlocks: the arguments, opened.
-/
import Derived.Test.YtlpkejklejaejaaRows
import Derived.Test.YtlpkejklejaejaaAbkI
import Derived.Deep.Slices
import Derived.Deep.Fields
import Derived.ChangeSame
import Derived.ChangeSlices
set_option maxRecDepth 100000
set_option linter.unusedVariables false
set_option linter.unusedSimpArgs false
set_option linter.constructorNameAsVariable false
namespace Go.Proofs.Ytlpkejklejaejaa
open Go.RowKit Go.ChangeShapes Go.WideShapes Go.Deep Abk

theorem bulk_one {H : Type} (d : DataW H) : 1 ≤ Rows.uptoBulk d := by
  cases d with
  | lit l => cases l <;> simp [Rows.uptoBulk]
  | nil => simp [Rows.uptoBulk]
  | ptr d => simp [Rows.uptoBulk]
  | slice elems spare => simp [Rows.uptoBulk]
  | agg parts => simp [Rows.uptoBulk]
  | iface t d => simp [Rows.uptoBulk]
  | map entries => simp [Rows.uptoBulk]
  | held h => simp [Rows.uptoBulk]
theorem bulk_length {H : Type} (l : List (DataW H)) : l.length ≤ Rows.uptoBulkAll l := by
  induction l with
  | nil => simp [Rows.uptoBulkAll]
  | cons x r ih => have := bulk_one x; simp only [Rows.uptoBulkAll, List.length_cons]; omega
theorem bulk_bound {H : Type} {l : List (DataW H)} (hk : Rows.uptoSmall H l = true) : Rows.uptoBulkAll l ≤ 1048576 := of_decide_eq_true hk
instance : Inhabited (List Int) := ⟨[]⟩
/-- Bytes that came in. -/
theorem byt_of {H : Type} {enc : TypeId × Value → H} {W : World} {sp : Nat → Bool} {n : Nat} {v : Value} {y : DataW H × List MemPlace} (h : DataW.trod enc Try.prog W 0 sp true n 26 [v] = some y) :
    ∃ l : List Int, Bytes l ∧ Byt W v l ∧ l.length + 1 ≤ Rows.uptoBulk y.1 := by
  rcases open_ints Try.undB Try.und5 (by kernel_rfl) h with ⟨hv, rfl⟩ | ⟨a, len, cap, zs, hv, _, hl, hm, hz, rfl, hc, hw⟩
  · obtain rfl : v = .slice none 0 0 := by simpa using hv
    exact ⟨[], (fun u hu => by cases hu), Byt.nil W, by simp [Rows.uptoBulk]⟩
  · obtain rfl : v = .slice (some a) len cap := by simpa using hv
    have hlz : len ≤ zs.length := by rw [hz]; split <;> omega
    have hlen : (zs.take len).length = len := by simp; omega
    have hbulk : (zs.take len).length + 1 ≤ Rows.uptoBulk (DataW.slice (lits (H := H) .u8 (zs.take len)) (lits .u8 (zs.drop len))) := by
      have h1 := bulk_length (lits (H := H) .u8 (zs.take len))
      have h2 : (lits (H := H) .u8 (zs.take len)).length = len := by simp [lits]; omega
      simp only [Rows.uptoBulk]
      omega
    refine ⟨zs.take len, fun u hu => ?_, ?_, hbulk⟩
    · have := hw u (List.mem_of_mem_take hu)
      have hr : 0 ≤ u ∧ u ≤ 255 := by simpa [Lit.wf, IntKind.min, IntKind.max, IntKind.signed, IntKind.bits] using this
      omega
    · refine ⟨some a, cap, by rw [hlen], by rw [hlen]; exact hl, hm, ?_⟩
      by_cases h0 : len = 0
      · exact .inl (by rw [h0]; rfl)
      · have hc0 := hc 0 (by omega)
        obtain ⟨b, off, spot⟩ := a
        have hspot : spot = none := by simpa [Addr.add] using World.cell?_spot hc0
        subst hspot
        refine .inr ⟨b, off, rfl, fun i u hi => ?_⟩
        rw [List.getElem?_take] at hi
        split at hi
        · rename_i hil
          have hci := hc i (by omega)
          have hadd : (⟨b, off, none⟩ : Addr).add i = ⟨b, off + i, none⟩ := by unfold Addr.add; split <;> simp_all
          rw [hadd] at hci
          rw [hci, List.getD_eq_getElem?_getD, hi]
          rfl
        · cases hi
theorem sizes_bulk {H : Type} (f : Nat → List Int) (D : Nat → DataW H) : ∀ l : List Nat, (∀ i ∈ l, (f i).length + 1 ≤ Rows.uptoBulk (D i)) → sizes (l.map f) ≤ Rows.uptoBulkAll (l.map D)
  | [], _ => by simp [sizes, Rows.uptoBulkAll]
  | i :: l, h => by
    have h1 := h i (by simp)
    have h2 := sizes_bulk f D l (fun j hj => h j (by simp [hj]))
    simp only [List.map_cons, sizes, Rows.uptoBulkAll]
    omega
/-- Chunks that came in. -/
theorem chs_of {H : Type} {enc : TypeId × Value → H} {W : World} {sp : Nat → Bool} {n : Nat} {v : Value} {y : DataW H × List MemPlace} (h : DataW.trod enc Try.prog W 0 sp true n 23 [v] = some y) :
    ∃ l : List (List Int), AllB l ∧ Chs W v l ∧ sizes l ≤ Rows.uptoBulk y.1 := by
  rcases open_slice1 undBB (by kernel_rfl) h with ⟨hv, rfl⟩ | ⟨a, len, cap, m, n', V, D, Pl, hv, _, hl, hm, hmm, rfl, hx⟩
  · obtain rfl : v = .slice none 0 0 := by simpa using hv
    exact ⟨[], (fun u hu => by cases hu), Chs.nil W, by simp [sizes]⟩
  · obtain rfl : v = .slice (some a) len cap := by simpa using hv
    have hlm : len ≤ m := by rw [hmm]; split <;> omega
    have hex : ∀ i, i < len → ∃ c : List Int, W.cell? (a.add i) = some (V i) ∧ Bytes c ∧ Byt W (V i) c ∧ c.length + 1 ≤ Rows.uptoBulk (D i) := fun i hi => by
      obtain ⟨h1, h2⟩ := hx i (by omega)
      obtain ⟨c, k1, k2, k3⟩ := byt_of h2
      exact ⟨c, h1, k1, k2, k3⟩
    obtain ⟨f, hf⟩ := choose_lt hex
    refine ⟨(List.range len).map f, fun c hc => ?_, ⟨some a, cap, by simp, by simpa using hl, hm, ?_⟩, ?_⟩
    · obtain ⟨i, hi, rfl⟩ := List.mem_map.1 hc
      exact (hf i (by simpa using hi)).2.1
    · by_cases h0 : len = 0
      · exact .inl (by rw [h0]; rfl)
      · have hc0 := (hf 0 (by omega)).1
        obtain ⟨b, off, spot⟩ := a
        have hspot : spot = none := by simpa [Addr.add] using World.cell?_spot hc0
        subst hspot
        refine .inr ⟨b, off, rfl, fun i c hi => ?_⟩
        have hil : i < len := by have := (List.getElem?_eq_some_iff.1 hi).1; simpa using this
        have e : f i = c := by simpa [hil] using hi
        obtain ⟨k1, _, k3, _⟩ := hf i hil
        have hadd : (⟨b, off, none⟩ : Addr).add i = ⟨b, off + i, none⟩ := by unfold Addr.add; split <;> simp_all
        rw [hadd] at k1
        rw [e] at k3
        exact ⟨V i, k1, k3⟩
    · have h1 := sizes_bulk f D (List.range len) (fun i hi => (hf i (by simpa using hi)).2.2.2)
      simp only [Rows.uptoBulk]
      omega
/-- The arena that came in. -/
theorem arena_of {H : Type} {enc : TypeId × Value → H} {W : World} {sp : Nat → Bool} {n : Nat} {v : Value} {y : DataW H × List MemPlace} (hv : ∃ cs : Array Value, v = .agg cs) (h : DataW.trod enc Try.prog W 0 sp true n 25 v.cells.toList = some y) :
    ∃ (st : Nat) (cx : Value) (l : List (List Int)), st < 18446744073709551616 ∧ v = .agg #[.int .u64 (st : Nat), cx] ∧ AllB l ∧ Chs W cx l ∧ sizes l ≤ Rows.uptoBulk y.1 := by
  obtain ⟨cs, rfl⟩ := hv
  obtain ⟨y0, y1, n', rfl, hlen, h0, h1⟩ := trod_struct2 Try.underlying25 h
  have hsz : Try.prog.cellsOf 25 = 2 := by kernel_rfl
  rw [hsz] at hlen
  obtain ⟨cs⟩ := cs
  have hc0 : (Value.agg ⟨cs⟩).cells.toList = cs := rfl
  rw [hc0] at hlen h0 h1
  obtain ⟨c0, c1, rfl⟩ : ∃ c0 c1, cs = [c0, c1] := by
    match cs, hlen with
    | [c0, c1], _ => exact ⟨c0, c1, rfl⟩
  have k0 : Try.prog.cellsOf 22 = 1 := by kernel_rfl
  have k1 : Try.prog.cellsOf 23 = 1 := by kernel_rfl
  have h0' : DataW.trod enc Try.prog W 0 sp true n' 22 [c0] = some y0 := by
    have := h0
    simp only at this
    rw [k0] at this
    exact this
  have h1' : DataW.trod enc Try.prog W 0 sp true n' 23 [c1] = some y1 := by
    have := h1
    simp only at this
    rw [k1] at this
    exact this
  obtain ⟨st, hst, rfl, hwf⟩ := DataW.trod_int Try.underlying22 h0'
  obtain rfl : c0 = .int .u64 st := by simpa using hst
  have hr : 0 ≤ st ∧ st ≤ 18446744073709551615 := by simpa [Lit.wf, IntKind.min, IntKind.max, IntKind.signed, IntKind.bits] using hwf
  obtain ⟨l, a1, a2, a3⟩ := chs_of h1'
  refine ⟨st.toNat, c1, l, by omega, ?_, a1, a2, ?_⟩
  · rw [show ((st.toNat : Nat) : Int) = st by omega]
  · simp only [Rows.uptoBulk, Rows.uptoBulkAll]
    omega
end Go.Proofs.Ytlpkejklejaejaa
