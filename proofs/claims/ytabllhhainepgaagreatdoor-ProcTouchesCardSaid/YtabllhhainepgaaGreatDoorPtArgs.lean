/-
  ProcTouches: the arguments, opened.
-/
import Derived.Test.YtabllhhainepgaaGreatDoorPtE
import Derived.Deep.Slices
import Derived.Deep.Fields
import Derived.ChangeSame
import Derived.ChangeSlices
set_option maxRecDepth 100000
set_option linter.unusedVariables false
set_option linter.unusedSimpArgs false
set_option linter.constructorNameAsVariable false
namespace Go.Proofs.YtabllhhainepgaaGreatDoor
open Go.RowKit Go.ChangeShapes Go.WideShapes Go.Deep Abk

instance : Inhabited (List Int) := ⟨[]⟩
/-- Bytes that came in. -/
theorem byt_of {H : Type} {enc : TypeId × Value → H} {W : World} {sp : Nat → Bool} {n : Nat} {v : Value} {y : DataW H × List MemPlace} (h : DataW.trod enc Tryz.prog W 0 sp true n 23 [v] = some y) :
    ∃ l : List Int, Bytes l ∧ Byt W v l := by
  rcases open_ints Tryz.undB Tryz.und5 (by kernel_rfl) h with ⟨hv, rfl⟩ | ⟨a, len, cap, zs, hv, _, hl, hm, hz, rfl, hc, hw⟩
  · obtain rfl : v = .slice none 0 0 := by simpa using hv
    exact ⟨[], (fun u hu => by cases hu), ⟨none, 0, rfl, Nat.le_refl _, Nat.zero_le _, .inl rfl⟩⟩
  · obtain rfl : v = .slice (some a) len cap := by simpa using hv
    have hlz : len ≤ zs.length := by rw [hz]; split <;> omega
    have hlen : (zs.take len).length = len := by simp; omega
    refine ⟨zs.take len, fun u hu => ?_, ?_⟩
    · have := hw u (List.mem_of_mem_take hu)
      have hr : 0 ≤ u ∧ u ≤ 255 := by simpa [Lit.wf, IntKind.min, IntKind.max, IntKind.signed, IntKind.bits] using this
      omega
    · refine ⟨some a, cap, by rw [hlen], by rw [hlen]; exact hl, hm, ?_⟩
      by_cases h0 : len = 0
      · exact .inl (by rw [h0]; rfl)
      · have hc0 := hc 0 (by omega)
        obtain ⟨b, off, spot⟩ := a
        have hspot : spot = none := by simpa [Addr.add] using World.cell?_spot hc0
        subst hspot
        refine .inr ⟨b, off, rfl, fun i u hi => ?_⟩
        rw [List.getElem?_take] at hi
        split at hi
        · rename_i hil
          have hci := hc i (by omega)
          have hadd : (⟨b, off, none⟩ : Addr).add i = ⟨b, off + i, none⟩ := by unfold Addr.add; split <;> simp_all
          rw [hadd] at hci
          rw [hci, List.getD_eq_getElem?_getD, hi]
          rfl
        · cases hi
theorem u32_of {u : Int} (h : (Lit.int .u32 u).wf = true) : 0 ≤ u ∧ u < 4294967296 := by
  have hr : 0 ≤ u ∧ u ≤ 4294967295 := by simpa [Lit.wf, IntKind.min, IntKind.max, IntKind.signed, IntKind.bits] using h
  omega
/-- The call's arguments that came in. -/
theorem args_of {H : Type} {enc : TypeId × Value → H} {W : World} {sp : Nat → Bool} {n : Nat} {cs : Array Value} {y : DataW H × List MemPlace} (hs : cs.size = 24) (ho : ∀ u ∈ cs.toList, u.oneCell' = true)
    (h : DataW.trod enc Tryz.prog W 0 sp true n 28 (Value.agg cs).cells.toList = some y) :
    ∃ (p : Nat) (v1 v2 : Value) (b1 b2 : List Int), p < 4294967296 ∧ ArgsR cs p v1 v2 ∧ Bytes b1 ∧ Bytes b2 ∧ Byt W v1 b1 ∧ Byt W v2 b2 := by
  have ht : Tryz.prog.underlying 28 = some (.struct (Tryz.prog.fieldsOf 28)) := by kernel_rfl
  obtain ⟨xs, n', rfl, _, hlen, hxl, hf⟩ := DataW.trod_struct ht h
  have fld : ∀ (i : Nat) (t : TypeId) (off : Nat), (Tryz.prog.fieldsOf 28)[i]?.map (fun f : Field => (f.type, f.offset)) = some (t, off) → Tryz.prog.cellsOf t = 1 → off < 24 →
      ∃ c y, cs[off]? = some c ∧ DataW.trod enc Tryz.prog W 0 sp true n' t [c] = some y := by
    intro i t off h1 h2 h3
    obtain ⟨f, hf1, hf2⟩ := Option.map_eq_some_iff.1 h1
    obtain ⟨rfl, rfl⟩ : f.type = t ∧ f.offset = off := by simpa using hf2
    have hi : i < (Tryz.prog.fieldsOf 28).size := by
      rcases Nat.lt_or_ge i (Tryz.prog.fieldsOf 28).size with hl | hl
      · exact hl
      · rw [Array.getElem?_eq_none hl] at hf1; cases hf1
    have hx : xs[i]? = some (xs[i]'(by omega)) := List.getElem?_eq_getElem _
    have hg := hf i f hf1
    rw [hx, h2] at hg
    have hc : (Value.agg cs).cells.toList = cs.toList := rfl
    have hsl : cs.toList.length = 24 := by simpa using hs
    have hd : (cs.toList.drop f.offset).take 1 = [cs.toList[f.offset]'(by omega)] := by
      rw [List.drop_eq_getElem_cons (by omega)]
      rfl
    rw [hc, hd] at hg
    exact ⟨_, _, by rw [← Array.getElem?_toList]; exact List.getElem?_eq_getElem _, hg⟩
  obtain ⟨c0, y0, e0, t0⟩ := fld 0 22 0 (by kernel_rfl) (by kernel_rfl) (by decide)
  obtain ⟨c1, y1, e1, t1⟩ := fld 1 23 1 (by kernel_rfl) (by kernel_rfl) (by decide)
  obtain ⟨c3, y3, e3, t3⟩ := fld 3 23 3 (by kernel_rfl) (by kernel_rfl) (by decide)
  obtain ⟨u, hu, rfl, hwf⟩ := DataW.trod_int Tryz.underlying22 t0
  obtain rfl : c0 = .int .u32 u := by simpa using hu
  have hr := u32_of hwf
  obtain ⟨b1, B1, Y1⟩ := byt_of t1
  obtain ⟨b2, B2, Y2⟩ := byt_of t3
  exact ⟨u.toNat, c1, c3, b1, b2, by omega, ⟨by rw [e0, show ((u.toNat : Nat) : Int) = u by omega], e1, e3, hs, by
    rw [Array.all_eq_true']
    intro x hx
    exact ho x (by simpa using hx)⟩, B1, B2, Y1, Y2⟩
end Go.Proofs.YtabllhhainepgaaGreatDoor
