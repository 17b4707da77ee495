/-
  The abstract machine: slices cut and indexed; fields; conversions; lengths.
-/
import Derived.Test.YtmapmbfohilklaaGreatAbI
namespace Go.Proofs.YtmapmbfohilklaaGreat.Ab
open Go.RowKit

section
variable {P : Program} {w0 w : World} {G : Nat} {μ : Mu} {H : AH} {r : Result Next}
theorem natOf_inv {v : AV} {n : Nat} (h : natOf v = some n) : ∃ k, v = .int k (.ofNat n) := by
  unfold natOf at h
  split at h
  · rename_i k m; simp only [Option.some.injEq] at h; subst h; exact ⟨k, rfl⟩
  · cases h
theorem add_off (b o n : Nat) : (⟨b, o, none⟩ : Addr).add n = ⟨b, o + n, none⟩ := Addr.add_mid b o n

/-! ### bounds -/
theorem run_sliceBound {k : IntKind} {n y : Nat} {c : BoundsCode} (h : n ≤ y) : (Instr.sliceBound (.int k (n : Int)) y c).run P w = .ok n w := by
  have : (0 : Int) ≤ (n : Int) ∧ (n : Int) ≤ y := by omega
  simp only [Instr.sliceBound, asIntOf, Sem.run_bind, Sem.run_pure, Result.andThen_ok, Sem.run_ite, if_pos this, Int.toNat_natCast]
/-- The bounds of a cut: 'cap' is what the model bounds by. -/
theorem run_bounds {isS : Bool} {len cap cap' : Nat} {lo hi : Option AV} {lv hv : Option Value} {l h' : Nat}
    (hl : ∀ v, lo = some v → ∃ u, lv = some u ∧ VR μ v u) (hl0 : lo = none → lv = none) (hh : ∀ v, hi = some v → ∃ u, hv = some u ∧ VR μ v u) (hh0 : hi = none → hv = none)
    (hb : boundsA len cap lo hi = some (l, h')) (hcc : cap ≤ cap') : (Instr.sliceBounds isS len cap' lv hv none).run P w = .ok (l, h', cap') w ∧ l ≤ h' ∧ h' ≤ cap := by
  unfold boundsA at hb
  split at hb
  · rename_i h1 l1 e1 e2
    by_cases hc : (Nat.ble h1 cap && Nat.ble l1 h1) = true
    · rw [hc] at hb
      simp only [cond_true, Option.some.injEq, Prod.mk.injEq] at hb
      obtain ⟨rfl, rfl⟩ := hb
      rw [Bool.and_eq_true, Nat.ble_eq, Nat.ble_eq] at hc
      obtain ⟨c1, c2⟩ := hc
      refine ⟨?_, c2, c1⟩
      cases hi with
      | none =>
        rw [hh0 rfl]
        simp only [Option.some.injEq] at e1
        subst e1
        cases lo with
        | none =>
          rw [hl0 rfl]
          simp only [Option.some.injEq] at e2
          subst e2
          simp [Instr.sliceBounds]
        | some v =>
          obtain ⟨u, hu, hvr⟩ := hl v rfl
          rw [hu]
          obtain ⟨k, rfl⟩ := natOf_inv e2
          rw [hvr.int_inv]
          simp [Instr.sliceBounds, run_sliceBound c2]
      | some v =>
        obtain ⟨u, hu, hvr⟩ := hh v rfl
        rw [hu]
        obtain ⟨k, rfl⟩ := natOf_inv e1
        rw [hvr.int_inv]
        have hhc : h1 ≤ cap' := by omega
        cases lo with
        | none =>
          rw [hl0 rfl]
          simp only [Option.some.injEq] at e2
          subst e2
          simp [Instr.sliceBounds, run_sliceBound hhc]
        | some v' =>
          obtain ⟨u', hu', hvr'⟩ := hl v' rfl
          rw [hu']
          obtain ⟨k', rfl⟩ := natOf_inv e2
          rw [hvr'.int_inv]
          simp [Instr.sliceBounds, run_sliceBound hhc, run_sliceBound c2]
    · rw [Bool.not_eq_true] at hc; rw [hc] at hb; cases hb
  · cases hb
theorem byteAt_ext_str {s t : ByteArray} {n N : Nat} (h : StrR n N s) (i : Nat) (hi : i < n) : ∃ b : UInt8, s.data[i]? = some b ∧ b.toNat = byteAt N i := by
  obtain ⟨h1, h2⟩ := h
  have hi' : i < s.data.size := by omega
  refine ⟨s.data[i], by simp [hi'], ?_⟩
  have := byteAt_pack s.data.toList i (by simpa using hi')
  rw [h2] at this
  simpa using this.symm
theorem StrR.byte {s : ByteArray} {n N : Nat} (h : StrR n N s) (i : Nat) (hi : i < n) : ∃ b : UInt8, s.data[i]? = some b ∧ b.toNat = byteAt N i := byteAt_ext_str (t := s) h i hi
theorem StrR.lt {s : ByteArray} {n N : Nat} (h : StrR n N s) : N < 256 ^ n := by
  have := pack_lt s.data.toList
  rw [h.2] at this
  simpa [h.1] using this
theorem StrR.mk' {s : ByteArray} {n N : Nat} (hs : s.data.size = n) (hN : N < 256 ^ n) (h : ∀ i, i < n → ∃ b : UInt8, s.data[i]? = some b ∧ b.toNat = byteAt N i) : StrR n N s := by
  refine ⟨hs, bytes_ext n _ _ ?_ hN fun i hi => ?_⟩
  · have := pack_lt s.data.toList
    simpa [hs] using this
  · rw [byteAt_pack s.data.toList i (by simpa [hs] using hi)]
    obtain ⟨b, hb, hbn⟩ := h i hi
    have : s.data.toList[i]'(by simpa [hs] using hi) = b := by
      have := (Array.getElem?_eq_some_iff.1 hb).2
      simpa using this
    rw [this, hbn]
theorem StrR.cut {s : ByteArray} {n N l h' : Nat} (h : StrR n N s) (hl : l ≤ h') (hh : h' ≤ n) : StrR (h' - l) (cutB N l (h' - l)) (s.extract l h') := by
  have hsz : (s.extract l h').data.size = h' - l := by
    have : (s.extract l h').size = min h' s.size - l := ByteArray.size_extract
    have e : s.size = s.data.size := rfl
    have e' : (s.extract l h').size = (s.extract l h').data.size := rfl
    rw [← e', this, e, h.1]; omega
  refine StrR.mk' hsz (cutB_lt _ _ _) fun i hi => ?_
  obtain ⟨b, hb, hbn⟩ := h.byte (l + i) (by omega)
  refine ⟨b, ?_, by rw [byteAt_cutB hi]; exact hbn⟩
  have : (s.extract l h').data = s.data.extract l h' := ByteArray.data_extract
  rw [this, Array.getElem?_extract, if_pos (by have := h.1; omega)]
  exact hb
/-- An optional operand. -/
def OVR (μ : Mu) (a : Option AV) (v : Option Value) : Prop := match a, v with | none, none => True | some a, some v => VR μ a v | _, _ => False
theorem OVR.some' {a : Option AV} {v : Option Value} (h : OVR μ a v) : ∀ x, a = some x → ∃ u, v = some u ∧ VR μ x u := fun x hx => by
  subst hx
  cases v with
  | none => exact h.elim
  | some u => exact ⟨u, rfl, h⟩
theorem OVR.none' {a : Option AV} {v : Option Value} (h : OVR μ a v) : a = none → v = none := fun hx => by
  subst hx
  cases v with
  | none => rfl
  | some u => exact h.elim
theorem slice_sound (h : HR w0 G μ H w) {t : TypeId} {x : AV} {lo hi mx : Option AV} {xv : Value} {lv hv mv : Option Value} (hx : VR μ x xv) (hlo : OVR μ lo lv) (hhi : OVR μ hi hv) (hmx : OVR μ mx mv)
    (hr : ∀ v, (Instr.sliceAt t xv lv hv mv).run P w = .ok v w → r = .ok (.value v) w) : XR P w0 G μ H.size (sliceA P t x lo hi mx H) r := by
  unfold sliceA
  split
  · rename_i m
    split
    · rename_i e b off len cap g m' hiv hu hm
      obtain ⟨L, hL, rfl⟩ := hx.slice_inv
      obtain ⟨mu, hmu, hmr⟩ := hmx.some' _ rfl
      obtain ⟨km, rfl⟩ := natOf_inv hm
      have hmr := hmr.int_inv
      subst hmr hmu
      refine XR.cond (fun hle => ?_) (fun _ => trivial)
      rw [Nat.ble_eq] at hle
      split
      · rename_i l h' s hb hs
        obtain ⟨hu', hhu, hhr⟩ := hhi.some' _ rfl
        unfold boundsA at hb
        split at hb
        · rename_i h1 l1 e1 e2
          by_cases hc : (Nat.ble h1 m' && Nat.ble l1 h1) = true
          · rw [hc] at hb
            simp only [cond_true, Option.some.injEq, Prod.mk.injEq] at hb
            obtain ⟨rfl, rfl⟩ := hb
            rw [Bool.and_eq_true, Nat.ble_eq, Nat.ble_eq] at hc
            obtain ⟨c1, c2⟩ := hc
            obtain ⟨kh, rfl⟩ := natOf_inv e1
            have hhr := hhr.int_inv
            subst hhr hhu
            have hrun : (Instr.sliceBounds true len (cap + if g then L.slack else 0) lv (some (.int kh (Int.ofNat h1))) (some (.int km (Int.ofNat m')))).run P w = .ok (l1, h1, m') w := by
              have b1 : (m' : Int) ≤ ((cap + if g then L.slack else 0 : Nat) : Int) := by have : m' ≤ cap + (if g then L.slack else 0) := Nat.le_trans hle (Nat.le_add_right _ _); omega
              have b2 : (h1 : Int) ≤ (m' : Int) := by omega
              cases lo with
              | none =>
                obtain rfl := hlo.none' rfl
                simp only [Option.some.injEq] at e2
                subst e2
                simp only [Instr.sliceBounds, Instr.sliceBound, asIntOf, Sem.run_bind, Sem.run_pure, Result.andThen_ok, Int.ofNat_eq_natCast]
                rw [if_pos ⟨Int.natCast_nonneg _, b1⟩]
                simp only [Sem.run_pure, Result.andThen_ok, Int.toNat_natCast]
                rw [if_pos ⟨Int.natCast_nonneg _, b2⟩]
                simp
              | some v =>
                obtain ⟨u, hu2, hvr⟩ := hlo.some' _ rfl
                obtain ⟨kl, rfl⟩ := natOf_inv e2
                have hvr := hvr.int_inv
                subst hvr hu2
                have b3 : (l1 : Int) ≤ (h1 : Int) := by omega
                simp only [Instr.sliceBounds, Instr.sliceBound, asIntOf, Sem.run_bind, Sem.run_pure, Result.andThen_ok, Int.ofNat_eq_natCast]
                rw [if_pos ⟨Int.natCast_nonneg _, b1⟩]
                simp only [Sem.run_pure, Result.andThen_ok, Int.toNat_natCast]
                rw [if_pos ⟨Int.natCast_nonneg _, b2⟩]
                simp only [Sem.run_pure, Result.andThen_ok, Int.toNat_natCast]
                rw [if_pos ⟨Int.natCast_nonneg _, b3⟩]
                simp
            rw [rSlice_eq]
            refine XR.value h (.slice b _ _ _ false L hL) (hr _ ?_)
            simp only [Instr.sliceAt, Instr.slice, Sem.run_bind, run_underlying hu, Result.andThen_ok, Sem.run_pure, hrun, run_sizeOf hs, Option.map_some, add_off]
            by_cases e1 : m' = l1
            · simp [e1]
            · simp [e1, beq_ff e1, Nat.add_assoc]
          · rw [Bool.not_eq_true] at hc; rw [hc] at hb; cases hb
        · cases hb
      · trivial
    · trivial
  · obtain rfl := hmx.none' rfl
    split
    · rename_i n e b off hu
      obtain ⟨L, hL, rfl⟩ := hx.ptr_inv
      split
      · rename_i l h' s hb hs
        obtain ⟨hrun, h1, h2⟩ := run_bounds (P := P) (w := w) (isS := false) hlo.some' hlo.none' hhi.some' hhi.none' hb (Nat.le_refl n)
        rw [rSlice_eq]
        refine XR.value h (.slice b _ _ _ _ L hL) (hr _ ?_)
        simp only [Instr.sliceAt, Sem.run_bind, run_underlying hu, Result.andThen_ok, Instr.sureAddr, Sem.run_pure, hrun, run_sizeOf hs, add_off]
        by_cases e1 : n = l
        · simp [e1]
        · simp [e1, beq_ff e1, Nat.add_assoc]
      · trivial
    · rename_i arr b off hu
      obtain ⟨L, hL, rfl⟩ := hx.ptr_inv
      split
      · rename_i n e hua
        split
        · rename_i l h' s hb hs
          obtain ⟨hrun, h1, h2⟩ := run_bounds (P := P) (w := w) (isS := false) hlo.some' hlo.none' hhi.some' hhi.none' hb (Nat.le_refl n)
          rw [rSlice_eq]
          refine XR.value h (.slice b _ _ _ _ L hL) (hr _ ?_)
          simp only [Instr.sliceAt, Instr.slice, Sem.run_bind, run_underlying hu, run_underlying hua, Result.andThen_ok, asAddr, Sem.run_pure, hrun, run_sizeOf hs, add_off]
          by_cases e1 : n = l
          · simp [e1]
          · simp [e1, beq_ff e1, Nat.add_assoc]
        · trivial
      · trivial
    · rename_i n N hu
      obtain ⟨s, rfl, hs1, hs2⟩ := hx.str_inv
      split
      · rename_i l h' hb
        have hsz : s.size = n := hs1
        obtain ⟨hrun, h1, h2⟩ := run_bounds (P := P) (w := w) (isS := false) hlo.some' hlo.none' hhi.some' hhi.none' hb (Nat.le_refl n)
        refine XR.rStr h (StrR.cut ⟨hs1, hs2⟩ h1 h2) (hr _ ?_)
        simp [Instr.sliceAt, Instr.slice, run_underlying hu, hsz, hrun]
      · trivial
    · rename_i e hu
      cases hx
      split
      · rename_i p s hb hs
        obtain ⟨l, h'⟩ := p
        obtain ⟨hrun, h1, h2⟩ := run_bounds (P := P) (w := w) (isS := true) hlo.some' hlo.none' hhi.some' hhi.none' hb (Nat.le_refl 0)
        obtain rfl : h' = 0 := by omega
        obtain rfl : l = 0 := by omega
        refine XR.value h .nils (hr _ ?_)
        simp only [Instr.sliceAt, Instr.slice, Sem.run_bind, run_underlying hu, Result.andThen_ok, Sem.run_pure, hrun, run_sizeOf hs, if_true]
      · trivial
    · rename_i e b off hu
      cases hx with
      | sliceE b off a c L hL hac =>
      split
      · rename_i p s hb hs
        obtain ⟨l, h'⟩ := p
        obtain ⟨hrun, h1, h2⟩ := run_bounds (P := P) (w := w) (isS := true) hlo.some' hlo.none' hhi.some' hhi.none' hb (Nat.zero_le c)
        obtain rfl : h' = 0 := by omega
        obtain rfl : l = 0 := by omega
        refine XR.value h (.sliceE b off (if c = 0 then a else a.add 0) c L hL (hac.imp id fun hac => ⟨by obtain ⟨rfl, _⟩ := hac; split <;> rfl, hac.2⟩)) (hr _ ?_)
        simp only [Instr.sliceAt, Instr.slice, Sem.run_bind, run_underlying hu, Result.andThen_ok, Sem.run_pure, hrun, run_sizeOf hs, Nat.zero_mul, Nat.sub_zero, Option.map_some]
        by_cases e1 : c = 0 <;> simp [e1]
      · trivial
    · rename_i e b off len cap g hu
      obtain ⟨L, hL, rfl⟩ := hx.slice_inv
      split
      · rename_i l h' s hb hs
        obtain ⟨hrun, h1, h2⟩ := run_bounds (P := P) (w := w) (isS := true) hlo.some' hlo.none' hhi.some' hhi.none' hb (Nat.le_add_right cap (if g then L.slack else 0))
        have hrun' : ∀ v, (.slice (if cap + (if g then L.slack else 0) = l then some ⟨L.blk, L.base + off, none⟩ else some ⟨L.blk, L.base + off + l * s, none⟩) (h' - l) (cap + (if g then L.slack else 0) - l) : Value) = v →
            (Instr.sliceAt t (.slice (some ⟨L.blk, L.base + off, none⟩) len (cap + if g then L.slack else 0)) lv hv none).run P w = .ok v w := fun v hv => by
          simp only [Instr.sliceAt, Instr.slice, Sem.run_bind, run_underlying hu, Result.andThen_ok, Sem.run_pure, hrun, run_sizeOf hs, Option.map_some, add_off]
          rw [← hv]
        refine XR.cond (fun e1 => ?_) (fun e1 => ?_)
        · rw [Nat.beq_eq] at e1
          subst e1
          obtain rfl : h' = l := by omega
          refine XR.cond (fun eg => ?_) (fun eg => ?_)
          · subst eg
            rw [fNat_eq]
            by_cases e2 : h' + (if true then L.slack else 0) = h'
            · exact XR.value h (.sliceE b _ ⟨L.blk, L.base + off, none⟩ (h' + (if true then L.slack else 0) - h') L hL (.inl (by omega))) (hr _ (hrun' _ (by rw [if_pos e2, Nat.sub_self])))
            · exact XR.value h (.sliceE b _ ⟨L.blk, L.base + off + h' * s, none⟩ (h' + (if true then L.slack else 0) - h') L hL (.inr ⟨by rw [Nat.add_assoc]; rfl, by rw [if_pos rfl]; omega⟩)) (hr _ (hrun' _ (by rw [if_neg e2, Nat.sub_self])))
          · subst eg
            rw [rSlice_eq]
            exact XR.value h (.slice b off _ _ _ L hL) (hr _ (hrun' _ (by simp)))
        · have hne : ¬ l = cap := fun e2 => by rw [e2] at e1; simp at e1
          rw [rSlice_eq]
          refine XR.value h (.slice b _ _ _ _ L hL) (hr _ (hrun' _ ?_))
          rw [if_neg (by omega)]
          have e3 : Nat.sub cap l = cap - l := rfl
          have e4 : Nat.add off (Nat.mul l s) = off + l * s := rfl
          rw [e3, e4, Nat.add_assoc L.base off (l * s), show cap + (if g then L.slack else 0) - l = cap - l + (if g then L.slack else 0) by omega]; rfl
      · trivial
    · trivial

/-! ### indexes and fields -/
theorem indexAddr_sound (h : HR w0 G μ H w) {t : TypeId} {x i : AV} {xv iv : Value} (hx : VR μ x xv) (hi : VR μ i iv)
    (hr : ∀ v, (Instr.indexAt t xv iv).run P w = .ok v w → r = .ok (.value v) w) : XR P w0 G μ H.size (indexAddrA P t x i H) r := by
  refine XR.onInt (fun k i' hi' => XR.onNat (fun i' hin => ?_) trivial) trivial
  subst hi' hin
  have hiv := hi.int_inv
  subst hiv
  refine XR.onSlice (fun b off len cap g hxs => XR.onON (fun s hs => XR.onB (fun hlt => ?_) (fun _ => trivial)) trivial)
    (XR.onPtr (fun b off hxp => XR.onON (fun n hn => XR.onON (fun s hs => XR.onB (fun hlt => ?_) (fun _ => trivial)) trivial) trivial) trivial)
  · subst hxs
    rw [Nat.blt_eq] at hlt
    obtain ⟨L, hL, rfl⟩ := hx.slice_inv
    unfold idxSlice at hs
    split at hs
    · rename_i e hu
      refine XR.rPtr h (u := .pointer (some ⟨L.blk, L.base + off + i' * s, none⟩)) (by have := VR.ptr (μ := μ) b (off + i' * s) L hL; rwa [← Nat.add_assoc] at this) (hr _ ?_)
      have hb : (0 : Int) ≤ (i' : Int) ∧ (i' : Int) < (len : Int) := by omega
      simp only [Instr.indexAt, asIntOf, Sem.run_bind, Sem.run_pure, Result.andThen_ok, run_underlying hu, hb, and_self, if_true, run_sizeOf hs, add_off, Int.toNat_natCast]
    · cases hs
  · subst hxp
    rw [Nat.blt_eq] at hlt
    obtain ⟨L, hL, rfl⟩ := hx.ptr_inv
    unfold idxKind at hn hs
    split at hn
    · rename_i m e hu
      cases hsz : sizeA P e with
      | none => rw [hsz] at hn; cases hn
      | some s' =>
        rw [hu] at hs
        rw [hsz] at hn
        simp only [hsz] at hs
        simp only [Option.map_some, Option.some.injEq] at hn hs
        subst hn hs
        refine XR.rPtr h (u := .pointer (some ⟨L.blk, L.base + off + i' * s', none⟩)) (by have := VR.ptr (μ := μ) b (off + i' * s') L hL; rwa [← Nat.add_assoc] at this) (hr _ ?_)
        have hb : (0 : Int) ≤ (i' : Int) ∧ (i' : Int) < (m : Int) := by omega
        simp only [Instr.indexAt, asIntOf, Sem.run_bind, Sem.run_pure, Result.andThen_ok, run_underlying hu, Instr.sureAddr, hb, and_self, if_true, run_sizeOf hsz, add_off, Int.toNat_natCast]
    · cases hn
theorem fieldAddr_sound (h : HR w0 G μ H w) {t : TypeId} {x : AV} {f : Nat} {xv : Value} (hx : VR μ x xv)
    (hr : ∀ v, (Instr.fieldAt t xv f).run P w = .ok v w → r = .ok (.value v) w) : XR P w0 G μ H.size (fieldAddrA P t x f H) r := by
  refine XR.onPtr (fun b off hxp => XR.onON (fun o ho => ?_) trivial) trivial
  subst hxp
  obtain ⟨L, hL, rfl⟩ := hx.ptr_inv
  unfold fieldOff at ho
  split at ho
  · rename_i fs hu
    split at ho
    · rename_i f' hf
      split at ho
      · rename_i s hs
        simp only [Option.some.injEq] at ho
        subst ho
        refine XR.rPtr h (u := .pointer (some ⟨L.blk, L.base + off + f'.offset, none⟩)) (by have := VR.ptr (μ := μ) b (off + f'.offset) L hL; rwa [← Nat.add_assoc] at this) (hr _ ?_)
        simp only [Instr.fieldAt, Sem.run_bind, run_underlying hu, Result.andThen_ok, hf, Instr.sureAddr, Sem.run_pure, fieldPlace, run_sizeOf hs, Nat.add_one_ne_zero, if_false, add_off]
      · cases ho
    · cases ho
  · cases ho
theorem part_sound {t : TypeId} {cs : List AV} {x : Array Value} {off : Nat} {v : AV} (hc : LR μ cs x.toList) (hp : partA P t cs off = some v) : ∃ u, VR μ v u ∧ (part t x off).run P w = .ok u w := by
  unfold partA at hp
  split at hp
  · rename_i ha
    split at hp
    · rename_i s hs
      simp only [Option.some.injEq] at hp
      subst hp
      refine ⟨.agg (x.extract off (off + s)), .agg _ _ ?_, by simp [part, run_isAgg ha, run_sizeOf hs]⟩
      rw [Array.toList_extract, List.extract_eq_take_drop, show off + s - off = s by omega]
      exact (hc.drop off).take s
    · cases hp
  · rename_i ha
    obtain ⟨u, hu, hvr⟩ := hc.get off v hp
    simp only [Array.getElem?_toList] at hu
    exact ⟨u, hvr, by simp [part, run_isAgg ha, hu]⟩
  · cases hp
theorem field_sound (h : HR w0 G μ H w) {t : TypeId} {x : AV} {f n : Nat} {xv : Value} (hx : VR μ x xv)
    (hr : ∀ v, (Instr.field t xv f).run P w = .ok v w → r = .ok (.value v) w) : XR P w0 G μ H.size (rOpt (fieldA P t x f) n H) r := by
  refine XR.rOpt h fun v hv => ?_
  unfold fieldA at hv
  split at hv
  · rename_i fs cs hu
    obtain ⟨y, rfl, hy⟩ := hx.agg_inv
    split at hv
    · rename_i f' hf
      obtain ⟨u, hu1, hu2⟩ := part_sound (w := w) hy hv
      exact ⟨u, hu1, hr _ (by simp [Instr.field, run_underlying hu, hf, asAgg, hu2])⟩
    · cases hv
  · cases hv
theorem index_sound (h : HR w0 G μ H w) {t : TypeId} {x i : AV} {xv iv : Value} (hx : VR μ x xv) (hi : VR μ i iv)
    (hr : ∀ v, (Instr.index t xv iv).run P w = .ok v w → r = .ok (.value v) w) : XR P w0 G μ H.size (indexA P t x i H) r := by
  unfold indexA
  split
  · rename_i n e cs i' hu hn
    obtain ⟨k, rfl⟩ := natOf_inv hn
    have hiv := hi.int_inv
    subst hiv
    obtain ⟨y, rfl, hy⟩ := hx.agg_inv
    split
    · rename_i s hs
      refine XR.cond (fun hlt => XR.rOpt h fun v hv => ?_) (fun _ => trivial)
      rw [Nat.blt_eq] at hlt
      obtain ⟨u, hu1, hu2⟩ := part_sound (w := w) hy hv
      refine ⟨u, hu1, hr _ ?_⟩
      have hb : (0 : Int) ≤ (i' : Int) ∧ (i' : Int) < (n : Int) := by omega
      have hu2' : (part e y (i' * s)).run P w = .ok u w := hu2
      simp only [Instr.index, asIntOf, Sem.run_bind, Sem.run_pure, Result.andThen_ok, run_underlying hu, Int.ofNat_eq_natCast, hb, and_self, if_true, run_sizeOf hs, Int.toNat_natCast, hu2']
    · trivial
  · rename_i n N i' hu hn
    obtain ⟨k, rfl⟩ := natOf_inv hn
    have hiv := hi.int_inv
    subst hiv
    obtain ⟨s, rfl, hs1, hs2⟩ := hx.str_inv
    refine XR.cond (fun hlt => ?_) (fun _ => trivial)
    rw [Nat.blt_eq] at hlt
    obtain ⟨b, hb, hbn⟩ := StrR.byte ⟨hs1, hs2⟩ i' hlt
    refine XR.rInt h (m := (b.toNat : Int)) (by rw [hbn]; rfl) (hr _ ?_)
    have hb' : s[i']? = some b := by
      have e : s.size = s.data.size := rfl
      rw [← hb]
      simp only [getElem?_def]
      rfl
    have h0 : (0 : Int) ≤ (i' : Int) := by omega
    simp only [Instr.index, asIntOf, Sem.run_bind, Sem.run_pure, Result.andThen_ok, run_underlying hu, Int.ofNat_eq_natCast, h0, if_true, Int.toNat_natCast, hb']
  · trivial
end
end Go.Proofs.YtmapmbfohilklaaGreat.Ab
