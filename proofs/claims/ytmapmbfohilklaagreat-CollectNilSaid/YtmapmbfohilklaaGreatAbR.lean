/-
  The abstract machine: built-in functions.
-/
import Derived.Test.YtmapmbfohilklaaGreatAbQ
namespace Go.Proofs.YtmapmbfohilklaaGreat.Ab
open Go.RowKit

section
variable {P : Program} {w0 w : World} {G : Nat} {μ : Mu} {H : AH} {r : Result Next}
theorem lenOf_sound {x : AV} {xv : Value} (hx : VR μ x xv) {n : Nat} (hn : lenOfA x = some n) (w : World) : (Builtin.lenOf xv).run P w = .ok n w := by
  cases hx <;> simp only [lenOfA, Option.some.injEq, reduceCtorEq] at hn <;> subst hn <;> try rfl
  rename_i s h1 h2
  simp only [Builtin.lenOf, Sem.run_pure, ← h1]; rfl
theorem zero_all {e : TypeId} {z : List AV} (hz : zeroCellsA P e = some z) : ∃ zv, (∀ w', (zeroValue e).run P w' = .ok zv w') ∧ ∀ μ : Mu, LR μ z zv.cells.toList := by
  obtain ⟨_, zv, h1, h2⟩ := zeroCells_spec (w := default) hz
  exact ⟨zv, fun w' => by
    obtain ⟨_, zv', h1', _⟩ := zeroCells_spec (w := w') hz
    have : zv' = zv := by
      simp only [zeroValue, typeInfo, Sem.run_bind, run_program, Result.andThen_ok] at h1 h1'
      cases hi : P.info? e with
      | none => simp [hi] at h1
      | some i => simp only [hi, Sem.run_pure, Result.andThen_ok] at h1 h1'; cases hz : i.zero <;> simp_all
    rw [← this]; exact h1', h2⟩
theorem zeros_seq {z : List AV} {zc : Array Value} (hz : LR μ z zc.toList) (k : Nat) : LR μ (List.replicate k z).flatten (Builtin.zeroCells zc k).toList := by
  have hl := hz.length
  simp only [Array.length_toList] at hl
  refine LR.of_get ?_ fun i a v ha hv => ?_
  · rw [flat_length (s := z.length) _ (fun row h => by rw [(List.mem_replicate.1 h).2])]
    simp [Builtin.zeroCells, hl]
  · have hi : i < k * z.length := by
      have := (List.getElem?_eq_some_iff.1 ha).1
      rw [flat_length (s := z.length) _ (fun row h => by rw [(List.mem_replicate.1 h).2])] at this
      simpa using this
    obtain ⟨h1, h2, h3⟩ := row_lt hi
    have hdm := div_mod i z.length
    have hz1 := zeros_row hz h1 (i % z.length)
    have ha' := ha
    rw [hdm, flat_get _ (fun row h => by rw [(List.mem_replicate.1 h).2]) _ _ h2, List.getElem?_replicate, if_pos h1] at ha'
    obtain ⟨u, hu, hur⟩ := hz1 a ha'
    rw [← hdm] at hu
    have hv' : (Builtin.zeroCells zc k)[i]? = some v := by simpa using hv
    unfold Builtin.zeroCells at hv'
    rw [← hl] at hv' hu
    rw [hv'] at hu
    cases hu
    exact hur
theorem zeros_ones {e : TypeId} {z : List AV} (hz : zeroCellsA P e = some z) {zc : Array Value} (h : LR μ z zc.toList) (k : Nat) : ∀ v ∈ (Builtin.zeroCells zc k).toList, v.oneCell' = true := by
  have hzl := h.length
  simp only [Array.length_toList] at hzl
  have := zeros_one h (zeroCells_all hz) (n := k)
  rw [hzl] at this
  exact this
theorem zeros_bytes {e : TypeId} {z : List AV} (hb : isByteA P e = true) (hz : zeroCellsA P e = some z) {zc : Array Value} (h : LR μ z zc.toList) (k : Nat) : SeqR μ 1 (.pk k 0) (Builtin.zeroCells zc k).toList := by
  obtain ⟨rfl, _⟩ := byte_zero hb hz
  have hl := h.length
  simp only [Array.length_toList, List.length_cons, List.length_nil] at hl
  refine ⟨rfl, by simp [Builtin.zeroCells, ← hl], Nat.pow_pos (by omega), fun i hi => ?_⟩
  obtain ⟨v, hv, hvr⟩ := zeros_row (n := k) h hi 0 _ rfl
  have hv : ((Array.range (k * 1)).map fun j => zc[j % zc.size]!)[i]? = some v := by simpa using hv
  rw [hvr.int_inv] at hv
  rw [byteAt_zero]
  have hl' : zc.size = 1 := by omega
  show ((Array.range (k * zc.size)).map fun j => zc[j % zc.size]!).toList[i]? = _
  rw [Array.getElem?_toList, hl']
  rw [hl'] at hv
  exact hv
theorem zeros_rows {z : List AV} {zc : Array Value} (h : LR μ z zc.toList) (k : Nat) : SeqR μ z.length (.rs (List.replicate k z)) (Builtin.zeroCells zc k).toList :=
  ⟨zeros_seq h k, fun row hr => by rw [(List.mem_replicate.1 hr).2]⟩
theorem append_sound (h : HR w0 G μ H w) {types : Array TypeId} {t t2 : TypeId} {ts : List TypeId} (ht : types.toList = t :: t2 :: ts) {s x : AV} {sv xv : Value} (hs : VR μ s sv) (hx : VR μ x xv) (ty : TypeId)
    (hr : ∀ v w', (Builtin.append_ types ty #[sv, xv]).run P w = .ok v w' → r = .ok (.value v) w') : XR P w0 G μ H.size (builtinA P G .append (t :: t2 :: ts) [s, x] H) r := by
  have e0 : types[0]? = some t := by rw [← Array.getElem?_toList, ht]; rfl
  have e1 : types[1]? = some t2 := by rw [← Array.getElem?_toList, ht]; rfl
  show XR P w0 G μ H.size (match P.underlying t, P.underlying t2 with | some (.slice e), some u => _ | _, _ => _) r
  split
  · rename_i e u hu hu2
    split
    · rename_i sz hsz
      split
      · rename_i kk k' k
        split
        · rename_i len hlen
          have hx := hx.int_inv
          subst hx
          refine XR.cond (fun hc => ?_) (fun _ => trivial)
          rw [Bool.and_eq_true, Bool.and_eq_true, Nat.blt_eq, Nat.blt_eq, Nat.blt_eq] at hc
          obtain ⟨⟨hk, hl⟩, hb⟩ := hc
          have key : ∀ z, zeroCellsA P e = some z → ∃ vs, vs.length = k * (sz + 1) ∧ App P w types e (sz + 1) (.int k' (Int.ofNat k)) k vs true ∧ (isByteA P e = true → SeqR μ (sz + 1) (.pk k 0) vs) ∧ SeqR μ (sz + 1) (.rs (List.replicate k z)) vs ∧ ∀ v ∈ vs, v.oneCell' = true := fun z hz => by
            obtain ⟨zv, hzv, hzl⟩ := zero_all hz
            have hzs : z.length = sz + 1 := by
              have := (zeroCells_spec (w := w) hz).1
              rw [hsz] at this; exact (Option.some.inj this).symm
            have hzc : zv.cells.size = sz + 1 := by have := (hzl μ).length; simp only [Array.length_toList] at this; omega
            refine ⟨(Builtin.zeroCells zv.cells k).toList, by simp [Builtin.zeroCells, hzc], ⟨⟨t, e0, hu⟩, hsz, by omega, hb, fun h => (by cases h), fun _ => ⟨⟨t2, kk, e1, hu2⟩, ⟨k', rfl⟩, hk, zv, hzv, by simp, fun h0 => ?_⟩⟩, fun hby => ?_, ?_, zeros_ones hz (hzl μ) k⟩
            · have hk0 : k = 0 := by
                rcases Nat.mul_eq_zero.1 h0 with e | e
                · exact e
                · omega
              simp [Builtin.zeroCells, hk0]
            · have := zeros_bytes hby hz (hzl μ) k
              have h1 := byte_size hby
              rw [hsz] at h1
              have h1 : sz + 1 = 1 := Option.some.inj h1
              rw [h1]; exact this
            · rw [← hzs]; exact zeros_rows (hzl μ) k
          refine XR.cond (fun hby => ?_) (fun _ => ?_)
          · obtain ⟨z, hz⟩ := byte_cells hby
            obtain ⟨vs, v1, A, v2, _, v4⟩ := key z hz
            exact appendTo_sound h A (v2 hby) v1 v4 hs ty hr
          · split
            · rename_i z hz
              obtain ⟨vs, v1, A, _, v3, v4⟩ := key z hz
              exact appendTo_sound h A v3 v1 v4 hs ty hr
            · trivial
        · trivial
      · trivial
      · rename_i hne1 hne2
        split
        · rename_i k hk
          split
          · rename_i q hq
            refine XR.cond (fun hc => ?_) (fun _ => trivial)
            rw [Bool.and_eq_true, Nat.blt_eq, Nat.blt_eq] at hc
            obtain ⟨vs, v1, v2, v3, v4⟩ := seqOf_sound (P := P) h hx (fun n hn => by rw [hk] at hn; cases hn; exact Nat.le_refl _) (by rw [hk]; rfl) hq
            have A : App P w types e (sz + 1) xv k vs false := ⟨⟨t, e0, hu⟩, hsz, by omega, hc.2, fun _ => ⟨⟨t2, u, e1, hu2, fun kk hkk => by first | exact hne1 kk hkk | exact hne2 kk hkk | (subst hkk; exact hne2 kk xv rfl) | trace_state⟩, lenOf_sound hx hk _, lenOf_sound hx hk _, v3 _ rfl, v3 _ rfl⟩, fun h => by cases h⟩
            exact appendTo_sound h A v2 v1 v4 hs ty hr
          · trivial
        · trivial
    · trivial
  · trivial
theorem copy_sound (h : HR w0 G μ H w) {types : Array TypeId} {t : TypeId} {ts : List TypeId} (ht : types.toList = t :: ts) {d s : AV} {dv sv : Value} (hd : VR μ d dv) (hs : VR μ s sv) (ty : TypeId)
    (hr : ∀ v w', (Builtin.copy_ types ty #[dv, sv]).run P w = .ok v w' → r = .ok (.value v) w') : XR P w0 G μ H.size (builtinA P G .copy (t :: ts) [d, s] H) r := by
  have e0 : types[0]? = some t := by rw [← Array.getElem?_toList, ht]; rfl
  show XR P w0 G μ H.size (match P.underlying t with | some (.slice e) => _ | _ => _) r
  split
  · rename_i e hu
    split
    · rename_i sz m n hsz hm hn
      have hk : (bif Nat.ble n m then n else m) = Nat.min n m := by
        by_cases hnm : n ≤ m
        · have : Nat.ble n m = true := by rw [Nat.ble_eq]; exact hnm
          rw [this]; exact (Nat.min_eq_left hnm).symm
        · have : Nat.ble n m = false := by rw [← Bool.not_eq_true, Nat.ble_eq]; exact hnm
          rw [this]; exact (Nat.min_eq_right (show m ≤ n by omega)).symm
      simp only [hk]
      have hkn : Nat.min n m ≤ n := Nat.min_le_left _ _
      split
      · rename_i q hq
        obtain ⟨vs, v1, v2, v3, v4⟩ := seqOf_sound (P := P) h hs (fun n' hn' => by rw [hn] at hn'; cases hn'; exact hkn) (by rw [hn]; rfl) hq
        have hrun : ∀ (base : Option Addr) (c : Nat) (w' : World), dv = .slice base m c → (match base with | some a => storeCells a vs | none => pure ()).run P w = .ok () w' → (Builtin.copy_ types ty #[dv, sv]).run P w = .ok (.int .i64 (Nat.min n m : Nat)) w' := fun base c w' hdv hst => by
          subst hdv
          unfold Builtin.copy_
          simp only [e0, List.getElem?_toArray, List.getElem?_cons_zero, List.getElem?_cons_succ, Sem.run_bind, run_underlying hu, Result.andThen_ok, run_sizeOf hsz, lenOf_sound hs hn w, v3 w rfl]
          cases base with
          | none => simp only [Sem.run_pure, Result.ok.injEq, true_and] at hst; subst hst; rfl
          | some a => simp only at hst; simp only [Sem.run_bind, hst, Result.andThen_ok, Sem.run_pure]; rfl
        split
        · cases hd
          simp only [lenOfA, Option.some.injEq] at hm
          subst hm
          have := hrun none 0 w rfl rfl
          rw [show Nat.min n 0 = 0 from Nat.min_zero n] at this
          exact XR.value h (.int _ _) (hr _ _ this)
        · have v2 : vs = [] := v2
          subst v2
          cases hd with
          | sliceE _ _ a c =>
          simp only [lenOfA, Option.some.injEq] at hm
          subst hm
          have := hrun (some a) c w rfl rfl
          rw [show Nat.min n 0 = 0 from Nat.min_zero n] at this
          exact XR.value h (.int _ _) (hr _ _ this)
        · rename_i b off l c g
          obtain ⟨L, hL, rfl⟩ := hd.slice_inv
          simp only [lenOfA, Option.some.injEq] at hm
          subst hm
          refine XR.cond (fun hG => ?_) (fun _ => trivial)
          rw [Nat.ble_eq] at hG
          refine putSeq_sound h hL hG v2 v4 fun H' w' hH hst => ?_
          exact XR.rInt hH rfl (hr _ _ (hrun _ _ _ rfl hst))
        · trivial
      · trivial
    · trivial
  · trivial
end
end Go.Proofs.YtmapmbfohilklaaGreat.Ab
