/-
  The abstract machine: equality, two operands, one operand.
-/
import Derived.Test.YtmapmbfohilklaaGreatAbL
import Derived.ChangeKeysEq
namespace Go.Proofs.YtmapmbfohilklaaGreat.Ab
open Go.RowKit

section
variable {P : Program} {w0 w : World} {G : Nat} {μ : Mu} {H : AH} {r : Result Next}
/-- Pointers into two plain rows are not one. -/
theorem run_sameAddr_apart {a b i j : Nat} {x y : Array Value} {t u : TypeId} (ha : w.heap[a]? = some (.cells x t (0, 0))) (hb : w.heap[b]? = some (.cells y u (0, 0))) (hne : a ≠ b) :
    (sameAddr ⟨a, i, none⟩ ⟨b, j, none⟩).run P w = .ok false w := by
  have f1 : ∀ k, w.frozen? ⟨a, k, none⟩ = false := fun k => by simp [World.frozen?, ha]
  have f2 : ∀ k, w.frozen? ⟨b, k, none⟩ = false := fun k => by simp [World.frozen?, hb]
  have s1 : w.shape? a = some (t, x.size) := by simp [World.shape?, ha]
  have s2 : w.shape? b = some (u, y.size) := by simp [World.shape?, hb]
  have hbeq : (a == b) = false := by simp [hne]
  simp only [sameAddr, hbeq, Bool.false_eq_true, if_false, Sem.run_bind, run_frozen, f1, f2, Result.andThen_ok, Bool.false_and, Sem.run_pure, noView, viewAt, run_shape, s1, s2, Option.isSome_some, if_true, Option.isSome_none, mayBeOne, stringish, Bool.and_false, Bool.or_false, Bool.false_or]
theorem plain_block (h : HR w0 G μ H w) {b : Nat} {L : Loc} (hL : μ b = some L) (hp : plainB (H.get b) = true) : ∃ x t, w.heap[L.blk]? = some (.cells x t (0, 0)) ∧ H.get b ≠ .dead := by
  cases hg : H.get b with
  | bytes n N e st =>
    rw [hg] at hp
    obtain ⟨arr, fz, ho, _, _, _, _, hst⟩ := h.bytes hL hg
    have : st = false := by simpa [plainB] using hp
    rw [hst this] at ho
    exact ⟨arr, e, ho, by intro h; cases h⟩
  | rows n s c z e =>
    obtain ⟨arr, ho, _⟩ := h.rows hL hg
    exact ⟨arr, e, ho, by intro h; cases h⟩
  | _ => rw [hg] at hp; simp [plainB] at hp
theorem eqFields_sound {eq : TypeId → AV → AV → Option Bool} {d : Nat} (he : ∀ t x y xv yv b, VR μ x xv → VR μ y yv → eq t x y = some b → (Op.equalIn d t xv yv).run P w = .ok b w)
    {xs ys : List AV} {xa ya : Array Value} (hx : LR μ xs xa.toList) (hy : LR μ ys ya.toList) : ∀ (fs : List Field) (b : Bool), eqFields P eq xs ys fs = some b → (Op.eqFields d xa ya fs).run P w = .ok b w
  | [], b, h => by simp only [eqFields, Option.some.injEq] at h; subst h; simp [Op.eqFields]
  | f :: fs, b, h => by
    simp only [eqFields] at h
    by_cases hn : f.name = "_"
    · rw [if_pos hn] at h
      simp only [Op.eqFields, hn, ne_eq, not_true_eq_false, if_false]
      exact eqFields_sound he hx hy fs b h
    · rw [if_neg hn] at h
      cases hp1 : partA P f.type xs f.offset with
      | none => rw [hp1] at h; cases h
      | some x =>
        cases hp2 : partA P f.type ys f.offset with
        | none => rw [hp1, hp2] at h; cases h
        | some y =>
          rw [hp1, hp2] at h
          simp only [] at h
          obtain ⟨u, hu1, hu2⟩ := part_sound (w := w) hx hp1
          obtain ⟨v, hv1, hv2⟩ := part_sound (w := w) hy hp2
          cases hq : eq f.type x y with
          | none => rw [hq] at h; cases h
          | some c =>
            rw [hq] at h
            have hc := he _ _ _ _ _ _ hu1 hv1 hq
            simp only [Op.eqFields, ne_eq, hn, not_false_eq_true, if_true, Sem.run_bind, hu2, hv2, Result.andThen_ok, hc]
            cases c with
            | false => simp only [Option.some.injEq] at h; subst h; simp
            | true =>
              simp only [] at h
              simp only [Bool.not_true, Bool.false_eq_true, if_false]
              exact eqFields_sound he hx hy fs b h
theorem eqElems_sound {eq : TypeId → AV → AV → Option Bool} {d : Nat} (he : ∀ t x y xv yv b, VR μ x xv → VR μ y yv → eq t x y = some b → (Op.equalIn d t xv yv).run P w = .ok b w)
    {xs ys : List AV} {xa ya : Array Value} (hx : LR μ xs xa.toList) (hy : LR μ ys ya.toList) {e : TypeId} {n : Nat} : ∀ (m i : Nat) (b : Bool), eqElems P eq xs ys e n m i = some b → (Op.eqItems d e n xa ya (List.range' i m)).run P w = .ok b w
  | 0, i, b, h => by simp only [eqElems, Option.some.injEq] at h; subst h; simp [Op.eqItems]
  | m + 1, i, b, h => by
    simp only [eqElems] at h
    cases hp1 : partA P e xs (i * n) with
    | none => rw [hp1] at h; cases h
    | some x =>
      cases hp2 : partA P e ys (i * n) with
      | none => rw [hp1, hp2] at h; cases h
      | some y =>
        rw [hp1, hp2] at h
        simp only [] at h
        obtain ⟨u, hu1, hu2⟩ := part_sound (w := w) hx hp1
        obtain ⟨v, hv1, hv2⟩ := part_sound (w := w) hy hp2
        cases hq : eq e x y with
        | none => rw [hq] at h; cases h
        | some c =>
          rw [hq] at h
          have hc := he _ _ _ _ _ _ hu1 hv1 hq
          simp only [List.range'_succ, Op.eqItems, Sem.run_bind, hu2, hv2, Result.andThen_ok, hc]
          cases c with
          | false => simp only [Option.some.injEq] at h; subst h; simp
          | true =>
            simp only [] at h
            simp only [Bool.not_true, Bool.false_eq_true, if_false]
            exact eqElems_sound he hx hy m (i + 1) b h
theorem cellsOf_size {t : TypeId} {s : Nat} (h : sizeA P t = some s) : P.cellsOf t = s ∧ ∃ i, P.info? t = some i := by
  unfold sizeA at h
  cases hi : P.info? t with
  | none => rw [hi] at h; cases h
  | some i => rw [hi] at h; simp only [Option.map_some, Option.some.injEq] at h; exact ⟨by simp [Program.cellsOf, hi, h], i, rfl⟩
theorem eqA_sound (h : HR w0 G μ H w) : ∀ (d D : Nat) (t : TypeId) (x y : AV) (xv yv : Value) (b : Bool), d ≤ D → VR μ x xv → VR μ y yv → eqA P H d t x y = some b → (Op.equalIn D t xv yv).run P w = .ok b w := by
  intro d
  induction d with
  | zero => intro D t x y xv yv b _ _ _ he; simp [eqA] at he
  | succ d ih =>
    intro D t x y xv yv b hD hx hy he
    obtain ⟨D, rfl⟩ : ∃ D', D = D' + 1 := ⟨D - 1, by omega⟩
    have ih' : ∀ t x y xv yv b, VR μ x xv → VR μ y yv → eqA P H d t x y = some b → (Op.equalIn D t xv yv).run P w = .ok b w := fun t x y xv yv b => ih D t x y xv yv b (by omega)
    simp only [eqA] at he
    cases hu : P.underlying t with
    | none => rw [hu] at he; cases he
    | some u =>
      rw [hu] at he
      simp only [] at he
      split at he
      · rename_i p q
        have e1 := hx.bool_inv; have e2 := hy.bool_inv; subst e1 e2
        simp only [Option.some.injEq] at he; subst he
        simp [Op.equalIn, run_underlying hu]
      · rename_i k0 k p k' q
        have e1 := hx.int_inv; have e2 := hy.int_inv; subst e1 e2
        by_cases hk : k = k'
        · rw [if_pos hk] at he; simp only [Option.some.injEq] at he; subst hk he
          simp [Op.equalIn, run_underlying hu, eqI_eq]
        · rw [if_neg hk] at he; cases he
      · rename_i n N m M
        obtain ⟨s, rfl, s1, s2⟩ := hx.str_inv
        obtain ⟨s', rfl, s3, s4⟩ := hy.str_inv
        simp only [Option.some.injEq] at he; subst he
        have := StrR.eq (s := s) (t := s') ⟨s1, s2⟩ ⟨s3, s4⟩
        simp [Op.equalIn, run_underlying hu, beq_toListBytes, this]
      · cases hx; cases hy
        simp only [Option.some.injEq] at he; subst he
        simp [Op.equalIn, run_underlying hu]
      · obtain ⟨L, hL, rfl⟩ := hy.ptr_inv
        cases hx
        simp only [Option.some.injEq] at he; subst he
        simp [Op.equalIn, run_underlying hu]
      · obtain ⟨L, hL, rfl⟩ := hx.ptr_inv
        cases hy
        simp only [Option.some.injEq] at he; subst he
        simp [Op.equalIn, run_underlying hu]
      · rename_i elem a i b' j
        obtain ⟨L, hL, rfl⟩ := hx.ptr_inv
        obtain ⟨K, hK, rfl⟩ := hy.ptr_inv
        split at he
        · rename_i sz hsz
          have hrun : (Op.equalIn (D + 1) t (.pointer (some ⟨L.blk, L.base + i, none⟩)) (.pointer (some ⟨K.blk, K.base + j, none⟩))).run P w = (sameAddr ⟨L.blk, L.base + i, none⟩ ⟨K.blk, K.base + j, none⟩).run P w := by
            simp [Op.equalIn, run_underlying hu, run_sizeOf hsz]
          rw [hrun]
          by_cases hab : a = b'
          · subst hab
            rw [hL] at hK
            cases hK
            simp only [Nat.beq_refl, cond_true, Option.some.injEq] at he
            subst he
            simp only [sameAddr, beq_self_eq_true, if_true, Sem.run_pure]
            congr 1
            rw [Bool.eq_iff_iff, beq_iff_eq, Nat.beq_eq]
            constructor
            · intro e; injection e with _ e _; omega
            · rintro rfl; rfl
          · rw [beq_ff hab] at he
            simp only [cond_false] at he
            by_cases hp : (plainB (H.get a) && plainB (H.get b')) = true
            · rw [hp] at he
              simp only [cond_true, Option.some.injEq] at he
              subst he
              rw [Bool.and_eq_true] at hp
              obtain ⟨x1, t1, h1, d1⟩ := plain_block h hL hp.1
              obtain ⟨x2, t2, h2, d2⟩ := plain_block h hK hp.2
              exact run_sameAddr_apart h1 h2 (fun e => hab (h.inj _ _ _ _ d1 d2 hL hK e))
            · rw [Bool.not_eq_true] at hp; rw [hp] at he; cases he
        · cases he
      · cases hx; cases hy
        simp only [Option.some.injEq] at he; subst he
        simp [Op.equalIn, run_underlying hu]
      · obtain ⟨v, rfl, hv⟩ := hy.iface_inv
        cases hx
        simp only [Option.some.injEq] at he; subst he
        simp [Op.equalIn, run_underlying hu]
      · obtain ⟨v, rfl, hv⟩ := hx.iface_inv
        cases hy
        simp only [Option.some.injEq] at he; subst he
        simp [Op.equalIn, run_underlying hu]
      · rename_i ms tx vx ty vy
        obtain ⟨v, rfl, hv⟩ := hx.iface_inv
        obtain ⟨v', rfl, hv'⟩ := hy.iface_inv
        by_cases ht : tx = ty
        · subst ht
          simp only [Nat.beq_refl, cond_true] at he
          split at he
          · rename_i i hi
            by_cases hc : i.comparable = true
            · rw [if_pos hc] at he
              have := ih' _ _ _ _ _ _ hv hv' he
              simp only [Op.equalIn, Sem.run_bind, run_underlying hu, Result.andThen_ok, ne_eq, not_true_eq_false, if_false, typeInfo, run_program, hi, Sem.run_pure, hc, Bool.not_true, Bool.false_eq_true, this]
            · rw [if_neg hc] at he; cases he
          · cases he
        · rw [beq_ff ht] at he
          simp only [cond_false, Option.some.injEq] at he
          subst he
          simp [Op.equalIn, run_underlying hu, ht]
      · rename_i fs xs ys
        obtain ⟨xa, rfl, hxa⟩ := hx.agg_inv
        obtain ⟨ya, rfl, hya⟩ := hy.agg_inv
        by_cases hp : P.stoodInHeld t = true
        · rw [if_pos hp] at he; cases he
        · rw [if_neg hp] at he
          rw [Bool.not_eq_true] at hp
          have hf : P.fieldsOf t = fs := by simp [Program.fieldsOf, hu]
          rw [run_equalIn_struct w D t xa ya (by rw [hf]; exact hu) hp, hf]
          exact eqFields_sound ih' hxa hya _ _ he
      · rename_i len elem xs ys
        obtain ⟨xa, rfl, hxa⟩ := hx.agg_inv
        obtain ⟨ya, rfl, hya⟩ := hy.agg_inv
        split at he
        · rename_i n hn
          obtain ⟨hc, i, hi⟩ := cellsOf_size hn
          rw [run_equalIn_array w D xa ya hu hi, hc, List.range_eq_range']
          exact eqElems_sound ih' hxa hya _ _ _ he
        · cases he
      · cases hx; cases hy
        simp only [Option.some.injEq] at he; subst he
        simp only [Op.equalIn, Sem.run_bind, run_underlying hu, Result.andThen_ok]; rfl
      · obtain ⟨L, hL, rfl⟩ := hy.slice_inv
        cases hx
        simp only [Option.some.injEq] at he; subst he
        simp only [Op.equalIn, Sem.run_bind, run_underlying hu, Result.andThen_ok]; rfl
      · cases hx; cases hy
        simp only [Option.some.injEq] at he; subst he
        simp only [Op.equalIn, Sem.run_bind, run_underlying hu, Result.andThen_ok]; rfl
      · obtain ⟨L, hL, rfl⟩ := hx.slice_inv
        cases hy
        simp only [Option.some.injEq] at he; subst he
        simp only [Op.equalIn, Sem.run_bind, run_underlying hu, Result.andThen_ok]; rfl
      · cases hx; cases hy
        simp only [Option.some.injEq] at he; subst he
        simp only [Op.equalIn, Sem.run_bind, run_underlying hu, Result.andThen_ok]; rfl
      · cases hx; cases hy
        simp only [Option.some.injEq] at he; subst he
        simp only [Op.equalIn, Sem.run_bind, run_underlying hu, Result.andThen_ok]; rfl
      · obtain ⟨L, hL, rfl⟩ := hy.map_inv
        cases hx
        simp only [Option.some.injEq] at he; subst he
        simp only [Op.equalIn, Sem.run_bind, run_underlying hu, Result.andThen_ok]; rfl
      · obtain ⟨L, hL, rfl⟩ := hx.map_inv
        cases hy
        simp only [Option.some.injEq] at he; subst he
        simp only [Op.equalIn, Sem.run_bind, run_underlying hu, Result.andThen_ok]; rfl
      · cases hx; cases hy
        simp only [Option.some.injEq] at he; subst he
        simp only [Op.equalIn, Sem.run_bind, run_underlying hu, Result.andThen_ok]; rfl
      · obtain ⟨a, b, rfl, _, _⟩ := hy.func_inv
        cases hx
        simp only [Option.some.injEq] at he; subst he
        simp only [Op.equalIn, Sem.run_bind, run_underlying hu, Result.andThen_ok]; rfl
      · obtain ⟨a, b, rfl, _, _⟩ := hx.func_inv
        cases hy
        simp only [Option.some.injEq] at he; subst he
        simp only [Op.equalIn, Sem.run_bind, run_underlying hu, Result.andThen_ok]; rfl
      · cases he

/-! ### two operands -/
theorem XR.congr {x : X} {r' : Result Next} (h : XR P w0 G μ H.size x r') (e : r = r') : XR P w0 G μ H.size x r := e ▸ h
theorem eq_sound (h : HR w0 G μ H w) (neg : Bool) {t : TypeId} {x y : AV} {xv yv : Value} (hx : VR μ x xv) (hy : VR μ y yv) {n : Nat}
    (hr : ∀ b, (Op.equal t xv yv).run P w = .ok b w → r = .ok (.value (.bool (if neg then !b else b))) w) :
    XR P w0 G μ H.size (rOptB (if neg then (eqA P H 30 t x y).map (!·) else eqA P H 30 t x y) n H) r := by
  refine XR.rOptB h fun b hb => ?_
  cases neg with
  | false => exact hr b (eqA_sound h 30 Op.maxDepth t x y xv yv b (by decide) hx hy hb)
  | true =>
    simp only [if_true] at hb
    cases hq : eqA P H 30 t x y with
    | none => rw [hq] at hb; cases hb
    | some c =>
      rw [hq] at hb
      simp only [Option.map_some, Option.some.injEq] at hb
      subst hb
      exact hr c (eqA_sound h 30 Op.maxDepth t x y xv yv c (by decide) hx hy hq)
end
end Go.Proofs.YtmapmbfohilklaaGreat.Ab
