/-
  errors.As at a target of type *api.Errno: what the abstract machine takes it to answer is what it answers.
-/
import Derived.Test.YtabllhhainepgaaGreatDoorErrV
set_option maxRecDepth 100000
namespace Go.Proofs.YtabllhhainepgaaGreatDoor
open Go.RowKit Ab
set_option linter.unusedVariables false
set_option linter.unusedSimpArgs false
set_option linter.constructorNameAsVariable false

/-- What is there stays, and more is made. -/
theorem HR_grow {w0 w w' : World} {G : Nat} {μ : Mu} {H : AH} (h : HR w0 G μ H w) (hb : Below w.heap.size w w') : HR w0 G μ H w' := by
  refine ⟨⟨hb.os.trans h.below.os, hb.tape.trans h.below.tape, hb.output.trans h.below.output, by have := h.below.size; have := hb.size; omega, fun k hk => (hb.block k (by have := h.below.size; omega)).trans (h.below.block k hk)⟩, h.dom, ?_, h.own, h.inj, ?_, h.live, h.gs⟩
  · intro b L hL hd
    obtain ⟨o, ho, hr⟩ := h.obj b L hL hd
    exact ⟨o, (hb.block _ (h.lt b L hL)).trans ho, hr⟩
  · intro b L hL
    have := h.lt b L hL; have := hb.size; omega
theorem cell_sound {w0 w : World} {G : Nat} {μ : Mu} {H : AH} (h : HR w0 G μ H w) {b off : Nat} {L : Ab.Loc} (hL : μ b = some L) (hj : cellAt (H.get b) off ≠ .junk) : ∃ u, w.cell? ⟨L.blk, L.base + off, none⟩ = some u ∧ VR μ (cellAt (H.get b) off) u := by
  cases hg : H.get b with
  | bytes n N e st =>
    rw [hg] at hj
    simp only [cellAt] at hj ⊢
    by_cases hlt : Nat.blt off n = true
    · rw [hlt]
      rw [Nat.blt_eq] at hlt
      obtain ⟨arr, fz, ho, hN, hsz, hcell, hf, hst⟩ := h.bytes hL hg
      exact ⟨_, by rw [cell_arr ho]; exact hcell off hlt, .int _ _⟩
    · rw [Bool.not_eq_true] at hlt
      rw [hlt] at hj
      exact absurd rfl hj
  | rows n s c z e =>
    rw [hg] at hj
    simp only [cellAt] at hj ⊢
    by_cases hlt : Nat.blt off (Nat.mul n s) = true
    · rw [hlt] at hj ⊢
      simp only [cond_true] at hj ⊢
      rw [Nat.blt_eq] at hlt
      obtain ⟨r1, r2, r3⟩ := row_lt (show off < n * s from hlt)
      obtain ⟨arr, ho, hsz, hcell⟩ := h.rows hL hg
      obtain ⟨c1, c2⟩ := hcell _ r1
      have hdm := div_mod off s
      cases hq : (getR c (path (Nat.div off s)) z)[Nat.mod off s]? with
      | none => unfold obN at hj; rw [hq] at hj; exact absurd rfl hj
      | some a =>
        obtain ⟨u, hu, hur⟩ := c2 _ a hq
        refine ⟨u, ?_, by unfold obN; rw [hq]; exact hur⟩
        rw [cell_arr ho, ← hu]
        congr 1
        show L.base + off = L.base + off / s * s + off % s
        omega
    · rw [Bool.not_eq_true] at hlt
      rw [hlt] at hj
      exact absurd rfl hj
  | _ => rw [hg] at hj; exact absurd rfl hj
theorem chain_sound {w0 w : World} {G : Nat} {μ : Mu} {H : AH} (h : HR w0 G μ H w) : ∀ (n : Nat) (e : AV) (ev : Value) (r : Option AV), VR μ e ev → chainA H n e = some r → ∃ k ri, Chn w k ev ri ∧ (match r with | none => ri = none | some v => ∃ m, v = .int .i64 m ∧ ri = some m) := by
  intro n
  induction n with
  | zero => intro e ev r _ hr; cases e <;> simp [chainA] at hr
  | succ n ih =>
    intro e ev r hx hr
    cases e <;> try (simp [chainA] at hr; done)
    rename_i t v
    obtain ⟨vv, rfl, hv⟩ := hx.iface_inv
    unfold chainA at hr
    cases h1 : Nat.beq t 68 with
    | true =>
      rw [h1] at hr
      rw [Nat.beq_eq] at h1
      subst h1
      simp only [cond_true] at hr
      split at hr
      · rename_i m
        simp only [Option.some.injEq] at hr
        subst hr
        rw [hv.int_inv]
        exact ⟨0, some m, .hit m, m, rfl, rfl⟩
      · cases hr
    | false =>
      rw [h1] at hr
      simp only [cond_false] at hr
      cases h2 : Nat.beq t 161 with
      | false => rw [h2] at hr; cases hr
      | true =>
        rw [h2] at hr
        rw [Nat.beq_eq] at h2
        subst h2
        simp only [cond_true] at hr
        split at hr
        · rename_i b off
          obtain ⟨L, hL, rfl⟩ := hv.ptr_inv
          split at hr
          · rename_i hc
            simp only [Option.some.injEq] at hr
            subst hr
            obtain ⟨u, hu, hur⟩ := cell_sound h hL (off := Nat.add off 2) (by rw [hc]; intro h; cases h)
            rw [hc] at hur
            cases hur
            exact ⟨0, none, .fsNil _ _ hu, rfl⟩
          · rename_i t' v' hc
            obtain ⟨u, hu, hur⟩ := cell_sound h hL (off := Nat.add off 2) (by rw [hc]; intro h; cases h)
            rw [hc] at hur
            obtain ⟨k, ri, hch, hm⟩ := ih _ _ r hur hr
            exact ⟨k + 1, ri, .fs _ _ k u ri hu hch, hm⟩
          · cases hr
        · cases hr
theorem as_ok {w0 : World} {K : Hooks} (hg : w0.cell? ⟨0, 0, none⟩ = some (.iface 268 (.agg #[.pointer (some ⟨5, 75, none⟩)]))) (args : List AV) (H : AH) (v : AV) (H' : AH) (hh : asHook args H = some (v, H'))
    (μ : Mu) (w : World) (cargs : Array Value) (hr : HR w0 0 μ H w) (ha : LR μ args cargs.toList) :
    Calls Tryz.prog 51 cargs w fun e w' => ∃ (u : Value) (μ' : Mu), e = .returned u ∧ VR μ' v u ∧ HR w0 0 μ' H' w' ∧ μ.lx H.size μ' ∧ H.size ≤ H'.size := by
  have hg' : w.cell? ⟨0, 0, none⟩ = some (.iface 268 (.agg #[.pointer (some ⟨5, 75, none⟩)])) := by
    have hlt : 0 < w0.heap.size := Go.block_lt_of_cell hg
    rw [← hg]
    simp only [World.cell?, hr.below.block _ hlt]
  unfold asHook at hh
  split at hh
  · rename_i e t b off
    obtain ⟨ev, L, hL, rfl, hev⟩ : ∃ (ev : Value) (L : Ab.Loc), μ b = some L ∧ cargs = #[ev, .iface t (.pointer (some ⟨L.blk, L.base + off, none⟩))] ∧ VR μ e ev := by
      obtain ⟨l⟩ := cargs
      cases ha with | cons _ v1 _ m h1 t1 =>
      cases t1 with | cons _ v2 _ m2 h2 t2 =>
      cases t2
      obtain ⟨u, rfl, h3⟩ := h2.iface_inv
      obtain ⟨L, hL, rfl⟩ := h3.ptr_inv
      exact ⟨v1, L, hL, rfl, h1⟩
    cases hb : Nat.beq t 220 with
    | false => rw [hb] at hh; cases hh
    | true =>
      rw [hb] at hh
      rw [Nat.beq_eq] at hb
      subst hb
      simp only [cond_true] at hh
      split at hh
      case h_2 => cases hh
      rename_i n s c z e2 hgb
      cases hlt : Nat.blt off (Nat.mul n s) with
      | false => rw [hlt] at hh; cases hh
      | true =>
      rw [hlt] at hh
      rw [Nat.blt_eq] at hlt
      simp only [cond_true] at hh
      obtain ⟨old, hold, hfz⟩ : ∃ old, w.cell? ⟨L.blk, L.base + off, none⟩ = some old ∧ w.frozen? ⟨L.blk, L.base + off, none⟩ = false := by
        obtain ⟨arr, ho, hsz, _⟩ := hr.rows hL hgb
        have hlt : off < n * s := hlt
        have hsz2 : L.base + off < arr.size := by rw [Nat.add_mul] at hsz; omega
        exact ⟨_, by rw [cell_arr ho]; exact Array.getElem?_eq_getElem hsz2, by simp [World.frozen?, ho]⟩
      split at hh
      · simp only [Option.some.injEq, Prod.mk.injEq] at hh
        obtain ⟨rfl, rfl⟩ := hh
        cases hev
        refine (as_nil _ w).mono ?_
        rintro e w' ⟨rfl, rfl⟩
        exact ⟨_, μ, rfl, .bool false, hr, μ.lx_refl _, Nat.le_refl _⟩
      · rename_i e' hne
        cases hq : chainA H 60 e with
        | none => rw [hq] at hh; cases hh
        | some r =>
          rw [hq] at hh
          obtain ⟨k, ri, hch, hm⟩ := chain_sound hr 60 e ev r hev hq
          cases r with
          | none =>
            simp only [Option.some.injEq, Prod.mk.injEq] at hh
            obtain ⟨rfl, rfl⟩ := hh
            have hm : ri = none := hm
            subst hm
            refine (as_none ev ⟨L.blk, L.base + off, none⟩ k old w hch hg' hold hfz).mono ?_
            rintro e w' ⟨rfl, hw⟩
            exact ⟨_, μ, rfl, .bool false, HR_grow hr hw, μ.lx_refl _, Nat.le_refl _⟩
          | some v0 =>
            obtain ⟨m, rfl, rfl⟩ := hm
            simp only [] at hh
            split at hh
            · rename_i v1 H1 hst
              simp only [Option.some.injEq, Prod.mk.injEq] at hh
              obtain ⟨rfl, rfl⟩ := hh
              refine (as_some ev ⟨L.blk, L.base + off, none⟩ m k old w hch hg' hold hfz).mono ?_
              rintro e w' ⟨rfl, W, hW, rfl⟩
              have hr2 := HR_grow hr hW
              have hx := storeX_sound (P := Tryz.prog) (r := (do storeVar 68 ⟨L.blk, L.base + off, none⟩ (.int .i64 m); pure Next.skip : Sem Next).run Tryz.prog W) hr2 hL (t := 68) (off := off) (VR.int .i64 m) (fun w' hw' => run_u hw')
              have hz := Siz.store (P := Tryz.prog) (G := 0) (Nat.le_refl H.size) 68 b off (.int .i64 m)
              rw [hst] at hx hz
              obtain ⟨μ', w', u, hcase, _, hr3, hlx⟩ := hx
              have hrun : (storeVar 68 ⟨L.blk, L.base + off, none⟩ (.int .i64 m)).run Tryz.prog W = .ok () (W.setCell ⟨L.blk, L.base + off, none⟩ (.int .i64 m)) := by
                have hc1 : W.cell? ⟨L.blk, L.base + off, none⟩ = some old := by rw [← hold]; simp only [World.cell?, hW.block _ (hr.lt b L hL)]
                have hc2 : W.frozen? ⟨L.blk, L.base + off, none⟩ = false := by rw [← hfz]; simp only [World.frozen?, hW.block _ (hr.lt b L hL)]
                simp [storeVar, Value.cells, storeCells, Addr.add, ea_sizeE]
                rw [run_store Tryz.prog W _ _ _ (by rfl)]
                simp [hc1, hc2]
              have hrun2 := run_u (P := Tryz.prog) hrun
              rcases hcase with hc | ⟨hc, _⟩
              · rw [hrun2] at hc; cases hc
              · rw [hrun2] at hc
                cases hc
                exact ⟨_, μ', rfl, .bool true, hr3, hlx, hz⟩
            · cases hh
  · cases hh
end Go.Proofs.YtabllhhainepgaaGreatDoor
