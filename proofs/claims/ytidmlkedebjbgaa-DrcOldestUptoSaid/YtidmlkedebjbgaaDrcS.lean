/-
  The document's cache: take, Clear, Done, Forget.
-/
import Derived.Test.YtidmlkedebjbgaaDrcR
namespace Go.Proofs.Ytidmlkedebjbgaa
open Go.RowKit

def RS.take (r : RS) (t : Int) : RS := { r with L := r.L.filter (fun e => decide (e.ticket ≠ t)), D := r.D.filter (fun x => decide (x ≠ t)) }
theorem filter_snoc {α : Type} {p : α → Bool} {l : List α} {k : Nat} (h : k < l.length) : (l.take (k + 1)).filter p = (l.take k).filter p ++ (if p l[k] then [l[k]] else []) := by
  rw [take_snoc' h, List.filter_append]
  by_cases e : p l[k] <;> simp [e]
theorem Try.inf28 : (Try.prog.info? 28).map (fun i => (i.zero, i.size, i.bytes)) = some (some (.int .u64 0), 1, 8) := by kernel_rfl

set_option maxHeartbeats 1000000 in
theorem rtake_calls (X : Nat → Prop) (w : World) (b : Nat) (r : RS) (t : Int) (h : IsR X w b r) (hlen : r.L.length ≤ 1024) (hdlen : r.D.length ≤ 1024) :
    Calls Try.prog 35 #[ptr b, .int .u64 t] w fun e w' => e = .returned (.tuple #[]) ∧ Fr X w w' ∧ IsR (Nw X w w') w' b (r.take t) := by
  obtain ⟨lv, dv, h⟩ := h
  obtain ⟨la, lc, rfl, _, _, _, hrow⟩ := h.l.open
  obtain ⟨da, dc, rfl, _, _, _, hdrow⟩ := h.d.open
  have hc := blk_cell h.top
  have hb := lt_of_block h.top
  have H := Lib.hid h
  clear h
  unfold ptr
  go_enter Try.func35, Try.ntmps35
  go_wp2
  go_loopw [5, 4] (fun i v wr => ∃ (k : Nat) (va : Option Addr) (vc : Nat), k ≤ r.L.length ∧ i = .int .i64 k ∧ v = .slice va ((r.L.take k).filter (fun e => decide (e.ticket ≠ t))).length vc ∧ Fr Non w wr ∧
    Sl (New w wr) wr 52 5 (.slice va ((r.L.take k).filter (fun e => decide (e.ticket ≠ t))).length vc) ((r.L.take k).filter (fun e => decide (e.ticket ≠ t))).length (rowsE ((r.L.take k).filter (fun e => decide (e.ticket ≠ t))))) (fun i _ _ => r.L.length - (intOf i).toNat)
  case atStart => exact ⟨0, none, 0, Nat.zero_le _, rfl, rfl, Fr.refl _ _, Sl.nil _ _ _ _⟩
  case round =>
    obtain ⟨k, va, vc, hk, rfl, rfl, hfr, hsl⟩ := hrel
    have Hsl := Lib.hid hsl
    have hcw := blk_cell (hfr.keep H.out.top (fun h => h))
    have hml : ((r.L.take k).filter (fun e => decide (e.ticket ≠ t))).length ≤ k := Nat.le_trans (List.length_filter_le _ _) (by simp; omega)
    by_cases hlt : k < r.L.length
    · obtain ⟨g, rfl, _, hgl, hcl⟩ : ∃ g, la = some ⟨g, 0, none⟩ ∧ _ := hrow.resolve_left (by omega)
      have hcj : ∀ j, j < 5 → wr.cell? ⟨g, k * 5 + j, none⟩ = (e24 r.L[k])[j]? := fun j hj => by
        have h1 := rowsE_at _ _ hlt j hj
        have h2 : ∃ u, (e24 r.L[k])[j]? = some u := ⟨_, List.getElem?_eq_getElem (by simpa [e24] using hj)⟩
        obtain ⟨u, hu⟩ := h2
        rw [hu]; exact hfr.cell (hcl _ u (h1.trans hu)) (fun h => h)
      have hc0 : wr.cell? ⟨g, k * 5, none⟩ = some (.int .u64 r.L[k].ticket) := hcj 0 (by omega)
      have hc1 : wr.cell? ⟨g, k * 5 + 1, none⟩ = some (.int .i64 r.L[k].client) := hcj 1 (by omega)
      have hc2 : wr.cell? ⟨g, k * 5 + 2, none⟩ = some (.string r.L[k].rcd) := hcj 2 (by omega)
      have hc3 : wr.cell? ⟨g, k * 5 + 3, none⟩ = some (.string r.L[k].reply) := hcj 3 (by omega)
      have hc4 : wr.cell? ⟨g, k * 5 + 4, none⟩ = some (.bool r.L[k].done) := hcj 4 (by omega)
      have Hsn := Lib.hid (filter_snoc (p := fun e => decide (e.ticket ≠ t)) hlt)
      clear hcl hcj hrow hsl
      generalize r.L[k] = q at *
      by_cases ht : q.ticket = t
      · have hs1 : Hid ((r.L.take (k + 1)).filter (fun e => decide (e.ticket ≠ t)) = (r.L.take k).filter (fun e => decide (e.ticket ≠ t))) := by unfold Hid; rw [Hsn.out]; simp [ht]
        clear Hsn
        generalize (r.L.take k).filter (fun e => decide (e.ticket ≠ t)) = ks at *
        go_wp2
        go_roundw
        case rel => exact ⟨k + 1, va, vc, by omega, by go_num, by rw [hs1.out], hfr, by rw [hs1.out]; exact Hsl.out⟩
        case measure => simp [intOf]; omega
      · have hs1 : Hid ((r.L.take (k + 1)).filter (fun e => decide (e.ticket ≠ t)) = (r.L.take k).filter (fun e => decide (e.ticket ≠ t)) ++ [q]) := by unfold Hid; rw [Hsn.out]; simp [ht]
        clear Hsn
        generalize (r.L.take k).filter (fun e => decide (e.ticket ≠ t)) = ks at *
        go_wp2_with (at_builtin; refine wpList_append_sl _ rfl _ _ _ rfl 52 (by kernel_rfl) Try.inf52 rfl (by decide) rfl (Hsl.out.alloc _) ⟨wr.heap.size, 0, none⟩ 1 1 (e24 q) rfl rfl (news_at _ _ _ rfl) (by simp [e24, Value.oneCell']) (by unfold maxLen; omega) (by omega) ?_; intro a5 c5 w5 happ)
        go_roundw
        case rel =>
          have hs := happ.sl
          have hf : Fr Non w w5 := (hfr.alloc _).trans happ.fr (fun i hi hk => by have := (Hsl.out.2 _ hk).1; omega)
          have h1 := hf.size
          have h2 := happ.fr.size
          have h3 := hfr.size
          refine ⟨k + 1, a5, c5, by omega, by go_num, by rw [hs1.out]; simp, hf, ?_⟩
          rw [hs1.out, rowsE_append, List.length_append]
          refine Sl.mono (by simpa [rowsE] using hs) (fun i hi => ?_)
          simp only [World.size_alloc] at h2 hi
          exact hi.elim (fun h => ⟨h.1, by have := h.2; omega⟩) (fun h => ⟨by omega, h.2⟩)
        case measure => simp [intOf]; omega
    · obtain rfl : k = r.L.length := by omega
      rw [List.take_length] at Hsl hml
      rw [List.take_length]
      clear hrow hsl hlt hc
      generalize hks : r.L.filter (fun e => decide (e.ticket ≠ t)) = ks at *
      have Hks := Lib.hid hks
      clear hks
      go_wp2
      obtain ⟨wo, rfl⟩ : ∃ wo : World, wo = wr := ⟨_, rfl⟩
      have Hfro := Lib.hid hfr
      clear hfr hcw
      go_loopw [7, 6] (fun i v wr => ∃ (k : Nat) (ua : Option Addr) (uc : Nat), k ≤ r.D.length ∧ i = .int .i64 k ∧ v = .slice ua ((r.D.take k).filter (fun x => decide (x ≠ t))).length uc ∧ Fr Non w wr ∧ Fr Non wo wr ∧
        Sl (New wo wr) wr 28 1 (.slice ua ((r.D.take k).filter (fun x => decide (x ≠ t))).length uc) ((r.D.take k).filter (fun x => decide (x ≠ t))).length (((r.D.take k).filter (fun x => decide (x ≠ t))).map (Value.int .u64))) (fun i _ _ => r.D.length - (intOf i).toNat)
      case atStart => exact ⟨0, none, 0, Nat.zero_le _, rfl, rfl, Hfro.out, Fr.refl _ _, Sl.nil _ _ _ _⟩
      case round =>
        obtain ⟨k, ua, uc, hk2, rfl, rfl, hfr, hfo, hsd⟩ := hrel
        have Hsd := Lib.hid hsd
        have hcw := blk_cell (hfr.keep H.out.top (fun h => h))
        have hml2 : ((r.D.take k).filter (fun x => decide (x ≠ t))).length ≤ k := Nat.le_trans (List.length_filter_le _ _) (by simp; omega)
        by_cases hlt : k < r.D.length
        · obtain ⟨g, rfl, _, hgl, hcl⟩ : ∃ g, da = some ⟨g, 0, none⟩ ∧ _ := hdrow.resolve_left (by omega)
          have hc0 : wr.cell? ⟨g, k, none⟩ = some (.int .u64 r.D[k]) := hfr.cell (hcl k _ (by simp [hlt])) (fun h => h)
          have Hsn := Lib.hid (filter_snoc (p := fun x => decide (x ≠ t)) hlt)
          clear hcl hdrow hsd
          generalize r.D[k] = q at *
          by_cases ht : q = t
          · have hs1 : Hid ((r.D.take (k + 1)).filter (fun x => decide (x ≠ t)) = (r.D.take k).filter (fun x => decide (x ≠ t))) := by unfold Hid; rw [Hsn.out]; simp [ht]
            clear Hsn
            generalize (r.D.take k).filter (fun x => decide (x ≠ t)) = ds at *
            go_wp2
            go_roundw
            case rel => exact ⟨k + 1, ua, uc, by omega, by go_num, by rw [hs1.out], hfr, hfo, by rw [hs1.out]; exact Hsd.out⟩
            case measure => simp [intOf]; omega
          · have hs1 : Hid ((r.D.take (k + 1)).filter (fun x => decide (x ≠ t)) = (r.D.take k).filter (fun x => decide (x ≠ t)) ++ [q]) := by unfold Hid; rw [Hsn.out]; simp [ht]
            clear Hsn
            generalize (r.D.take k).filter (fun x => decide (x ≠ t)) = ds at *
            go_wp2_with (at_builtin; refine wpList_append_sl _ rfl _ _ _ rfl 28 (by kernel_rfl) Try.inf28 rfl (by decide) rfl (Hsd.out.alloc _) ⟨wr.heap.size, 0, none⟩ 1 1 [.int .u64 q] rfl rfl (news_at _ _ _ rfl) (by simp [Value.oneCell']) (by unfold maxLen; omega) (by omega) ?_; intro a5 c5 w5 happ)
            go_roundw
            case rel =>
              have hs := happ.sl
              have hf : Fr Non wo w5 := (hfo.alloc _).trans happ.fr (fun i hi hk => by have := (Hsd.out.2 _ hk).1; omega)
              have h1 := hf.size
              have h2 := happ.fr.size
              have h3 := hfo.size
              refine ⟨k + 1, a5, c5, by omega, by go_num, by rw [hs1.out]; simp, Hfro.out.trans hf (fun _ _ h => h), hf, ?_⟩
              rw [hs1.out, List.map_append, List.length_append]
              refine Sl.mono (by simpa using hs) (fun i hi => ?_)
              simp only [World.size_alloc] at h2 hi
              exact hi.elim (fun h => ⟨h.1, by have := h.2; omega⟩) (fun h => ⟨by omega, h.2⟩)
            case measure => simp [intOf]; omega
        · obtain rfl : k = r.D.length := by omega
          rw [List.take_length] at Hsd hml2
          rw [List.take_length]
          have htop := hfr.keep H.out.top (fun h => h)
          have hfz := blk_free htop
          have hbr := lt_of_block htop
          have Htop := Lib.hid htop
          clear hdrow hsd hlt htop
          generalize hds : r.D.filter (fun x => decide (x ≠ t)) = ds at *
          have Hds := Lib.hid hds
          clear hds
          go_wp2
          go_end0
          have h := H.out
          have h6 := blk_set (i := 2) (blk_set (i := 1) Htop.out (.slice va ks.length vc)) (.slice ua ds.length uc)
          have hf6 : Fr (· = b) wr ((wr.setCell ⟨b, 1, none⟩ (.slice va ks.length vc)).setCell ⟨b, 2, none⟩ (.slice ua ds.length uc)) := (Fr.one wr b 1 _).setCell (p := ⟨b, 2, none⟩) (fun _ => rfl) _
          generalize (wr.setCell ⟨b, 1, none⟩ (.slice va ks.length vc)).setCell ⟨b, 2, none⟩ (.slice ua ds.length uc) = w6 at *
          have hf : Fr X w w6 := (hfr.mono (fun _ _ h => h.elim)).trans hf6 (fun _ _ e => e ▸ h.xb)
          have hz0 := Hfro.out.size
          have hz1 := hfo.size
          have hz2 := hf6.size
          have hr : r.take t = { r with L := ks, D := ds } := by unfold RS.take; rw [Hks.out, Hds.out]
          refine ⟨rfl, hf, .slice va ks.length vc, .slice ua ds.length uc, ?_⟩
          rw [hr]
          exact {
            top := h6
            xb := .inl h.xb
            l := ⟨ownsRow_fr hf6 (ownsRow_fr hfo Hsl.out.1 (fun _ _ h => h)) (fun k hk e => by have := (Hsl.out.2 k hk).1; omega), fun k hk => .inr ⟨(Hsl.out.2 k hk).1, by have := (Hsl.out.2 k hk).2; omega⟩⟩
            d := ⟨ownsRow_fr hf6 Hsd.out.1 (fun k hk e => by have := (Hsd.out.2 k hk).1; omega), fun k hk => .inr ⟨by have := (Hsd.out.2 k hk).1; omega, by have := (Hsd.out.2 k hk).2; omega⟩⟩
            lt := fun k hk => hk.elim (fun hk => Nat.lt_of_lt_of_le (h.lt k hk) hf.size) (fun hk => hk.2) }
end Go.Proofs.Ytidmlkedebjbgaa
