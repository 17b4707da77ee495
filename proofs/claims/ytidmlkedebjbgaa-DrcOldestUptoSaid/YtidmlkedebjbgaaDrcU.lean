/-
  The document's cache: Arrive lays a new entry, or finds no room.
-/
import Derived.Test.YtidmlkedebjbgaaDrcT
namespace Go.Proofs.Ytidmlkedebjbgaa
open Go.RowKit

def RS.push (r : RS) (k : Int × ByteArray) : RS := { r with last := r.last + 1, L := r.L ++ [⟨k.1, k.2, r.last + 1, emp, false⟩] }
def RRoom (r r' : RS) : Prop := ((r.L.length : Int) < r.most ∧ r' = r) ∨ (r.most ≤ (r.L.length : Int) ∧ ∃ d t, r.D = d :: t ∧ r' = r.take d)

set_option maxRecDepth 100000 in
set_option maxHeartbeats 1000000 in
theorem rarrive_new (X : Nat → Prop) (w : World) (b : Nat) (r r' : RS) (client : Int) (s : ByteArray) (h : IsR X w b r) (hlen : r.L.length ≤ 1024) (hdlen : r.D.length ≤ 1024) (hl : s.size ≤ 4096) (hh : r.hit (client, s) = none) (hr : RRoom r r')
    (hlen' : r'.L.length ≤ 1024) (hlo : 0 ≤ r.last) (hlast : r'.last = r.last) (hbig : r.last + 1 < 18446744073709551616) :
    Calls Try.prog 28 #[ptr b, .int .i64 client, .string s] w fun e w' => e = .returned (arr 0 (r.last + 1) emp) ∧ Fr X w w' ∧ IsR (Nw X w w') w' b (r'.push (client, s)) := by
  have hI := Lib.hid h
  obtain ⟨lv, dv, h⟩ := h
  obtain ⟨la, lc, rfl, _, _, _, hrow⟩ := h.l.open
  obtain ⟨da, dc, rfl, _, _, _, hdrow⟩ := h.d.open
  have hb := lt_of_block h.top
  have hnx : ¬ X w.heap.size := fun hx => by have := h.lt _ hx; omega
  have H := Lib.hid h
  have Hr := Lib.hid hr
  have Hlast := Lib.hid hlast
  have Hh : Hid (∀ x ∈ r.L, decide ((client, s) = x.key) = false) := fun x hx => by
    unfold RS.hit at hh
    have := List.find?_eq_none.1 hh x hx
    simpa using this
  clear h hh hr hlast
  unfold ptr
  go_enter Try.func28, Try.ntmps28
  go_wp2
  have hfr0 : Fr Non w (w.alloc (.cells #[.int .i64 0, .int .u64 0, .string ⟨#[]⟩] 30)) := (Fr.refl _ _).alloc _
  go_loopw [7, 8] (fun i _ wr => ∃ (k : Nat), k ≤ r.L.length ∧ i = .int .i64 k ∧ Fr Non w wr ∧ wr.heap[w.heap.size]? = some (.cells #[.int .i64 0, .int .u64 0, .string ⟨#[]⟩] 30 (0, 0))) (fun i _ _ => r.L.length - (intOf i).toNat)
  case atStart => exact ⟨0, Nat.zero_le _, rfl, hfr0, blk_new w _ rfl⟩
  case round =>
    obtain ⟨k, hk, rfl, hfr, hres⟩ := hrel
    have hcw := blk_cell (hfr.keep H.out.top (fun h => h))
    have hrl := lt_of_block hres
    have Hres := Lib.hid hres
    clear hres
    by_cases hlt : k < r.L.length
    · obtain ⟨g, rfl, _, hgl, hcl⟩ : ∃ g, la = some ⟨g, 0, none⟩ ∧ _ := hrow.resolve_left (by omega)
      have hcj : ∀ j, j < 5 → wr.cell? ⟨g, k * 5 + j, none⟩ = (e24 r.L[k])[j]? := fun j hj => by
        have h1 := rowsE_at _ _ hlt j hj
        have h2 : ∃ u, (e24 r.L[k])[j]? = some u := ⟨_, List.getElem?_eq_getElem (by simpa [e24] using hj)⟩
        obtain ⟨u, hu⟩ := h2
        rw [hu]; exact hfr.cell (hcl _ u (h1.trans hu)) (fun h => h)
      have hc0 : wr.cell? ⟨g, k * 5, none⟩ = some (.int .u64 r.L[k].ticket) := hcj 0 (by omega)
      have hc1 : wr.cell? ⟨g, k * 5 + 1, none⟩ = some (.int .i64 r.L[k].client) := hcj 1 (by omega)
      have hc2 : wr.cell? ⟨g, k * 5 + 2, none⟩ = some (.string r.L[k].rcd) := hcj 2 (by omega)
      have hc3 : wr.cell? ⟨g, k * 5 + 3, none⟩ = some (.string r.L[k].reply) := hcj 3 (by omega)
      have hc4 : wr.cell? ⟨g, k * 5 + 4, none⟩ = some (.bool r.L[k].done) := hcj 4 (by omega)
      have Hq := Lib.hid (Hh.out r.L[k] (by simp))
      clear hcl hcj hrow
      generalize r.L[k] = q at *
      by_cases hcl : q.client = client
      · by_cases hrc' : q.rcd = s
        · exact absurd Hq.out (by simp [Ent.key, hcl, hrc'])
        · have hb2 : (q.rcd.toList == s.toList) = false := by rw [← beq_toListBytes, bytes_beq]; simp [hrc']
          subst hcl
          clear hbig
          go_wp2
          go_roundw
          case rel => exact ⟨k + 1, by omega, by go_num, hfr.alloc _, blk_old_some Hres.out _⟩
          case measure => simp [intOf]; omega
      · clear hbig
        go_wp2
        go_roundw
        case rel => exact ⟨k + 1, by omega, by go_num, hfr.alloc _, blk_old_some Hres.out _⟩
        case measure => simp [intOf]; omega
    · obtain rfl : k = r.L.length := by omega
      obtain ⟨wo, rfl⟩ : ∃ wo : World, wo = wr := ⟨_, rfl⟩
      clear hlt hrow
      go_upto_region 11 with (fail)
      go_quiet (fail)
      go_upto_if 58 with (fail)
      go_cut [] (fun wx => IsR (Nw X w wx) wx b r' ∧ Fr X w wx ∧ wx.heap[w.heap.size]? = some (.cells #[.int .i64 0, .int .u64 0, .string ⟨#[]⟩] 30 (0, 0)))
      case first =>
        clear hbig
        have hi0 := (hI.out.fr (hfr.drewN nq) (fun _ _ h => h))
        have Hi0 := Lib.hid hi0
        clear hi0
        have hres1 := Hres.out
        have Hres1 : Hid ((wo.drewN nq).heap[w.heap.size]? = some (.cells #[.int .i64 0, .int .u64 0, .string ⟨#[]⟩] 30 (0, 0))) := Hres.out
        clear hres1
        have hX0 : ∀ k, X k → k < w.heap.size := fun k hk => H.out.lt k hk
        rcases Hr.out with ⟨hlt, rfl⟩ | ⟨hge, d, t, hD, rfl⟩
        · go_wp2
          go_meet
          have hz := hfr.size
          exact ⟨Hi0.out.mono (fun k hk => .inl hk) (fun k hk => hk.elim (fun h => Nat.lt_of_lt_of_le (hX0 k h) hz) (fun h => h.2)), (hfr.mono (fun _ _ h => h.elim)).drewN _, Hres1.out⟩
        · have hlenD : r.D.length = t.length + 1 := by rw [hD]; rfl
          obtain ⟨g, rfl, hxg, hgl, hcell⟩ := hdrow.resolve_left (by omega)
          have hcell0 : wo.cell? ⟨g, 0, none⟩ = some (.int .u64 d) := hfr.cell (hcell 0 _ (by rw [hD]; rfl)) (fun h => h)
          have htk := Lib.hid (rtake_calls X _ b r d Hi0.out hlen hdlen)
          have hpos2 : 0 < r.D.length := by omega
          have hn0 : (((r.D.length : Nat) : Int) == 0) = false := beq_eq_false_iff_ne.2 (by omega)
          have hcne : ¬ ((r.D.length : Int) = 0) := by omega
          clear hcell hlenD hD hdrow
          go_wp2_with fail
          refine (htk.out).mono ?_
          rintro e1 w1 ⟨rfl, hfr1, hi1⟩
          go_wp2_with fail
          go_meet
          have hz := hfr.size
          have hz1 := hfr1.size
          have hz2 : (wo.drewN nq).heap.size = wo.heap.size := rfl
          exact ⟨hi1.mono (fun k hk => hk.imp id (fun h => ⟨by have := h.1; omega, h.2⟩)) (fun k hk => hk.elim (fun h => by have := hX0 k h; omega) (fun h => h.2)), ((hfr.mono (fun _ _ h => h.elim)).drewN _).trans hfr1 (fun _ _ h => h), hfr1.keep Hres1.out hnx⟩
      case rest =>
        obtain ⟨⟨lv2, dv2, h2⟩, hfr2, hres2⟩ := hcut
        obtain ⟨la2, lc2, rfl, _, _, _, _⟩ := h2.l.open
        have htop2 := h2.top
        rw [Hlast.out] at htop2
        have hc2 := blk_cell htop2
        have hf2 := blk_free htop2
        have hrf := blk_free hres2
        have hrc := blk_cell hres2
        have hrl2 := lt_of_block hres2
        have n1 : b ≠ w.heap.size := by omega
        have n3 : w.heap.size ≠ b := by omega
        have n6 : b < wc.heap.size := by omega
        have H2 := Lib.hid h2
        have Htop2 := Lib.hid htop2
        have Hres2 := Lib.hid hres2
        have hl2 := h2.l.setCell (i := 3) (b := b) (fun e => (h2.dl b e).1 rfl) (.int .u64 (r.last + 1))
        clear h2 htop2 hres2 hcw
        go_wp2
        go_region_law (first | (refine step_append_sl (by rfl) _ _ _ (by rfl) 52 (by kernel_rfl) Try.inf52 rfl (by decide) (by rfl) ((hl2.alloc _).drew) ⟨wc.heap.size, 0, none⟩ 1 1 (e24 ⟨client, s, r.last + 1, emp, false⟩) (by rfl) (by rfl) (news_at _ _ _ (by simp)) (by simp [e24, Value.oneCell']) (by unfold maxLen; omega) (by omega) ?_; intro a5 c5 w5 happ; have hfr35 : Fr (fun j => (Value.slice la2 r'.L.length lc2).ownBlock = some j) (wc.setCell ⟨b, 3, none⟩ (.int .u64 (r.last + 1))) w5 := ((Fr.refl _ _).alloc _).drew.trans happ.fr (fun _ _ h => h); have htop5 := hfr35.keep (blk_set (i := 3) Htop2.out (.int .u64 (r.last + 1))) (fun e => (H2.out.dl _ e).1 rfl); have hdc5 := blk_cell htop5; have hdf5 := blk_free htop5; have Htop5 := Lib.hid htop5; clear htop5))
        all_goals
          have Happ := Lib.hid happ
          have hres5 := hfr35.keep ((blk_set_other n3 _).trans Hres2.out) (fun e => by
            rcases H2.out.l.2 _ e with hx | hx
            · exact hnx hx
            · obtain ⟨c, hc⟩ := H2.out.l.row e
              rw [Hres2.out] at hc
              cases hc)
          have hrf5 := blk_free hres5
          have hrc5 := blk_cell hres5
          have Hres5 := Lib.hid hres5
          clear happ hres5 hc2 hf2 hrf hrc
          go_wp2
          have hE := fun x y z => blk_set (i := 2) (blk_set (i := 1) (blk_set (i := 0) ((blk_set_other (i := 1) n3 (.slice a5 (r'.L.length + 1) c5)).trans Hres5.out) x) y) z
          have hresE := fun x y z => blk_cell (hE x y z)
          have hfr56 := Fr.one w5 b 1 (.slice a5 (r'.L.length + 1) c5)
          have h6 := blk_set (i := 1) Htop5.out (.slice a5 (r'.L.length + 1) c5)
          generalize hW6 : w5.setCell ⟨b, 1, none⟩ (.slice a5 (r'.L.length + 1) c5) = w6 at *
          have hfr6E : Fr (· = w.heap.size) w6 (((w6.setCell ⟨w.heap.size, 0, none⟩ (.int .i64 0)).setCell ⟨w.heap.size, 1, none⟩ (.int .u64 (r.last + 1))).setCell ⟨w.heap.size, 2, none⟩ (.string ⟨#[]⟩)) :=
            ((Fr.one _ _ _ _).setCell (p := ⟨w.heap.size, 1, none⟩) (fun _ => rfl) _).setCell (p := ⟨w.heap.size, 2, none⟩) (fun _ => rfl) _
          generalize hWE : ((w6.setCell ⟨w.heap.size, 0, none⟩ (.int .i64 0)).setCell ⟨w.heap.size, 1, none⟩ (.int .u64 (r.last + 1))).setCell ⟨w.heap.size, 2, none⟩ (.string ⟨#[]⟩) = wE at *
          have hcE : ∀ o, wE.cell? ⟨w.heap.size, o, none⟩ = _ := hWE ▸ hresE (.int .i64 0) (.int .u64 (r.last + 1)) (.string ⟨#[]⟩)
          have h2 := H2.out
          have hfr3E : Fr (fun j => (Value.slice la2 r'.L.length lc2).ownBlock = some j ∨ j = b ∨ j = w.heap.size) wc wE :=
            ((((Fr.one wc b 3 (.int .u64 (r.last + 1))).mono (fun _ _ h => .inr (.inl h))).trans hfr35 (fun _ _ h => .inl h)).trans hfr56 (fun _ _ h => .inr (.inl h))).trans hfr6E (fun _ _ h => .inr (.inr h))
          have hfr5E : Fr (fun j => j = b ∨ j = w.heap.size) w5 wE := (hfr56.mono (fun _ _ h => .inl h)).trans hfr6E (fun _ _ h => .inr h)
          have hz2 := hfr2.size
          have hz3 := hfr3E.size
          have hz5 := hfr5E.size
          have hz35 := Happ.out.fr.size
          simp at hz35
          have hne2 : ∀ j, (Value.slice la2 r'.L.length lc2).ownBlock = some j → j ≠ w.heap.size := fun j hj e => by
            obtain ⟨c, hc⟩ := h2.l.row hj
            rw [e, Hres2.out] at hc
            cases hc
          have hned : ∀ j, dv2.ownBlock = some j → j ≠ w.heap.size := fun j hj e => by
            obtain ⟨c, hc⟩ := h2.d.row hj
            rw [e, Hres2.out] at hc
            cases hc
          have hown : ∀ j, (Value.slice a5 (r'.L.length + 1) c5).ownBlock = some j → (Value.slice la2 r'.L.length lc2).ownBlock = some j ∨ wc.heap.size < j := fun j hj => (Happ.out.own j hj).imp id (fun h => by simp at h; omega)
          have hfrw : Fr X w wE := hfr2.trans hfr3E (fun k hk h => h.elim (fun h => (h2.l.2 k h).elim id (fun h => by have := h.1; omega)) (fun h => h.elim (fun h => h ▸ H.out.xb) (fun h => by omega)))
          have hcat : IsRat (Nw X w wE) wE b (r'.push (client, s)) (.slice a5 (r'.L.length + 1) c5) dv2 := {
            top := by
              have := hfr6E.keep h6 n1
              unfold RS.push
              rw [Hlast.out]
              exact this
            xb := .inl H.out.xb
            l := by
              have hp : (r'.push (client, s)).L = r'.L ++ [⟨client, s, r.last + 1, emp, false⟩] := by unfold RS.push; rw [Hlast.out]
              rw [hp, rowsE_append, List.length_append]
              have h1 := Happ.out.sl
              refine ⟨ownsRow_fr hfr5E (by simpa [rowsE] using h1.1) (fun j hj e => (hown j hj).elim (fun h => e.elim (fun e => (h2.dl j h).1 e) (hne2 j h)) (fun h => e.elim (fun e => by omega) (fun e => by omega))), fun j hj => ?_⟩
              rcases hown j hj with h | h
              · exact (h2.l.2 j h).imp id (fun h => ⟨h.1, by have := h.2; omega⟩)
              · exact .inr ⟨by omega, Nat.lt_of_lt_of_le (h1.lt j hj) hz5⟩
            d := ⟨ownsRow_fr hfr3E h2.d.1 (fun j hj e => e.elim (fun e => (h2.dl j e).2 hj) (fun e => e.elim (h2.dd j hj) (hned j hj))), fun j hj => (h2.d.2 j hj).imp id (fun h => ⟨h.1, by have := h.2; omega⟩)⟩
            lt := fun k hk => hk.elim (fun hk => by have := H.out.lt k hk; omega) (fun hk => hk.2) }
          clear hresE hE
          exact bodyPost_ret (v := arr 0 (r.last + 1) emp) (by simp [results, Try.results28, go_sem, arr, emp, hcE]) rfl ⟨rfl, hfrw, _, _, hcat⟩
end Go.Proofs.Ytidmlkedebjbgaa
