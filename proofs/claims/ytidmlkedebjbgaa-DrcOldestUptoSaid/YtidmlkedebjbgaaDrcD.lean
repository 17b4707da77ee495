/-
  drc: Arrive lays a new entry.
-/
import Derived.Test.YtidmlkedebjbgaaDrcC
namespace Go.Proofs.Ytidmlkedebjbgaa
open Go.RowKit

set_option maxRecDepth 100000 in
set_option maxHeartbeats 1000000 in
theorem arrive_new (X : Nat → Prop) (w : World) (b : Nat) (s s' : PS) (client : Int) (v : Value) (bs : List UInt8) (h : IsC X w b s) (hg : Good s) (hv : Bts w v bs) (hl : bs.length ≤ 4096) (hp : s.find (client, str bs) = none) (hr : Room s s')
    (hp' : s'.find (client, str bs) = none) (hlast : s'.last = s.last) (hl' : s'.l.length ≤ 1024) (hbig : s.last + 1 < 18446744073709551616) :
    Calls Try.prog 11 #[ptr b, .int .i64 client, v] w fun e w' => ∃ q, w.heap.size ≤ q ∧ e = .returned (arr 0 (s.last + 1) emp) ∧ Fr X w w' ∧ IsC (Nw X w w') w' b (s'.push q (client, str bs)) := by
  have hI := Lib.hid h
  obtain ⟨mb, lv, ov, h⟩ := h
  have hnx : ¬ X w.heap.size := fun hx => by have := h.lt _ hx; omega
  have hc := blk_cell h.top
  have hb := lt_of_block h.top
  have hconv := conv_bytes (P := Try.prog) (src := 32) (e := 5) (dst := 9) (by kernel_rfl) (by kernel_rfl) (by kernel_rfl) (hv.fr (((Fr.refl Non w).alloc (.cells #[.int .i64 0, .int .u64 0, .string emp] 30))) (fun _ _ h => h))
  have hlook : ∀ w', Fr Non w w' → (Instr.lookup 60 (.map (some mb)) (kf (client, str bs)) false).run Try.prog w' = .ok (.pointer none) w' := fun w' hf => by
    have := run_lookup_key keyLaw w' (h.map.fr hf (fun h => h)) Try.und60 (Try.zero66 w') (client, str bs) trivial (fun _ _ => trivial)
    rw [this, PS.find_get, hp]; rfl
  obtain ⟨a, c, rfl, h1, h2, _⟩ := hv
  obtain ⟨la, lc, rfl, _, _, _, _⟩ := h.l.open
  obtain ⟨oa, oc, rfl, hoc, _, _, hro⟩ := h.old.open
  unfold kf at hlook
  unfold emp at hconv
  have hgood := Lib.hid hg
  have hln : s.l.length ≤ 1024 := by have := hg.few; have := hg.most2; omega
  have hpl : s.ptrs.length = s.l.length := by simp [PS.ptrs]
  have hlo : 0 ≤ s.last := hg.last
  have hol := hg.oldLen
  unfold ptr
  have Hl := Lib.hid hlook
  have H := Lib.hid h
  have Hr := Lib.hid hr
  have Hlast := Lib.hid hlast
  have Hp' := Lib.hid hp'
  rw [hpl] at hc
  clear hlook hp h hr hlast hp' hg hpl
  go_enter Try.func11, Try.ntmps11
  go_wp2
  have hl := fun n => Hl.out _ ((((Fr.refl Non w).alloc (.cells #[.int .i64 0, .int .u64 0, .string ⟨#[]⟩] 30)).alloc (.cells #[.int .i64 client, .string (str bs)] 65)).drewN n)
  go_quiet (fail)
  clear hl
  generalize nq = n0
  go_upto_region 12 with (fail)
  go_quiet (fail)
  go_upto_if 53 with (fail)
  go_cut [] (fun wx => IsC X wx b s' ∧ Fr X w wx ∧ wx.heap[w.heap.size]? = some (.cells #[.int .i64 0, .int .u64 0, .string ⟨#[]⟩] 30 (0, 0)) ∧ wx.heap[w.heap.size + 1]? = some (.cells #[.int .i64 client, .string (str bs)] 65 (0, 0)))
  case first =>
    clear hbig
    have hfr0 : Fr Non w (((w.alloc (.cells #[.int .i64 0, .int .u64 0, .string ⟨#[]⟩] 30)).alloc (.cells #[.int .i64 client, .string (str bs)] 65)).drewN (n0 + nq)) := (((Fr.refl Non w).alloc _).alloc _).drewN _
    have hi0 := hI.out.fr hfr0 (fun _ _ h => h)
    have hresA : (((w.alloc (.cells #[.int .i64 0, .int .u64 0, .string ⟨#[]⟩] 30)).alloc (.cells #[.int .i64 client, .string (str bs)] 65)).drewN (n0 + nq)).heap[w.heap.size]? = some (.cells #[.int .i64 0, .int .u64 0, .string ⟨#[]⟩] 30 (0, 0)) :=
      blk_old_some (blk_new w _ rfl) (.cells #[.int .i64 client, .string (str bs)] 65)
    have hkeyA : (((w.alloc (.cells #[.int .i64 0, .int .u64 0, .string ⟨#[]⟩] 30)).alloc (.cells #[.int .i64 client, .string (str bs)] 65)).drewN (n0 + nq)).heap[w.heap.size + 1]? = some (.cells #[.int .i64 client, .string (str bs)] 65 (0, 0)) :=
      blk_new (n := w.heap.size + 1) (w.alloc (.cells #[.int .i64 0, .int .u64 0, .string ⟨#[]⟩] 30)) (.cells #[.int .i64 client, .string (str bs)] 65) (by simp)
    have Hi0 := Lib.hid hi0
    have HresA := Lib.hid hresA
    have HkeyA := Lib.hid hkeyA
    clear hi0 hresA hkeyA
    rcases Hr.out with ⟨hlt, rfl⟩ | ⟨hge, o, t, hold, rfl⟩
    · go_wp2
      go_meet
      exact ⟨Hi0.out, hfr0.mono (fun _ _ h => h.elim), HresA.out, HkeyA.out⟩
    · have hlen : s.old.length = t.length + 1 := by rw [hold]; rfl
      obtain ⟨g, rfl, hxg, hgl, hcell⟩ := hro.resolve_left (by omega)
      have hcell0 : w.cell? ⟨g, 0, none⟩ = some (ptr o) := hcell 0 _ (by rw [hold]; rfl)
      obtain ⟨e, he, _⟩ := hgood.out.oldIn o (by rw [hold]; simp)
      have hout := Lib.hid (out_calls X _ b s (o, e) Hi0.out hgood.out he)
      have hpos : ¬ s.old.length = 0 := by omega
      have hpos2 : 0 < s.old.length := by omega
      have hcne : ¬ ((s.old.length : Int) = 0) := by omega
      have hxg0 : g ≠ w.heap.size := by omega
      have hxg1 : g ≠ w.heap.size + 1 := by omega
      unfold ptr at hcell0
      clear hcell hlen hold hro
      go_wp2_with fail
      refine (hout.out).mono ?_
      rintro e1 w1 ⟨rfl, hfr1, hi1⟩
      go_wp2_with fail
      go_meet
      exact ⟨hi1, (hfr0.mono (fun _ _ h => h.elim)).trans hfr1 (fun _ _ h => h), hfr1.keep HresA.out hnx, hfr1.keep HkeyA.out (fun hx => by obtain ⟨_, _, _, h⟩ := hI.out; have := h.lt _ hx; omega)⟩
  case rest =>
    obtain ⟨⟨mb2, lv2, ov2, h2⟩, hfr, hres, hkey⟩ := hcut
    have hd2 := h2.dis
    obtain ⟨la2, lc2, rfl, _, _, _, _⟩ := h2.l.open
    have htop2 := h2.top
    rw [Hlast.out] at htop2
    have hc2 := blk_cell htop2
    have hf2 := blk_free htop2
    have hkc := blk_cell hkey
    have hrf := blk_free hres
    have hrc := blk_cell hres
    have hz1 := lt_of_block hkey
    have n1 : b ≠ w.heap.size := by omega
    have n2 : b ≠ w.heap.size + 1 := by omega
    have n3 : w.heap.size ≠ b := by omega
    have n4 : w.heap.size + 1 ≠ b := by omega
    have n5 : w.heap.size ≠ w.heap.size + 1 := by omega
    have n6 : b < wc.heap.size := by omega
    have n7 : w.heap.size < wc.heap.size := by omega
    have H2 := Lib.hid h2
    have Hd2 := Lib.hid hd2
    have Htop2 := Lib.hid htop2
    have Hres := Lib.hid hres
    have Hkey := Lib.hid hkey
    clear h2 hd2 htop2 hres hkey
    go_wp2
    refine region_tail 6 (by kernel_rfl) (by kernel_rfl) ?_
    simp only [List.take_succ_cons, List.take_zero, List.drop_succ_cons, List.drop_zero]
    repeat still_step
    refine wpStill_nil ?_
    go_wp2
    refine region_tail 6 (by kernel_rfl) (by kernel_rfl) ?_
    simp only [List.take_succ_cons, List.take_zero, List.drop_succ_cons, List.drop_zero]
    repeat still_step
    refine wpStill_nil ?_
    refine wpList_mapUpdate_key (mt := 60) keyLaw _ rfl _ _ _ rfl rfl (H2.out.map.fr (X := (· = b)) ((((Fr.one wc b 4 _).alloc _).drew).drew) (fun e => Hd2.out.bm e.symm)) Try.und60 (client, str bs) rfl trivial (fun _ _ => trivial) (ptr wc.heap.size) rfl ?_
    intro w4 hmd4
    obtain ⟨hm4, hfr4, hs4⟩ := hmd4
    rw [find_push Hp'.out] at hm4
    have htop4 := hfr4.keep ((blk_old _ (by simpa using n6)).trans (blk_set (i := 4) Htop2.out (.int .u64 (s.last + 1)))) Hd2.out.bm
    have hent4 := hfr4.keep (blk_new (n := wc.heap.size) (wc.setCell ⟨b, 4, none⟩ (.int .u64 (s.last + 1))) (.cells #[.int .i64 client, .string (str bs), .int .u64 (s.last + 1), .string ⟨#[]⟩, .bool false] 68) (by simp)) (fun e => by have := H2.out.map.lt; omega)
    have hz4 : w4.heap.size = wc.heap.size + 1 := by rw [hs4]; simp
    have hl4 : Sl X w4 66 1 _ s'.ptrs.length (s'.ptrs.map ptr) :=
      ⟨ownsRow_fr hfr4 ((((H2.out.l.setCell (i := 4) (fun e => (Hd2.out.bl _ e).1 rfl) (.int .u64 (s.last + 1))).alloc _).drew).drew).1 (fun k hk => (Hd2.out.bl k hk).2), H2.out.l.2⟩
    have hres4 := hfr4.keep ((blk_old _ (by simpa using n7)).trans ((blk_set_other n3 _).trans Hres.out)) (fun (e : w.heap.size = mb2) => hnx (e ▸ H2.out.xm))
    have hc4 := blk_cell htop4
    have hf4 := blk_free htop4
    have hec := blk_cell hent4
    have hrf4 := blk_free hres4
    have Htop4 := Lib.hid htop4
    have Hent4 := Lib.hid hent4
    have Hres4 := Lib.hid hres4
    have Hz4 := Lib.hid hz4
    have hz4' : wc.heap.size < w4.heap.size := by omega
    clear htop4 hent4 hres4 hc2 hf2 hrc hrf hkc hs4 hz4
    have hpl2 : s'.ptrs.length ≤ 1024 := by simpa [PS.ptrs] using hl'
    go_wp2_with (at_builtin; refine wpList_append_sl _ rfl _ _ _ rfl 66 (by kernel_rfl) Try.inf66 rfl (by decide) rfl (hl4.alloc _) ⟨w4.heap.size, 0, none⟩ 1 1 [ptr wc.heap.size] rfl rfl (news_new w4 _ _) (by simp [ptr, Value.oneCell']) (by unfold maxLen; omega) (by omega) ?_)
    intro a5 c5 w5 happ
    obtain ⟨hsl5, hfr5, hown5, _, _⟩ := happ
    have hfr45 : Fr (fun k => (Value.slice la2 s'.ptrs.length lc2).ownBlock = some k) w4 w5 := ((Fr.refl _ _).alloc _).trans hfr5 (fun _ _ h => h)
    have htop5 := hfr45.keep Htop4.out (fun e => (Hd2.out.bl _ e).1 rfl)
    have hlown : ∀ k, (Value.slice la2 s'.ptrs.length lc2).ownBlock = some k → k < wc.heap.size ∧ X k := fun k hk => ⟨H2.out.l.lt k hk, H2.out.l.2 k hk⟩
    have hent5 := hfr45.keep Hent4.out (fun e => by have := (hlown _ e).1; omega)
    have hres5 := hfr45.keep Hres4.out (fun e => hnx (hlown _ e).2)
    have hc5 := blk_cell htop5
    have hf5 := blk_free htop5
    have hec5 := blk_cell hent5
    have hrc5 := blk_cell hres5
    have hrf5 := blk_free hres5
    have n8 : wc.heap.size ≠ b := by omega
    have n9 : b ≠ wc.heap.size := by omega
    have n10 : wc.heap.size ≠ w.heap.size := by omega
    have Htop5 := Lib.hid htop5
    have Hent5 := Lib.hid hent5
    have Hres5 := Lib.hid hres5
    have Hown5 := Lib.hid hown5
    have Hlown := Lib.hid hlown
    clear htop5 hent5 hres5 hown5 hlown hc4 hf4 hec hrf4
    go_wp2
    generalize hW6 : w5.setCell ⟨b, 2, none⟩ (.slice a5 (s'.ptrs.length + 1) c5) = w6 at *
    have hfrE : Fr (· = w.heap.size) w6 (((w6.setCell ⟨w.heap.size, 0, none⟩ (.int .i64 0)).setCell ⟨w.heap.size, 1, none⟩ (.int .u64 (s.last + 1))).setCell ⟨w.heap.size, 2, none⟩ (.string ⟨#[]⟩)) :=
      ((Fr.one _ _ _ _).setCell (p := ⟨w.heap.size, 1, none⟩) (fun _ => rfl) _).setCell (p := ⟨w.heap.size, 2, none⟩) (fun _ => rfl) _
    have hres6 : w6.heap[w.heap.size]? = _ := hW6 ▸ (blk_set_other n3 (.slice a5 (s'.ptrs.length + 1) c5)).trans Hres5.out
    have hresE := blk_cell (blk_set (i := 2) (blk_set (i := 1) (blk_set (i := 0) hres6 (.int .i64 0)) (.int .u64 (s.last + 1))) (.string ⟨#[]⟩))
    generalize hWE : ((w6.setCell ⟨w.heap.size, 0, none⟩ (.int .i64 0)).setCell ⟨w.heap.size, 1, none⟩ (.int .u64 (s.last + 1))).setCell ⟨w.heap.size, 2, none⟩ (.string ⟨#[]⟩) = wE at *
    have HE := Lib.hid hfrE
    clear hc5 hf5 hec5 hrc5 hrf5 hres6 hWE hfrE
    have h2 := H2.out
    have hd2 := Hd2.out
    have hfr56 : Fr (· = b) w5 w6 := hW6 ▸ Fr.one _ _ _ _
    have hfr5E : Fr (fun k => k = b ∨ k = w.heap.size) w5 wE := (hfr56.mono (fun _ _ h => .inl h)).trans HE.out (fun _ _ h => .inr h)
    have hfr4E : Fr (fun k => (Value.slice la2 s'.ptrs.length lc2).ownBlock = some k ∨ k = b ∨ k = w.heap.size) w4 wE := (hfr45.mono (fun _ _ h => .inl h)).trans hfr5E (fun _ _ h => .inr h)
    have hfrcE : Fr (fun k => (Value.slice la2 s'.ptrs.length lc2).ownBlock = some k ∨ k = b ∨ k = mb2 ∨ k = w.heap.size) wc wE :=
      ((((((Fr.one wc b 4 _).alloc _).drew).drew).mono (fun _ _ h => .inr (.inl h))).trans hfr4 (fun _ _ h => .inr (.inr (.inl h)))).trans hfr4E (fun _ _ h => h.elim .inl (fun h => h.elim (fun h => .inr (.inl h)) (fun h => .inr (.inr (.inr h)))))
    have hown5 : ∀ k, (Value.slice a5 (s'.ptrs.length + 1) c5).ownBlock = some k → ((Value.slice la2 s'.ptrs.length lc2).ownBlock = some k ∨ wc.heap.size < k) := fun k hk => (Hown5.out k hk).imp id (fun h => by simp at h; omega)
    have hlown := Hlown.out
    have hsz : wc.heap.size < wE.heap.size := by have := hfr4E.size; omega
    have hXlt : ∀ k, X k → k < w.heap.size := fun k hk => H2.out.lt k hk |> fun _ => by have := hI.out; obtain ⟨_, _, _, h⟩ := this; exact h.lt k hk
    have htopE := hfr5E.size
    have hfrw : Fr X w wE := hfr.trans hfrcE (fun k hk h => h.elim (fun h => (hlown k h).2) (fun h => h.elim (fun h => h ▸ h2.xb) (fun h => h.elim (fun h => h ▸ h2.xm) (fun h => by omega))))
    have hcat : IsCat (Nw X w wE) wE b (s'.push wc.heap.size (client, str bs)) mb2 (.slice a5 (s'.ptrs.length + 1) c5) ov2 := {
      top := by
        have h6 : w6.heap[b]? = _ := hW6 ▸ blk_set (i := 2) Htop5.out (.slice a5 (s'.ptrs.length + 1) c5)
        have hE := HE.out.keep h6 n1
        unfold PS.push
        rw [Hlast.out]
        exact hE
      xb := .inl h2.xb
      xm := .inl h2.xm
      map := by
        have := hm4.fr hfr4E (fun h => h.elim (fun h => (hd2.bl _ h).2 rfl) (fun h => h.elim (fun h => hd2.bm h.symm) (fun h => hnx (h ▸ h2.xm))))
        simpa [PS.push, PS.ents, Ent.key] using this
      l := by
        have hp : (s'.push wc.heap.size (client, str bs)).ptrs = s'.ptrs ++ [wc.heap.size] := by simp [PS.push, PS.ptrs]
        rw [hp, List.map_append, List.length_append]
        refine ⟨ownsRow_fr hfr5E hsl5.1 (fun k hk h => (hown5 k hk).elim (fun hl => h.elim (fun h => (hd2.bl k hl).1 h) (fun h => hnx (h ▸ (hlown k hl).2))) (fun hl => h.elim (fun h => by omega) (fun h => by omega))), fun k hk => ?_⟩
        rcases hown5 k hk with hl | hl
        · exact .inl (hlown k hl).2
        · exact .inr ⟨by omega, Nat.lt_of_lt_of_le (hsl5.lt k hk) hfr5E.size⟩
      old := ⟨ownsRow_fr hfrcE h2.old.1 (fun k hk h => h.elim (fun h => hd2.lo k h hk) (fun h => h.elim (fun h => (hd2.bo k hk).1 h) (fun h => h.elim (fun h => (hd2.bo k hk).2 h) (fun h => hnx (h ▸ h2.old.2 k hk))))), fun k hk => .inl (h2.old.2 k hk)⟩
      apart := fun k hk hk' => (hown5 k hk).elim (fun hl => hd2.lo k hl hk') (fun hl => by have := h2.old.lt k hk'; omega)
      ents := by
        intro p hp
        simp only [PS.push, List.mem_append, List.mem_singleton] at hp
        rcases hp with hp | rfl
        · exact ⟨.inl (h2.ents p hp).1, hfrcE.keep (h2.ents p hp).2 (fun h => h.elim (fun h => (hd2.e p hp).2.2.1 h) (fun h => h.elim (fun h => (hd2.e p hp).1 h) (fun h => h.elim (fun h => (hd2.e p hp).2.1 h) (fun h => hnx (h ▸ (h2.ents p hp).1)))))⟩
        · refine ⟨.inr ⟨by omega, hsz⟩, ?_⟩
          have := hfr5E.keep Hent5.out (fun h => h.elim n8 n10)
          rw [← Hlast.out] at this
          exact this
      lt := fun k hk => hk.elim (fun h => by have := hXlt k h; omega) (fun h => h.2) }
    exact bodyPost_ret (v := arr 0 (s.last + 1) emp) (by simp [results, Try.results11, go_sem, arr, emp, hresE]) rfl ⟨wc.heap.size, by omega, rfl, hfrw, _, _, _, hcat⟩
end Go.Proofs.Ytidmlkedebjbgaa
