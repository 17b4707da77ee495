/-
  The law 'DrcOldest': what an Arrive takes out; the walk.
-/
import Derived.Test.YtidmlkedebjbgaaDrcK
namespace Go.Proofs.Ytidmlkedebjbgaa
open Go.RowKit

theorem IsP.rise {X : Nat → Prop} {w : World} {b : Nat} {r : RS} (h : IsP X w b r) : r.L.Pairwise (fun p q => p.ticket < q.ticket) ∧ (∀ e ∈ r.L, e.ticket ≤ r.last) ∧ ∀ d ∈ r.D, ∃ e ∈ r.L, e.ticket = d ∧ e.done = true := by
  obtain ⟨s, _, hg, hs⟩ := h
  refine ⟨?_, ?_, ?_⟩
  · rw [hs.L, List.pairwise_map]; exact hg.rising
  · intro e he
    rw [hs.L] at he
    obtain ⟨p, hp, rfl⟩ := List.mem_map.1 he
    rw [hs.last]; exact (hg.lo p hp).2
  · intro d hd
    rw [hs.D] at hd
    obtain ⟨o, ho, rfl⟩ := List.mem_map.1 hd
    obtain ⟨e, he, hde⟩ := hg.oldIn o ho
    exact ⟨e, by rw [hs.L]; exact List.mem_map.2 ⟨_, he, rfl⟩, (ticketOf_in hg he).symm, hde⟩
/-- What is gone behind an Arrive. -/
structure Gone (r r' : RS) : Prop where
  one : ∀ e ∈ r.L, e ∉ r'.L → r.oldest = (e.ticket, true) ∧ e.done = true ∧ r.most ≤ (r.L.length : Int)
  len : r'.L.length ≤ r.L.length + 1
theorem RS.arrive_gone {r : RS} (hr : r.L.Pairwise (fun p q => p.ticket < q.ticket)) (hl : ∀ e ∈ r.L, e.ticket ≤ r.last) (hd : ∀ d ∈ r.D, ∃ e ∈ r.L, e.ticket = d ∧ e.done = true) (k : Int × ByteArray) (n : Nat) : Gone r (r.arrive k n).2 := by
  have same : Gone r r := ⟨fun e he hn => absurd he hn, by omega⟩
  unfold RS.arrive
  split
  · exact same
  · split
    · exact same
    · split
      · exact ⟨fun e he hn => absurd (List.mem_append_left _ he) hn, by simp [RS.push]⟩
      · rename_i hroom
        split
        · exact same
        · rename_i d t hD
          refine ⟨fun e he hn => ?_, by
            have := List.length_filter_le (fun e => decide (e.ticket ≠ d)) r.L
            simp [RS.push, RS.take] at this ⊢; omega⟩
          have het : e.ticket = d := by
            refine Classical.byContradiction fun hne => hn ?_
            exact List.mem_append_left _ (List.mem_filter.2 ⟨he, by simpa using hne⟩)
          refine ⟨by unfold RS.oldest; rw [hD, het], ?_, by omega⟩
          obtain ⟨e', he', ht', hd'⟩ := hd d (by rw [hD]; simp)
          have hnd : (r.L.map (·.ticket)).Nodup := by
            rw [List.nodup_iff_pairwise_ne, List.pairwise_map]; exact hr.imp (fun h => by omega)
          have := nodup_inj hnd he he' (by rw [het, ht'])
          subst this
          exact hd'
theorem Gone.two {r r' : RS} (h : Gone r r') (hr : r.L.Pairwise (fun p q => p.ticket < q.ticket)) {i j : Nat} (hi : i < r.L.length) (hj : j < r.L.length) (h1 : r.L[i] ∉ r'.L) (h2 : r.L[j] ∉ r'.L) : i = j := by
  have e1 := (h.one _ (List.getElem_mem hi) h1).1
  have e2 := (h.one _ (List.getElem_mem hj) h2).1
  have e : r.L[i].ticket = r.L[j].ticket := by rw [e1] at e2; simpa using e2
  have hp := List.pairwise_iff_getElem.1 hr
  rcases Nat.lt_trichotomy i j with h3 | h3 | h3
  · have := hp i j hi hj h3; omega
  · exact h3
  · have := hp j i hj hi h3; omega
def eqE (f e : Ent) : Bool := f.ticket == e.ticket && (f.client == e.client && (f.rcd.toList == e.rcd.toList && (f.reply.toList == e.reply.toList && f.done == e.done)))
theorem eqE_iff (f e : Ent) : eqE f e = true ↔ f = e := by
  unfold eqE
  rw [← beq_toListBytes, ← beq_toListBytes, bytes_beq, bytes_beq]
  obtain ⟨a, b, c, d, g⟩ := f
  obtain ⟨a', b', c', d', g'⟩ := e
  simp
  constructor
  · rintro ⟨rfl, rfl, rfl, rfl, rfl⟩; exact ⟨rfl, rfl, rfl, rfl, rfl⟩
  · rintro ⟨rfl, rfl, rfl, rfl, rfl⟩; exact ⟨rfl, rfl, rfl, rfl, rfl⟩
theorem eqFields_five {P : Program} (w : World) (d : Nat) (f e : Ent) {tu ti ts tb : TypeId} (hu : P.underlying tu = some (.int .u64)) (hi : P.underlying ti = some (.int .i64)) (hs : P.underlying ts = some .string) (hb : P.underlying tb = some .bool)
    (hp0 : ∀ a b c g k, (part tu #[a, b, c, g, k] 0).run P w = .ok a w) (hp1 : ∀ a b c g k, (part ti #[a, b, c, g, k] 1).run P w = .ok b w) (hp2 : ∀ a b c g k, (part ts #[a, b, c, g, k] 2).run P w = .ok c w) (hp3 : ∀ a b c g k, (part ts #[a, b, c, g, k] 3).run P w = .ok g w) (hp4 : ∀ a b c g k, (part tb #[a, b, c, g, k] 4).run P w = .ok k w)
    (fs : List Field) (h : fs.map (fun f => (f.type, f.offset, decide (f.name ≠ "_"))) = [(tu, 0, true), (ti, 1, true), (ts, 2, true), (ts, 3, true), (tb, 4, true)]) :
    (Op.eqFields (d + 1) #[.int .u64 f.ticket, .int .i64 f.client, .string f.rcd, .string f.reply, .bool f.done] #[.int .u64 e.ticket, .int .i64 e.client, .string e.rcd, .string e.reply, .bool e.done] fs).run P w = .ok (eqE f e) w := by
  rcases fs with _ | ⟨a, _ | ⟨b, _ | ⟨c, _ | ⟨g, _ | ⟨k, _ | ⟨m, t⟩⟩⟩⟩⟩⟩
  all_goals simp only [List.map_cons, List.map_nil, List.cons.injEq, Prod.mk.injEq, reduceCtorEq, false_and, and_false, decide_eq_true_eq] at h
  obtain ⟨⟨h1, h2, h3⟩, ⟨h4, h5, h6⟩, ⟨h7, h8, h9⟩, ⟨h10, h11, h12⟩, ⟨h13, h14, h15⟩, _⟩ := h
  unfold eqE
  simp only [Op.eqFields, h1, h2, h3, h4, h5, h6, h7, h8, h9, h10, h11, h12, h13, h14, h15, ne_eq, not_true_eq_false, not_false_eq_true, if_true, Sem.run_bind, Result.andThen_ok, Sem.run_ite, Sem.run_pure,
    hp0, hp1, hp2, hp3, hp4, run_equalIn_int w d tu _ _ _ _ hu, run_equalIn_int w d ti _ _ _ _ hi, run_equalIn_string w d ts _ _ hs, run_equalIn_bool' w d tb _ _ hb]
  cases (f.ticket == e.ticket) <;> cases (f.client == e.client) <;> cases (f.rcd.toList == e.rcd.toList) <;> cases (f.reply.toList == e.reply.toList) <;> cases (f.done == e.done) <;> simp
theorem eq52 (w : World) (f e : Ent) : (binOp .eql 52 (.agg #[.int .u64 f.ticket, .int .i64 f.client, .string f.rcd, .string f.reply, .bool f.done]) (.agg #[.int .u64 e.ticket, .int .i64 e.client, .string e.rcd, .string e.reply, .bool e.done])).run Try.prog w = .ok (.bool (eqE f e)) w := by
  have ht : Try.prog.underlying 52 = some (.struct (Try.prog.fieldsOf 52)) := by kernel_rfl
  have h0 : Try.prog.stoodInHeld 52 = false := by kernel_rfl
  have hfs : (Try.prog.fieldsOf 52).toList.map (fun f => (f.type, f.offset, decide (f.name ≠ "_"))) = [(28, 0, true), (3, 1, true), (9, 2, true), (9, 3, true), (4, 4, true)] := by kernel_rfl
  rw [run_eql_struct, run_equalIn_struct (P := Try.prog) w 9999 _ _ _ ht h0]
  rw [eqFields_five (P := Try.prog) w 9998 f e Try.underlying28 Try.underlying3 Try.underlying9 Try.underlying4 ?_ ?_ ?_ ?_ ?_ _ hfs]
  · rfl
  all_goals
    intro a b c g k
    go_simp
structure StO (B : Nat) (w wx : World) (c : Nat) (most : Int) (r : RS) (X : Nat → Prop) : Prop where
  p : IsP X wx c r
  x : ∀ k, X k → B ≤ k
  fr : Fr (B ≤ ·) w wx
  mo : r.most = most
theorem StO.step {B : Nat} {w wo wc : World} {c : Nat} {most : Int} {r r' : RS} {X X' : Nat → Prop} (hs : StO B w wo c most r X) (hB : B ≤ w.heap.size) (hp : IsP X' wc c r') (hX' : ∀ k, X' k → X k ∨ wo.heap.size ≤ k) (hf : Fr X wo wc) (hmo : r'.most = r.most) : StO B w wc c most r' X' where
  p := hp
  x := fun k hx => (hX' k hx).elim (hs.x k) (fun h => by have := hs.fr.size; omega)
  fr := hs.fr.trans hf (fun k _ h => hs.x k h)
  mo := hmo.trans hs.mo
theorem StO.nw {B : Nat} {w wo w2 w4 : World} {c : Nat} {most : Int} {r r' : RS} {X : Nat → Prop} (hs : StO B w wo c most r X) (hB : B ≤ w.heap.size) (h2 : Fr Non wo w2) (h4 : Fr X w2 w4) (hp : IsP (Nw X w2 w4) w4 c r') (hmo : r'.most = r.most) : StO B w w4 c most r' (Nw X w2 w4) :=
  hs.step hB hp (fun k hk => hk.imp id (fun h => by have := h.1; have := h2.size; omega)) ((h2.mono (fun _ _ h => h.elim)).trans h4 (fun _ _ h => h)) hmo

set_option maxRecDepth 100000 in
set_option maxHeartbeats 4000000 in
theorem oldest_calls (B : Nat) (w : World) (most : Int) (a : Option Addr) (c : Nat) (l : List ActD) (h : Acts B w a l) (hc : l.length ≤ c) (hcm : c ≤ maxLen) (hB : B ≤ w.heap.size) :
    Calls Try.prog 5 #[.int .i64 most, .slice a l.length c] w (OncePost B w) := by
  have Hlong := Lib.hid (longP B w a c l h hc hcm)
  have H := Lib.hid h
  unfold maxLen at hcm
  clear h
  go_enter Try.func5, Try.ntmps5
  go_wp2_with fail
  refine (Hlong.out).mono ?_
  rintro e w' ⟨lg, rfl, rfl, hshort⟩
  rcases lg with _ | _
  · obtain ⟨h80, hbig⟩ := hshort rfl
    by_cases hm : most < 1 ∨ 1024 < most
    · have hm2 := hm
      go_wp2_with (first
        | (go_at_call 9; refine (new_bad most _ hm).mono ?_; rintro e w' ⟨rfl, rfl⟩)
        | (go_at_call 10; refine (num_calls _ _).mono ?_; rintro e w' ⟨rfl, rfl⟩)
        | (go_at_call 8; refine (live_calls _).mono ?_; rintro e w1 ⟨rfl, hf1⟩))
      all_goals
        go_ret
        refine ⟨?_, hf1.mono (fun _ _ h => h.elim)⟩
        first
          | rfl
          | (show Ending.returned (.bool (decide (most < 1) || decide (1024 < most))) = _
             rcases hm2 with h | h <;> simp [h])
    · have h1 : 1 ≤ most := by omega
      have h2 : most ≤ 1024 := by omega
      go_wp2_with (first
        | (go_at_call 9; refine (newP most _ h1 h2).mono ?_; rintro e w1 ⟨cb, he, hf1, hp1⟩; unfold ptr at he; subst he)
        | (go_at_call 10; refine (num_calls _ _).mono ?_; rintro e w' ⟨rfl, rfl⟩)
        | (go_at_call 8; refine (live_calls _).mono ?_; rintro e w3 ⟨rfl, hf3⟩))
      have hst : StO B w w1 cb most (RS.new most) (New w w1) := ⟨hp1, fun k hk => by have := hk.1; omega, hf1.mono (fun _ _ h => h.elim), rfl⟩
      clear hf1 hp1
      go_loopw [7] (fun i wr => ∃ (k : Nat) (r : RS) (X : Nat → Prop), k ≤ l.length ∧ i = .int .i64 (k : Nat) ∧ StO B w wr cb most r X ∧ r.last ≤ k) (fun i _ => l.length - (intOf i).toNat)
      case atStart => exact ⟨0, _, _, Nat.zero_le _, rfl, hst, by simp [RS.new]⟩
      case round =>
        obtain ⟨k, r, X, hk, rfl, hs, hla⟩ := hrel
        obtain ⟨wo, rfl⟩ : ∃ wo : World, wo = wr := ⟨_, rfl⟩
        have Hs := Lib.hid hs
        have hfr := hs.fr
        clear hs
        by_cases hlt : k < l.length
        · have HA := H.out.fr hfr (fun _ h => h)
          obtain ⟨g, o, rfl, hg, hcl⟩ := HA.cells.resolve_left (by intro e; rw [e] at hlt; simp at hlt)
          obtain ⟨hb1, hlow, _⟩ := HA.bytes l[k] (by simp)
          have hb3 := hbig l[k] (by simp)
          obtain ⟨ba, bc, hbv, hbl, hbm, hbcell⟩ := id hb1
          obtain ⟨hx0, hx1, hx2, hx3⟩ := hcl k hlt
          generalize l[k].bs = bs at *
          have hsz := hfr.size
          rw [hbv] at hx2
          have Hbt := Lib.hid (show Bts wo (.slice ba bs.length bc) bs from hbv ▸ hb1)
          clear hcl HA hb1 hlow hbv hbcell
          generalize l[k].kind = xk at *
          generalize l[k].client = xc at *
          generalize l[k].ticket = xt at *
          have hEnt := entriesP X wo cb r Hs.out.p
          have hOld := fun wz hf => oldestP X wz cb r (Hs.out.p.fr (Y := Non) (w' := wz) hf (fun _ _ h => h))
          unfold ptr at hEnt hOld
          have HEnt := Lib.hid hEnt
          have HOld := Lib.hid hOld
          have Hfr := Lib.hid hfr
          clear hEnt hOld hfr
          go_upto_block 2 with (first
            | (go_at_call 15; go_loud (refine (HEnt.out).mono ?_); rintro e w2 ⟨v2, rfl, hf2, hsl2⟩; have hy0 := hf2.cell hx0 (fun h => h); have hy1 := hf2.cell hx1 (fun h => h); have hy2 := hf2.cell hx2 (fun h => h); have hy3 := hf2.cell hx3 (fun h => h); clear hx0 hx1 hx2 hx3)
            | (go_at_call 21; go_loud (refine (HOld.out _ hf2).mono ?_); rintro e w' ⟨rfl, rfl⟩))
          have hf02 := hf2
          have Hf02 := Lib.hid hf02
          have Hsl2 := Lib.hid hsl2
          have hz2 := hf2.size
          clear HEnt HOld hf2 hf02 hsl2
          by_cases k1 : xk = 1
          · subst k1
            have HArr : Hid (∀ w1 v, Fr Non wo w1 → Bts w1 v bs → Calls Try.prog 11 #[.pointer (some ⟨cb, 0, none⟩), .int .i64 xc, v] w1 fun e w' => e = .returned (r.arrive (xc, str bs) bs.length).1 ∧ Fr X w1 w' ∧ IsP (Nw X w1 w') w' cb (r.arrive (xc, str bs) bs.length).2) := Lib.hid (fun w1 v hf hv =>
              arriveP X w1 cb r xc v bs (Hs.out.p.fr hf (fun _ _ h => h)) hv (by omega))
            have hlA := RS.arrive_last r (xc, str bs) bs.length
            obtain ⟨hri1, hri2, hri3⟩ := Hs.out.p.rise
            have hgone := RS.arrive_gone hri1 hri2 hri3 (xc, str bs) bs.length
            have htwo := fun i j hi hj => hgone.two hri1 (i := i) (j := j) hi hj
            have hnlen := hgone.len
            have HG := Lib.hid hgone.one
            have HT := Lib.hid htwo
            generalize (r.arrive (xc, str bs) bs.length).2 = r' at *
            generalize (r.arrive (xc, str bs) bs.length).1 = av at *
            have Hnone : Hid (ba = none → bs.length = 0) := Lib.hid Hbt.out.news.1
            have Hnews : Hid (∀ w1, Fr Non wo w1 → ∀ ad, ba = some ad → ∀ j u, (bs.map fun y => Value.int .u8 y.toNat)[j]? = some u → w1.cell? (ad.add j) = some u) := Lib.hid (fun w1 hf => (Hbt.out.fr hf (fun _ _ h => h)).news.2)
            have Hlimb := Lib.hid (And.intro hy1 hy2)
            clear hgone htwo hri1 hri2 hri3
            go_upto_region 13 with fail
            go_region_held3 (fun w' => w'.cell? ⟨g, o + k * 4 + 1, none⟩ = some (.int .i64 xc) ∧ w'.cell? ⟨g, o + k * 4 + 2, none⟩ = some (.slice ba bs.length bc))
              (first
                | exact limb4
                | exact limb3
                | exact ⟨hy1, hy2⟩
                | go_keep)
              (first
                | (go_at_call 11; refine (HArr.out _ _ hf03 (appd_bts happ)).mono ?_; rintro e w4 ⟨rfl, hf4, hp4⟩; have limb4 := And.intro (hf4.cell limb3.1 (fun hx => by have : B ≤ g := Hs.out.x g hx; omega)) (hf4.cell limb3.2 (fun hx => by have : B ≤ g := Hs.out.x g hx; omega)))
                | (refine step_append_any (by rfl) _ _ _ (by rfl) 5 Try.und32 Try.inf5b rfl (by decide) (by rfl) ((fresh_row _).drew) ba bs.length bc (bs.map fun y => Value.int .u8 y.toNat) (by rfl) (by simp) Hnone.out (Hnews.out _ ((Hf02.out.alloc _).drew)) (by simp [Value.oneCell']) (by unfold maxLen; omega) (by omega) ?_; intro a3 c3 w3 happ; have hz3 : w2.heap.size < w3.heap.size := Nat.lt_of_lt_of_le (sz1 _ _) happ.fr.size; have hf23 := appd_non (wo := w2) happ (((Fr.refl Non w2).alloc _).drew) (by first | omega | (simp only [World.size_alloc]; omega) | (simp; omega)); have hf03 := Hf02.out.trans hf23 (fun _ _ h => h); have limb3 := And.intro (hf23.cell Hlimb.out.1 (fun h => h)) (hf23.cell Hlimb.out.2 (fun h => h))))
            have hst4 := Hs.out.nw hB hf03 hf4 hp4 hlA.2.2
            have hslA : Sl (New wo w2) w4 52 5 v2 r.L.length (rowsE r.L) := (Hsl2.out.fr hf23 (fun _ _ h => h)).fr hf4 (fun k hk hx => by have := hk.1; have := Hs.out.p.lt k hx; omega)
            have hz4 := hf4.size
            have Hst4 := Lib.hid hst4
            have HslA := Lib.hid hslA
            have hEnt := entriesP _ w4 cb r' hp4
            have hll := Hs.out.p.fair.l1024
            have hll' := hp4.fair.l1024
            unfold ptr at hEnt
            have HEnt := Lib.hid hEnt
            have hmo := Hs.out.mo
            generalize Nw X w3 w4 = X4 at *
            clear hst4 hslA hEnt happ hf23 hf03 hf4 hp4 limb3 limb4 hy0 hy1 hy2 hy3 Hnews Hnone HArr Hlimb
            go_wp2_with (go_at_call 15; go_loud (refine (HEnt.out).mono ?_); rintro e w5 ⟨v5, rfl, hf5, hsl5⟩; obtain ⟨na, nc, rfl, hnc, hncm, _, hnrow⟩ := hsl5.open; obtain ⟨wa, wc', rfl, hwc, hwcm, _, hwrow⟩ := (HslA.out.fr hf5 (fun _ _ h => h)).open; have Hf5 := Lib.hid hf5; have Hnrow := Lib.hid hnrow; have Hwrow := Lib.hid hwrow; unfold maxLen at hncm hwcm; clear hf5 hsl5 hnrow hwrow)
            generalize hoo : r.oldest = oo at *
            obtain ⟨od, ok⟩ := oo
            clear hoo
            go_loopw [12, 13] (fun gn i wr => ∃ (q n : Nat), q ≤ r.L.length ∧ i = .int .i64 (q : Nat) ∧ gn = .int .i64 (n : Nat) ∧ Fr Non w5 wr ∧ n ≤ 1 ∧ (n = 1 → ∃ (j : Nat) (hj : j < r.L.length), j < q ∧ r.L[j] ∉ r'.L)) (fun _ i _ => r.L.length - (intOf i).toNat)
            case atStart => exact ⟨0, 0, Nat.zero_le _, rfl, rfl, Fr.refl _ _, by omega, by omega⟩
            case round =>
              obtain ⟨q, n, hq, rfl, rfl, hfq, hn1, hnj⟩ := hrel
              have Hnj := Lib.hid hnj
              clear hnj
              by_cases hqlt : q < r.L.length
              · obtain ⟨wq, rfl⟩ : ∃ wq : World, wq = wr := ⟨_, rfl⟩
                obtain ⟨gw, rfl, _, _, hwcl⟩ := Hwrow.out.resolve_left (by omega)
                have hw0 : wq.cell? ⟨gw, q * 5, none⟩ = some (.int .u64 r.L[q].ticket) := hfq.cell (hwcl (q * 5 + 0) _ (by rw [rowsE_at _ _ hqlt 0 (by omega)]; rfl)) (fun h => h)
                have hw1 : wq.cell? ⟨gw, q * 5 + 1, none⟩ = some (.int .i64 r.L[q].client) := hfq.cell (hwcl (q * 5 + 1) _ (by rw [rowsE_at _ _ hqlt 1 (by omega)]; rfl)) (fun h => h)
                have hw2 : wq.cell? ⟨gw, q * 5 + 2, none⟩ = some (.string r.L[q].rcd) := hfq.cell (hwcl (q * 5 + 2) _ (by rw [rowsE_at _ _ hqlt 2 (by omega)]; rfl)) (fun h => h)
                have hw3 : wq.cell? ⟨gw, q * 5 + 3, none⟩ = some (.string r.L[q].reply) := hfq.cell (hwcl (q * 5 + 3) _ (by rw [rowsE_at _ _ hqlt 3 (by omega)]; rfl)) (fun h => h)
                have hw4 : wq.cell? ⟨gw, q * 5 + 4, none⟩ = some (.bool r.L[q].done) := hfq.cell (hwcl (q * 5 + 4) _ (by rw [rowsE_at _ _ hqlt 4 (by omega)]; rfl)) (fun h => h)
                have HGq := Lib.hid (HG.out r.L[q] (by simp))
                have HTq : Hid (r.L[q] ∉ r'.L → ¬ (n = 1)) := Lib.hid (fun hn he => by
                  obtain ⟨j, hj, hjq, hjn⟩ := Hnj.out he
                  have := HT.out j q hj hqlt hjn hn
                  omega)
                have Hnj' : Hid (n = 1 → ∃ (j : Nat) (hj : j < r.L.length), j < q + 1 ∧ r.L[j] ∉ r'.L) := Lib.hid (fun e => by obtain ⟨j, hj, hjq, hjn⟩ := Hnj.out e; exact ⟨j, hj, by omega, hjn⟩)
                have Hnew : Hid (r.L[q] ∉ r'.L → ∃ (j : Nat) (hj : j < r.L.length), j < q + 1 ∧ r.L[j] ∉ r'.L) := Lib.hid (fun e => ⟨q, hqlt, by omega, e⟩)
                clear hwcl Hwrow Hnj
                generalize r.L[q] = e at *
                go_wp2_with fail
                go_loopw [14, 15] (fun b i wr => ∃ (j : Nat) (bb : Bool), j ≤ r'.L.length ∧ i = .int .i64 (j : Nat) ∧ b = .bool bb ∧ Fr Non wq wr ∧ (bb = true ↔ e ∈ r'.L.take j)) (fun _ i _ => r'.L.length - (intOf i).toNat)
                case atStart => exact ⟨0, false, Nat.zero_le _, rfl, rfl, Fr.refl _ _, by simp⟩
                case round =>
                  obtain ⟨j, bb, hj, rfl, rfl, hfj, hbb⟩ := hrel
                  have Hbb := Lib.hid hbb
                  clear hbb
                  have hv0 := hfj.cell hw0 (fun h => h)
                  have hv1 := hfj.cell hw1 (fun h => h)
                  have hv2 := hfj.cell hw2 (fun h => h)
                  have hv3 := hfj.cell hw3 (fun h => h)
                  have hv4 := hfj.cell hw4 (fun h => h)
                  by_cases hjlt : j < r'.L.length
                  · obtain ⟨gn, rfl, _, _, hncl⟩ := Hnrow.out.resolve_left (by omega)
                    have hfqj := hfq.trans hfj (fun _ _ h => h)
                    have hu0 : wr.cell? ⟨gn, j * 5, none⟩ = some (.int .u64 r'.L[j].ticket) := hfqj.cell (hncl (j * 5 + 0) _ (by rw [rowsE_at _ _ hjlt 0 (by omega)]; rfl)) (fun h => h)
                    have hu1 : wr.cell? ⟨gn, j * 5 + 1, none⟩ = some (.int .i64 r'.L[j].client) := hfqj.cell (hncl (j * 5 + 1) _ (by rw [rowsE_at _ _ hjlt 1 (by omega)]; rfl)) (fun h => h)
                    have hu2 : wr.cell? ⟨gn, j * 5 + 2, none⟩ = some (.string r'.L[j].rcd) := hfqj.cell (hncl (j * 5 + 2) _ (by rw [rowsE_at _ _ hjlt 2 (by omega)]; rfl)) (fun h => h)
                    have hu3 : wr.cell? ⟨gn, j * 5 + 3, none⟩ = some (.string r'.L[j].reply) := hfqj.cell (hncl (j * 5 + 3) _ (by rw [rowsE_at _ _ hjlt 3 (by omega)]; rfl)) (fun h => h)
                    have hu4 : wr.cell? ⟨gn, j * 5 + 4, none⟩ = some (.bool r'.L[j].done) := hfqj.cell (hncl (j * 5 + 4) _ (by rw [rowsE_at _ _ hjlt 4 (by omega)]; rfl)) (fun h => h)
                    have Htk := Lib.hid (take_snoc' hjlt)
                    clear hncl Hnrow
                    have heq : ∀ wz : World, (binOp .eql 52 (.agg #[.int .u64 r'.L[j].ticket, .int .i64 r'.L[j].client, .string r'.L[j].rcd, .string r'.L[j].reply, .bool r'.L[j].done]) (.agg #[.int .u64 e.ticket, .int .i64 e.client, .string e.rcd, .string e.reply, .bool e.done])).run Try.prog wz = .ok (.bool (eqE r'.L[j] e)) wz := fun wz => eq52 wz _ _
                    generalize r'.L[j] = f at *
                    rcases bb with _ | _
                    · go_wp2
                      go_quiet (fail)
                      go_wp2
                      go_roundw
                      case rel => exact ⟨j + 1, eqE f e, by omega, by go_num, rfl, hfj.drewN _, by rw [Htk.out, List.mem_append, eqE_iff]; have := Hbb.out; simp only [Bool.false_eq_true, false_iff] at this; simp [this, eq_comm]⟩
                      case measure => simp [intOf]; omega
                    · go_wp2
                      go_quiet (fail)
                      go_wp2
                      go_roundw
                      case rel => exact ⟨j + 1, true, by omega, by go_num, rfl, hfj.drewN _, by rw [Htk.out, List.mem_append]; exact ⟨fun _ => .inl (Hbb.out.1 (by trivial)), fun _ => rfl⟩⟩
                      case measure => simp [intOf]; omega
                  · obtain rfl : j = r'.L.length := by omega
                    rcases bb with _ | _
                    · have hmem : e ∉ r'.L := fun he => by have := Hbb.out.2 (by rw [List.take_length]; exact he); cases this
                      obtain ⟨hO, hdn, hmst⟩ := HGq.out hmem
                      obtain ⟨rfl, rfl⟩ : od = e.ticket ∧ ok = true := by simpa using hO
                      have hn0 : n = 0 := by have := HTq.out hmem; omega
                      subst hn0
                      rw [hdn] at hv4
                      have hmm : ¬ ((r.L.length : Int) < most) := by omega
                      go_wp2
                      go_roundw
                      case rel => exact ⟨q + 1, 1, by omega, by go_num, by go_num, hfq.trans hfj (fun _ _ h => h), by omega, fun _ => Hnew.out hmem⟩
                      case measure => simp [intOf]; omega
                    · go_wp2
                      go_roundw
                      case rel => exact ⟨q + 1, n, by omega, by go_num, rfl, hfq.trans hfj (fun _ _ h => h), hn1, Hnj'.out⟩
                      case measure => simp [intOf]; omega
              · obtain rfl : q = r.L.length := by omega
                have hg1 : ¬ (1 < (n : Int)) := by omega
                have hg2 : ¬ ((r.L.length : Int) + 1 < (r'.L.length : Int)) := by omega
                go_wp2
                go_roundw
                case rel => exact ⟨k + 1, r', X4, by omega, by go_num, Hst4.out.step hB (Hst4.out.p.fr (Hf5.out.trans hfq (fun _ _ h => h)) (fun _ _ h => h)) (fun k h => .inl h) ((Hf5.out.trans hfq (fun _ _ h => h)).mono (fun _ _ h => h.elim)) rfl, by omega⟩
                case measure => simp [intOf]; omega
          by_cases k2 : xk = 2
          · subst k2
            have hcall := Lib.hid (doneP X w2 cb r xt (.slice none 0 0) [] (Hs.out.p.fr Hf02.out (fun _ _ h => h)) ⟨none, 0, rfl, Nat.le_refl _, Nat.zero_le _, .inl rfl⟩)
            have hlst := RS.finish_last r xt (str []) ([] : List UInt8).length
            generalize r.finish xt (str []) ([] : List UInt8).length = fr' at *
            unfold ptr at hcall
            go_wp2_with (go_at_call 13; go_loud (refine (hcall.out).mono ?_); rintro e w4 ⟨rfl, hf4, hp4⟩)
            go_roundw
            case rel => exact ⟨k + 1, _, _, by omega, by go_num, Hs.out.nw hB Hf02.out hf4 hp4 hlst.2, by rw [hlst.1]; omega⟩
            case measure => simp [intOf]; omega
          by_cases k3 : xk = 3
          · subst k3
            have hcall := Lib.hid (forgetP X w2 cb r xt (Hs.out.p.fr Hf02.out (fun _ _ h => h)))
            have hlst := RS.forget_last r xt
            generalize r.forget xt = fr' at *
            unfold ptr at hcall
            go_wp2_with (go_at_call 18; go_loud (refine (hcall.out).mono ?_); rintro e w4 ⟨rfl, hf4, hp4⟩)
            go_roundw
            case rel => exact ⟨k + 1, _, _, by omega, by go_num, Hs.out.nw hB Hf02.out hf4 hp4 hlst.2, by rw [hlst.1]; omega⟩
            case measure => simp [intOf]; omega
          go_wp2
          go_roundw
          case rel => exact ⟨k + 1, r, X, by omega, by go_num, Hs.out.step hB (Hs.out.p.fr Hf02.out (fun _ _ h => h)) (fun k h => .inl h) (Hf02.out.mono (fun _ _ h => h.elim)) rfl, by omega⟩
          case measure => simp [intOf]; omega
        · obtain rfl : k = l.length := by omega
          go_wp2_with (go_at_call 8; refine (live_calls _).mono ?_; rintro e w1 ⟨rfl, hf1⟩)
          go_ret
          exact ⟨rfl, hfr.trans hf1 (fun _ _ h => h.elim)⟩
  · go_wp2_with (go_at_call 8; refine (live_calls _).mono ?_; rintro e w1 ⟨rfl, hf1⟩)
    go_ret
    exact ⟨rfl, hf1.mono (fun _ _ h => h.elim)⟩
end Go.Proofs.Ytidmlkedebjbgaa
