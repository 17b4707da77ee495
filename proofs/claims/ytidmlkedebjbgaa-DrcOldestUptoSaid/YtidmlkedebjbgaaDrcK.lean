/-
  The law 'DrcOnce': the walk.
-/
import Derived.Test.YtidmlkedebjbgaaDrcJ
namespace Go.Proofs.Ytidmlkedebjbgaa
open Go.RowKit

/-- Between two acts: the cache, and what the law made of the requests. -/
structure St (B : Nat) (w wx : World) (c : Nat) (most : Int) (r : RS) (mv : Value) (M : List Ent) (X Z : Nat → Prop) : Prop where
  p : IsP X wx c r
  m : Sl Z wx 45 5 mv M.length (rowsC M)
  d : ∀ k, X k → ¬ Z k
  x : ∀ k, X k → B ≤ k
  z : ∀ k, Z k → B ≤ k ∧ k < wx.heap.size
  fr : Fr (B ≤ ·) w wx
  inv : Inv M r
  mo : r.most = most
def StE (B : Nat) (w : World) (c : Nat) (most : Int) (n : Nat) (t7 t8 : Value) (wx : World) : Prop := ∃ r M X Z, St B w wx c most r t7 M X Z ∧ t8 = .int .u64 r.last ∧ M.length ≤ n ∧ r.last ≤ n
theorem fresh_row (w : World) : Sl (fun k => k = w.heap.size) (w.alloc (.cells #[] 5)) 5 1 (.slice (some ⟨w.heap.size, 0, none⟩) 0 0) 0 [] :=
  ⟨⟨rfl, .inr ⟨w.heap.size, 0, #[], rfl, Nat.zero_le _, blk_new _ _ rfl, Nat.le_refl _, Nat.zero_le _, rfl, rfl⟩⟩, fun k hk => by simp [Value.ownBlock] at hk; exact hk.symm⟩
theorem fresh_at (w : World) {n : Nat} (h : n = w.heap.size) : Sl (fun k => k = n) (w.alloc (.cells #[] 5)) 5 1 (.slice (some ⟨n, 0, none⟩) 0 0) 0 [] := by subst h; exact fresh_row w
theorem Bts.news {w : World} {ba : Option Addr} {bc : Nat} {bs : List UInt8} (h : Bts w (.slice ba bs.length bc) bs) :
    (ba = none → bs.length = 0) ∧ ∀ ad, ba = some ad → ∀ j u, (bs.map fun y => Value.int .u8 y.toNat)[j]? = some u → w.cell? (ad.add j) = some u := by
  obtain ⟨ba', bc', e, _, _, hbcell⟩ := h
  obtain ⟨rfl, _, rfl⟩ : ba = ba' ∧ bs.length = bs.length ∧ bc = bc' := by simpa using e
  refine ⟨fun e => ?_, fun ad e j u hu => ?_⟩
  · rcases hbcell with h | ⟨g, o, h, _⟩
    · rw [h]; rfl
    · rw [e] at h; cases h
  · rcases hbcell with h | ⟨g, o, h, hc⟩
    · subst h; simp at hu
    · rw [e] at h
      obtain rfl := Option.some.inj h
      have hj : j < bs.length := by
        have := (List.getElem?_eq_some_iff.1 hu).1
        simpa using this
      have hc := hc j hj
      have hadd : (⟨g, o, none⟩ : Addr).add j = ⟨g, o + j, none⟩ := by unfold Addr.add; split <;> simp_all
      rw [hadd, hc, ← hu]
      rw [getElem!_pos _ _ (by simpa using hj)]
      simp [hj]
theorem appd_bts {w w' : World} {bs : List UInt8} {X : Nat → Prop} {v : Value} {a' : Option Addr} {c' : Nat} (h : Appd X w 5 1 v 0 bs.length [] (bs.map fun y => Value.int .u8 y.toNat) a' c' w') : Bts w' (.slice a' bs.length c') bs := by
  have := h.sl
  simp only [Nat.zero_add, List.nil_append] at this ⊢
  rw [show (bs.map fun y => Value.int .u8 y.toNat) = ((bs.map fun y => (y.toNat : Int)).map (Value.int .u8)) by rw [List.map_map]; rfl] at this
  exact Bts_of_sl this
theorem appd_non {w w' wo : World} {news : List Value} {X : Nat → Prop} {n : Nat} {a' : Option Addr} {c' m : Nat} (h : Appd X w 5 1 (.slice (some ⟨n, 0, none⟩) 0 0) 0 m [] news a' c' w') (hf : Fr Non wo w) (hn : wo.heap.size ≤ n) : Fr Non wo w' :=
  hf.trans h.fr (fun k hk e => by have : n = k := Option.some.inj e; omega)
theorem appd_keep {w w' : World} {news : List Value} {X : Nat → Prop} {n b : Nat} {a' : Option Addr} {c' m : Nat} {o : Obj} (h : Appd X w 5 1 (.slice (some ⟨n, 0, none⟩) 0 0) 0 m [] news a' c' w') (hb : w.heap[b]? = some o) (hn : b ≠ n) : w'.heap[b]? = some o :=
  h.fr.keep hb (fun e => by have : n = b := Option.some.inj e; omega)
theorem act_limbs {w : World} {b : Nat} {k c t : Int} {v : Value} (h : w.heap[b]? = some (.cells #[.int .i64 k, .int .i64 c, v, .int .u64 t] 40 (0, 0))) : w.cell? ⟨b, 1, none⟩ = some (.int .i64 c) ∧ w.cell? ⟨b, 2, none⟩ = some v := by
  have := blk_cell h
  exact ⟨this 1, this 2⟩
theorem act_limbs2 {w : World} {b : Nat} {k c t : Int} {v : Value} (h : w.heap[b]? = some (.cells #[.int .i64 k, .int .i64 c, v, .int .u64 t] 40 (0, 0))) : w.cell? ⟨b, 3, none⟩ = some (.int .u64 t) ∧ w.cell? ⟨b, 2, none⟩ = some v := by
  have := blk_cell h
  exact ⟨this 3, this 2⟩
theorem sz1 (w : World) (o : Obj) : w.heap.size < (w.alloc o).drew.heap.size := by show w.heap.size < (w.alloc o).heap.size; simp
theorem sz2 (w : World) (o o' : Obj) : w.heap.size + 1 < ((w.alloc o).alloc o').drew.heap.size := by show w.heap.size + 1 < ((w.alloc o).alloc o').heap.size; simp
/-- Behind the call of Arrive: the arrival lies in block n. -/
structure MidA (wo : World) (X : Nat → Prop) (cb : Nat) (r r' : RS) (v2 : Value) (bx ar : Obj) (n : Nat) (wx : World) : Prop where
  p : ∃ X', IsP X' wx cb r' ∧ ∀ k, X' k → X k ∨ (wo.heap.size < k ∧ k ≠ n)
  fr : Fr X wo wx
  bx : wx.heap[wo.heap.size]? = some bx
  ar : wx.heap[n]? = some ar
  ne : wo.heap.size < n
  en : Sl (fun _ => True) wx 52 5 v2 r.L.length (rowsE r.L)
section
variable {wo w2 w3 w4 : World} {X : Nat → Prop} {cb : Nat} {r r' : RS} {v2 : Value} {bx ar ob : Obj}
theorem midA_after (hlt : ∀ k, X k → k < wo.heap.size) (hf02 : Fr Non wo w2) (hsl2 : Sl (New (wo.alloc ob) w2) w2 52 5 v2 r.L.length (rowsE r.L)) (hz2 : wo.heap.size + 1 ≤ w2.heap.size) (hf23 : Fr Non w2 w3)
    (hf4 : Fr X w3 w4) (hp4 : IsP (Nw X w3 w4) w4 cb r') (hb4 : w4.heap[wo.heap.size]? = some bx) : ∃ n, Value.pointer (some ⟨w4.heap.size, 0, none⟩) = .pointer (some ⟨n, 0, none⟩) ∧ MidA wo X cb r r' v2 bx ar n (w4.alloc ar) := by
  have h1 := hf23.size
  have h2 := hf4.size
  refine ⟨_, rfl, ⟨_, hp4.alloc _, fun k hk => hk.imp id (fun h => ⟨by have := h.1; omega, by have := h.2; omega⟩)⟩, ?_, blk_old_some hb4 _, blk_new _ _ rfl, by omega, ?_⟩
  · exact (((hf02.trans hf23 (fun _ _ h => h)).mono (fun _ _ h => h.elim)).trans hf4 (fun _ _ h => h)).alloc _
  · refine (((hsl2.fr hf23 (fun _ _ h => h)).fr hf4 (fun k hk hx => ?_)).alloc _).mono (fun _ _ => trivial)
    have := hlt k hx
    have := hk.1
    simp only [World.size_alloc] at this
    omega
theorem midA_before {n : Nat} {z0 z1 z2 a b c : Value} (hlt : ∀ k, X k → k < wo.heap.size) (hf02 : Fr Non wo w2) (hsl2 : Sl (New (wo.alloc ob) w2) w2 52 5 v2 r.L.length (rowsE r.L)) (hz2 : wo.heap.size + 1 ≤ w2.heap.size) (hf23 : Fr Non w2 w3)
    (hf4 : Fr X w3 w4) (hp4 : IsP (Nw X w3 w4) w4 cb r') (hb4 : w4.heap[wo.heap.size]? = some bx) (hn4 : w4.heap[n]? = some (.cells #[z0, z1, z2] 30 (0, 0))) (h1 : w2.heap.size ≤ n) (h2 : n < w3.heap.size) :
    ∃ m, Value.pointer (some ⟨n, 0, none⟩) = .pointer (some ⟨m, 0, none⟩) ∧ MidA wo X cb r r' v2 bx (.cells #[a, b, c] 30) m (((w4.setCell ⟨n, 0, none⟩ a).setCell ⟨n, 1, none⟩ b).setCell ⟨n, 2, none⟩ c) := by
  have hf : Fr (· = n) w4 (((w4.setCell ⟨n, 0, none⟩ a).setCell ⟨n, 1, none⟩ b).setCell ⟨n, 2, none⟩ c) := ((Fr.one _ _ _ _).setCell (p := ⟨n, 1, none⟩) (fun _ => rfl) _).setCell (p := ⟨n, 2, none⟩) (fun _ => rfl) _
  refine ⟨_, rfl, ⟨_, hp4.fr hf ?_, fun k hk => hk.imp id (fun h => ⟨by have := h.1; omega, by have := h.1; omega⟩)⟩, ?_, hf.keep hb4 (by omega), ?_, by omega, ?_⟩
  · intro k hk e
    subst e
    rcases hk with hx | hx
    · have := hlt _ hx; omega
    · have := hx.1; omega
  · exact ((((hf02.trans hf23 (fun _ _ h => h)).mono (fun _ _ h => h.elim)).trans hf4 (fun _ _ h => h))).trans (hf.mono (Y := (· = n)) (fun _ _ h => h)) (fun k hk e => by omega)
  · have := blk_set (i := 2) (blk_set (i := 1) (blk_set (i := 0) hn4 a) b) c
    simpa using this
  · refine (((hsl2.fr hf23 (fun _ _ h => h)).fr hf4 (fun k hk hx => ?_)).fr hf (fun k hk e => ?_)).mono (fun _ _ => trivial)
    · have := hlt k hx
      have := hk.1
      simp only [World.size_alloc] at this
      omega
    · have := hk.2; omega
end
theorem St.step {B : Nat} {w wo wc : World} {c : Nat} {most : Int} {r r' : RS} {mv mv' : Value} {M M' : List Ent} {X Z X' Z' : Nat → Prop} (hs : St B w wo c most r mv M X Z) (hB : B ≤ w.heap.size) (hp : IsP X' wc c r') (hX' : ∀ k, X' k → X k ∨ wo.heap.size ≤ k)
    (hf : Fr (fun k => X k ∨ Z k) wo wc) (hm : Sl Z' wc 45 5 mv' M'.length (rowsC M')) (hZ' : ∀ k, Z' k → Z k ∨ (wo.heap.size ≤ k ∧ k < wc.heap.size)) (hd : ∀ k, X' k → wo.heap.size ≤ k → ¬ Z' k) (hinv : Inv M' r') (hmo : r'.most = r.most) : St B w wc c most r' mv' M' X' Z' where
  p := hp
  m := hm
  d := fun k hx hz => by
    rcases Nat.lt_or_ge k wo.heap.size with h | h
    · exact hs.d k ((hX' k hx).resolve_right (by omega)) ((hZ' k hz).resolve_right (by omega))
    · exact hd k hx h hz
  x := fun k hx => (hX' k hx).elim (hs.x k) (fun h => by have := hs.fr.size; omega)
  z := fun k hz => (hZ' k hz).elim (fun h => ⟨(hs.z k h).1, Nat.lt_of_lt_of_le (hs.z k h).2 hf.size⟩) (fun h => ⟨by have := hs.fr.size; have := h.1; omega, h.2⟩)
  fr := hs.fr.trans hf (fun k _ h => h.elim (hs.x k) (fun h => (hs.z k h).1))
  inv := hinv
  mo := hmo.trans hs.mo
theorem Try.inf45 : (Try.prog.info? 45).map (fun i => (i.zero, i.size, i.bytes)) = some (some (.agg #[.int .i64 0, .string ⟨#[]⟩, .int .u64 0, .bool false, .string ⟨#[]⟩]), 5, 56) := by kernel_rfl
def OncePost (B : Nat) (w : World) (e : Ending) (w' : World) : Prop := e = .returned (.bool true) ∧ Fr (B ≤ ·) w w'

set_option maxRecDepth 100000 in
set_option maxHeartbeats 5000000 in
theorem once_calls (B : Nat) (w : World) (most : Int) (a : Option Addr) (c : Nat) (l : List ActD) (h : Acts B w a l) (hc : l.length ≤ c) (hcm : c ≤ maxLen) (hB : B ≤ w.heap.size) :
    Calls Try.prog 4 #[.int .i64 most, .slice a l.length c] w (OncePost B w) := by
  have Hlong := Lib.hid (longP B w a c l h hc hcm)
  have H := Lib.hid h
  unfold maxLen at hcm
  clear h
  go_enter Try.func4, Try.ntmps4
  go_wp2_with fail
  refine (Hlong.out).mono ?_
  rintro e w' ⟨lg, rfl, rfl, hshort⟩
  rcases lg with _ | _
  · obtain ⟨h80, hbig⟩ := hshort rfl
    by_cases hm : most < 1 ∨ 1024 < most
    · have hm2 := hm
      go_wp2_with (first
        | (go_at_call 9; refine (new_bad most _ hm).mono ?_; rintro e w' ⟨rfl, rfl⟩)
        | (go_at_call 10; refine (num_calls _ _).mono ?_; rintro e w' ⟨rfl, rfl⟩)
        | (go_at_call 8; refine (live_calls _).mono ?_; rintro e w1 ⟨rfl, hf1⟩))
      all_goals
        go_ret
        refine ⟨?_, hf1.mono (fun _ _ h => h.elim)⟩
        first
          | rfl
          | (show Ending.returned (.bool (decide (most < 1) || decide (1024 < most))) = _
             rcases hm2 with h | h <;> simp [h])
    · have h1 : 1 ≤ most := by omega
      have h2 : most ≤ 1024 := by omega
      go_wp2_with (first
        | (go_at_call 9; refine (newP most _ h1 h2).mono ?_; rintro e w1 ⟨cb, he, hf1, hp1⟩; unfold ptr at he; subst he)
        | (go_at_call 10; refine (num_calls _ _).mono ?_; rintro e w' ⟨rfl, rfl⟩)
        | (go_at_call 8; refine (live_calls _).mono ?_; rintro e w3 ⟨rfl, hf3⟩))
      have hst : StE B w cb most 0 (.slice none 0 0) (.int .u64 0) w1 := ⟨_, [], _, Non, ⟨hp1, Sl.nil _ _ _ _, fun _ _ h => h, fun k hk => by have := hk.1; omega, fun _ h => h.elim, hf1.mono (fun _ _ h => h.elim), ⟨by simp [RS.new], by simp, by simp [RS.new], by simp, by simp [RS.new]⟩, rfl⟩, rfl, Nat.le_refl _, by simp [RS.new]⟩
      clear hf1 hp1
      go_loopw [7, 8, 9] (fun t7 t8 i wr => ∃ k : Nat, k ≤ l.length ∧ i = .int .i64 (k : Nat) ∧ StE B w cb most k t7 t8 wr) (fun _ _ i _ => l.length - (intOf i).toNat)
      case atStart => exact ⟨0, Nat.zero_le _, rfl, hst⟩
      case round =>
        obtain ⟨k, hk, rfl, r, M, X, Z, hs, rfl, hM, hla⟩ := hrel
        obtain ⟨wo, rfl⟩ : ∃ wo : World, wo = wr := ⟨_, rfl⟩
        have Hs := Lib.hid hs
        obtain ⟨ma, mc, rfl, hmc, hmm, _, _⟩ := hs.m.open
        have hfr := hs.fr
        clear hs
        by_cases hlt : k < l.length
        · have HA := H.out.fr hfr (fun _ h => h)
          obtain ⟨g, o, rfl, hg, hcl⟩ := HA.cells.resolve_left (by intro e; rw [e] at hlt; simp at hlt)
          obtain ⟨hb1, hlow, _⟩ := HA.bytes l[k] (by simp)
          have hb3 := hbig l[k] (by simp)
          obtain ⟨ba, bc, hbv, hbl, hbm, hbcell⟩ := id hb1
          obtain ⟨hx0, hx1, hx2, hx3⟩ := hcl k hlt
          generalize l[k].bs = bs at *
          have hsz := hfr.size
          rw [hbv] at hx2
          have Hbt := Lib.hid (show Bts wo (.slice ba bs.length bc) bs from hbv ▸ hb1)
          have Hlow := Lib.hid (show Low B (.slice ba bs.length bc) bs from hbv ▸ hlow)
          clear hcl HA hb1 hlow hbv hbcell
          generalize l[k].kind = xk at *
          generalize l[k].client = xc at *
          generalize l[k].ticket = xt at *
          go_upto_block 2 with fail
          go_cut [7, 8] (fun t7 t8 wx => StE B w cb most (k + 1) t7 t8 wx)
          case first =>
            have hbox := blk_new wo (.cells #[.int .i64 xk, .int .i64 xc, .slice ba bs.length bc, .int .u64 xt] 40) rfl
            have hf0 : Fr Non wo (wo.alloc (.cells #[.int .i64 xk, .int .i64 xc, .slice ba bs.length bc, .int .u64 xt] 40)) := (Fr.refl _ _).alloc _
            by_cases k1 : xk = 1
            · subst k1
              have hEnt := entriesP X _ cb r (Hs.out.p.fr hf0 (fun _ _ h => h))
              unfold ptr at hEnt
              have HEnt := Lib.hid hEnt
              clear hEnt
              go_upto_region 15 with (go_at_call 15; go_loud (refine (HEnt.out).mono ?_); rintro e w2 ⟨v2, rfl, hf2, hsl2⟩)
              have hf02 : Fr Non wo w2 := hf0.trans hf2 (fun _ _ h => h)
              have hbox2 := hf2.keep hbox (fun h => h)
              have Hbox2 := Lib.hid hbox2
              have hz2 := hf2.size
              simp only [World.size_alloc] at hz2
              obtain ⟨ka, ta, sa, hsh⟩ := RS.arrive_shape r (xc, str bs) bs.length
              have HArr : Hid (∀ w1 v, Fr Non wo w1 → Bts w1 v bs → Calls Try.prog 11 #[.pointer (some ⟨cb, 0, none⟩), .int .i64 xc, v] w1 fun e w' => e = .returned (.agg #[.int .i64 ka, .int .u64 ta, .string sa]) ∧ Fr X w1 w' ∧ IsP (Nw X w1 w') w' cb (r.arrive (xc, str bs) bs.length).2) := Lib.hid (fun w1 v hf hv => by
                have := arriveP X w1 cb r xc v bs (Hs.out.p.fr hf (fun _ _ h => h)) hv (by omega)
                rw [hsh] at this
                exact this)
              have Hnone : Hid (ba = none → bs.length = 0) := Lib.hid Hbt.out.news.1
              have Hnews : Hid (∀ w1, Fr Non wo w1 → ∀ ad, ba = some ad → ∀ j u, (bs.map fun y => Value.int .u8 y.toNat)[j]? = some u → w1.cell? (ad.add j) = some u) := Lib.hid (fun w1 hf => (Hbt.out.fr hf (fun _ _ h => h)).news.2)
              have Hf02 := Lib.hid hf02
              have Hsl2 := Lib.hid hsl2
              have hbc2 := blk_cell hbox2
              have hl1 : w2.cell? ⟨wo.heap.size, 1, none⟩ = some (.int .i64 xc) := by rw [hbc2]; rfl
              have hl2 : w2.cell? ⟨wo.heap.size, 2, none⟩ = some (.slice ba bs.length bc) := by rw [hbc2]; rfl
              clear hbc2 hbox hbox2 hf0 hf02 hf2 hsl2 HEnt hx0 hx1 hx2 hx3
              go_cut [12] (fun t12 wx => ∃ n, t12 = .pointer (some ⟨n, 0, none⟩) ∧ MidA wo X cb r (r.arrive (xc, str bs) bs.length).2 v2 (.cells #[.int .i64 1, .int .i64 xc, .slice ba bs.length bc, .int .u64 xt] 40) (.cells #[.int .i64 ka, .int .u64 ta, .string sa] 30) n wx)
              case rest =>
                obtain ⟨n12, rfl, hmid⟩ := hcut
                obtain ⟨⟨X', hp', hX'⟩, hfrw, hbx, har, hne, hen⟩ := hmid
                have hqb := blk_cell hbx
                have hqa := blk_cell har
                have hlb := lt_of_block hbx
                have hla' := lt_of_block har
                have hlA := RS.arrive_last r (xc, str bs) bs.length
                have hsz1 := hfrw.size
                have Hp' := Lib.hid hp'
                have Hfrw := Lib.hid hfrw
                have Hbx := Lib.hid hbx
                have Har := Lib.hid har
                have Hen := Lib.hid hen
                have HZ : Hid (Sl Z wc 45 5 (.slice ma M.length mc) M.length (rowsC M)) := Lib.hid (Hs.out.m.fr hfrw (fun k hk hx => Hs.out.d k hx hk))
                have HB : Hid (Bts wc (.slice ba bs.length bc) bs) := Lib.hid (Hbt.out.frL Hlow.out hfrw Hs.out.x)
                rcases RS.arrive_cases r (xc, str bs) bs.length with ⟨hA, hno, hlast, L', hsub, hL'⟩ | ⟨hA, hB2 | ⟨e, he, hek, hAe⟩⟩
                · obtain ⟨rfl, rfl, rfl⟩ : ka = 0 ∧ ta = r.last + 1 ∧ sa = emp := by rw [hsh] at hA; simpa [arr] using hA
                  have hll := Hs.out.p.fair.l1024
                  have hres := Lib.hid (resident_calls (fun _ => True) Z wc v2 (.slice ma M.length mc) r.L M 1 xc xt (.slice ba bs.length bc) bs Hen.out HZ.out HB.out hll (by omega) (fun e he m hm ⟨ht, hc1, hc2⟩ => by
                    have hem := Hs.out.inv.uniq hm (Hs.out.inv.sub e he) ht
                    subst hem
                    have := List.find?_eq_none.1 hno m he
                    simp [Ent.key, hc1, hc2] at this))
                  clear hA hno hsh hqb hqa
                  have hqb := blk_cell Hbx.out
                  have hqa := blk_cell Har.out
                  go_wp2_with (first
                    | (go_at_call 16; go_loud (refine (hres.out).mono ?_); rintro e w5 ⟨rfl, hf5⟩; have hbx5 := hf5.keep Hbx.out (fun h => h); have har5 := hf5.keep Har.out (fun h => h); have hqb5 := blk_cell hbx5; have hqa5 := blk_cell har5; have hconv := conv_bytes Try.und32 Try.und5 Try.und9 (HB.out.fr hf5 (fun _ _ h => h)))
                    | (at_builtin; go_loud (refine wpList_append_sl _ rfl _ _ _ rfl 45 (by kernel_rfl) Try.inf45 rfl (by decide) rfl ((HZ.out.fr hf5 (fun _ _ h => h)).alloc _) ⟨w5.heap.size, 0, none⟩ 1 1 (c45 ⟨xc, str bs, r.last + 1, emp, false⟩) rfl rfl (news_at _ _ _ rfl) (by simp [c45, Value.oneCell']) (by unfold maxLen; omega) (by omega) ?_); intro a6 c6 w6 happ; have har6 := happ.fr.keep (blk_old_some har5 _) (fun e => by have := (Hs.out.z _ (HZ.out.2 _ e)).2; omega); have hqa6 := blk_cell har6))
                  go_meet
                  replace happ : Appd _ _ _ _ (.slice ma M.length mc) _ _ _ _ _ _ _ := happ
                  have hz5 := hf5.size
                  have hz6 := happ.fr.size
                  simp only [World.size_alloc] at hz6
                  have hown : ∀ k, (Value.slice ma M.length mc).ownBlock = some k → Z k := HZ.out.2
                  obtain ⟨Z6, hZ6, hm6⟩ : ∃ Z6 : Nat → Prop, (∀ k, Z6 k → Z k ∨ (w5.heap.size + 1 ≤ k ∧ k < w6.heap.size)) ∧ Sl Z6 w6 45 5 (.slice a6 (M.length + 1) c6) (M ++ [Ent.mk xc (str bs) (r.last + 1) emp false]).length (rowsC (M ++ [Ent.mk xc (str bs) (r.last + 1) emp false])) := by
                    refine ⟨fun k => Z k ∨ (w5.heap.size + 1 ≤ k ∧ k < w6.heap.size), fun k hk => hk, ?_⟩
                    rw [List.length_append, show rowsC (M ++ [Ent.mk xc (str bs) (r.last + 1) emp false]) = rowsC M ++ c45 (Ent.mk xc (str bs) (r.last + 1) emp false) by simp [rowsC, List.flatMap_append]]
                    exact happ.sl.mono (fun k hk => hk.imp id (fun h => by simp only [World.size_alloc] at h; exact h))
                  have hpl := Hp'.out.lt
                  refine ⟨(r.arrive (xc, str bs) bs.length).2, _, X', _, Hs.out.step hB (((Hp'.out.fr hf5 (fun _ _ h => h)).alloc _).fr happ.fr (fun k hk e => ?_)) (fun k hk => (hX' k hk).imp id (fun h => by omega)) ?_ hm6 (fun k hk => (hZ6 k hk).imp id (fun h => ⟨by have := h.1; omega, h.2⟩)) (fun k hx hge hz => ?_) (Hs.out.inv.arrive (k := (xc, str bs)) hlast hsub hL') hlA.2.2, by rw [hlast], by simp; omega, by omega⟩
                  · have h1 := hown k e
                    exact (hX' k hk).elim (fun h => Hs.out.d k h h1) (fun h => by have := (Hs.out.z k h1).2; omega)
                  · exact (((Hfrw.out.trans hf5 (fun _ _ h => h.elim)).alloc _).mono (fun _ _ h => Or.inl h)).trans happ.fr (fun k _ e => .inr (hown k e))
                  · rcases hZ6 k hz with hz | hz
                    · have := (Hs.out.z k hz).2; omega
                    · have h1 := hpl k hx; have h2 := hz.1; omega
                · rw [hA] at Hp'
                  have hfin : Hid (StE B w cb most (k + 1) (.slice ma M.length mc) (.int .u64 r.last) wc) := Lib.hid ⟨r, M, X', Z, Hs.out.step hB Hp'.out (fun k hk => (hX' k hk).imp id (fun h => by omega)) (Hfrw.out.mono (fun _ _ h => .inl h)) HZ.out (fun k h => .inl h) (fun k hx hge hz => by have := (Hs.out.z k hz).2; omega) Hs.out.inv rfl, rfl, by omega, by omega⟩
                  rcases hB2 with hB2 | hB2
                  all_goals
                    rw [hsh] at hB2
                    simp only [arr, Value.agg.injEq, Array.mk.injEq, List.cons.injEq, Value.int.injEq, Value.string.injEq, true_and, and_true] at hB2
                    obtain ⟨rfl, rfl, rfl⟩ := hB2
                    clear hsh hqb hqa
                    have hqb := blk_cell Hbx.out
                    have hqa := blk_cell Har.out
                    go_wp2
                    go_meet
                    exact hfin.out
                · rw [hA] at Hp'
                  have hfin : Hid (∀ wz, Fr Non wc wz → StE B w cb most (k + 1) (.slice ma M.length mc) (.int .u64 r.last) wz) := Lib.hid (fun wz hz => ⟨r, M, X', Z, Hs.out.step hB (Hp'.out.fr hz (fun _ _ h => h)) (fun k hk => (hX' k hk).imp id (fun h => by omega)) ((Hfrw.out.trans hz (fun _ _ h => h.elim)).mono (fun _ _ h => .inl h)) (HZ.out.fr hz (fun _ _ h => h)) (fun k h => .inl h) (fun k hx hge hz => by have := (Hs.out.z k hz).2; omega) Hs.out.inv rfl, rfl, by omega, by omega⟩)
                  obtain ⟨hxc, hrcd⟩ : xc = e.client ∧ e.rcd = str bs := by
                    have := hek
                    simp only [Ent.key, Prod.mk.injEq] at this
                    exact ⟨this.1, this.2.symm⟩
                  have hans := fun xk hxk => answers_calls Z wc (.slice ma M.length mc) M 1 xt (.slice ba bs.length bc) bs xk e HZ.out HB.out (by omega) Hs.out.inv.nd (Hs.out.inv.sub e he) hrcd hxk
                  rw [← hxc] at hans
                  have hemp := Hs.out.inv.emp e he
                  rw [hsh] at hAe
                  rcases hd : e.done with _ | _
                  all_goals
                    rw [hd] at hAe hans hemp
                    simp only [arr, if_true, if_false, Bool.false_eq_true, Value.agg.injEq, Array.mk.injEq, List.cons.injEq, Value.int.injEq, Value.string.injEq, true_and, and_true] at hAe
                    obtain ⟨rfl, rfl, rfl⟩ := hAe
                    first
                      | (have hans1 := hans 1 (by simp); rw [hemp rfl] at hans1)
                      | have hans1 := hans 2 (by simp)
                    have Hans := Lib.hid hans1
                    clear hsh hqb hqa hans hans1 hemp hd hek he hxc hrcd
                    have hqb := blk_cell Hbx.out
                    have hqa := blk_cell Har.out
                    go_wp2_with (go_at_call 17; go_loud (refine (Hans.out).mono ?_); rintro e9 w5 ⟨rfl, hf5⟩)
                    go_meet
                    exact hfin.out _ hf5
              case first =>
                go_region_held3 (fun w' => w'.cell? ⟨wo.heap.size, 1, none⟩ = some (.int .i64 xc) ∧ w'.cell? ⟨wo.heap.size, 2, none⟩ = some (.slice ba bs.length bc))
                  (first
                    | exact act_limbs hb4
                    | exact act_limbs (blk_old_some hb4 _)
                    | exact act_limbs (blk_old_some hb3 _)
                    | exact act_limbs ((blk_set_other (by first | omega | (simp; omega)) _).trans ((blk_set_other (by first | omega | (simp; omega)) _).trans ((blk_set_other (by first | omega | (simp; omega)) _).trans hb4)))
                    | exact act_limbs hb3
                    | exact ⟨hl1, hl2⟩
                    | go_keep)
                  (first
                    | (go_at_call 11; refine (HArr.out _ _ hf03 (appd_bts happ)).mono ?_; rintro e w4 ⟨rfl, hf4, hp4⟩; have hb4 := hf4.keep hb3 Hs.out.p.nx; (try (have hn4 := hf4.keep hn3 (fun hx => by have := Hs.out.p.lt _ hx; omega); have hq4 := blk_cell hn4; have hz4 := blk_free hn4)))
                    | (go_at_call 11; refine (HArr.out _ _ (hf03.alloc _) ((appd_bts happ).fr ((Fr.refl Non _).alloc _) (fun _ _ h => h))).mono ?_; rintro e w4 ⟨rfl, hf4, hp4⟩; have hb4 := hf4.keep (blk_old_some hb3 _) Hs.out.p.nx; have hn4 := hf4.keep (blk_new w3 _ rfl) (fun hx => by have := Hs.out.p.lt _ hx; omega); have hq4 := blk_cell hn4; have hz4 := blk_free hn4)
                    | (refine step_append_any (by rfl) _ _ _ (by rfl) 5 Try.und32 Try.inf5b rfl (by decide) (by rfl) ((fresh_row _).drew) ba bs.length bc (bs.map fun y => Value.int .u8 y.toNat) (by rfl) (by simp) Hnone.out (Hnews.out _ ((Hf02.out.alloc _).drew)) (by simp [Value.oneCell']) (by unfold maxLen; omega) (by omega) ?_; intro a3 c3 w3 happ; have hz3 : w2.heap.size < w3.heap.size := Nat.lt_of_lt_of_le (sz1 _ _) happ.fr.size; have hf23 := appd_non (wo := w2) happ (((Fr.refl Non w2).alloc _).drew) (by first | omega | (simp only [World.size_alloc]; omega) | (simp; omega)); have hf03 := Hf02.out.trans hf23 (fun _ _ h => h); have hb3 := appd_keep happ (w := World.drew _) (blk_old_some Hbox2.out _) (by first | omega | (simp only [World.size_alloc]; omega) | (simp; omega)))
                    | (refine step_append_any (by rfl) _ _ _ (by rfl) 5 Try.und32 Try.inf5b rfl (by decide) (by rfl) (((fresh_row _).alloc _).drew) ba bs.length bc (bs.map fun y => Value.int .u8 y.toNat) (by rfl) (by simp) Hnone.out (Hnews.out _ (((Hf02.out.alloc _).alloc _).drew)) (by simp [Value.oneCell']) (by unfold maxLen; omega) (by omega) ?_; intro a3 c3 w3 happ; have hz3 : w2.heap.size + 1 < w3.heap.size := Nat.lt_of_lt_of_le (sz2 _ _ _) happ.fr.size; have hf23 := appd_non (wo := w2) happ ((((Fr.refl Non w2).alloc _).alloc _).drew) (by first | omega | (simp only [World.size_alloc]; omega) | (simp; omega)); have hf03 := Hf02.out.trans hf23 (fun _ _ h => h); have hb3 := appd_keep happ (w := World.drew _) (blk_old_some (blk_old_some Hbox2.out _) _) (by first | omega | (simp only [World.size_alloc]; omega) | (simp; omega)); have hn3 := appd_keep (b := w2.heap.size + 1) happ (w := World.drew _) (blk_new _ _ (by simp)) (by first | omega | (simp only [World.size_alloc]; omega) | (simp; omega)))
                    | (refine step_append_any (by rfl) _ _ _ (by rfl) 5 Try.und32 Try.inf5b rfl (by decide) (by rfl) ((fresh_at (w2.alloc _) (n := w2.heap.size + 1) (by simp)).drew) ba bs.length bc (bs.map fun y => Value.int .u8 y.toNat) (by rfl) (by simp) Hnone.out (Hnews.out _ (((Hf02.out.alloc _).alloc _).drew)) (by simp [Value.oneCell']) (by unfold maxLen; omega) (by omega) ?_; intro a3 c3 w3 happ; have hz3 : w2.heap.size + 1 < w3.heap.size := Nat.lt_of_lt_of_le (sz2 _ _ _) happ.fr.size; have hf23 := appd_non (wo := w2) happ ((((Fr.refl Non w2).alloc _).alloc _).drew) (by first | omega | (simp only [World.size_alloc]; omega) | (simp; omega)); have hf03 := Hf02.out.trans hf23 (fun _ _ h => h); have hb3 := appd_keep happ (w := World.drew _) (blk_old_some (blk_old_some Hbox2.out _) _) (by first | omega | (simp only [World.size_alloc]; omega) | (simp; omega)); have hn3 := appd_keep (b := w2.heap.size) happ (w := World.drew _) (blk_old_some (blk_new _ _ rfl) _) (by first | omega | (simp only [World.size_alloc]; omega) | (simp; omega))))
                all_goals (go_wp2; go_meet)
                · exact midA_after Hs.out.p.lt Hf02.out Hsl2.out hz2 hf23 hf4 hp4 hb4
                · exact midA_before Hs.out.p.lt Hf02.out Hsl2.out hz2 (hf23.alloc _) hf4 hp4 hb4 hn4 (by omega) (by simp)
                · exact midA_before Hs.out.p.lt Hf02.out Hsl2.out hz2 hf23 hf4 hp4 hb4 hn4 (by omega) (by omega)
                · exact midA_before Hs.out.p.lt Hf02.out Hsl2.out hz2 hf23 hf4 hp4 hb4 hn4 (by omega) (by omega)
            by_cases k2 : xk = 2
            · subst k2
              have hbox2 := hbox
              have Hbox2 := Lib.hid hbox2
              have hN : wo.heap.size + 1 = (wo.alloc (.cells #[.int .i64 2, .int .i64 xc, .slice ba bs.length bc, .int .u64 xt] 40)).heap.size := by simp
              generalize hW2 : wo.alloc (.cells #[.int .i64 2, .int .i64 xc, .slice ba bs.length bc, .int .u64 xt] 40) = w2 at *
              have HDone : Hid (∀ w1 v, Fr Non wo w1 → Bts w1 v bs → Calls Try.prog 13 #[.pointer (some ⟨cb, 0, none⟩), .int .u64 xt, v] w1 fun e w' => e = .returned (.int .i64 (r.finish xt (str bs) bs.length).1) ∧ Fr X w1 w' ∧ IsP (Nw X w1 w') w' cb (r.finish xt (str bs) bs.length).2) := Lib.hid (fun w1 v hf hv =>
                doneP X w1 cb r xt v bs (Hs.out.p.fr hf (fun _ _ h => h)) hv)
              have Hnone : Hid (ba = none → bs.length = 0) := Lib.hid Hbt.out.news.1
              have Hnews : Hid (∀ w1, Fr Non wo w1 → ∀ ad, ba = some ad → ∀ j u, (bs.map fun y => Value.int .u8 y.toNat)[j]? = some u → w1.cell? (ad.add j) = some u) := Lib.hid (fun w1 hf => (Hbt.out.fr hf (fun _ _ h => h)).news.2)
              have Hf02 := Lib.hid hf0
              have hbc2 := blk_cell hbox2
              have hl1 : w2.cell? ⟨wo.heap.size, 3, none⟩ = some (.int .u64 xt) := by rw [hbc2]; rfl
              have hl2 : w2.cell? ⟨wo.heap.size, 2, none⟩ = some (.slice ba bs.length bc) := by rw [hbc2]; rfl
              have hl0 : w2.cell? ⟨wo.heap.size, 0, none⟩ = some (.int .i64 2) := by rw [hbc2]; rfl
              clear hbox hbox2 hbc2 hx0 hx1 hx2 hx3 hf0 k1
              have hmid : Hid (∀ (w4 w3 : World) (r' : RS), Fr Non w2 w3 → Fr X w3 w4 → IsP (Nw X w3 w4) w4 cb r' → IsP (Nw X w3 w4) w4 cb r' ∧ (∀ k, Nw X w3 w4 k → X k ∨ wo.heap.size ≤ k) ∧ Fr X wo w4 ∧ Sl Z w4 45 5 (.slice ma M.length mc) M.length (rowsC M) ∧ (∀ k, Nw X w3 w4 k → wo.heap.size ≤ k → ¬ Z k)) := Lib.hid (fun w4 w3 r' h23 h34 hp => by
                have z1 := h23.size
                have z2 := Hf02.out.size
                have h04 := ((Hf02.out.trans h23 (fun _ _ h => h)).mono (fun _ _ h => h.elim)).trans h34 (fun _ _ h => h)
                exact ⟨hp, fun k hk => hk.imp id (fun h => by have := h.1; omega), h04, Hs.out.m.fr h04 (fun k hk hx => Hs.out.d k hx hk), fun k hk hge hz => by have := (Hs.out.z k hz).2; omega⟩)
              go_upto_region 24 with fail
              rcases RS.finish_cases r xt (str bs) bs.length with ⟨st, hst, hfin⟩ | ⟨i, hi, hti, hfin⟩
              · rw [hfin] at HDone
                have hst0 : (st == 0) = false := by simpa using hst
                go_region_held3 (fun w' => w'.cell? ⟨wo.heap.size, 3, none⟩ = some (.int .u64 xt) ∧ w'.cell? ⟨wo.heap.size, 2, none⟩ = some (.slice ba bs.length bc))
                  (first
                    | exact act_limbs2 hb4
                    | exact act_limbs2 hb3
                    | exact ⟨hl1, hl2⟩
                    | go_keep)
                  (first
                    | (go_at_call 10; refine (num_calls _ _).mono ?_; rintro e w' ⟨rfl, rfl⟩)
                    | (go_at_call 13; refine (HDone.out _ _ hf03 (appd_bts happ)).mono ?_; rintro e w4 ⟨rfl, hf4, hp4⟩; have hb4 := hf4.keep hb3 Hs.out.p.nx)
                    | (refine step_append_any (by rfl) _ _ _ (by rfl) 5 Try.und32 Try.inf5b rfl (by decide) (by rfl) ((fresh_row _).drew) ba bs.length bc (bs.map fun y => Value.int .u8 y.toNat) (by rfl) (by simp) Hnone.out (Hnews.out _ ((Hf02.out.alloc _).drew)) (by simp [Value.oneCell']) (by unfold maxLen; omega) (by omega) ?_; intro a3 c3 w3 happ; have hz3 : w2.heap.size < w3.heap.size := Nat.lt_of_lt_of_le (sz1 _ _) happ.fr.size; have hf23 := appd_non (wo := w2) happ (((Fr.refl Non w2).alloc _).drew) (by first | omega | (simp only [World.size_alloc]; omega) | (simp; omega)); have hf03 := Hf02.out.trans hf23 (fun _ _ h => h); have hb3 := appd_keep happ (w := World.drew _) (blk_old_some Hbox2.out _) (by first | omega | (simp only [World.size_alloc]; omega) | (simp; omega))))
                go_wp2
                go_meet
                obtain ⟨p1, p2, p3, p4, p5⟩ := hmid.out _ _ _ hf23 hf4 hp4
                exact ⟨r, M, _, Z, Hs.out.step hB p1 p2 (p3.mono (fun _ _ h => .inl h)) p4 (fun k h => .inl h) p5 Hs.out.inv rfl, rfl, by omega, by omega⟩
              · rw [hfin] at HDone
                go_region_held3 (fun w' => w'.cell? ⟨wo.heap.size, 3, none⟩ = some (.int .u64 xt) ∧ w'.cell? ⟨wo.heap.size, 2, none⟩ = some (.slice ba bs.length bc))
                  (first
                    | exact act_limbs2 hb4
                    | exact act_limbs2 hb3
                    | exact ⟨hl1, hl2⟩
                    | go_keep)
                  (first
                    | (go_at_call 10; refine (num_calls _ _).mono ?_; rintro e w' ⟨rfl, rfl⟩)
                    | (go_at_call 13; refine (HDone.out _ _ hf03 (appd_bts happ)).mono ?_; rintro e w4 ⟨rfl, hf4, hp4⟩; have hb4 := hf4.keep hb3 Hs.out.p.nx)
                    | (refine step_append_any (by rfl) _ _ _ (by rfl) 5 Try.und32 Try.inf5b rfl (by decide) (by rfl) ((fresh_row _).drew) ba bs.length bc (bs.map fun y => Value.int .u8 y.toNat) (by rfl) (by simp) Hnone.out (Hnews.out _ ((Hf02.out.alloc _).drew)) (by simp [Value.oneCell']) (by unfold maxLen; omega) (by omega) ?_; intro a3 c3 w3 happ; have hz3 : w2.heap.size < w3.heap.size := Nat.lt_of_lt_of_le (sz1 _ _) happ.fr.size; have hf23 := appd_non (wo := w2) happ (((Fr.refl Non w2).alloc _).drew) (by first | omega | (simp only [World.size_alloc]; omega) | (simp; omega)); have hf03 := Hf02.out.trans hf23 (fun _ _ h => h); have hb3 := appd_keep happ (w := World.drew _) (blk_old_some Hbox2.out _) (by first | omega | (simp only [World.size_alloc]; omega) | (simp; omega))))
                obtain ⟨p1, p2, p3, p4, p5⟩ := hmid.out _ _ _ hf23 hf4 hp4
                have Hp1 := Lib.hid p1
                have Hp3 := Lib.hid p3
                have Hp4 := Lib.hid p4
                have Hb4 := Lib.hid hb4
                have Hbts4 := Lib.hid (Hbt.out.frL Hlow.out p3 Hs.out.x)
                have Hxz : Hid (∀ k, Nw X w3 w4 k → ¬ Z k) := Lib.hid (fun k hk hz => (p2 k hk).elim (fun h => Hs.out.d k h hz) (fun h => p5 k hk h hz))
                have Hp2 := Lib.hid p2
                have Hp5 := Lib.hid p5
                clear p1 p2 p3 p4 p5 hf4 hp4 hb3 hb4 happ hf23 hf03 hl1 hl2 hl0
                go_wp2_with fail
                go_loopw [13] (fun i wr => ∃ j : Nat, j ≤ M.length ∧ i = .int .i64 (j : Nat) ∧ Fr Z w4 wr ∧ Sl Z wr 45 5 (.slice ma M.length mc) M.length (rowsC (marks xt (str bs) M j))) (fun i _ => M.length - (intOf i).toNat)
                case atStart => exact ⟨0, Nat.zero_le _, rfl, Fr.refl _ _, by rw [marks_zero]; exact Hp4.out⟩
                case round =>
                  obtain ⟨j, hj, rfl, hfZ, hsl⟩ := hrel
                  have hnN : ¬ Z wo.heap.size := fun hz => by have := (Hs.out.z _ hz).2; omega
                  have hbx := hfZ.keep Hb4.out hnN
                  have hqb := blk_cell hbx
                  by_cases hlt2 : j < M.length
                  · have hml : j < (marks xt (str bs) M j).length := by rw [marks_len]; exact hlt2
                    have Hsl := Lib.hid hsl
                    obtain ⟨a', c', he', _, _, _, hrow⟩ := hsl.open
                    obtain ⟨rfl, _, rfl⟩ : ma = a' ∧ M.length = M.length ∧ mc = c' := by simpa using he'
                    obtain ⟨g', rfl, hgZ, hgl, hcell⟩ := hrow.resolve_left (by omega)
                    have hc2 : wr.cell? ⟨g', j * 5 + 2, none⟩ = some (.int .u64 M[j].ticket) := hcell _ _ (by rw [rowsC_at _ j hml 2 (by omega), marks_at _ _ hlt2]; rfl)
                    have hc3 : wr.cell? ⟨g', j * 5 + 3, none⟩ = some (.bool M[j].done) := hcell _ _ (by rw [rowsC_at _ j hml 3 (by omega), marks_at _ _ hlt2]; rfl)
                    have hc4 : wr.cell? ⟨g', j * 5 + 4, none⟩ = some (.string M[j].reply) := hcell _ _ (by rw [rowsC_at _ j hml 4 (by omega), marks_at _ _ hlt2]; rfl)
                    obtain ⟨cur, hgrow⟩ := hsl.row (k := g') rfl
                    have hfz := blk_free hgrow
                    have hNg : wo.heap.size ≠ g' := fun e => hnN (e ▸ hgZ)
                    have hgN : g' ≠ wo.heap.size := Ne.symm hNg
                    have hconv : ∀ n, (convert 32 9 (.slice ba bs.length bc)).run Try.prog ((wr.drewN n).setCell ⟨g', j * 5 + 3, none⟩ (.bool true)) = .ok (.string (str bs)) ((wr.drewN n).setCell ⟨g', j * 5 + 3, none⟩ (.bool true)) := fun n =>
                      conv_bytes Try.und32 Try.und5 Try.und9 ((Hbts4.out.frL Hlow.out hfZ (fun k hk => (Hs.out.z k hk).1)).frL Hlow.out ((Fr.refl (· = g') wr).drewN n |>.setCell (p := ⟨g', j * 5 + 3, none⟩) (fun _ => rfl) (.bool true)) (fun k hk => by subst hk; exact (Hs.out.z _ hgZ).1))
                    have HfZ := Lib.hid hfZ
                    have HgZ := Lib.hid hgZ
                    clear hcell hrow he' hgrow hsl hfZ hbx hgZ
                    by_cases ht : M[j].ticket = xt
                    · have hb1 : (M[j].ticket == xt) = true := by simpa using ht
                      have Hput := Lib.hid (fun n : Nat => show Sl Z (((wr.drewN n).setCell ⟨g', j * 5 + 3, none⟩ (.bool true)).setCell ⟨g', j * 5 + 4, none⟩ (.string (str bs))) _ _ _ _ (rowsC (marks xt (str bs) M (j + 1))) from by
                        have h0 : Sl Z (wr.drewN n) 45 5 (.slice (some ⟨g', 0, none⟩) M.length mc) M.length (rowsC (marks xt (str bs) M j)) := ⟨Hsl.out.1, Hsl.out.2⟩
                        have := (h0.put (g := g') (j := j * 5 + 3) rfl (by rw [rowsC_len, marks_len]; omega) (.bool true)).put (g := g') (j := j * 5 + 4) rfl (by rw [List.length_set, rowsC_len, marks_len]; omega) (.string (str bs))
                        rw [marks_eq hlt2 ht, rowsC_modify _ _ hml]
                        exact this)
                      clear ht
                      generalize M[j] = m at *
                      go_wp2
                      go_quiet (fail)
                      go_wp2
                      go_roundw
                      case rel => exact ⟨j + 1, by omega, by go_num, ((HfZ.out.drewN _).setCell (p := ⟨g', j * 5 + 3, none⟩) (fun _ => HgZ.out) _).setCell (p := ⟨g', j * 5 + 4, none⟩) (fun _ => HgZ.out) _, Hput.out _⟩
                      case measure => simp [intOf]; omega
                    · have hb1 : (M[j].ticket == xt) = false := by simpa using ht
                      have Hnx := Lib.hid (marks_ne (s := str bs) hlt2 ht)
                      generalize M[j] = m at *
                      go_wp2
                      go_quiet (fail)
                      go_wp2
                      go_roundw
                      case rel => exact ⟨j + 1, by omega, by go_num, HfZ.out.drewN _, by rw [Hnx.out]; exact ⟨Hsl.out.1, Hsl.out.2⟩⟩
                      case measure => simp [intOf]; omega
                  · obtain rfl : j = M.length := by omega
                    rw [marks_all] at hsl
                    have Hsl := Lib.hid hsl
                    have HfZ := Lib.hid hfZ
                    clear hsl hfZ
                    go_wp2
                    go_meet
                    exact ⟨r.fin i xt (str bs), M.map (mark xt (str bs)), _, Z, Hs.out.step hB (Hp1.out.fr HfZ.out Hxz.out) Hp2.out ((Hp3.out.mono (fun _ _ h => Or.inl h)).trans HfZ.out (fun k _ h => .inr h)) (by rw [List.length_map]; exact Hsl.out) (fun k h => .inl h) Hp5.out (Hs.out.inv.fin hi hti) rfl, rfl, by rw [List.length_map]; omega, by show r.last ≤ _; omega⟩
            by_cases k3 : xk = 3
            · subst k3
              have hforget : Hid (Calls Try.prog 18 #[.pointer (some ⟨cb, 0, none⟩), .int .u64 xt] (wo.alloc (.cells #[.int .i64 3, .int .i64 xc, .slice ba bs.length bc, .int .u64 xt] 40)) _) := Lib.hid (forgetP X _ cb r xt (Hs.out.p.fr hf0 (fun _ _ h => h)))
              have hsub := RS.forget_sub r xt
              have hbc2 := blk_cell hbox
              have Hf0 := Lib.hid hf0
              clear hf0 hbox
              go_wp2_with (go_at_call 18; go_loud (refine (hforget.out).mono ?_); rintro e w4 ⟨rfl, hf4, hp4⟩)
              go_meet
              have h04 := (Hf0.out.mono (fun _ _ h => h.elim)).trans hf4 (fun _ _ h => h)
              exact ⟨_, M, _, Z, Hs.out.step hB hp4 (fun k hk => hk.imp id (fun h => by have := h.1; simp only [World.size_alloc] at this; omega)) (h04.mono (fun _ _ h => .inl h)) (Hs.out.m.fr h04 (fun k hk hx => Hs.out.d k hx hk)) (fun k h => .inl h) (fun k hk hge hz => by have := (Hs.out.z k hz).2; omega) (Hs.out.inv.fewer hsub.2.1 hsub.1) hsub.2.2, by rw [hsub.2.1], by omega, by omega⟩
            by_cases k4 : xk = 4
            · subst k4
              have hclear : Hid (Calls Try.prog 19 #[.pointer (some ⟨cb, 0, none⟩)] (wo.alloc (.cells #[.int .i64 4, .int .i64 xc, .slice ba bs.length bc, .int .u64 xt] 40)) _) := Lib.hid (clearP X _ cb r (Hs.out.p.fr hf0 (fun _ _ h => h)))
              have hbc2 := blk_cell hbox
              have Hf0 := Lib.hid hf0
              clear hf0 hbox
              go_wp2_with (go_at_call 19; go_loud (refine (hclear.out).mono ?_); rintro e w4 ⟨rfl, hf4, hp4⟩)
              go_meet
              have h04 := (Hf0.out.mono (fun _ _ h => h.elim)).trans hf4 (fun _ _ h => h)
              exact ⟨r.clear, M, X, Z, Hs.out.step hB hp4 (fun k hk => .inl hk) (h04.mono (fun _ _ h => .inl h)) (Hs.out.m.fr h04 (fun k hk hx => Hs.out.d k hx hk)) (fun k h => .inl h) (fun k hk hge hz => by have := (Hs.out.z k hz).2; omega) (Hs.out.inv.fewer rfl (by simp [RS.clear])) rfl, rfl, by omega, by simp [RS.clear]; omega⟩
            have hbc2 := blk_cell hbox
            have Hf0 := Lib.hid hf0
            clear hf0 hbox
            go_wp2
            go_meet
            exact ⟨r, M, X, Z, Hs.out.step hB (Hs.out.p.fr Hf0.out (fun _ _ h => h)) (fun k hk => .inl hk) (Hf0.out.mono (fun _ _ h => h.elim)) (Hs.out.m.fr Hf0.out (fun _ _ h => h)) (fun k h => .inl h) (fun k hk hge hz => by have := (Hs.out.z k hz).2; omega) Hs.out.inv rfl, rfl, by omega, by omega⟩
          case rest =>
            obtain ⟨r', M', X', Z', hs', rfl, hM', hla'⟩ := hcut
            have hF := hs'.p.fair
            have hlen := hF.len
            have hdl := hF.dlen
            rw [hs'.mo] at hlen
            have hmo := hs'.mo
            have Hs' := Lib.hid hs'
            have HL : Hid (∀ wz, Fr Non wc wz → Calls Try.prog 12 #[.pointer (some ⟨cb, 0, none⟩)] wz fun e w' => e = .returned (.int .i64 r'.L.length) ∧ wz = w') := Lib.hid (fun wz hf => lenP X' wz cb r' (hs'.p.fr hf (fun _ _ h => h)))
            have HBz : Hid (∀ wz, Fr Non wc wz → Calls Try.prog 20 #[.pointer (some ⟨cb, 0, none⟩)] wz fun e w' => e = .returned (.int .i64 (r'.L.length - r'.D.length)) ∧ Fr Non wz w') := Lib.hid (fun wz hf => busyNP X' wz cb r' (hs'.p.fr hf (fun _ _ h => h)))
            clear hs' hF Hs
            go_wp2_with (first
              | (go_at_call 12; refine (HL.out _ (by first | exact hf9 | exact Fr.refl _ _)).mono ?_; rintro e w' ⟨rfl, rfl⟩)
              | (go_at_call 20; refine (HBz.out _ (Fr.refl _ _)).mono ?_; rintro e w9 ⟨rfl, hf9⟩))
            go_roundw
            case rel => exact ⟨k + 1, by omega, by go_num, r', M', X', Z', Hs'.out.step hB (Hs'.out.p.fr hf9 (fun _ _ h => h)) (fun k hk => .inl hk) (hf9.mono (fun _ _ h => h.elim)) (Hs'.out.m.fr hf9 (fun _ _ h => h)) (fun k h => .inl h) (fun k hk hge hz => by have := (Hs'.out.z k hz).2; omega) Hs'.out.inv rfl, rfl, hM', hla'⟩
            case measure => simp [intOf]; omega
        · obtain rfl : k = l.length := by omega
          go_wp2_with (go_at_call 8; refine (live_calls _).mono ?_; rintro e w1 ⟨rfl, hf1⟩)
          go_ret
          exact ⟨rfl, hfr.trans hf1 (fun _ _ h => h.elim)⟩
  · go_wp2_with (go_at_call 8; refine (live_calls _).mono ?_; rintro e w1 ⟨rfl, hf1⟩)
    go_ret
    exact ⟨rfl, hf1.mono (fun _ _ h => h.elim)⟩
end Go.Proofs.Ytidmlkedebjbgaa
