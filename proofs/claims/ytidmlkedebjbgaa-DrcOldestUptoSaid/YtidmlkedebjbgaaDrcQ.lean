/-
  The law's 'act': one act on both caches.
-/
import Derived.Test.YtidmlkedebjbgaaDrcP
import Derived.Deep.CutBlock
namespace Go.Proofs.Ytidmlkedebjbgaa
open Go.RowKit

theorem Two.fr {B : Nat} {Z : Nat → Prop} {w w' : World} {c b : Nat} {r : RS} (h : Two B w c b r) (hf : Fr Z w w') (hZ : ∀ k, Z k → w.heap.size ≤ k) : Two B w' c b r := by
  obtain ⟨X, Y, hp, hr, hd, hx, hy⟩ := h
  exact ⟨X, Y, hp.fr hf (fun k hk hz => by have := hp.lt k hk; have := hZ k hz; omega), hr.fr hf (fun k hk hz => by have := hr.lt k hk; have := hZ k hz; omega), hd, hx, hy⟩
theorem RS.arrive_shape (r : RS) (k : Int × ByteArray) (n : Nat) : ∃ kd t s, (r.arrive k n).1 = .agg #[.int .i64 kd, .int .u64 t, .string s] := by
  unfold RS.arrive
  split
  · exact ⟨_, _, _, rfl⟩
  · split
    · split <;> exact ⟨_, _, _, rfl⟩
    · split
      · exact ⟨_, _, _, rfl⟩
      · split <;> exact ⟨_, _, _, rfl⟩
theorem RS.arrive_last (r : RS) (k : Int × ByteArray) (n : Nat) : (r.arrive k n).2.last ≤ r.last + 1 ∧ r.last ≤ (r.arrive k n).2.last ∧ (r.arrive k n).2.most = r.most := by
  unfold RS.arrive
  split
  · exact ⟨by simp; omega, by simp, rfl⟩
  · split
    · exact ⟨by simp; omega, by simp, rfl⟩
    · split
      · exact ⟨by simp [RS.push], by simp [RS.push]; omega, rfl⟩
      · split
        · exact ⟨by simp; omega, by simp, rfl⟩
        · exact ⟨by simp [RS.push, RS.take], by simp [RS.push, RS.take]; omega, rfl⟩
theorem RS.finish_last (r : RS) (t : Int) (s : ByteArray) (n : Nat) : (r.finish t s n).2.last = r.last ∧ (r.finish t s n).2.most = r.most := by
  unfold RS.finish
  split
  · exact ⟨rfl, rfl⟩
  · split <;> exact ⟨rfl, rfl⟩
theorem RS.forget_last (r : RS) (t : Int) : (r.forget t).2.last = r.last ∧ (r.forget t).2.most = r.most := by
  unfold RS.forget
  split <;> exact ⟨rfl, rfl⟩

def ActPost (B : Nat) (b : Nat) (r : RS) (w : World) (e : Ending) (w' : World) : Prop := ∃ c' r', e = .returned (.tuple #[ptr c', .bool true]) ∧ Fr (B ≤ ·) w w' ∧ Two B w' c' b r' ∧ r'.last ≤ r.last + 1
/-- Both caches, apart from the blocks N .. M; and the bytes of the act's copy there. -/
structure Mda (B N M : Nat) (w wx : World) (c b : Nat) (r : RS) (X Y : Nat → Prop) (v : Value) (n : Nat) (xs : List Int) : Prop where
  p : IsP X wx c r
  r : IsR Y wx b r
  d : ∀ k, X k → ¬ Y k
  x : ∀ k, X k → B ≤ k ∧ (k < N ∨ M ≤ k)
  y : ∀ k, Y k → B ≤ k ∧ (k < N ∨ M ≤ k)
  fr : Fr (B ≤ ·) w wx
  sl : Sl (fun k => N ≤ k ∧ k < M) wx 5 1 v n (xs.map (Value.int .u8))
  hBN : B ≤ N
  hM : M ≤ wx.heap.size
def MdaE (B N M : Nat) (w : World) (c b : Nat) (v : Value) (n : Nat) (l : Int) (wx : World) : Prop := ∃ r X Y xs, Mda B N M w wx c b r X Y v n xs ∧ r.last ≤ l
theorem Nw_far {X : Nat → Prop} {B N M : Nat} {w w' : World} (h : ∀ k, X k → B ≤ k ∧ (k < N ∨ M ≤ k)) (hB : B ≤ N) (hN : N ≤ M) (hM : M ≤ w.heap.size) : ∀ k, Nw X w w' k → B ≤ k ∧ (k < N ∨ M ≤ k) := fun k hk => hk.elim (h k) (fun hk => by have := hk.1; omega)
theorem Nw_dis {X Y : Nat → Prop} {w w' : World} (h : ∀ k, X k → ¬ Y k) (hY : ∀ k, Y k → k < w.heap.size) : ∀ k, Nw X w w' k → ¬ Y k := fun k hk hy => hk.elim (fun hk => h k hk hy) (fun hk => by have := hY k hy; have := hk.1; omega)
/-- One writing call on each cache. -/
theorem Mda.two {B N M : Nat} {w wx w1 w2 : World} {c b : Nat} {r r' : RS} {X Y : Nat → Prop} {v : Value} {n : Nat} {xs : List Int} (h : Mda B N M w wx c b r X Y v n xs) (hN : N ≤ M)
    (hf1 : Fr X wx w1) (hp : IsP (Nw X wx w1) w1 c r') (hf2 : Fr Y w1 w2) (hr : IsR (Nw Y w1 w2) w2 b r') : ∃ X' Y', Mda B N M w w2 c b r' X' Y' v n xs := by
  have hY1 : ∀ k, Y k → k < wx.heap.size := h.r.lt
  have d1 : ∀ k, Nw X wx w1 k → ¬ Y k := Nw_dis h.d hY1
  refine ⟨_, _, hp.fr hf2 d1, hr, fun k hx hy => hy.elim (d1 k hx) (fun hy => by have := hp.lt k hx; have := hy.1; omega), Nw_far h.x h.hBN hN h.hM, Nw_far h.y h.hBN hN (Nat.le_trans h.hM hf1.size), ?_, ?_, h.hBN, Nat.le_trans h.hM (Nat.le_trans hf1.size hf2.size)⟩
  · exact (h.fr.trans hf1 (fun k _ hk => (h.x k hk).1)).trans hf2 (fun k _ hk => (h.y k hk).1)
  · exact (h.sl.fr hf1 (fun k hk hx => by have := (h.x k hx).2; omega)).fr hf2 (fun k hk hx => by have := (h.y k hx).2; omega)

theorem Try.inf5b : (Try.prog.info? 5).map (fun i => (i.zero, i.size, i.bytes)) = some (some (.int .u8 0), 1, 1) := by kernel_rfl
theorem Try.und5 : Try.prog.underlying 5 = some (.int .u8) := by kernel_rfl
theorem Try.und9 : Try.prog.underlying 9 = some .string := by kernel_rfl
theorem Try.und32 : Try.prog.underlying 32 = some (.slice 5) := by kernel_rfl

theorem Mda.same {B N M : Nat} {w wx wy : World} {c b : Nat} {r : RS} {X Y : Nat → Prop} {v : Value} {n : Nat} {xs : List Int} (h : Mda B N M w wx c b r X Y v n xs) (hf : Fr Non wx wy) : Mda B N M w wy c b r X Y v n xs where
  p := h.p.fr hf (fun _ _ h => h)
  r := h.r.fr hf (fun _ _ h => h)
  d := h.d
  x := h.x
  y := h.y
  fr := h.fr.trans hf (fun _ _ h => h.elim)
  sl := h.sl.fr hf (fun _ _ h => h)
  hBN := h.hBN
  hM := Nat.le_trans h.hM hf.size
theorem Mda.put {B N M : Nat} {w wx : World} {c b : Nat} {r : RS} {X Y : Nat → Prop} {a : Option Addr} {cp : Nat} {n : Nat} {xs : List Int} (h : Mda B N M w wx c b r X Y (.slice a n cp) n xs) {g j : Nat} (hg : a = some ⟨g, 0, none⟩) (hj : j < n) (u : Int) : Mda B N M w (wx.setCell ⟨g, j, none⟩ (.int .u8 u)) c b r X Y (.slice a n cp) n (xs.set j u) := by
  subst hg
  have hgg := h.sl.2 g rfl
  have hlen := h.sl.len
  have hf : Fr (· = g) wx (wx.setCell ⟨g, j, none⟩ (.int .u8 u)) := Fr.one _ _ _ _
  exact {
    p := h.p.fr hf (fun k hk e => by have := (h.x k hk).2; omega)
    r := h.r.fr hf (fun k hk e => by have := (h.y k hk).2; omega)
    d := h.d
    x := h.x
    y := h.y
    fr := h.fr.trans hf (fun k _ e => by have := h.hBN; omega)
    sl := by
      have := h.sl.put (g := g) (j := j) rfl (by rw [hlen]; omega) (.int .u8 u)
      rw [List.map_set]
      exact this
    hBN := h.hBN
    hM := Nat.le_trans h.hM hf.size }
/-- The act itself, as it lies in its box at block N. -/
structure BoxS (B N : Nat) (kind client ticket : Int) (bv : Value) (bs : List UInt8) (w : World) : Prop where
  box : w.heap[N]? = some (.cells #[.int .i64 kind, .int .i64 client, bv, .int .u64 ticket] 40 (0, 0))
  bts : Bts w bv bs
  low : Low B bv bs
theorem BoxS.fr {B N : Nat} {kind client ticket : Int} {bv : Value} {bs : List UInt8} {w w' : World} {Z : Nat → Prop} (h : BoxS B N kind client ticket bv bs w) (hf : Fr Z w w') (hZ : ∀ k, Z k → B ≤ k ∧ k ≠ N) : BoxS B N kind client ticket bv bs w' where
  box := hf.keep h.box (fun hz => (hZ _ hz).2 rfl)
  bts := h.bts.frL h.low hf (fun k hz => (hZ k hz).1)
  low := h.low
theorem BoxS.limbs {B N : Nat} {kind client ticket : Int} {bv : Value} {bs : List UInt8} {w : World} (h : BoxS B N kind client ticket bv bs w) :
    w.cell? ⟨N, 1, none⟩ = some (.int .i64 client) ∧ w.cell? ⟨N, 2, none⟩ = some bv ∧ w.cell? ⟨N, 3, none⟩ = some (.int .u64 ticket) ∧ (convert 32 9 bv).run Try.prog w = .ok (.string (str bs)) w :=
  ⟨by rw [blk_cell h.box]; rfl, by rw [blk_cell h.box]; rfl, by rw [blk_cell h.box]; rfl, conv_bytes Try.und32 Try.und5 Try.und9 h.bts⟩
theorem Bts_of_sl {X : Nat → Prop} {w : World} {v : Value} {bs : List UInt8} (h : Sl X w 5 1 v bs.length ((bs.map fun y => (y.toNat : Int)).map (Value.int .u8))) : Bts w v bs := by
  obtain ⟨a, c, rfl, h1, h2, _, h3⟩ := h.open
  refine ⟨a, c, rfl, h1, h2, ?_⟩
  rcases h3 with h3 | ⟨g, rfl, _, _, hc⟩
  · exact .inl (List.eq_nil_of_length_eq_zero h3)
  · refine .inr ⟨g, 0, rfl, fun i hi => ?_⟩
    rw [Nat.zero_add]
    refine hc i _ ?_
    rw [getElem!_pos _ _ (by simpa using hi)]
    simp [hi]
theorem str_size' (bs : List UInt8) : (str bs).size = bs.length := by simp [str, ByteArray.size]

set_option maxRecDepth 100000 in
set_option maxHeartbeats 2000000 in
theorem act_calls (B : Nat) (w : World) (c b : Nat) (r : RS) (x : ActD) (h : Two B w c b r) (hB : B ≤ w.heap.size) (hbv : Bts w x.bv x.bs) (hlow : Low B x.bv x.bs) (hbl : x.bs.length ≤ 30000) (hlast : r.last ≤ 1000) :
    Calls Try.prog 23 #[ptr c, ptr b, .agg #[.int .i64 x.kind, .int .i64 x.client, x.bv, .int .u64 x.ticket]] w (ActPost B b r w) := by
  obtain ⟨ba, bc, hbve, hblc, hbcm, hbcell⟩ := id hbv
  have Hbv := Lib.hid hbv
  have Hlow := Lib.hid hlow
  rw [hbve] at Hbv Hlow ⊢
  have H := Lib.hid h
  clear h hbv hlow hbve
  have kc := convC
  generalize hkind : x.kind = kind
  generalize hcl : x.client = client
  generalize htk : x.ticket = ticket
  clear hkind hcl htk
  generalize x.bs = bs at *
  clear x
  unfold ptr
  go_enter Try.func23, Try.ntmps23
  have hsl : Sl (fun k => k = w.heap.size + 1) ((w.alloc (.cells #[.int .i64 kind, .int .i64 client, .slice ba bs.length bc, .int .u64 ticket] 40)).alloc (.cells #[] 5)) 5 1 (.slice (some ⟨w.heap.size + 1, 0, none⟩) 0 0) 0 [] :=
    ⟨⟨rfl, .inr ⟨w.heap.size + 1, 0, #[], rfl, Nat.zero_le _, blk_new _ _ (by simp), Nat.le_refl _, Nat.zero_le _, rfl, rfl⟩⟩, fun k hk => by simp [Value.ownBlock] at hk; exact hk.symm⟩
  have hnone : ba = none → bs.length = 0 := fun e => by
    rcases hbcell with h | ⟨g, o, h, _⟩
    · rw [h]; rfl
    · rw [e] at h; cases h
  have hnews : ∀ ad, ba = some ad → ∀ j u, (bs.map fun y => Value.int .u8 y.toNat)[j]? = some u → ((w.alloc (.cells #[.int .i64 kind, .int .i64 client, .slice ba bs.length bc, .int .u64 ticket] 40)).alloc (.cells #[] 5)).cell? (ad.add j) = some u := by
    intro ad e j u hu
    rcases hbcell with h | ⟨g, o, h, hc⟩
    · subst h; simp at hu
    · rw [e] at h
      obtain rfl := Option.some.inj h
      have hj : j < bs.length := by
        have := (List.getElem?_eq_some_iff.1 hu).1
        simpa using this
      have hc := hc j hj
      have hadd : (⟨g, o, none⟩ : Addr).add j = ⟨g, o + j, none⟩ := by unfold Addr.add; split <;> simp_all
      rw [hadd, (((Fr.refl Non w).alloc _).alloc _).cell hc (fun h => h), ← hu]
      rw [getElem!_pos _ _ (by simpa using hj)]
      simp [hj]
  have Hsl := Lib.hid hsl
  have Hnews := Lib.hid hnews
  have Hnone := Lib.hid hnone
  clear hsl hnews hnone hbcell
  go_upto_block 0 with (at_builtin; go_loud (refine wpList_append_any _ rfl _ _ _ rfl 5 Try.und32 Try.inf5b rfl (by decide) rfl Hsl.out ba bs.length bc (bs.map fun y => Value.int .u8 y.toNat) rfl (by simp) Hnone.out Hnews.out (by simp [Value.oneCell']) (by unfold maxLen; omega) (by omega) ?_); intro a3 c3 w3 happ; replace happ : Appd _ _ _ _ (.slice (some ⟨w.heap.size + 1, 0, none⟩) 0 0) _ _ _ _ _ _ _ := happ; have hbx := happ.fr.keep (blk_old_some (blk_new w _ rfl) _) (fun e => by have := Option.some.inj e; simp at this); have hbc := blk_cell hbx)
  have hf03 : Fr Non w w3 := (((Fr.refl Non w).alloc _).alloc _).trans happ.fr (fun k hk e => by have : w.heap.size + 1 = k := Option.some.inj e; omega)
  have hz3 := happ.fr.size
  simp only [World.size_alloc] at hz3
  obtain ⟨X, Y, hp, hr, hd, hx, hy⟩ := H.out
  have hmid : Mda B w.heap.size w3.heap.size w w3 c b r X Y (.slice a3 bs.length c3) bs.length (bs.map fun y => (y.toNat : Int)) := {
    p := hp.fr hf03 (fun _ _ h => h)
    r := hr.fr hf03 (fun _ _ h => h)
    d := hd
    x := fun k hk => ⟨hx k hk, .inl (hp.lt k hk)⟩
    y := fun k hk => ⟨hy k hk, .inl (hr.lt k hk)⟩
    fr := hf03.mono (fun _ _ h => h.elim)
    sl := by
      have := happ.sl
      simp only [Nat.zero_add, List.nil_append] at this
      rw [List.map_map]
      exact this.mono (fun k hk => by simp only [World.size_alloc] at hk; omega)
    hBN := hB
    hM := Nat.le_refl _ }
  have Hbox := Lib.hid (BoxS.mk (B := B) hbx (Hbv.out.fr hf03 (fun _ _ h => h)) Hlow.out)
  have Hm := Lib.hid hmid
  have HNM := Lib.hid hz3
  clear hmid happ hf03 Hsl Hnews Hnone Hbv hp hr hd hx hy H hbx hbc hz3 hblc hbcm Hlow
  go_cut [9] (fun t9 wx => t9 = .bool true ∧ MdaE B w.heap.size w3.heap.size w c b (.slice a3 bs.length c3) bs.length (r.last + 1) wx)
  case first =>
    by_cases k1 : kind = 1
    · subst k1
      have hm := Hm.out.same (Fr.refl Non _).drew
      have HboxD := Lib.hid (Hbox.out.fr (Fr.refl Non _).drew (fun _ h => h.elim))
      have hF := hm.p.fair
      have HX : Hid (∀ k, X k → B ≤ k ∧ k ≠ w.heap.size) := Lib.hid (fun k hk => by have := hm.x k hk; have := HNM.out; omega)
      have HY : Hid (∀ k, Y k → B ≤ k ∧ k ≠ w.heap.size) := Lib.hid (fun k hk => by have := hm.y k hk; have := HNM.out; omega)
      have hcall := arriveP X w3.drew c r client _ bs hm.p (Bts_of_sl hm.sl) (by omega)
      obtain ⟨ka, ta, sa, hsh⟩ := RS.arrive_shape r (client, str bs) bs.length
      have hlst := RS.arrive_last r (client, str bs) bs.length
      have hcallR : ∀ w1, Fr X w3.drew w1 → Calls Try.prog 28 #[ptr b, .int .i64 client, .string (str bs)] w1 fun e w' => e = .returned (.agg #[.int .i64 ka, .int .u64 ta, .string sa]) ∧ Fr Y w1 w' ∧ IsR (Nw Y w1 w') w' b (r.arrive (client, str bs) bs.length).2 := by
        intro w1 hf
        have := arriveR Y w1 b r client (str bs) (hm.r.fr hf (fun k hy hx => hm.d k hx hy)) hF (by omega)
        rw [str_size', hsh] at this
        exact this
      rw [hsh] at hcall
      generalize (r.arrive (client, str bs) bs.length).2 = r' at *
      clear hsh
      unfold ptr at hcall hcallR
      have HcR := Lib.hid hcallR
      have Hc := Lib.hid hcall
      have Hm1 := Lib.hid hm
      clear hcall hcallR hm
      have hl0 := HboxD.out.limbs
      go_upto_region 5 with (fail)
      go_region_held3 (fun w' => w'.cell? ⟨w.heap.size, 1, none⟩ = some (.int .i64 client) ∧ w'.cell? ⟨w.heap.size, 2, none⟩ = some (.slice ba bs.length bc) ∧ w'.cell? ⟨w.heap.size, 3, none⟩ = some (.int .u64 ticket) ∧ (convert 32 9 (.slice ba bs.length bc)).run Try.prog w' = .ok (.string (str bs)) w')
        (first
          | exact BoxS.limbs ((HboxD.out.fr hf1 HX.out).fr hf2 HY.out)
          | exact BoxS.limbs (HboxD.out.fr hf1 HX.out)
          | exact hl0
          | go_keep)
        (first
          | (go_at_call 11; refine (Hc.out).mono ?_; rintro e w1 ⟨rfl, hf1, hp1⟩)
          | (go_at_call 28; refine (HcR.out _ hf1).mono ?_; rintro e w2 ⟨rfl, hf2, hp2⟩))
      go_wp2
      go_meet
      obtain ⟨X', Y', hm'⟩ := Hm1.out.two (by have := HNM.out; omega) hf1 hp1 hf2 hp2
      exact ⟨by simp, _, X', Y', _, hm', by omega⟩
    by_cases k2 : kind = 2
    · subst k2
      have hm := Hm.out.same (Fr.refl Non _).drew
      have HboxD := Lib.hid (Hbox.out.fr (Fr.refl Non _).drew (fun _ h => h.elim))
      have hF := hm.p.fair
      have HX : Hid (∀ k, X k → B ≤ k ∧ k ≠ w.heap.size) := Lib.hid (fun k hk => by have := hm.x k hk; have := HNM.out; omega)
      have HY : Hid (∀ k, Y k → B ≤ k ∧ k ≠ w.heap.size) := Lib.hid (fun k hk => by have := hm.y k hk; have := HNM.out; omega)
      have hcall := doneP X w3.drew c r ticket _ bs hm.p (Bts_of_sl hm.sl)
      have hlst := RS.finish_last r ticket (str bs) bs.length
      have hcallR : ∀ w1, Fr X w3.drew w1 → Calls Try.prog 29 #[ptr b, .int .u64 ticket, .string (str bs)] w1 fun e w' => e = .returned (.int .i64 (r.finish ticket (str bs) bs.length).1) ∧ Fr Y w1 w' ∧ IsR (Nw Y w1 w') w' b (r.finish ticket (str bs) bs.length).2 := by
        intro w1 hf
        have := doneR Y w1 b r ticket (str bs) (hm.r.fr hf (fun k hy hx => hm.d k hx hy)) hF
        rw [str_size'] at this
        exact this
      generalize (r.finish ticket (str bs) bs.length).2 = r' at *
      generalize (r.finish ticket (str bs) bs.length).1 = st at *
      unfold ptr at hcall hcallR
      have HcR := Lib.hid hcallR
      have Hc := Lib.hid hcall
      have Hm1 := Lib.hid hm
      clear hcall hcallR hm
      have hl0 := HboxD.out.limbs
      go_upto_region 7 with (fail)
      go_region_held3 (fun w' => w'.cell? ⟨w.heap.size, 1, none⟩ = some (.int .i64 client) ∧ w'.cell? ⟨w.heap.size, 2, none⟩ = some (.slice ba bs.length bc) ∧ w'.cell? ⟨w.heap.size, 3, none⟩ = some (.int .u64 ticket) ∧ (convert 32 9 (.slice ba bs.length bc)).run Try.prog w' = .ok (.string (str bs)) w')
        (first
          | exact BoxS.limbs ((HboxD.out.fr hf1 HX.out).fr hf2 HY.out)
          | exact BoxS.limbs (HboxD.out.fr hf1 HX.out)
          | exact hl0
          | go_keep)
        (first
          | (go_at_call 10; refine (num_calls _ _).mono ?_; rintro e w' ⟨rfl, rfl⟩)
          | (go_at_call 13; refine (Hc.out).mono ?_; rintro e w1 ⟨rfl, hf1, hp1⟩)
          | (go_at_call 29; refine (HcR.out _ hf1).mono ?_; rintro e w2 ⟨rfl, hf2, hp2⟩))
      go_wp2
      go_meet
      obtain ⟨X', Y', hm'⟩ := Hm1.out.two (by have := HNM.out; omega) hf1 hp1 hf2 hp2
      exact ⟨by simp, _, X', Y', _, hm', by omega⟩
    by_cases k3 : kind = 3
    · subst k3
      have hm := Hm.out.same (Fr.refl Non _).drew
      have HboxD := Lib.hid (Hbox.out.fr (Fr.refl Non _).drew (fun _ h => h.elim))
      have hF := hm.p.fair
      have HX : Hid (∀ k, X k → B ≤ k ∧ k ≠ w.heap.size) := Lib.hid (fun k hk => by have := hm.x k hk; have := HNM.out; omega)
      have HY : Hid (∀ k, Y k → B ≤ k ∧ k ≠ w.heap.size) := Lib.hid (fun k hk => by have := hm.y k hk; have := HNM.out; omega)
      have hcall := forgetP X w3.drew c r ticket hm.p
      have hlst := RS.forget_last r ticket
      have hcallR : ∀ w1, Fr X w3.drew w1 → Calls Try.prog 30 #[ptr b, .int .u64 ticket] w1 fun e w' => e = .returned (.int .i64 (r.forget ticket).1) ∧ Fr Y w1 w' ∧ IsR (Nw Y w1 w') w' b (r.forget ticket).2 := by
        intro w1 hf
        exact forgetR Y w1 b r ticket (hm.r.fr hf (fun k hy hx => hm.d k hx hy)) hF
      generalize (r.forget ticket).2 = r' at *
      generalize (r.forget ticket).1 = st at *
      unfold ptr at hcall hcallR
      have HcR := Lib.hid hcallR
      have Hc := Lib.hid hcall
      have Hm1 := Lib.hid hm
      clear hcall hcallR hm
      have hl0 := HboxD.out.limbs
      go_upto_region 9 with (fail)
      go_region_held3 (fun w' => w'.cell? ⟨w.heap.size, 1, none⟩ = some (.int .i64 client) ∧ w'.cell? ⟨w.heap.size, 2, none⟩ = some (.slice ba bs.length bc) ∧ w'.cell? ⟨w.heap.size, 3, none⟩ = some (.int .u64 ticket) ∧ (convert 32 9 (.slice ba bs.length bc)).run Try.prog w' = .ok (.string (str bs)) w')
        (first
          | exact BoxS.limbs ((HboxD.out.fr hf1 HX.out).fr hf2 HY.out)
          | exact BoxS.limbs (HboxD.out.fr hf1 HX.out)
          | exact hl0
          | go_keep)
        (first
          | (go_at_call 10; refine (num_calls _ _).mono ?_; rintro e w' ⟨rfl, rfl⟩)
          | (go_at_call 18; refine (Hc.out).mono ?_; rintro e w1 ⟨rfl, hf1, hp1⟩)
          | (go_at_call 30; refine (HcR.out _ hf1).mono ?_; rintro e w2 ⟨rfl, hf2, hp2⟩))
      go_wp2
      go_meet
      obtain ⟨X', Y', hm'⟩ := Hm1.out.two (by have := HNM.out; omega) hf1 hp1 hf2 hp2
      exact ⟨by simp, _, X', Y', _, hm', by omega⟩
    by_cases k4 : kind = 4
    · subst k4
      have hm := Hm.out
      have hcall := clearP X w3 c r hm.p
      have hcallR : ∀ w1, Fr X w3 w1 → Calls Try.prog 31 #[ptr b] w1 fun e w' => e = .returned (.tuple #[]) ∧ Fr Y w1 w' ∧ IsR Y w' b r.clear := by
        intro w1 hf
        exact rclear_calls Y w1 b r (hm.r.fr hf (fun k hy hx => hm.d k hx hy))
      unfold ptr at hcall hcallR
      have HcR := Lib.hid hcallR
      have Hc := Lib.hid hcall
      clear hcall hcallR hm
      go_wp2_with (first
          | (go_at_call 19; refine (Hc.out).mono ?_; rintro e w1 ⟨rfl, hf1, hp1⟩)
          | (go_at_call 31; refine (HcR.out _ hf1).mono ?_; rintro e w2 ⟨rfl, hf2, hp2⟩))
      go_meet
      have hX := Hm.out.p.lt
      have hY := Hm.out.r.lt
      have hz1 := hf1.size
      have hz2 := hf2.size
      obtain ⟨X', Y', hm'⟩ := Hm.out.two (by have := HNM.out; omega) hf1 (hp1.mono (fun _ h => .inl h) (fun k hk => hk.elim (fun h => by have := hX k h; omega) (fun h => h.2))) hf2 (hp2.mono (fun _ h => .inl h) (fun k hk => hk.elim (fun h => by have := hY k h; omega) (fun h => h.2)))
      exact ⟨rfl, _, X', Y', _, hm', by simp [RS.clear]; omega⟩
    by_cases k5 : kind = 5
    · subst k5
      have hcp := copyP X w3 c r Hm.out.p
      unfold ptr at hcp
      have Hcp := Lib.hid hcp
      clear hcp
      go_wp2_with (first
          | (go_at_call 25; go_loud (refine (Hcp.out).mono ?_); rintro e w1 ⟨d, he, hf1, hd1⟩; unfold ptr at he; subst he; have hp1 := Hm.out.p.fr hf1 (fun _ _ h => h))
          | (go_at_call 11; go_loud (refine (arriveP X _ c r 9 _ [103, 111, 110, 101] (hp1.fr (((Fr.refl Non w1).alloc (.cells #[.int .u8 103, .int .u8 111, .int .u8 110, .int .u8 101] 5 (4, 5)))) (fun _ _ h => h)) (Bts_new w1 [103, 111, 110, 101] 5 (4, 5) (by decide)) (by omega)).mono ?_); rintro e w2 ⟨rfl, hf2, hp2⟩)
          | (go_at_call 19; go_loud (refine (clearP _ _ c _ hp2).mono ?_); rintro e w4 ⟨rfl, hf4, hp4⟩))
      refine bodyPost_ret (v := .tuple #[.pointer (some ⟨d, 0, none⟩), .bool true]) (by simp [results, Try.results23, go_sem]) rfl ?_
      have hX := Hm.out.p.lt
      have hY := Hm.out.r.lt
      have hz1 := hf1.size
      have hz2 := hf2.size
      have hz4 := hf4.size
      have hN1 : ∀ k, New w3 w1 k → ¬ X k := fun k hk hx => by have := hX k hx; have := hk.1; omega
      simp only [World.size_alloc] at hz2
      have hf1a : Fr Non w3 (w1.alloc (.cells #[.int .u8 103, .int .u8 111, .int .u8 110, .int .u8 101] 5 (4, 5))) := hf1.alloc _
      have hdd := ((hd1.fr ((Fr.refl Non w1).alloc (.cells #[.int .u8 103, .int .u8 111, .int .u8 110, .int .u8 101] 5 (4, 5))) (fun _ _ h => h)).fr hf2 hN1).fr hf4 (fun k hk hx => hx.elim (hN1 k hk) (fun hx => by have := hk.2; have := hx.1; simp only [World.size_alloc] at this; omega))
      have hrr := ((Hm.out.r.fr hf1a (fun _ _ h => h)).fr hf2 (fun k hy hx => Hm.out.d k hx hy)).fr hf4 (fun k hk hx => hx.elim (fun hx => Hm.out.d k hx hk) (fun hx => by have := hY k hk; have := hx.1; simp only [World.size_alloc] at this; omega))
      refine ⟨d, r, rfl, ?_, ⟨_, _, hdd, hrr, fun k hk hy => by have := hY k hy; have := hk.1; omega, fun k hk => ?_, fun k hk => (Hm.out.y k hk).1⟩, by omega⟩
      · refine ((Hm.out.fr.trans hf1a (fun _ _ h => h.elim)).trans hf2 (fun k _ hk => (Hm.out.x k hk).1)).trans hf4 (fun k _ hk => hk.elim (fun h => (Hm.out.x k h).1) (fun h => ?_))
        have := h.1
        have h1 := Hm.out.hBN
        have h2 := Hm.out.hM
        have h3 := HNM.out
        simp only [World.size_alloc] at this
        omega
      · have h0 := hk.1
        have h1 := Hm.out.hBN
        have h3 := HNM.out
        omega
    go_wp2
    go_meet
    exact ⟨rfl, _, X, Y, _, Hm.out, by omega⟩

  case rest =>
    obtain ⟨rfl, r', X', Y', xs, hm, hl'⟩ := hcut
    obtain ⟨wo, rfl⟩ : ∃ wo : World, wo = wc := ⟨_, rfl⟩
    clear Hm Hbox HNM kc
    generalize w.heap.size = N at *
    generalize w3.heap.size = M at *
    generalize bs.length = n at *
    clear hbl
    go_wp2_with fail
    go_loopw [11] (fun i wr => ∃ k xs, k ≤ n ∧ i = .int .i64 (k : Nat) ∧ Mda B N M w wr c b r' X' Y' (.slice a3 n c3) n xs) (fun i _ => n - (intOf i).toNat)
    case atStart => exact ⟨0, xs, Nat.zero_le _, rfl, hm⟩
    case round =>
      obtain ⟨k, ys, hk, rfl, hm⟩ := hrel
      have Hm := Lib.hid hm
      clear hm
      by_cases hlt : k < n
      · have hlen := Hm.out.sl.len
        simp only [List.length_map, Nat.mul_one] at hlen
        obtain ⟨a4, c4, e4, hnc, hcm, _, hrow⟩ := Hm.out.sl.open
        obtain ⟨rfl, _, rfl⟩ : a3 = a4 ∧ n = n ∧ c3 = c4 := by simpa using e4
        obtain ⟨g, rfl, _, hglt, hcell⟩ := hrow.resolve_left (by omega)
        have hkl : k < ys.length := by omega
        unfold maxLen at hcm
        have hck : wr.cell? ⟨g, k, none⟩ = some (.int .u8 ys[k]) := hcell k _ (by simp [hkl])
        obtain ⟨cur, hgrow⟩ := Hm.out.sl.row (k := g) rfl
        have hfz := blk_free hgrow
        have Hput := Lib.hid (fun u => Hm.out.put (g := g) rfl hlt u)
        clear hcell hgrow e4 hrow
        generalize ys[k] = y at *
        go_wp2
        go_roundw
        case rel => exact ⟨k + 1, _, by omega, by go_num, Hput.out _⟩
        case measure => simp [intOf]; omega
      · obtain rfl : k = n := by omega
        go_wp2
        go_ret2
        exact ⟨c, r', rfl, Hm.out.fr, ⟨X', Y', Hm.out.p, Hm.out.r, Hm.out.d, fun k hk => (Hm.out.x k hk).1, fun k hk => (Hm.out.y k hk).1⟩, hl'⟩
end Go.Proofs.Ytidmlkedebjbgaa
