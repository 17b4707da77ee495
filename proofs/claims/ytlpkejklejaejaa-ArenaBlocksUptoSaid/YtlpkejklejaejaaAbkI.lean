/-
  ArenaBlocks: the law's walk.
-/
import Derived.Test.YtlpkejklejaejaaAbkH
set_option maxRecDepth 100000
set_option linter.unusedVariables false
set_option linter.unusedSimpArgs false
set_option linter.constructorNameAsVariable false
namespace Go.Proofs.Ytlpkejklejaejaa
open Go.RowKit Abk

theorem fits_sizes : ∀ l : List (List Int), fits l ≤ sizes l + l.length
  | [] => Nat.le_refl _
  | c :: l => by have := fits_sizes l; simp only [fits, sizes, List.length_cons]; omega
theorem Byt.nil (w : World) : Byt w (.slice none 0 0) [] := ⟨none, 0, rfl, Nat.le_refl _, Nat.zero_le _, .inl rfl⟩
theorem Chs.nil (w : World) : Chs w (.slice none 0 0) [] := ⟨none, 0, rfl, Nat.le_refl _, Nat.zero_le _, .inl rfl⟩
theorem put_same {w w1 w2 w3 : World} {st : Nat} {l : List (List Int)} {v u : Value} {r s : Int} (h : PutAns w w1 st l v r) (k : PutAns w2 w3 st l u s) (hl : AllB l) :
    ∃ P, Bytes P ∧ Byt w1 v P ∧ Byt w3 u P ∧ r = s ∧ ((Abk.Good st l ∧ s = 0 ∧ P = block st l) ∨ s = 160) := by
  rcases h with ⟨hg, rfl, hs⟩ | ⟨hb, rfl, rfl⟩
  · rcases k with ⟨_, rfl, ks⟩ | ⟨kb, _⟩
    · exact ⟨block st l, bytes_block hl, Byt.of_sl (block_len hg).symm hs, Byt.of_sl (block_len hg).symm ks, rfl, .inl ⟨hg, rfl, rfl⟩⟩
    · exact absurd hg kb
  · rcases k with ⟨kg, _⟩ | ⟨_, rfl, rfl⟩
    · exact absurd kg hb
    · exact ⟨[], (fun u hu => by cases hu), Byt.nil _, Byt.nil _, rfl, .inr rfl⟩
theorem get_same {w1 w3 : World} {b : List Int} {st su : Int} {v u : Value} {r s : Int} (h : GetAns w1 b st v r) (k : GetAns w3 b su u s) (hB : Bytes b) :
    ∃ L, AllB L ∧ Chs w1 v L ∧ Chs w3 u L ∧ r = s ∧ st = su := by
  rcases h with ⟨hg, rfl, rfl, hs⟩ | ⟨hb, rfl, rfl, rfl⟩
  · rcases k with ⟨_, rfl, rfl, ks⟩ | ⟨kb, _⟩
    · exact ⟨chunksOf b, allB_parse _ _ (Bytes.drop hB 12), hs, ks, rfl, rfl⟩
    · exact absurd hg kb
  · rcases k with ⟨kg, _⟩ | ⟨_, rfl, rfl, rfl⟩
    · exact absurd kg hb
    · exact ⟨[], (fun u hu => by cases hu), Chs.nil _, Chs.nil _, rfl, rfl⟩
theorem Chs.of_rows_fr {X Y : Nat → Prop} {w w' : World} {v : Value} {ps : List Value} {l : List (List Int)} (h : Sl Y w 26 1 v l.length ps) (hr : Rows Y w v ps l) (hf : Fr X w w') (hx : ∀ q, Y q → ¬ X q) : Chs w' v l :=
  Chs.of_rows (h.fr hf hx) ⟨hr.1, fun j b hj => by
    obtain ⟨s, e1, e2, e3⟩ := hr.2 j b hj
    exact ⟨s, e1, e2.fr hf (fun q hq => hx q (e3 q hq).1), e3⟩⟩
theorem get_slice {w : World} {b : List Int} {st : Int} {v : Value} {r : Int} (h : GetAns w b st v r) : ∃ a n c, v = .slice a n c := by
  rcases h with ⟨_, _, _, a, c, h, _⟩ | ⟨_, _, _, h⟩
  · exact ⟨_, _, _, h⟩
  · exact ⟨_, _, _, h⟩
/-- What lies in memory: the four arenas, the bytes. -/
structure Lay (W : World) (x y z v : Nat) (st : Nat) (s0 : Int) (cx cy cz cv p q g bv : Value) (l L : List (List Int)) (b P : List Int) : Prop where
  bx : W.heap[x]? = some (.cells #[.int .u64 (st : Nat), cx] 25 (0, 0))
  by' : W.heap[y]? = some (.cells #[.int .u64 (st : Nat), cy] 25 (0, 0))
  bz : W.heap[z]? = some (.cells #[.int .u64 s0, cz] 25 (0, 0))
  bw : W.heap[v]? = some (.cells #[.int .u64 s0, cv] 25 (0, 0))
  hx : Chs W cx l
  hy : Chs W cy l
  hz : Chs W cz L
  hv : Chs W cv L
  hp : Byt W p P
  hq : Byt W q P
  hg : Byt W g b
  hb : Byt W bv b
theorem Lay.to {W W' : World} {x y z v st : Nat} {s0 : Int} {cx cy cz cv p q g bv : Value} {l L : List (List Int)} {b P : List Int} (h : Lay W x y z v st s0 cx cy cz cv p q g bv l L b P) (hf : Fr Non W W') : Lay W' x y z v st s0 cx cy cz cv p q g bv l L b P :=
  ⟨hf.keep h.bx (fun h => h), hf.keep h.by' (fun h => h), hf.keep h.bz (fun h => h), hf.keep h.bw (fun h => h), h.hx.fr hf, h.hy.fr hf, h.hz.fr hf, h.hv.fr hf, h.hp.fr hf (fun _ _ h => h), h.hq.fr hf (fun _ _ h => h), h.hg.fr hf (fun _ _ h => h), h.hb.fr hf (fun _ _ h => h)⟩

set_option maxHeartbeats 2000000 in
theorem blocks_calls (w : World) (st : Nat) (hst : st < 18446744073709551616) (cx bv : Value) (l : List (List Int)) (b : List Int) (hl : AllB l) (hB : Bytes b) (hc : Chs w cx l) (hb : Byt w bv b) (hs1 : sizes l < 1048577) (hs2 : b.length < 1048577)
    (hlive : ∀ W, Calls Try.prog 5 #[] W fun e W' => e = .returned (.bool true) ∧ Fr Non W W') :
    Calls Try.prog 3 #[.agg #[.int .u64 (st : Nat), cx], bv] w fun e w' => e = .returned (.bool true) ∧ Fr Non w w' := by
  obtain ⟨ax, kx, rfl, hk1, hk2, _⟩ := id hc
  obtain ⟨ab, kb, rfl, hk3, hk4, _⟩ := id hb
  unfold maxLen at hk2 hk4
  have Hl := Lib.hid hl
  have HB := Lib.hid hB
  have Hlive := Lib.hid hlive
  have Hc := Lib.hid hc
  have Hb := Lib.hid hb
  have hby := fun O => bytes_calls _ l (w.alloc O) (hc.fr ((Fr.refl Non w).alloc O)) (by omega)
  have Hby := Lib.hid hby
  have hbig : big l < 1048577 := by unfold big; split <;> omega
  clear hl hB hlive hc hb hby
  go_enter Try.func3, Try.ntmps3
  by_cases b1 : 8000 < big l
  · go_wp2_with fail
    refine (Hby.out _).mono ?_
    rintro e w' ⟨rfl, rfl⟩
    go_wp2_with fail
    refine (Hlive.out _).mono ?_
    rintro e w' ⟨rfl, hf⟩
    go_wp2_with fail
    go_ret
    exact ⟨rfl, ((Fr.refl Non w).alloc _).trans hf (fun _ _ h => h)⟩
  have b1b : decide (8000 < (big l : Int)) = false := by simp; omega
  by_cases b2 : 8000 < b.length
  · go_wp2_with fail
    refine (Hby.out _).mono ?_
    rintro e w' ⟨rfl, rfl⟩
    go_wp2_with fail
    refine (Hlive.out _).mono ?_
    rintro e w' ⟨rfl, hf⟩
    go_wp2_with fail
    go_ret
    exact ⟨rfl, ((Fr.refl Non w).alloc _).trans hf (fun _ _ h => h)⟩
  have b2b : decide (8000 < (b.length : Int)) = false := by simp; omega
  have hfit : fits l < 10000 := by
    have := fits_sizes l
    unfold big at b1
    split at b1
    · omega
    · omega
  go_wp2_with fail
  refine (Hby.out _).mono ?_
  rintro e w' ⟨rfl, rfl⟩
  have hbx0 := blk_new w (.cells #[.int .u64 (st : Nat), .slice ax l.length kx] 25) rfl
  have hcx0 := Hc.out.fr ((Fr.refl Non w).alloc (.cells #[.int .u64 (st : Nat), .slice ax l.length kx] 25))
  have hf0 : Fr Non w (w.alloc (.cells #[.int .u64 (st : Nat), .slice ax l.length kx] 25)) := (Fr.refl Non w).alloc _
  have hz0 : (w.alloc (.cells #[.int .u64 (st : Nat), .slice ax l.length kx] 25)).heap.size = w.heap.size + 1 := by simp
  go_upto_region 3 with fail
  generalize w.alloc (.cells #[.int .u64 (st : Nat), .slice ax l.length kx] 25) = w0 at *
  have hbc := blk_cell hbx0
  have hbc0 := hbc 0
  have hbc1 := hbc 1
  simp only [List.getElem?_toArray, List.getElem?_cons_zero, List.getElem?_cons_succ] at hbc0 hbc1
  have Hbx0 := Lib.hid hbx0
  have Hcx0 := Lib.hid hcx0
  have Hf0 := Lib.hid hf0
  have hown : ∀ W, Fr Non w0 W → Calls Try.prog 6 #[.slice ax l.length kx] W fun e w' => ∃ ay ky, e = .returned (.slice ay l.length ky) ∧ Fr Non W w' ∧ ∀ (X : Nat → Prop) w'', Fr X w' w'' → (∀ q, New W w' q → ¬ X q) → Chs w'' (.slice ay l.length ky) l := fun W hf => by
    refine (own_calls _ l W (by omega) (hcx0.fr hf)).mono ?_
    rintro e w' ⟨v', ps, rfl, h1, h2, h3⟩
    obtain ⟨ay, ky, rfl, _⟩ := id h2.open
    exact ⟨ay, ky, rfl, h1, fun X w'' hf hx => Chs.of_rows_fr h2 h3 hf hx⟩
  have Hown := Lib.hid hown
  clear hbc hbx0 hcx0 hf0 hown Hby
  go_cut [5] (fun t5 wx => ∃ y cy, t5 = .pointer (some ⟨y, 0, none⟩) ∧ Fr Non w0 wx ∧ wx.heap[y]? = some (.cells #[.int .u64 (st : Nat), cy] 25 (0, 0)) ∧ Chs wx cy l)
  case first =>
    have hbl := fun O => blk_new w0 O (n := w0.heap.size) rfl
    have hca0 := fun O => ((Fr.refl Non w0).alloc O).cell hbc0 (fun h => h)
    have hca1 := fun O => ((Fr.refl Non w0).alloc O).cell hbc1 (fun h => h)
    have Hz0 := Lib.hid hz0
    clear hz0
    go_region_law (first
      | (go_simp; go_at_call 6; refine (Hown.out w0.drew (Fr.refl Non _).drew).mono ?_; rintro e w1 ⟨ay, ky, rfl, hf1d, hcy⟩; have hf1 : Fr Non w0 w1 := (Fr.refl Non _).drew.trans hf1d (fun _ _ h => h); have hbd0 := hf1.cell hbc0 (fun h => h); have hbd1 := hf1.cell hbc1 (fun h => h); have hbe0 := fun O => (hf1.alloc O).cell hbc0 (fun h => h); have hbe1 := fun O => (hf1.alloc O).cell hbc1 (fun h => h))
      | (go_simp; go_at_call 6; refine (Hown.out (w0.alloc (.cells #[.int .u64 0, .slice none 0 0] 25)).drew ((Fr.refl Non _).alloc _).drew).mono ?_; rintro e w1 ⟨ay, ky, rfl, hf1d, hcy⟩; have hf1 : Fr Non w0 w1 := (((Fr.refl Non _).alloc _).drew).trans hf1d (fun _ _ h => h); have hbd0 := hf1.cell hbc0 (fun h => h); have hbd1 := hf1.cell hbc1 (fun h => h); have hyb := hf1d.keep (hbl (.cells #[.int .u64 0, .slice none 0 0] 25)) (fun h => h); have hyc := blk_cell hyb; have hyf := blk_free hyb))
    all_goals
      clear hbc0 hbc1 hbl hca0 hca1 hbd0 hbd1
      go_wp2
      go_meet
      first
        | exact ⟨w1.heap.size, .slice ay l.length ky, rfl, hf1.alloc _, blk_new w1 _ rfl, hcy Non _ ((Fr.refl Non _).alloc _) (fun _ _ h => h)⟩
        | exact ⟨w0.heap.size, .slice ay l.length ky, rfl, (hf1.setCell (p := ⟨w0.heap.size, 0, none⟩) (fun h => absurd h (Nat.lt_irrefl _)) _).setCell (p := ⟨w0.heap.size, 1, none⟩) (fun h => absurd h (Nat.lt_irrefl _)) _, blk_set (i := 1) (blk_set (i := 0) hyb (.int .u64 (st : Nat))) (.slice ay l.length ky),
            hcy (fun q => q = w0.heap.size) _ (((Fr.refl (fun q => q = w0.heap.size) w1).setCell (p := ⟨w0.heap.size, 0, none⟩) (fun _ => rfl) _).setCell (p := ⟨w0.heap.size, 1, none⟩) (fun _ => rfl) _) (fun q hq e => by have := hq.1; simp at this; omega)⟩
  case rest =>
    obtain ⟨y, cy, rfl, hf1, hby, hcy⟩ := hcut
    have hbx := hf1.keep Hbx0.out (fun h => h)
    have hcx := Hcx0.out.fr hf1
    have hbc := blk_cell hbx
    have hyc := blk_cell hby
    have Hw1 := Lib.hid (Hf0.out.trans hf1 (fun _ _ h => h) : Fr Non w wc)
    have Hbx := Lib.hid hbx
    have Hby := Lib.hid hby
    have Hcx := Lib.hid hcx
    have Hcy := Lib.hid hcy
    obtain ⟨ay, ky, rfl, _⟩ := id hcy
    clear hf1 hbx hby hcx hcy Hbx0 Hcx0 Hf0 hbc0 hbc1 Hown hz0
    have HfitL := Lib.hid hfit
    go_wp2_with fail
    refine (putblock_calls _ st hst _ l Hcy.out (by omega)).mono ?_
    rintro e w2 ⟨p, r2, rfl, hf2, hans2⟩
    have hbx2 := hf2.keep Hbx.out (fun h => h)
    have hxc2 := blk_cell hbx2
    have Hbx2 := Lib.hid hbx2
    have Hf2 := Lib.hid hf2
    have Ha2 := Lib.hid hans2
    have Hcx2 := Lib.hid (Hcx.out.fr hf2)
    clear hbx2 hf2 hans2 hbc hyc
    go_wp2_with fail
    refine (refput_calls _ st hst _ l Hcx2.out (by omega)).mono ?_
    rintro e w3 ⟨q, r3, rfl, hf3, hans3⟩
    have Hf3 := Lib.hid hf3
    have Ha3 := Lib.hid hans3
    obtain ⟨P, hPB, hP2, hQ3, hr23, hPc⟩ := put_same Ha2.out hans3 Hl.out
    have HPB := Lib.hid hPB
    have HP3 := Lib.hid (hP2.fr hf3 (fun _ _ h => h))
    have HQ3 := Lib.hid hQ3
    have HPc := Lib.hid hPc
    subst hr23
    have hw3 := (Hw1.out.trans Hf2.out (fun _ _ h => h)).trans hf3 (fun _ _ h => h)
    have Hw3 := Lib.hid hw3
    have hb4 := Hb.out.fr (hw3.alloc (.cells #[] 5)) (fun _ _ h => h)
    have HB4 := Lib.hid hb4
    clear hf3 hans3 hPB hP2 hQ3 hPc hw3 hb4 hxc2
    go_wp2_with (at_builtin; go_loud (refine wpList_append_any _ rfl _ _ _ rfl 5 Try.undB Try.inf5b rfl (by decide) rfl (fresh_at w3 rfl) ab b.length kb (u8s b) rfl (by simp [u8s]) HB4.out.news.2.2.2.1 HB4.out.news.2.2.2.2 (u8s_one _) (by unfold maxLen; omega) (by omega) ?_); intro a4 c4 w4 happ)
    replace happ : Appd _ _ _ _ (.slice (some ⟨w3.heap.size, 0, none⟩) 0 0) _ _ _ _ _ _ _ := happ
    have hsl4 := happ.sl
    simp only [Nat.zero_add, List.nil_append] at hsl4
    have hf34 : Fr Non w3 w4 := ((Fr.refl _ _).alloc _).trans happ.fr (fun q hq e => by have : w3.heap.size = q := Option.some.inj e; omega)
    have hg4 : Byt w4 (.slice a4 b.length c4) b := Byt.of_sl rfl hsl4
    refine (getblock_calls w4 _ b HB.out hg4 (by omega)).mono ?_
    rintro e w5 ⟨st5, cz, r5, rfl, hf5, hans5⟩
    obtain ⟨az, nz, kz, rfl⟩ := get_slice hans5
    have hf35 : Fr Non w3 w5 := hf34.trans hf5 (fun _ _ h => h)
    have Ha5 := Lib.hid hans5
    have Hf35 := Lib.hid hf35
    have Hg5 := Lib.hid (hg4.fr hf5 (fun _ _ h => h))
    have hb5 := (Hb.out.fr (Hw3.out.trans hf35 (fun _ _ h => h)) (fun _ _ h => h)).fr ((Fr.refl Non w5).alloc (.cells #[.int .u64 st5, .slice az nz kz] 25)) (fun _ _ h => h)
    have Hb5 := Lib.hid hb5
    clear happ hsl4 hf34 hg4 hf5 hf35 hans5 hb5
    go_wp2_with fail
    refine (refget_calls _ _ b HB.out Hb5.out (by omega)).mono ?_
    rintro e w6 ⟨st6, cv, r6, rfl, hf6, hans6⟩
    obtain ⟨av, nv, kv, rfl⟩ := get_slice hans6
    obtain ⟨L, hLB, hZ5, hV6, hr56, hst56⟩ := get_same Ha5.out hans6 HB.out
    subst hr56
    subst hst56
    have hzz := blk_new w5 (.cells #[.int .u64 st5, .slice az nz kz] 25) rfl
    have hZ6 := (hZ5.fr ((Fr.refl Non w5).alloc (.cells #[.int .u64 st5, .slice az nz kz] 25))).fr hf6
    have hf56 : Fr Non w5 w6 := ((Fr.refl Non w5).alloc _).trans hf6 (fun _ _ h => h)
    have hzz6 := hf6.keep hzz (fun h => h)
    have hF := Hf35.out.trans hf56 (fun _ _ h => h)
    have hlay : Lay (w6.alloc (.cells #[.int .u64 st5, .slice av nv kv] 25)) w.heap.size y w5.heap.size w6.heap.size st st5 (.slice ax l.length kx) (.slice ay l.length ky) (.slice az nz kz) (.slice av nv kv) p q (.slice a4 b.length c4) (.slice ab b.length kb) l L b P := by
      have ha := (Fr.refl Non w6).alloc (.cells #[.int .u64 st5, .slice av nv kv] 25)
      have h26 := Hf3.out.trans hF (fun _ _ h => h)
      have hc6 := Hf2.out.trans h26 (fun _ _ h => h)
      exact {
        bx := ha.keep (h26.keep Hbx2.out (fun h => h)) (fun h => h)
        by' := ha.keep (hc6.keep Hby.out (fun h => h)) (fun h => h)
        bz := ha.keep hzz6 (fun h => h)
        bw := blk_new w6 _ rfl
        hx := (Hcx2.out.fr h26).fr ha
        hy := (Hcy.out.fr hc6).fr ha
        hz := hZ6.fr ha
        hv := hV6.fr ha
        hp := (HP3.out.fr hF (fun _ _ h => h)).fr ha (fun _ _ h => h)
        hq := (HQ3.out.fr hF (fun _ _ h => h)).fr ha (fun _ _ h => h)
        hg := (Hg5.out.fr hf56 (fun _ _ h => h)).fr ha (fun _ _ h => h)
        hb := (Hb.out.fr (Hw3.out.trans hF (fun _ _ h => h)) (fun _ _ h => h)).fr ha (fun _ _ h => h) }
    have Hlay := Lib.hid hlay
    have Hw7 := Lib.hid ((Hw3.out.trans hF (fun _ _ h => h)).alloc (.cells #[.int .u64 st5, .slice av nv kv] 25))
    have HLB := Lib.hid hLB
    clear hLB hZ5 hV6 hzz hZ6 hf56 hzz6 hF hlay hf6 hans6
    go_upto_region 9 with fail
    generalize w6.alloc (.cells #[.int .u64 st5, .slice av nv kv] 25) = w7 at *
    generalize w5.heap.size = zb at *
    generalize w6.heap.size = vb at *
    have c1 := conv_byt HPB.out Hlay.out.hp
    have c2 := conv_byt HPB.out Hlay.out.hq
    have hz7 := blk_cell Hlay.out.bz 0
    have hv7 := blk_cell Hlay.out.bw 0
    have hz71 := blk_cell Hlay.out.bz 1
    have hv71 := blk_cell Hlay.out.bw 1
    simp only [List.getElem?_toArray, List.getElem?_cons_zero, List.getElem?_cons_succ] at hz7 hv7 hz71 hv71
    go_wp2_with (first | simp only [c1] | simp only [c2])
    refine (errno_calls _ _).mono ?_
    rintro e w' ⟨rfl, rfl⟩
    clear c1 c2
    go_wp2_with fail
    refine (same_calls _ _ L L _ HLB.out HLB.out Hlay.out.hz Hlay.out.hv).mono ?_
    rintro e w8 ⟨r8, rfl, hr8, hf8⟩
    obtain rfl : r8 = true := hr8.2 rfl
    have Hl8 := Lib.hid (Hlay.out.to hf8)
    have Hw8 := Lib.hid (Hw7.out.trans hf8 (fun _ _ h => h))
    clear hr8 hf8 hz7 hv7 hz71 hv71
    go_wp2_with fail
    refine (errno_calls _ _).mono ?_
    rintro e w' ⟨rfl, rfl⟩
    have hx8 := blk_cell Hl8.out.bx 1
    have hy8 := blk_cell Hl8.out.by' 1
    simp only [List.getElem?_toArray, List.getElem?_cons_zero, List.getElem?_cons_succ] at hx8 hy8
    go_wp2_with fail
    refine (same_calls _ _ l l _ Hl.out Hl.out Hl8.out.hx Hl8.out.hy).mono ?_
    rintro e w9 ⟨r9, rfl, hr9, hf9⟩
    obtain rfl : r9 = true := hr9.2 rfl
    have Hl9 := Lib.hid (Hl8.out.to hf9)
    have Hw9 := Lib.hid (Hw8.out.trans hf9 (fun _ _ h => h))
    have c3 := conv_byt HB.out Hl9.out.hg
    have c4' := conv_byt HB.out Hl9.out.hb
    clear hr9 hf9 hx8 hy8
    rcases HPc.out with ⟨hgood, rfl, rfl⟩ | rfl
    · have hlen : (block st l).length = 384 := block_len hgood
      obtain ⟨ap, kp, rfl, _⟩ := id Hl9.out.hp
      obtain ⟨aq, kq, rfl, _⟩ := id Hl9.out.hq
      have hblk := isBlock_block hgood
      obtain ⟨ho1, ho2⟩ := of_block hgood
      have hgb := getblock_calls w9 _ (block st l) HPB.out Hl9.out.hp (by omega)
      have Hblk := Lib.hid (And.intro hblk (And.intro ho1 ho2))
      have HPB2 := Lib.hid HPB.out
      rw [hlen] at hgb ⊢
      have Hgb := Lib.hid hgb
      clear hgood hlen hblk ho1 ho2 hgb
      go_wp2_with (first | simp only [c3] | simp only [c4'])
      refine Hgb.out.mono ?_
      rintro e w10 ⟨sv, vv, rv, rfl, hf10, hans10⟩
      have hl10 : Lay w10 w.heap.size y zb vb st st5 (.slice ax l.length kx) (.slice ay l.length ky) (.slice az nz kz) (.slice av nv kv) _ _ (.slice a4 b.length c4) (.slice ab b.length kb) l L b (block st l) := Hl9.out.to hf10
      rcases hans10 with ⟨_, rfl, rfl, hcv⟩ | ⟨hbad, _⟩
      · rw [Hblk.out.2.1] 
        rw [Hblk.out.2.2] at hcv
        obtain ⟨a10, k10, rfl, _⟩ := id hcv
        have hbx10 := (Fr.refl Non w10).alloc (.cells #[.int .u64 (st : Nat), .slice a10 l.length k10] 25)
        have hl11 := hl10.to hbx10
        have hx10 := blk_cell hl11.bx 0
        have hx11 := blk_cell hl11.bx 1
        simp only [List.getElem?_toArray, List.getElem?_cons_zero, List.getElem?_cons_succ] at hx10 hx11
        have Hl11 := Lib.hid hl11
        have Hcv := Lib.hid (hcv.fr hbx10)
        have Hw11 := Lib.hid ((Hw9.out.trans hf10 (fun _ _ h => h)).trans hbx10 (fun _ _ h => h))
        clear hl11 hl10 hcv hbx10 hf10 c3 c4'
        go_wp2_with fail
        refine (errno_calls _ _).mono ?_
        rintro e w' ⟨rfl, rfl⟩
        go_wp2_with fail
        refine (same_calls _ _ l l _ Hl.out Hl.out Hcv.out Hl11.out.hx).mono ?_
        rintro e w12 ⟨r12, rfl, hr12, hf12⟩
        obtain rfl : r12 = true := hr12.2 rfl
        have Hw12 := Lib.hid (Hw11.out.trans hf12 (fun _ _ h => h))
        clear hr12 hf12 hx10 hx11
        go_wp2_with fail
        refine (Hlive.out _).mono ?_
        rintro e w' ⟨rfl, hf⟩
        go_wp2_with fail
        go_ret
        exact ⟨rfl, Hw12.out.trans hf (fun _ _ h => h)⟩
      · exact absurd Hblk.out.1 hbad
    · go_wp2_with (first | simp only [c3] | simp only [c4'])
      refine (Hlive.out _).mono ?_
      rintro e w' ⟨rfl, hf⟩
      go_wp2_with fail
      go_ret
      exact ⟨rfl, Hw9.out.trans hf (fun _ _ h => h)⟩
end Go.Proofs.Ytlpkejklejaejaa
