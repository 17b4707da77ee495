/-
  ArenaBlocks: the document's GetBlock.
-/
import Derived.Test.YtlpkejklejaejaaAbkG
set_option maxRecDepth 100000
set_option linter.unusedVariables false
set_option linter.unusedSimpArgs false
set_option linter.constructorNameAsVariable false
namespace Go.Proofs.Ytlpkejklejaejaa
open Go.RowKit Abk

theorem isBlock_head {b : List Int} (h : IsBlock b) : b.take 4 = aren := by
  rw [← h.2.2]
  unfold block
  rw [List.append_assoc, List.append_assoc]
  exact List.take_left' rfl
theorem Byt.at' {w : World} {g o n c : Nat} {l : List Int} (h : Byt w (.slice (some ⟨g, o, none⟩) n c) l) (j : Nat) (hj : j < l.length) : w.cell? ⟨g, o + j, none⟩ = some (.int .u8 l[j]) := by
  have := h.news.2.2.2.2 _ rfl j (.int .u8 l[j]) (by simp [u8s, hj])
  have hadd : (⟨g, o, none⟩ : Addr).add j = ⟨g, o + j, none⟩ := by unfold Addr.add; split <;> simp_all
  rw [hadd] at this
  exact this
theorem aren_bytes : Bytes aren := fun u hu => by
  simp only [aren, List.mem_cons, List.not_mem_nil, or_false] at hu
  rcases hu with rfl | rfl | rfl | rfl <;> decide
theorem aren_test {l : List Int} (h : Bytes l) : ((str l).toList == [65, 82, 69, 78]) = decide (l = aren) := by
  rw [Bool.eq_iff_iff, beq_iff_eq, decide_eq_true_eq, str_list]
  constructor
  · intro e
    rw [← b8_toU h, e]
    rfl
  · rintro rfl
    rfl
theorem num_snoc (l : List Int) (c : Int) (x : Nat) : num (l ++ [c]) x = num l x * 256 % 18446744073709551616 + c.toNat := by
  simp [num]
theorem Gb.drewN {B st : Nat} {w2 w : World} {va : Option Addr} {vc : Nat} {ps : List Value} {done : List (List Int)} (hg : Gb B st w2 w va vc ps done) (n : Nat) : Gb B st w2 (w.drewN n) va vc ps done :=
  ⟨hg.fr.drewN n, hg.box, ⟨hg.sl.1, hg.sl.2⟩, hg.rows.1, fun j b hj => by
    obtain ⟨s, e1, e2, e3⟩ := hg.rows.2 j b hj
    exact ⟨s, e1, e2.fr ((Fr.refl Non w).drewN n) (fun _ _ h => h), e3⟩⟩
/-- append([]byte{}, x...) in a region that draws. -/
theorem step_append_new {W : World} {ops : Array Oper} {o : Oper} {a : Act} {K : Act → World → Prop} {Q : Exit → Act → World → Prop} {E : Prop} (hgd : o.guard = none) (s x : Operand) (b : Nat) (hb : b = W.heap.size)
    (ho : o.op = .call { callee := .builtin .append, args := #[s, x], argTypes := #[26, 26] }) (hs : a.eval s = .slice (some ⟨b, 0, none⟩) 0 0) (m c : Nat) (ao : Option Addr) {q : List Int} (hx : a.eval x = .slice ao m c)
    (hB : Byt W (.slice ao m c) q) (hq : q.length < 1048576)
    (hK : ∀ a' c' w', Fr Non W w' → Sl (New W w') w' 5 1 (.slice a' m c') m (u8s q) → K (a.put o.dst (.slice a' m c')) w') : if Region.wanted o (yielded ops a.tmps) = true then Oper.wp Try.prog o a (W.alloc (.cells #[] 5)) K Q else E := by
  subst hb
  have HB := hB.fr ((Fr.refl Non W).alloc (.cells #[] 5)) (fun _ _ h => h)
  obtain ⟨rfl, h1, h2, h3, h4⟩ := HB.news
  refine step_append_any hgd s x 26 ho 5 Try.undB Try.inf5b rfl (by decide) hs (fresh_at W rfl) ao q.length c (u8s q) hx (by simp [u8s]) h3 h4 (u8s_one _) (by unfold maxLen; omega) (by omega) fun a' c' w' happ => ?_
  rw [Nat.zero_add]
  have hsz := happ.fr.size
  have hs := happ.sl
  simp only [Nat.zero_add, List.nil_append, World.size_alloc] at hs hsz
  have hf : Fr Non W w' := ((Fr.refl _ _).alloc _).trans happ.fr (fun k hk e => by have : W.heap.size = k := Option.some.inj e; omega)
  exact hK a' c' w' hf (hs.mono (fun k hk => ⟨by rcases hk with hk | hk <;> omega, by rcases hk with hk | hk <;> omega⟩))
set_option maxHeartbeats 2000000 in
theorem refget_calls (w : World) (v : Value) (b : List Int) (hB : Bytes b) (h : Byt w v b) (hl : b.length < 1048576) :
    Calls Try.prog 10 #[v] w fun e w' => ∃ st cv r, e = .returned (.tuple #[.agg #[.int .u64 st, cv], .int .i64 r]) ∧ Fr Non w w' ∧ GetAns w' b st cv r := by
  have HBy := Lib.hid h
  obtain ⟨a, c, rfl, h1, h2, h3⟩ := h
  unfold maxLen at h2
  have H3 := Lib.hid h3
  clear h3
  by_cases hlen : b.length = 384
  · obtain ⟨g, o, rfl, hc⟩ := H3.out.resolve_left (fun e => by rw [e] at hlen; simp at hlen)
    have Hlen := Lib.hid hlen
    clear hc H3
    have HB4 := Lib.hid (show Byt w (.slice (some ⟨g, o, none⟩) 384 c) b by have := HBy.out; rw [hlen] at this; exact this)
    clear HBy
    have h4 : ∀ W, Fr Non w W → (convert 26 9 (.slice (some ⟨g, o, none⟩) 4 c)).run Try.prog W = .ok (.string (str (b.take 4))) W := fun W hf => conv_byt (Bytes.take hB 4) ((HB4.out.take 4 c (by decide) (by omega) (by unfold maxLen; omega)).fr hf (fun _ _ h => h))
    have h4w := fun O => h4 (w.alloc O) ((Fr.refl Non w).alloc O)
    rw [hlen] at h1 ⊢
    clear hlen h4
    go_enter Try.func10, Try.ntmps10
    have ht := aren_test (Bytes.take hB 4)
    by_cases hA : b.take 4 = aren
    · have hA2 : (!(str (b.take 4)).toList == [65, 82, 69, 78]) = false := by rw [ht, decide_eq_true hA]; rfl
      clear hA ht
      go_upto_block 0 with (simp only [h4w])
      have hbA := blk_old_some (blk_new w (.cells #[.int .u64 0, .slice none 0 0] 25) rfl) (.cells #[.int .u64 0, .slice none 0 0] 25)
      have hbB := blk_new (w.alloc (.cells #[.int .u64 0, .slice none 0 0] 25)) (.cells #[.int .u64 0, .slice none 0 0] 25) (n := w.heap.size + 1) (by simp)
      have hf2 : Fr Non w ((w.alloc (.cells #[.int .u64 0, .slice none 0 0] 25)).alloc (.cells #[.int .u64 0, .slice none 0 0] 25)) := ((Fr.refl Non w).alloc _).alloc _
      have hz2 : ((w.alloc (.cells #[.int .u64 0, .slice none 0 0] 25)).alloc (.cells #[.int .u64 0, .slice none 0 0] 25)).heap.size = w.heap.size + 2 := by simp
      generalize (w.alloc (.cells #[.int .u64 0, .slice none 0 0] 25)).alloc (.cells #[.int .u64 0, .slice none 0 0] 25) = w2 at *
      have HA := Lib.hid hbA
      have HBB := Lib.hid hbB
      have Hf2 := Lib.hid hf2
      have Hz2 := Lib.hid hz2
      clear hbA hbB hf2 hz2 h4w hA2
      go_cut [5] (fun t5 wx => Fr (fun q => q = w.heap.size + 1) w2 wx ∧ wx.heap.size = w2.heap.size ∧ wx.heap[w.heap.size + 1]? = some (.cells #[.int .u64 (stampOf b : Nat), .slice none 0 0] 25 (0, 0)))
      case first =>
        go_wp2_with fail
        go_loopw [5] (fun i wr => ∃ k : Nat, k ≤ 8 ∧ i = .int .i64 ((4 + k : Nat) : Int) ∧ Fr (fun q => q = w.heap.size + 1) w2 wr ∧ wr.heap.size = w2.heap.size ∧ wr.heap[w.heap.size + 1]? = some (.cells #[.int .u64 (num ((b.drop 4).take k) 0 : Nat), .slice none 0 0] 25 (0, 0))) (fun i _ => 12 - (intOf i).toNat)
        case atStart => exact ⟨0, by decide, rfl, Fr.refl _ _, rfl, HBB.out⟩
        case round =>
          obtain ⟨k, hk, rfl, hf, hz, hbox⟩ := hrel
          have Hf := Lib.hid hf
          have Hz := Lib.hid hz
          have Hbox := Lib.hid hbox
          have hfw : Fr Non w wr := Hf2.out.trans hf (fun q hq e => by omega)
          have hbc := blk_cell hbox 0
          have hbf := blk_free hbox 0
          simp only [List.getElem?_toArray, List.getElem?_cons_zero] at hbc
          have hj4 : k < 8 → 4 + k < b.length := fun _ => by have := Hlen.out; omega
          by_cases h8 : k = 8
          · subst h8
            clear hf hz hbox hbc hbf hfw hj4
            go_wp2_with fail
            go_meet
            exact ⟨Hf.out, Hz.out, Hbox.out⟩
          · have hj := hj4 (by omega)
            have hcell := (HB4.out.fr hfw (fun _ _ h => h)).at' (4 + k) hj
            have hbb := hB b[4 + k] (List.getElem_mem hj)
            have hsn : (b.drop 4).take (k + 1) = (b.drop 4).take k ++ [b[4 + k]] := by
              rw [take_snoc' (by rw [List.length_drop]; omega), List.getElem_drop]
            have Hsn := Lib.hid hsn
            have hxl := num_lt ((b.drop 4).take k) 0 (Bytes.take (Bytes.drop hB 4) k) (by decide)
            have hns := num_snoc ((b.drop 4).take k) b[4 + k] 0
            rw [← hsn] at hns
            clear hsn hf hz hbox hfw hj4
            generalize b[4 + k] = u at *
            clear hj
            obtain ⟨y, hyy⟩ : ∃ y, y = num ((b.drop 4).take (k + 1)) 0 := ⟨_, rfl⟩
            rw [← hyy] at hns
            have Hyy := Lib.hid hyy
            clear hyy
            generalize num ((b.drop 4).take k) 0 = x at *
            obtain ⟨i, hi⟩ : ∃ i, i = 4 + k := ⟨_, rfl⟩
            rw [← hi] at hcell ⊢
            have hi1 : (i : Int) < 384 := by omega
            have hi2 : (i : Int) < 12 := by omega
            have Hi := Lib.hid hi
            have Hy := Lib.hid hns
            clear hi hns
            go_upto_region 7 with fail
            have hbits : bits BinOp.or IntKind.u64 (IntKind.u64.wrap ((x : Int) * 256)) (IntKind.u64.wrap u) = (y : Int) := by
              rw [IntKind.wrap_u64, IntKind.wrap_u64, show (x : Int) * 256 % 18446744073709551616 = ((x * 256 % 18446744073709551616 : Nat) : Int) by omega, show u % 18446744073709551616 = (u.toNat : Int) by omega, u64_or_nat _ _ (by omega) (by omega), nat_join 8 _ _ (by omega) (by omega), Hy.out]
            have Hb := Lib.hid hbits
            clear hbits
            go_region_law (fail)
            all_goals
              rw [Hb.out]
              clear hbc hbf hcell
              go_wp2_with fail
              go_roundw
              case rel =>
                refine ⟨k + 1, by omega, by have := Hi.out; congr 1; omega, (Hf.out.setCell (p := ⟨w.heap.size + 1, 0, none⟩) (fun _ => rfl) _).drew, ?_, ?_⟩
                · rw [← Hz.out]; simp [World.setCell]
                · rw [← Hyy.out]; exact (blk_set (i := 0) Hbox.out (.int .u64 (y : Nat)))
              case measure => simp [intOf]; omega
      case rest =>
        obtain ⟨hf3, hz3, hb3⟩ := hcut
        have hstl : stampOf b < 18446744073709551616 := num_lt _ 0 (Bytes.take (Bytes.drop hB 4) 8) (by decide)
        obtain ⟨st, hst⟩ : ∃ st, st = stampOf b := ⟨_, rfl⟩
        rw [← hst] at hb3 hstl
        have Hst := Lib.hid hst
        have hA3 := hf3.keep HA.out (by omega)
        have HA3 := Lib.hid hA3
        have Hb3 := Lib.hid hb3
        have Hfw := Lib.hid (Hf2.out.trans hf3 (fun q hq e => by omega) : Fr Non w wc)
        have Hz3 := Lib.hid (hz3.trans Hz2.out)
        clear hst hA3 hb3 hf3 hz3 HA HBB Hf2 Hz2
        go_upto_block 2 with fail
        go_cut [6, 7] (fun t6 t7 wx => ∃ va vc ps, Gb (w.heap.size + 1) st wc wx va vc ps (chunksOf b))
        case first =>
          go_wp2_with fail
          go_loopw [6] (fun i wr => ∃ (d : Nat) (va : Option Addr) (vc : Nat) (ps : List Value) (done : List (List Int)), 12 + 2 * done.length ≤ d ∧ d ≤ 384 ∧ i = .int .i64 (d : Nat) ∧ Gb (w.heap.size + 1) st wc wr va vc ps done ∧ parse 400 (b.drop 12) = done ++ parse (400 - done.length) (b.drop d)) (fun i _ => 384 - (intOf i).toNat)
          case atStart => exact ⟨12, none, 0, [], [], by simp, by decide, rfl, ⟨Fr.refl _ _, Hb3.out, Sl.nil _ _ _ _, rfl, fun j b h => by simp at h⟩, by simp⟩
          case round =>
            obtain ⟨d, va, vc, ps, done, hd1, hd2, rfl, hgb, hpar⟩ := hrel
            have Hgb := Lib.hid hgb
            have Hpar := Lib.hid hpar
            clear hgb hpar
            have hql : (b.drop d).length = 384 - d := by rw [List.length_drop, Hlen.out]
            by_cases h2l : 384 < d + 2
            · have hdone : Hid (chunksOf b = done) := Lib.hid (by unfold chunksOf; rw [Hpar.out, parse_short _ (by omega), List.append_nil])
              go_wp2_with fail
              go_meet
              exact ⟨va, vc, ps, by rw [hdone.out]; exact Hgb.out⟩
            · have hfw : Fr Non w wr := Hfw.out.trans Hgb.out.fr (fun q hq e => by omega)
              have hbw := HB4.out.fr hfw (fun _ _ h => h)
              have hj1 : d < b.length := by rw [Hlen.out]; omega
              have hj2 : d + 1 < b.length := by rw [Hlen.out]; omega
              have hcell1 := hbw.at' d hj1
              have hcell2 := hbw.at' (d + 1) hj2
              have hb1 := hB b[d] (List.getElem_mem hj1)
              have hb2 := hB b[d + 1] (List.getElem_mem hj2)
              have ht2 : (b.drop d).take 2 = [b[d], b[d + 1]] := by
                rw [List.drop_eq_getElem_cons hj1, List.drop_eq_getElem_cons hj2]
                rfl
              have hn : (num ((b.drop d).take 2) 0 : Int) = b[d] * 256 + b[d + 1] := by
                rw [ht2]
                simp only [num, List.foldl_cons, List.foldl_nil]
                omega
              have Hgo := Lib.hid (parse_go (400 - done.length - 1) (q := b.drop d) (by omega))
              have Hstop := Lib.hid (parse_stop (400 - done.length) (q := b.drop d) (by omega))
              have hbd := HB4.out.drop d (by omega)
              have Hbd := Lib.hid (hbd.fr hfw (fun _ _ h => h))
              generalize num ((b.drop d).take 2) 0 = n at *
              clear ht2 hfw hbw hbd
              generalize b[d] = x1 at *
              generalize b[d + 1] = x2 at *
              clear hj1 hj2
              have Hn := Lib.hid hn
              clear hn
              go_upto_region 10 with fail
              go_quiet (fail)
              rw [← Hn.out]
              have hgz := Hgb.out.drewN nq
              have hbz := Hbd.out.fr ((Fr.refl Non wr).drewN nq) (fun _ _ h => h)
              generalize wr.drewN nq = wz at *
              have HGZ := Lib.hid hgz
              have HBZ := Lib.hid hbz
              clear hgz hbz hcell1 hcell2 Hgb Hbd
              by_cases hs1 : n = 0
              · have hdone : Hid (chunksOf b = done) := Lib.hid (by unfold chunksOf; rw [Hpar.out, Hstop.out (.inl hs1), List.append_nil])
                subst hs1
                go_wp2_with fail
                go_meet
                exact ⟨va, vc, ps, by rw [hdone.out]; exact HGZ.out⟩
              have hs1' : 0 < n := by omega
              have hs1b : ((n : Int) == 0) = false := by simp; omega
              have hn6 : n < 65536 := by have := Hn.out; omega
              by_cases hs2 : 384 < d + 2 + n
              · have hdone : Hid (chunksOf b = done) := Lib.hid (by unfold chunksOf; rw [Hpar.out, Hstop.out (.inr (by omega)), List.append_nil])
                go_wp2_with fail
                go_meet
                exact ⟨va, vc, ps, by rw [hdone.out]; exact HGZ.out⟩
              have Hgo2 := Lib.hid (Hgo.out (by omega))
              have hbox := HGZ.out.box
              have hcell1 := blk_cell hbox 1
              have hfree1 := blk_free hbox 1
              simp only [List.getElem?_toArray, List.getElem?_cons_zero, List.getElem?_cons_succ] at hcell1
              have hcell1a := fun O => ((Fr.refl Non wz).alloc O).cell hcell1 (fun h => h)
              have Hbox := Lib.hid hbox
              clear Hgo Hstop hbox
              go_upto_region 12 with fail
              obtain ⟨e1, he1⟩ : ∃ e1, e1 = d + 2 := ⟨_, rfl⟩
              obtain ⟨e2, he2⟩ : ∃ e2, e2 = e1 + n := ⟨_, rfl⟩
              have hw1 : IntKind.i64.wrap ((d : Int) + 2) = (e1 : Int) := by rw [IntKind.wrap_i64]; omega
              have hw2 : IntKind.i64.wrap ((e1 : Int) + (n : Int)) = (e2 : Int) := by rw [IntKind.wrap_i64]; omega
              have hi1 : (e2 : Int) ≤ (c : Int) := by omega
              have hi2 : (e1 : Int) ≤ (e2 : Int) := by omega
              have hi3 : max (e2 : Int) 0 = (e2 : Int) := by omega
              have hi3a : max (e1 : Int) 0 = (e1 : Int) := by omega
              have hi4 : e2 - e1 = n := by omega
              have hi5 : ¬ (c = e1) := by omega
              have h2n := ((HBZ.out.drop 2 (by omega)).take n (c - e1) (by omega) (by omega) (by unfold maxLen; omega))
              rw [Nat.add_assoc, ← he1] at h2n
              have H2n := Lib.hid h2n
              have Hown : Hid (¬ (Value.slice va done.length vc).ownBlock = some (w.heap.size + 1)) := Lib.hid (fun e => by have := (HGZ.out.sl.2 _ e).1; have := Hz3.out; omega)
              have hq : n = (((b.drop d).drop 2).take n).length := by rw [List.length_take, List.length_drop, hql]; omega
              have Hq := Lib.hid hq
              have He1 := Lib.hid he1
              have He2 := Lib.hid he2
              clear he1 he2 h2n hq
              go_region_law (first
                | (refine step_append_new (by rfl) _ _ _ rfl (by rfl) (by rfl) n (c - e1) (some ⟨g, o + e1, none⟩) (by rfl) (H2n.out.fr (Fr.refl Non _).drew (fun _ _ h => h)) (by have := Hq.out; omega) ?_; intro a3 c3 w3 hf3d hs3; have hf3 : Fr Non wz w3 := (Fr.refl Non _).drew.trans hf3d (fun _ _ h => h); have hcell3 := hf3.cell (a := ⟨w.heap.size + 1, 1, none⟩) hcell1 (fun h => h); have hcell3a := fun O => (hf3.alloc O).cell (a := ⟨w.heap.size + 1, 1, none⟩) hcell1 (fun h => h))
                | (refine step_append_any (by rfl) _ _ _ (by rfl) 26 undBB infB rfl (by decide) (by rfl) ((HGZ.out.sl.fr hf3 (fun _ _ h => h)).alloc _) (some ⟨w3.heap.size, 0, none⟩) 1 1 [.slice a3 n c3] (by rfl) (by rfl) (fun e => by cases e) (fun ad e j u hu => by cases e; exact news_at _ _ _ rfl j u hu) (by simp [Value.oneCell']) (by unfold maxLen; omega) (by omega) ?_; intro a5 c5 w5 happ; have hf5 : Fr (fun q => (Value.slice va done.length vc).ownBlock = some q) wz w5 := ((hf3.alloc _).mono (fun _ _ h => h.elim)).trans happ.fr (fun _ _ h => h); have hbox5 := hf5.keep Hbox.out Hown.out; have hcell5 := blk_cell hbox5 1; have hfree5 := blk_free hbox5 1; simp only [List.getElem?_toArray, List.getElem?_cons_zero, List.getElem?_cons_succ] at hcell5; have Hbox5 := Lib.hid hbox5; have Hf5 := Lib.hid hf5; have Happ := Lib.hid happ; clear hbox5 hf5 happ))
              all_goals
                have Hcs := Lib.hid (And.intro hs3 hf3)
                clear hs3 hf3 hf3d hcell3 hcell3a hcell1 hcell1a hw1 hw2 hi1 hi2 hi3 hi3a hi4 hi5
                go_wp2_with fail
                go_roundw
                case rel =>
                  have hpar2 : parse 400 (b.drop 12) = (done ++ [((b.drop d).drop 2).take n]) ++ parse (400 - (done ++ [((b.drop d).drop 2).take n]).length) (b.drop (d + 2 + n)) := by
                    have hx := Hgo2.out
                    rw [Hpar.out, show 400 - done.length = 400 - done.length - 1 + 1 by omega, hx]
                    simp only [List.append_assoc, List.singleton_append, List.length_append, List.length_singleton, List.drop_drop]
                    rw [show 400 - (done.length + 1) = 400 - done.length - 1 by omega]
                  have hstep := HGZ.out.step (by have := Hz3.out; omega) Hq.out Hcs.out.1 Hcs.out.2 Happ.out Hbox5.out Hf5.out
                  exact ⟨d + 2 + n, _, _, _, _, by simp; omega, by omega, by first | rfl | (congr 1; omega), hstep, hpar2⟩
                case measure => simp [intOf]; omega
        case rest =>
          obtain ⟨va, vc, ps, hgb⟩ := hcut
          rename_i wy
          have Hgb := Lib.hid hgb
          have hbox := hgb.box
          have hbc := blk_cell hbox
          have hbf := blk_free hbox
          have hA := hgb.fr.keep HA3.out (by omega)
          have HA1 := Lib.hid hA
          have hfb : fits (chunksOf b) ≤ 1000 := by have := fits_parse 400 (b.drop 12); rw [List.length_drop, Hlen.out] at this; unfold chunksOf; omega
          have hfw := Hfw.out.trans hgb.fr (fun q hq e => by omega)
          have Hfw2 := Lib.hid hfw
          have hp := refput_calls _ st hstl _ _ (hgb.chs (Fr.refl Non _) (fun _ _ h => h)) (by omega)
          have HallB : Hid (AllB (chunksOf b)) := Lib.hid (allB_parse 400 (b.drop 12) (Bytes.drop hB 12))
          have Hp := Lib.hid hp
          clear hgb hA hfw hp hbox
          go_wp2_with fail
          refine Hp.out.mono ?_
          rintro e w5 ⟨v5, r5, rfl, hf5, hans⟩
          have hbox5 := hf5.keep Hgb.out.box (fun h => h)
          have hA5 := hf5.keep HA1.out (fun h => h)
          have hfw5 : Fr Non w w5 := Hfw2.out.trans hf5 (fun _ _ h => h)
          have HB5 := Lib.hid (HB4.out.fr hfw5 (fun _ _ h => h))
          have hc5 := blk_cell hbox5
          have hac5 := blk_cell hA5
          have haf5 := blk_free hA5
          have hlt5 := lt_of_block hA5
          have Hfw5 := Lib.hid hfw5
          have Hf5 := Lib.hid hf5
          clear hbc hbf hbox5 hA5 hfw5 hf5
          rcases hans with ⟨hgood, rfl, hs5⟩ | ⟨hbad, rfl, rfl⟩
          · obtain ⟨a5, c5, rfl, _⟩ := id hs5.open
            have hBB := bytes_block (st := st) HallB.out
            have q1 : (convert 26 9 (.slice a5 384 c5)).run Try.prog w5 = .ok (.string (str (block st (chunksOf b)))) w5 := conv_byt hBB (Byt.of_sl (block_len hgood).symm hs5)
            have q2 : (convert 26 9 (.slice (some ⟨g, o, none⟩) 384 c)).run Try.prog w5 = .ok (.string (str b)) w5 := conv_byt hB HB5.out
            have hcmp : ((str (block st (chunksOf b))).toList == (str b).toList) = decide (block st (chunksOf b) = b) := by
              rw [Bool.eq_iff_iff, beq_iff_eq, decide_eq_true_eq, str_list, str_list]
              exact ⟨fun h => (str_inj hBB hB).1 (by unfold str; rw [h]), fun h => by rw [h]⟩
            have Hgood := Lib.hid hgood
            clear hs5 hgood hBB
            by_cases heq : block st (chunksOf b) = b
            · have hcm : (!(str (block st (chunksOf b))).toList == (str b).toList) = false := by rw [hcmp, decide_eq_true heq]; rfl
              have Heq := Lib.hid heq
              clear heq hcmp
              go_wp2_with (first | simp only [q1] | simp only [q2])
              refine bodyPost_ret (v := .tuple #[.agg #[.int .u64 (st : Nat), .slice va (chunksOf b).length vc], .int .i64 0]) ?_ rfl ⟨_, _, _, rfl, ?_, .inl ⟨⟨Hlen.out, by rw [← Hst.out]; exact Hgood.out, by rw [← Hst.out]; exact Heq.out⟩, rfl, by rw [Hst.out], ?_⟩⟩
              · rw [results_cell_tmp rfl]
                go_simp
              · exact (Hfw5.out.setCell (p := ⟨w.heap.size, 0, none⟩) (fun h => absurd h (Nat.lt_irrefl _)) _).setCell (p := ⟨w.heap.size, 1, none⟩) (fun h => absurd h (Nat.lt_irrefl _)) _
              · exact Hgb.out.chs (X := fun q => q = w.heap.size) ((((Hf5.out.mono (fun _ _ h => h.elim) : Fr (fun q => q = w.heap.size) _ _)).setCell (p := ⟨w.heap.size, 0, none⟩) (fun _ => rfl) _).setCell (p := ⟨w.heap.size, 1, none⟩) (fun _ => rfl) _) (fun q hq e => by have := hq.1; have := Hz3.out; omega)
            · have hcm : (!(str (block st (chunksOf b))).toList == (str b).toList) = true := by rw [hcmp, decide_eq_false heq]; rfl
              have Heq := Lib.hid heq
              clear heq hcmp
              go_wp2_with (first | simp only [q1] | simp only [q2])
              refine bodyPost_ret (v := .tuple #[.agg #[.int .u64 0, .slice none 0 0], .int .i64 160]) ?_ rfl ⟨_, _, _, rfl, ?_, .inr ⟨fun h => Heq.out (by rw [Hst.out]; exact h.2.2), rfl, rfl, rfl⟩⟩
              · rw [results_cell_tmp rfl]
                go_simp
              · exact (Hfw5.out.setCell (p := ⟨w.heap.size, 0, none⟩) (fun h => absurd h (Nat.lt_irrefl _)) _).setCell (p := ⟨w.heap.size, 1, none⟩) (fun h => absurd h (Nat.lt_irrefl _)) _
          · go_wp2_with fail
            refine bodyPost_ret (v := .tuple #[.agg #[.int .u64 0, .slice none 0 0], .int .i64 160]) ?_ rfl ⟨_, _, _, rfl, ?_, .inr ⟨fun h => hbad (by rw [Hst.out]; exact h.2.1), rfl, rfl, rfl⟩⟩
            · rw [results_cell_tmp rfl]
              go_simp
            · exact (Hfw5.out.setCell (p := ⟨w.heap.size, 0, none⟩) (fun h => absurd h (Nat.lt_irrefl _)) _).setCell (p := ⟨w.heap.size, 1, none⟩) (fun h => absurd h (Nat.lt_irrefl _)) _
    · have hA2 : (!(str (b.take 4)).toList == [65, 82, 69, 78]) = true := by rw [ht, decide_eq_false hA]; rfl
      have HA := Lib.hid hA
      clear hA ht
      go_wp2_with (simp only [h4w])
      refine bodyPost_ret (v := .tuple #[.agg #[.int .u64 0, .slice none 0 0], .int .i64 160]) ?_ rfl ⟨_, _, _, rfl, ?_, .inr ⟨fun h => HA.out (isBlock_head h), rfl, rfl, rfl⟩⟩
      · rw [results_cell_tmp rfl]
        go_simp
      · exact (Fr.refl _ _).alloc _
  · go_enter Try.func10, Try.ntmps10
    have hlb : ((b.length : Int) != 384) = true := by simp; omega
    go_wp2_with fail
    refine bodyPost_ret (v := .tuple #[.agg #[.int .u64 0, .slice none 0 0], .int .i64 160]) ?_ rfl ⟨_, _, _, rfl, ?_, .inr ⟨fun h => hlen h.1, rfl, rfl, rfl⟩⟩
    · rw [results_cell_tmp rfl]
      go_simp
    · exact (Fr.refl _ _).alloc _
end Go.Proofs.Ytlpkejklejaejaa
