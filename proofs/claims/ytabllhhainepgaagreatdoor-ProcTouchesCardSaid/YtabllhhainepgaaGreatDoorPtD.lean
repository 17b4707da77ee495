/-
  ProcTouches: the document's Touches.
-/
import Derived.Test.YtabllhhainepgaaGreatDoorPtC
set_option maxRecDepth 100000
set_option linter.unusedVariables false
set_option linter.unusedSimpArgs false
set_option linter.constructorNameAsVariable false
namespace Go.Proofs.YtabllhhainepgaaGreatDoor
open Go.RowKit Abk

/-- A new row of two Wants. -/
theorem sl_two (w : World) (n m : Nat) (c : Bool) : Sl (fun k => k = w.heap.size) (w.alloc (.cells #[.int .u64 (n : Nat), .bool c, .int .u64 (m : Nat), .bool c] 34)) 34 2 (.slice (some ⟨w.heap.size, 0, none⟩) 2 2) 2 (wrow c [n, m]) :=
  ⟨⟨rfl, .inr ⟨w.heap.size, 2, _, rfl, Nat.zero_le _, blk_new _ _ rfl, Nat.le_refl _, by decide, rfl, rfl⟩⟩, fun k hk => by simp [Value.ownBlock] at hk; exact hk.symm⟩
set_option maxHeartbeats 4000000 in
theorem reftouches_calls (w : World) (z : Array Value) (p : Nat) (hp : p < 4294967296) (v1 v2 : Value) (hz : ArgsR z p v1 v2) (b1 b2 : List Int) (hB1 : Bytes b1) (hB2 : Bytes b2) (h1 : Byt w v1 b1) (h2 : Byt w v2 b2) :
    Calls Tryz.prog 6 #[.agg z] w fun e w' => ∃ v, e = .returned v ∧ Fr Non w w' ∧ Sl (New w w') w' 34 2 v (touch p b1 b2).length (wrow (chg p) (touch p b1 b2)) := by
  obtain ⟨a1, c1, rfl, k1, m1, _⟩ := id h1
  obtain ⟨a2, c2, rfl, k2, m2, _⟩ := id h2
  unfold maxLen at m1 m2
  have HZ := Lib.hid hz
  have HB1 := Lib.hid hB1
  have HB2 := Lib.hid hB2
  have H1 := Lib.hid h1
  have H2 := Lib.hid h2
  clear hz hB1 hB2 h1 h2
  go_enter Tryz.func6, Tryz.ntmps6
  go_upto_region 1 with (refine wpList_box_row rfl _ _ rfl z rfl ?_)
  have hbx := blk_new w (.cells z 28) rfl
  have hf0 : Fr Non w (w.alloc (.cells z 28)) := (Fr.refl Non w).alloc _
  generalize w.alloc (.cells z 28) = w0 at *
  have hc0 := blk_cell hbx 0
  have hc1 := blk_cell hbx 1
  have hc3 := blk_cell hbx 3
  rw [HZ.out.c0] at hc0
  rw [HZ.out.c1] at hc1
  rw [HZ.out.c3] at hc3
  have hlt0 := lt_of_block hbx
  have Hbx := Lib.hid hbx
  have Hf0 := Lib.hid hf0
  clear hbx hf0
  go_wp2_with fail
  refine (knownR_calls p hp w0).mono ?_
  rintro e w0' ⟨rfl, hfk⟩
  have hc0' := hfk.cell hc0 (fun h => h)
  have hc1' := hfk.cell hc1 (fun h => h)
  have hc3' := hfk.cell hc3 (fun h => h)
  have hlt0' : w.heap.size < w0'.heap.size := Nat.lt_of_lt_of_le hlt0 hfk.size
  have Hbx' := Lib.hid (hfk.keep Hbx.out (fun h => h))
  have Hf0' := Lib.hid (Hf0.out.trans hfk (fun _ _ h => h))
  clear hc0 hc1 hc3 hlt0 Hbx Hf0 hfk
  obtain ⟨hc0, hc1, hc3, hlt0, Hbx, Hf0⟩ : _ ∧ _ ∧ _ ∧ _ ∧ _ ∧ _ := ⟨hc0', hc1', hc3', hlt0', Hbx', Hf0'⟩
  clear hc0' hc1' hc3' hlt0' Hbx' Hf0'
  clear w0
  obtain ⟨w0, hww⟩ : ∃ w0, w0 = w0' := ⟨_, rfl⟩
  subst hww
  by_cases hkn : known p = true
  · by_cases hp0 : p = 0
    · subst hp0
      have Htouch : Hid (touch 0 b1 b2 = []) := Lib.hid (by unfold touch; rw [if_neg (fun h => h.2 rfl)])
      rw [hkn]
      clear hkn
      go_wp2_with fail
      go_ret
      refine ⟨_, rfl, Hf0.out, ?_⟩
      rw [Htouch.out]
      exact Sl.nil _ _ _ _
    · have hp0b : ((p : Int) == 0) = false := by simp; omega
      rw [hkn]
      have Htouch : Hid (touch p b1 b2 = insAll (hands p b1 b2)) := Lib.hid (by unfold touch; rw [if_pos ⟨hkn, hp0⟩])
      clear hkn hp0
      go_wp2_with fail
      refine (twoR_calls p _).mono ?_
      rintro e w1 ⟨rfl, rfl⟩
      have hsl1 := sl_one w0 (.slice a1 b1.length c1)
      have hf1 : Fr Non w (w0.alloc (.cells #[.slice a1 b1.length c1] 23)) := Hf0.out.alloc _
      have hb1 : ∀ O, (w0.alloc O).heap[w.heap.size]? = some (.cells z 28 (0, 0)) := fun O => blk_old_some Hbx.out O
      have Hsl1 := Lib.hid hsl1
      have Hf1 := Lib.hid hf1
      have Hb1 := Lib.hid hb1
      clear hsl1 hf1 hb1
      go_upto_if 23 with fail
      go_cut [3] (fun t3 wx => ∃ ba bc, t3 = .slice ba (hands p b1 b2).length bc ∧ HandsIn w wx z p (.slice a1 b1.length c1) (.slice a2 b2.length c2) b1 b2 ba bc)
      case first =>
        by_cases h2h : twoH p = true
        · have hh : hands p b1 b2 = [b1, b2] := by unfold hands; rw [if_pos h2h]
          rw [h2h]
          have Hh := Lib.hid hh
          have H2h := Lib.hid h2h
          clear hh h2h
          have hc3a := fun O => ((Fr.refl Non w0).alloc O).cell hc3 (fun h => h)
          go_wp2_with (at_builtin; go_loud (refine wpList_append_any _ rfl _ _ _ rfl 23 undBB infB rfl (by decide) rfl (Hsl1.out.alloc _) (some ⟨w0.heap.size + 1, 0, none⟩) 1 1 [.slice a2 b2.length c2] rfl rfl (fun e => by cases e) (fun ad e j u hu => by cases e; exact news_at _ _ _ (by simp) j u hu) (by simp [Value.oneCell']) (by decide) (by decide) ?_); intro a5 c5 w5 happ)
          go_meet
          have z0 := Hf0.out.size
          replace happ : Appd _ _ _ _ (.slice (some ⟨w0.heap.size, 0, none⟩) 1 1) _ _ _ _ _ _ _ := happ
          have hF : Fr (fun q => q = w0.heap.size) (w0.alloc (.cells #[.slice a1 b1.length c1] 23)) w5 := ((Fr.refl _ _).alloc _).trans happ.fr (fun q _ e => (Option.some.inj e).symm)
          have hF1 : Fr Non w w5 := Hf1.out.trans hF (fun q hq e => by omega)
          refine ⟨a5, c5, by rw [Hh.out]; rfl, ?_⟩
          exact {
            fr := hF1
            box := hF.keep (Hb1.out _) (by omega)
            sl := by
              rw [Hh.out]
              have hv : vals p (.slice a1 b1.length c1) (.slice a2 b2.length c2) = [.slice a1 b1.length c1, .slice a2 b2.length c2] := by unfold vals; rw [if_pos H2h.out]
              rw [hv]
              refine happ.sl.mono fun q hq => ?_
              have z5 := happ.fr.size
              simp only [World.size_alloc] at z5 hq
              rcases hq with rfl | h
              · exact ⟨by omega, by omega⟩
              · exact ⟨by omega, h.2⟩ }
        · have h2f : twoH p = false := by simpa using h2h
          have hh : hands p b1 b2 = [b1] := by unfold hands; rw [if_neg h2h]
          rw [h2f]
          go_wp2
          go_meet
          refine ⟨some ⟨w0.heap.size, 0, none⟩, 1, by rw [hh]; rfl, ?_⟩
          exact {
            fr := Hf1.out
            box := Hb1.out _
            sl := by
              rw [hh]
              have hv : vals p (.slice a1 b1.length c1) (.slice a2 b2.length c2) = [.slice a1 b1.length c1] := by unfold vals; rw [if_neg h2h]
              rw [hv]
              refine Hsl1.out.mono fun q hq => ?_
              subst hq
              have := Hf0.out.size
              exact ⟨by omega, by simp⟩ }
      case rest =>
        obtain ⟨ba, bc, rfl, hin⟩ := hcut
        have hsl := hin.sl
        obtain ⟨_, _, he, hN1, hN2, _, hrow⟩ := hsl.open
        obtain ⟨rfl, rfl⟩ : _ ∧ _ := by simpa using he
        obtain ⟨g, rfl, _, _, hcells⟩ := hrow.resolve_left (by have := (hands_pos p b1 b2).1; omega)
        have hN := hands_pos p b1 b2
        have hat := fun k (hk : k < (hands p b1 b2).length) => hands_at HB1.out HB2.out H1.out H2.out hk
        unfold maxLen at hN2
        generalize hands p b1 b2 = hs at *
        have Hin := Lib.hid hin
        have Hat := Lib.hid hat
        have Hcells := Lib.hid hcells
        have hcc := blk_cell hin.box 0
        rw [HZ.out.c0] at hcc
        clear hin hat hcells hsl hrow
        obtain ⟨W0, hW0⟩ : ∃ W0, W0 = wc := ⟨_, rfl⟩
        subst hW0
        go_wp2_with fail
        go_loopw [4, 5] (fun s i wr => ∃ (k : Nat) (va : Option Addr) (vc : Nat), k ≤ hs.length ∧ i = .int .i64 (k : Nat) ∧ s = .slice va (insAll (hs.take k)).length vc ∧ Fr Non W0 wr ∧ Sl (New W0 wr) wr 34 2 (.slice va (insAll (hs.take k)).length vc) (insAll (hs.take k)).length (wrow (chg p) (insAll (hs.take k)))) (fun _ i _ => hs.length - (intOf i).toNat)
        case atStart => exact ⟨0, none, 0, Nat.zero_le _, rfl, rfl, Fr.refl _ _, Sl.nil _ _ _ _⟩
        case round =>
          obtain ⟨k, va, vc, hk, rfl, rfl, hfr, hslr⟩ := hrel
          have Hfr := Lib.hid hfr
          have Hslr := Lib.hid hslr
          have hLk := insAll_len (hs.take k)
          have hLt : (hs.take k).length ≤ 2 := by simp; omega
          clear hfr hslr
          by_cases hlt : k < hs.length
          · obtain ⟨v, hv1, hv2, hv3⟩ := Hat.out k hlt
            have hcell := Hfr.out.cell (Hcells.out k v hv1) (fun h => h)
            have Hsn : Hid (insAll (hs.take (k + 1)) = ins (insAll (hs.take k)) (ent hs[k])) := Lib.hid (by rw [take_snoc' hlt, insAll_snoc])
            obtain ⟨b, hb⟩ : ∃ b, b = hs[k] := ⟨_, rfl⟩
            rw [← hb] at hv2 hv3 Hsn
            obtain ⟨av, cv, rfl, _⟩ := id hv2
            have Hbv := Lib.hid (hv2.fr (Hin.out.fr.trans Hfr.out (fun _ _ h => h)) (fun _ _ h => h))
            have HbB := Lib.hid hv3
            clear hb hv1 hv2 hv3
            obtain ⟨l, hl⟩ : ∃ l, l = insAll (hs.take k) := ⟨_, rfl⟩
            rw [← hl] at Hslr hLk Hsn ⊢
            have Hl := Lib.hid hl
            clear hl
            go_wp2_with fail
            refine (refhand_calls _ _ b HbB.out Hbv.out).mono ?_
            rintro e w2 ⟨hans, hf2⟩
            have hfr2 := Hfr.out.trans hf2 (fun _ _ h => h)
            have hslr2 := Hslr.out.fr hf2 (fun _ _ h => h)
            have hcc2 := (Hfr.out.trans hf2 (fun _ _ h => h)).cell hcc (fun h => h)
            have hltA : w.heap.size < w2.heap.size := by have := lt_of_block (hfr2.keep Hin.out.box (fun h => h)); exact this
            have Hfr2 := Lib.hid hfr2
            have Hslr2 := Lib.hid hslr2
            have Hz2 := Lib.hid hf2.size
            clear hfr2 hslr2 hf2
            have Hno : Hid (∀ W, Fr Non w2 W → ent b = none → ∃ (k_1 : Nat) (va_1 : Option Addr) (vc_1 : Nat), k_1 ≤ hs.length ∧ Value.int .i64 ((k : Int) + 1) = .int .i64 (k_1 : Nat) ∧ Value.slice va l.length vc = .slice va_1 (insAll (hs.take k_1)).length vc_1 ∧ Fr Non W0 W ∧ Sl (New W0 W) W 34 2 (.slice va_1 (insAll (hs.take k_1)).length vc_1) (insAll (hs.take k_1)).length (wrow (chg p) (insAll (hs.take k_1)))) := Lib.hid (fun W hf he => by
              have e : insAll (hs.take (k + 1)) = l := by rw [Hsn.out, he]; rfl
              refine ⟨k + 1, va, vc, by omega, by simp, by rw [e], Hfr2.out.trans hf (fun _ _ h => h), ?_⟩
              rw [e]
              have h2 := hf.size
              have h3 := Hz2.out
              exact (Hslr2.out.fr hf (fun _ _ h => h)).mono (fun q hq => ⟨hq.1, by have h1 := hq.2; omega⟩))
            rcases hans with ⟨hh, rfl⟩ | ⟨hnh, rfl⟩
            · have hno := num_lt ((b.drop 8).take 8) 0 (Bytes.take (Bytes.drop HbB.out 8) 8) (by decide)
              rw [show num ((b.drop 8).take 8) 0 = hNo b from rfl] at hno
              by_cases hfs : hFs b = 0
              · have he : ent b = some (hNo b) := by unfold ent; rw [if_pos ⟨hh, hfs⟩]
                have He : Hid (insAll (hs.take (k + 1)) = ins l (some (hNo b))) := Lib.hid (by rw [Hsn.out, he])
                rw [hfs]
                clear he hh hfs Hno
                generalize hNo b = n at *
                generalize hGe b = ge at *
                have hcca := fun O => ((Fr.refl Non w2).alloc O).cell hcc2 (fun h => h)
                have hccb := fun O O' => (((Fr.refl Non w2).alloc O).alloc O').cell hcc2 (fun h => h)
                go_upto_region 12 with fail
                go_cut [8] (fun t8 wx => ∃ y, t8 = .pointer (some ⟨y, 0, none⟩) ∧ Fr Non w2 wx ∧ wx.heap[y]? = some (.cells #[.int .u64 (n : Nat), .bool (chg p)] 34 (0, 0)))
                case first =>
                  go_region_law (go_simp; go_at_call 8; refine (chgR_calls p _).mono ?_; rintro e w' ⟨rfl, rfl⟩)
                  all_goals
                    clear hcca hccb hcc2 hcell
                    go_wp2
                    go_meet
                    exact ⟨_, rfl, (((Fr.refl Non w2).alloc _).alloc _).drew, blk_new _ _ (by simp)⟩
                case rest =>
                  obtain ⟨y, rfl, hf3, hby⟩ := hcut
                  have Hf3 := Lib.hid (Hfr2.out.trans hf3 (fun _ _ h => h))
                  have Hz3 := Lib.hid hf3.size
                  have hsl3 := Hslr2.out.fr hf3 (fun _ _ h => h)
                  have hltA3 : w.heap.size < wc.heap.size := by have := hf3.size; omega
                  have hy0 := blk_cell hby 0
                  have hy1 := blk_cell hby 1
                  simp only [List.getElem?_toArray, List.getElem?_cons_zero, List.getElem?_cons_succ] at hy0 hy1
                  have hyz := lt_of_block hby
                  clear hf3 hby hcca hccb hcc2
                  cases l with
                  | nil =>
                    have Hsl3 := Lib.hid hsl3
                    clear hsl3
                    have E1 : Hid (insAll (hs.take (k + 1)) = [] ++ [n]) := Lib.hid (by rw [He.out]; rfl)
                    go_wp2_with fail
                    go_quiet (fail)
                    have hy04 : (wc.drewN nq).cell? ⟨y, 0, none⟩ = some (.int .u64 (n : Nat)) := hy0
                    have hy14 : (wc.drewN nq).cell? ⟨y, 1, none⟩ = some (.bool (chg p)) := hy1
                    have Hf4 := Lib.hid (Hf3.out.drewN nq)
                    have Hz4 : Hid (wr.heap.size ≤ (wc.drewN nq).heap.size) := Lib.hid (by have := Hz2.out; have := Hz3.out; show wr.heap.size ≤ wc.heap.size; omega)
                    have Hsl4 : Hid (Sl (New W0 wr) (wc.drewN nq) 34 2 (.slice va [].length vc) [].length (wrow (chg p) [])) := Lib.hid ⟨Hsl3.out.1, Hsl3.out.2⟩
                    clear hy0 hy1 hcell hyz hltA3
                    generalize wc.drewN nq = wz at *
                    go_wp2_with fail
                    go_quiet (fail)
                    have hy05 : (wz.drewN nq).cell? ⟨y, 0, none⟩ = some (.int .u64 (n : Nat)) := hy04
                    have hy15 : (wz.drewN nq).cell? ⟨y, 1, none⟩ = some (.bool (chg p)) := hy14
                    have Hfx := Lib.hid (Hf4.out.drewN nq)
                    have Hzx : Hid (wr.heap.size ≤ (wz.drewN nq).heap.size) := Lib.hid Hz4.out
                    have Hslx : Hid (Sl (New W0 wr) (wz.drewN nq) 34 2 (.slice va [].length vc) [].length (wrow (chg p) [])) := Lib.hid ⟨Hsl4.out.1, Hsl4.out.2⟩
                    clear hy04 hy14
                    generalize wz.drewN nq = wx at *
                    go_wp2_with (at_builtin; go_loud (refine wpList_append_any _ rfl _ _ _ rfl 34 undW infW rfl (by decide) rfl (Hslx.out.alloc _) (some ⟨wx.heap.size, 0, none⟩) 1 1 (wrow (chg p) [n]) rfl (by rfl) (fun e => by cases e) (fun ad e j u hu => by cases e; exact news_at _ _ _ rfl j u hu) (wrow_one _ _) (by unfold maxLen; omega) (by omega) ?_); intro a5 c5 w5 happ)
                    have Happ := Lib.hid happ
                    clear happ
                    go_roundw
                    case rel =>
                      obtain ⟨q1, q2⟩ := tch_append Hfx.out Hzx.out Hslx.out Happ.out
                      exact ⟨k + 1, a5, c5, by omega, by simp, by rw [E1.out]; first | rfl | simp, q1, by rw [E1.out]; exact q2⟩
                    case measure => simp [intOf]; omega
                  | cons m r =>
                    obtain rfl : r = [] := by
                      cases r with
                      | nil => rfl
                      | cons _ _ => simp at hLk; omega
                    obtain ⟨_, _, heq, hlc, hcm, _, hopen⟩ := hsl3.open
                    obtain ⟨rfl, rfl⟩ : _ ∧ _ := by simpa using heq
                    obtain ⟨gl, rfl, _, hglz, hcl⟩ := hopen.resolve_left (by simp)
                    have hm0 := hcl 0 (.int .u64 (m : Nat)) rfl
                    have hm1 := hcl 1 (.bool (chg p)) rfl
                    have Hsl3 := Lib.hid hsl3
                    have hlen1 : [m].length = 1 := rfl
                    unfold maxLen at hcm
                    clear hsl3 hcl heq hopen
                    by_cases hmn : m = n
                    · subst hmn
                      have E1 : Hid (insAll (hs.take (k + 1)) = [m]) := Lib.hid (by rw [He.out]; simp [ins])
                      go_wp2_with fail
                      go_quiet (fail)
                      have hy04 : (wc.drewN nq).cell? ⟨y, 0, none⟩ = some (.int .u64 (m : Nat)) := hy0
                      have hy14 : (wc.drewN nq).cell? ⟨y, 1, none⟩ = some (.bool (chg p)) := hy1
                      have hm4 : (wc.drewN nq).cell? ⟨gl, 0, none⟩ = some (.int .u64 (m : Nat)) := hm0
                      have hm14 : (wc.drewN nq).cell? ⟨gl, 1, none⟩ = some (.bool (chg p)) := hm1
                      have Hf4 := Lib.hid (Hf3.out.drewN nq)
                      have Hz4 : Hid (wr.heap.size ≤ (wc.drewN nq).heap.size) := Lib.hid (by have := Hz2.out; have := Hz3.out; show wr.heap.size ≤ wc.heap.size; omega)
                      have Hsl4 : Hid (Sl (New W0 wr) (wc.drewN nq) 34 2 (.slice (some ⟨gl, 0, none⟩) [m].length vc) [m].length (wrow (chg p) [m])) := Lib.hid ⟨Hsl3.out.1, Hsl3.out.2⟩
                      clear hy0 hy1 hcell hyz hltA3 hm0 hm1
                      generalize wc.drewN nq = wz at *
                      go_wp2_with fail
                      go_roundw
                      case rel => exact ⟨k + 1, some ⟨gl, 0, none⟩, vc, by omega, by simp, by rw [E1.out] <;> first | rfl | simp, Hf4.out, by rw [E1.out]; exact Hsl4.out.mono (fun q hq => ⟨hq.1, by have := hq.2; have := Hz4.out; omega⟩)⟩
                      case measure => simp [intOf]; omega
                    have hmb : ((m : Int) == (n : Int)) = false := by simp; omega
                    by_cases hnm : n < m
                    · have E1 : Hid (insAll (hs.take (k + 1)) = [n, m]) := Lib.hid (by rw [He.out]; simp only [ins, if_neg (show ¬ m < n by omega), if_pos hnm])
                      have hmb2 : decide ((n : Int) < (m : Int)) = true := by simp; omega
                      go_wp2_with fail
                      go_quiet (fail)
                      have hy04 : (wc.drewN nq).cell? ⟨y, 0, none⟩ = some (.int .u64 (n : Nat)) := hy0
                      have hy14 : (wc.drewN nq).cell? ⟨y, 1, none⟩ = some (.bool (chg p)) := hy1
                      have hm4 : (wc.drewN nq).cell? ⟨gl, 0, none⟩ = some (.int .u64 (m : Nat)) := hm0
                      have hm14 : (wc.drewN nq).cell? ⟨gl, 1, none⟩ = some (.bool (chg p)) := hm1
                      have Hf4 := Lib.hid (Hf3.out.drewN nq)
                      have Hz4 : Hid (wr.heap.size ≤ (wc.drewN nq).heap.size) := Lib.hid (by have := Hz2.out; have := Hz3.out; show wr.heap.size ≤ wc.heap.size; omega)
                      have Hsl4 : Hid (Sl (New W0 wr) (wc.drewN nq) 34 2 (.slice (some ⟨gl, 0, none⟩) [m].length vc) [m].length (wrow (chg p) [m])) := Lib.hid ⟨Hsl3.out.1, Hsl3.out.2⟩
                      clear hy0 hy1 hcell hyz hltA3 hm0 hm1
                      generalize wc.drewN nq = wz at *
                      go_wp2_with fail
                      go_quiet (fail)
                      have hy05 : (wz.drewN nq).cell? ⟨y, 0, none⟩ = some (.int .u64 (n : Nat)) := hy04
                      have hy15 : (wz.drewN nq).cell? ⟨y, 1, none⟩ = some (.bool (chg p)) := hy14
                      have hm5 : (wz.drewN nq).cell? ⟨gl, 0, none⟩ = some (.int .u64 (m : Nat)) := hm4
                      have hm15 : (wz.drewN nq).cell? ⟨gl, 1, none⟩ = some (.bool (chg p)) := hm14
                      have Hfx := Lib.hid (Hf4.out.drewN nq)
                      have Hzx : Hid (wr.heap.size ≤ (wz.drewN nq).heap.size) := Lib.hid Hz4.out
                      have Hslx : Hid (Sl (New W0 wr) (wz.drewN nq) 34 2 (.slice (some ⟨gl, 0, none⟩) [m].length vc) [m].length (wrow (chg p) [m])) := Lib.hid ⟨Hsl4.out.1, Hsl4.out.2⟩
                      clear hy04 hy14 hm4 hm14
                      generalize wz.drewN nq = wx at *
                      go_upto_region 15 with fail
                      go_region_law (fail)
                      all_goals
                        clear hy05 hy15 hm5 hm15
                        go_wp2_with fail
                        go_roundw
                        case rel =>
                          have hs2 := sl_two wx.drew n m (chg p)
                          have := Hfx.out.size
                          exact ⟨k + 1, some ⟨wx.heap.size, 0, none⟩, 2, by omega, by simp, by rw [E1.out]; first | rfl | simp, Hfx.out.drew.alloc _, by rw [E1.out]; exact hs2.mono (fun q hq => ⟨by have h : q = wx.heap.size := hq; omega, by have h : q = wx.heap.size := hq; first | (simp; omega) | (simp [h]; done) | (subst h; simp)⟩)⟩
                        case measure => simp [intOf]; omega
                    · have E1 : Hid (insAll (hs.take (k + 1)) = [m] ++ [n]) := Lib.hid (by rw [He.out]; simp only [ins, if_pos (show m < n by omega)])
                      have hmb2 : decide ((n : Int) < (m : Int)) = false := by simp; omega
                      go_wp2_with fail
                      go_quiet (fail)
                      have hy04 : (wc.drewN nq).cell? ⟨y, 0, none⟩ = some (.int .u64 (n : Nat)) := hy0
                      have hy14 : (wc.drewN nq).cell? ⟨y, 1, none⟩ = some (.bool (chg p)) := hy1
                      have hm4 : (wc.drewN nq).cell? ⟨gl, 0, none⟩ = some (.int .u64 (m : Nat)) := hm0
                      have hm14 : (wc.drewN nq).cell? ⟨gl, 1, none⟩ = some (.bool (chg p)) := hm1
                      have Hf4 := Lib.hid (Hf3.out.drewN nq)
                      have Hz4 : Hid (wr.heap.size ≤ (wc.drewN nq).heap.size) := Lib.hid (by have := Hz2.out; have := Hz3.out; show wr.heap.size ≤ wc.heap.size; omega)
                      have Hsl4 : Hid (Sl (New W0 wr) (wc.drewN nq) 34 2 (.slice (some ⟨gl, 0, none⟩) [m].length vc) [m].length (wrow (chg p) [m])) := Lib.hid ⟨Hsl3.out.1, Hsl3.out.2⟩
                      clear hy0 hy1 hcell hyz hltA3 hm0 hm1
                      generalize wc.drewN nq = wz at *
                      go_wp2_with fail
                      go_quiet (fail)
                      have hy05 : (wz.drewN nq).cell? ⟨y, 0, none⟩ = some (.int .u64 (n : Nat)) := hy04
                      have hy15 : (wz.drewN nq).cell? ⟨y, 1, none⟩ = some (.bool (chg p)) := hy14
                      have hm5 : (wz.drewN nq).cell? ⟨gl, 0, none⟩ = some (.int .u64 (m : Nat)) := hm4
                      have hm15 : (wz.drewN nq).cell? ⟨gl, 1, none⟩ = some (.bool (chg p)) := hm14
                      have Hfx := Lib.hid (Hf4.out.drewN nq)
                      have Hzx : Hid (wr.heap.size ≤ (wz.drewN nq).heap.size) := Lib.hid Hz4.out
                      have Hslx : Hid (Sl (New W0 wr) (wz.drewN nq) 34 2 (.slice (some ⟨gl, 0, none⟩) [m].length vc) [m].length (wrow (chg p) [m])) := Lib.hid ⟨Hsl4.out.1, Hsl4.out.2⟩
                      clear hy04 hy14 hm4 hm14
                      generalize wz.drewN nq = wx at *
                      go_wp2_with (at_builtin; go_loud (refine wpList_append_any _ rfl _ _ _ rfl 34 undW infW rfl (by decide) rfl (Hslx.out.alloc _) (some ⟨wx.heap.size, 0, none⟩) 1 1 (wrow (chg p) [n]) rfl (by rfl) (fun e => by cases e) (fun ad e j u hu => by cases e; exact news_at _ _ _ rfl j u hu) (wrow_one _ _) (by unfold maxLen; omega) (by omega) ?_); intro a5 c5 w5 happ)
                      have Happ := Lib.hid happ
                      clear happ
                      go_roundw
                      case rel =>
                        obtain ⟨q1, q2⟩ := tch_append Hfx.out Hzx.out Hslx.out Happ.out
                        exact ⟨k + 1, a5, c5, by omega, by simp, by rw [E1.out]; first | rfl | simp, q1, by rw [E1.out]; exact q2⟩
                      case measure => simp [intOf]; omega
              · have he : ent b = none := by unfold ent; rw [if_neg (fun h => hfs h.2)]
                have He := Lib.hid he
                have hfb : ((hFs b : Int) != 0) = true := by simp; omega
                clear he hh
                generalize hFs b = fs at *
                go_wp2_with fail
                go_roundw
                case rel => exact Hno.out _ ((Fr.refl Non w2).alloc _) He.out
                case measure => simp [intOf]; omega
            · have he : ent b = none := by unfold ent; rw [if_neg (fun h => hnh h.1)]
              have He := Lib.hid he
              clear he hnh
              go_wp2_with fail
              go_roundw
              case rel => exact Hno.out _ ((Fr.refl Non w2).alloc _) He.out
              case measure => simp [intOf]; omega
          · have ek : k = hs.length := by omega
            go_wp2_with fail
            go_ret
            refine ⟨_, rfl, Hin.out.fr.trans Hfr.out (fun _ _ h => h), ?_⟩
            have hx := Hslr.out
            rw [ek, List.take_length] at hx ⊢
            rw [Htouch.out]
            have := Hin.out.fr.size
            exact hx.mono (fun q hq => ⟨by have := hq.1; omega, hq.2⟩)
  · have hkf : known p = false := by simpa using hkn
    have Htouch : Hid (touch p b1 b2 = []) := Lib.hid (by unfold touch; rw [if_neg (fun h => hkn h.1)])
    rw [hkf]
    clear hkn hkf
    go_wp2_with fail
    go_ret
    refine ⟨_, rfl, Hf0.out, ?_⟩
    rw [Htouch.out]
    exact Sl.nil _ _ _ _
end Go.Proofs.YtabllhhainepgaaGreatDoor
