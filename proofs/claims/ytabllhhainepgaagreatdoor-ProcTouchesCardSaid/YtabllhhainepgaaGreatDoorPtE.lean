/-
  ProcTouches: the law's walk.
-/
import Derived.Test.YtabllhhainepgaaGreatDoorPtD
import Derived.Test.YtabllhhainepgaaGreatDoorErrFW
import Derived.Test.YtabllhhainepgaaGreatDoorErrAll
import Derived.Test.YtabllhhainepgaaGreatDoorProcLiveR
set_option maxRecDepth 100000
set_option linter.unusedVariables false
set_option linter.unusedSimpArgs false
set_option linter.constructorNameAsVariable false
namespace Go.Proofs.YtabllhhainepgaaGreatDoor
open Go.RowKit Abk

theorem eqFields_two {P : Program} (w : World) (d : Nat) (a a' : Int) (c c' : Bool) {tu tb : TypeId} (hu : P.underlying tu = some (.int .u64)) (hb : P.underlying tb = some .bool)
    (hp0 : ∀ a b, (part tu #[a, b] 0).run P w = .ok a w) (hp1 : ∀ a b, (part tb #[a, b] 1).run P w = .ok b w)
    (fs : List Field) (h : fs.map (fun f => (f.type, f.offset, decide (f.name ≠ "_"))) = [(tu, 0, true), (tb, 1, true)]) :
    (Op.eqFields (d + 1) #[.int .u64 a, .bool c] #[.int .u64 a', .bool c'] fs).run P w = .ok (a == a' && c == c') w := by
  rcases fs with _ | ⟨f, _ | ⟨b, _ | ⟨m, t⟩⟩⟩
  all_goals simp only [List.map_cons, List.map_nil, List.cons.injEq, Prod.mk.injEq, reduceCtorEq, false_and, and_false, decide_eq_true_eq] at h
  obtain ⟨⟨h1, h2, h3⟩, ⟨h4, h5, h6⟩, _⟩ := h
  simp only [Op.eqFields, h1, h2, h3, h4, h5, h6, ne_eq, not_true_eq_false, not_false_eq_true, if_true, Sem.run_bind, Result.andThen_ok, Sem.run_ite, Sem.run_pure,
    hp0, hp1, run_equalIn_int w d tu _ _ _ _ hu, run_equalIn_bool' w d tb _ _ hb]
  cases (a == a') <;> cases (c == c') <;> simp
theorem neqW (w : World) (a : Int) (c : Bool) : (binOp .neq 34 (.agg #[.int .u64 a, .bool c]) (.agg #[.int .u64 a, .bool c])).run Tryz.prog w = .ok (.bool false) w := by
  have ht : Tryz.prog.underlying 34 = some (.struct (Tryz.prog.fieldsOf 34)) := by kernel_rfl
  have h0 : Tryz.prog.stoodInHeld 34 = false := by kernel_rfl
  have hfs : (Tryz.prog.fieldsOf 34).toList.map (fun f => (f.type, f.offset, decide (f.name ≠ "_"))) = [(24, 0, true), (4, 1, true)] := by kernel_rfl
  rw [run_neq_struct, run_equalIn_struct (P := Tryz.prog) w 9999 _ _ _ ht h0]
  rw [eqFields_two (P := Tryz.prog) w 9998 a a c c Tryz.underlying24 Tryz.underlying4 ?_ ?_ _ hfs]
  · simp [Result.andThen]
  all_goals
    intro a b
    go_simp
theorem szArgs : (Tryz.prog.info? 28).map (·.size) = some 24 := by kernel_rfl
theorem wrow_at (c : Bool) : ∀ (l : List Nat) (k : Nat) (h : k < l.length), (wrow c l)[k * 2]? = some (.int .u64 (l[k] : Nat)) ∧ (wrow c l)[k * 2 + 1]? = some (.bool c)
  | [], k, h => by simp at h
  | x :: l, 0, h => ⟨rfl, rfl⟩
  | x :: l, k + 1, h => by
    have h' : k < l.length := by simpa using h
    obtain ⟨e1, e2⟩ := wrow_at c l k h'
    have e : wrow c (x :: l) = .int .u64 (x : Nat) :: .bool c :: wrow c l := rfl
    rw [e, show (k + 1) * 2 = k * 2 + 1 + 1 by omega]
    simpa using ⟨e1, e2⟩
theorem touch_len (p : Nat) (b1 b2 : List Int) : (touch p b1 b2).length ≤ 2 := by
  unfold touch
  split
  · exact Nat.le_trans (insAll_len _) (hands_pos p b1 b2).2
  · simp
set_option maxHeartbeats 4000000 in
theorem procTouches_walk (w : World) (z : Array Value) (p n : Nat) (hp : p < 4294967296) (v1 v2 : Value) (hz : ArgsR z p v1 v2) (b1 b2 : List Int) (hB1 : Bytes b1) (hB2 : Bytes b2) (h1 : Byt w v1 b1) (h2 : Byt w v2 b2) (hg : ErrT w) :
    Calls Tryz.prog 3 #[.agg z, .int .u32 (n : Nat)] w fun e w' => e = .returned (.bool true) ∧ Fr Non w w' := by
  obtain ⟨a1, c1, rfl, k1, m1, _⟩ := id h1
  obtain ⟨a2, c2, rfl, k2, m2, _⟩ := id h2
  unfold maxLen at m1 m2
  have HZ := Lib.hid hz
  have HB1 := Lib.hid hB1
  have HB2 := Lib.hid hB2
  have H1 := Lib.hid h1
  have H2 := Lib.hid h2
  have Hlive : Hid (∀ W, Fr Non w W → Calls Tryz.prog 4 #[] W fun e w' => e = .returned (.bool true) ∧ Fr Non W w') := Lib.hid (fun W hf => pt_calls W (ptK_ok (hf.cell hg (fun h => h))))
  have hsz : (Tryz.prog.info? 28).map (·.size) = some z.size := by rw [hz.sz]; exact szArgs
  have Hsz := Lib.hid hsz
  clear hz hB1 hB2 h1 h2 hg hsz
  go_enter Tryz.func3, Tryz.ntmps3
  go_upto_region 1 with (refine wpList_box_row rfl _ _ rfl z rfl ?_)
  have hbx := blk_new w (.cells z 28) rfl
  have hf0 : Fr Non w (w.alloc (.cells z 28)) := (Fr.refl Non w).alloc _
  generalize w.alloc (.cells z 28) = w0 at *
  have hc1 := blk_cell hbx 1
  have hc3 := blk_cell hbx 3
  rw [HZ.out.c1] at hc1
  rw [HZ.out.c3] at hc3
  have Hbx := Lib.hid hbx
  have Hf0 := Lib.hid hf0
  clear hbx hf0
  obtain ⟨ov, hov⟩ : ∃ b, decide ((60000 : Int) < wrap64 ((b1.length : Int) + (b2.length : Int))) = b := ⟨_, rfl⟩
  cases ov with
  | true =>
    go_wp2_with fail
    refine (Hlive.out _ Hf0.out).mono ?_
    rintro e w' ⟨rfl, hf⟩
    go_wp2_with fail
    go_ret
    exact ⟨rfl, Hf0.out.trans hf (fun _ _ h => h)⟩
  | false =>
    go_wp2_with (refine wpList_load_row rfl _ _ rfl _ _ z _ _ rfl Hbx.out Tryz.underlying28 rfl Hsz.out ?_)
    refine (touches_calls w0 z p hp _ _ HZ.out b1 b2 HB1.out HB2.out (H1.out.fr Hf0.out (fun _ _ h => h)) (H2.out.fr Hf0.out (fun _ _ h => h))).mono ?_
    rintro e w1 ⟨va, rfl, hf1, hs1⟩
    obtain ⟨xa, xc, rfl, hx1, hx2, _, hx⟩ := hs1.open
    have Hf1 := Lib.hid (Hf0.out.trans hf1 (fun _ _ h => h))
    have Hb1 := Lib.hid (hf1.keep Hbx.out (fun h => h))
    have Hs1 := Lib.hid hs1
    clear hs1 hf1 hc1 hc3
    go_wp2_with (refine wpList_load_row rfl _ _ rfl _ _ z _ _ rfl Hb1.out Tryz.underlying28 rfl Hsz.out ?_)
    refine (reftouches_calls w1 z p hp _ _ HZ.out b1 b2 HB1.out HB2.out (H1.out.fr Hf1.out (fun _ _ h => h)) (H2.out.fr Hf1.out (fun _ _ h => h))).mono ?_
    rintro e w2 ⟨vb, rfl, hf2, hs2⟩
    obtain ⟨ya, yc, rfl, hy1, hy2, _, hy⟩ := hs2.open
    have Hf2 := Lib.hid (Hf1.out.trans hf2 (fun _ _ h => h))
    have Hs12 := Lib.hid (Hs1.out.fr hf2 (fun _ _ h => h))
    have Hs2 := Lib.hid hs2
    have hlen := touch_len p b1 b2
    generalize touch p b1 b2 = l at *
    generalize chg p = cp at *
    clear hs2 hf2 Hs1 hx hy
    unfold maxLen at hx2 hy2
    go_wp2_with fail
    refine (chgP_calls n w2).mono ?_
    rintro e w' ⟨rfl, rfl⟩
    go_wp2_with fail
    refine (chgR_calls n _).mono ?_
    rintro e w'' ⟨rfl, rfl⟩
    go_wp2_with fail
    obtain ⟨W, hW⟩ : ∃ W, W = w'' := ⟨_, rfl⟩
    subst hW
    go_loopw [7] (fun i wr => ∃ k : Nat, k ≤ l.length ∧ i = .int .i64 (k : Nat) ∧ Fr Non W wr) (fun i _ => l.length - (intOf i).toNat)
    case atStart => exact ⟨0, Nat.zero_le _, rfl, Fr.refl _ _⟩
    case round =>
      obtain ⟨k, hk, rfl, hfr⟩ := hrel
      have Hfr := Lib.hid hfr
      have hsx := (Hs12.out.fr hfr (fun _ _ h => h)).open
      have hsy := (Hs2.out.fr hfr (fun _ _ h => h)).open
      clear hfr
      by_cases hlt : k < l.length
      · obtain ⟨_, _, he, _, _, _, hrow⟩ := hsx
        obtain ⟨rfl, rfl⟩ : _ ∧ _ := by simpa using he
        obtain ⟨g, rfl, _, _, hcx⟩ := hrow.resolve_left (by omega)
        obtain ⟨_, _, he, _, _, _, hrow⟩ := hsy
        obtain ⟨rfl, rfl⟩ : _ ∧ _ := by simpa using he
        obtain ⟨g2, rfl, _, _, hcy⟩ := hrow.resolve_left (by omega)
        obtain ⟨e1, e2⟩ := wrow_at cp l k hlt
        have x0 := hcx _ _ e1
        have x1 := hcx _ _ e2
        have y0 := hcy _ _ e1
        have y1 := hcy _ _ e2
        have hne := fun wz => neqW wz (l[k] : Nat) cp
        generalize l[k] = m at *
        clear e1 e2 hcx hcy
        go_wp2_with fail
        clear hrow
        go_quiet (fail)
        have Hfr2 := Lib.hid (Hfr.out.drewN nq)
        clear x0 x1 y0 y1 hne
        generalize wr.drewN nq = wx at *
        go_wp2_with fail
        go_roundw
        case rel => exact ⟨k + 1, by omega, by simp, Hfr2.out⟩
        case measure => simp [intOf]; omega
      · have ek : k = l.length := by omega
        go_wp2_with fail
        refine (Hlive.out _ (Hf2.out.trans Hfr.out (fun _ _ h => h))).mono ?_
        rintro e w' ⟨rfl, hf⟩
        go_wp2_with fail
        go_ret
        exact ⟨rfl, (Hf2.out.trans Hfr.out (fun _ _ h => h)).trans hf (fun _ _ h => h)⟩
end Go.Proofs.YtabllhhainepgaaGreatDoor
