/-
  ProcTouches: proc.Touches.
-/
import Derived.Test.YtabllhhainepgaaGreatDoorPtB
set_option maxRecDepth 100000
set_option linter.unusedVariables false
set_option linter.unusedSimpArgs false
set_option linter.constructorNameAsVariable false
namespace Go.Proofs.YtabllhhainepgaaGreatDoor
open Go.RowKit Abk

open Classical in
/-- The inode that a handle names, of the active tree. -/
noncomputable def ent (b : List Int) : Option Nat := if IsHand b ∧ hFs b = 0 then some (hNo b) else none
def ins (l : List Nat) : Option Nat → List Nat
  | none => l
  | some n => match l with
    | [] => [n]
    | m :: r => if m < n then (m :: r) ++ [n] else if n < m then n :: m :: r else m :: r
noncomputable def insAll (bs : List (List Int)) : List Nat := bs.foldl (fun l b => ins l (ent b)) []
def hands (p : Nat) (b1 b2 : List Int) : List (List Int) := if twoH p then [b1, b2] else [b1]
noncomputable def touch (p : Nat) (b1 b2 : List Int) : List Nat := if known p = true ∧ p ≠ 0 then insAll (hands p b1 b2) else []
def wrow (wr : Bool) (l : List Nat) : List Value := l.flatMap fun n => [.int .u64 (n : Nat), .bool wr]
theorem wrow_len (wr : Bool) : ∀ l : List Nat, (wrow wr l).length = l.length * 2
  | [] => rfl
  | n :: l => by have := wrow_len wr l; simp only [wrow, List.flatMap_cons, List.length_append, List.length_cons, List.length_nil] at this ⊢; omega
theorem wrow_app (wr : Bool) (a b : List Nat) : wrow wr (a ++ b) = wrow wr a ++ wrow wr b := by simp [wrow]
theorem wrow_one (wr : Bool) (l : List Nat) : ∀ u ∈ wrow wr l, u.oneCell' = true := by
  intro u hu
  simp only [wrow, List.mem_flatMap, List.mem_cons, List.not_mem_nil, or_false] at hu
  obtain ⟨n, _, rfl | rfl⟩ := hu <;> rfl
theorem insAll_snoc (bs : List (List Int)) (b : List Int) : insAll (bs ++ [b]) = ins (insAll bs) (ent b) := by simp [insAll]
theorem ins_len (l : List Nat) (o : Option Nat) : (ins l o).length ≤ l.length + 1 := by
  cases o with
  | none => simp [ins]
  | some n =>
    cases l with
    | nil => simp [ins]
    | cons m r =>
      simp only [ins]
      split
      · simp
      · split <;> simp
theorem insAll_len (bs : List (List Int)) : (insAll bs).length ≤ bs.length := by
  have key : ∀ (bs : List (List Int)) (l : List Nat), (bs.foldl (fun l b => ins l (ent b)) l).length ≤ l.length + bs.length := by
    intro bs
    induction bs with
    | nil => intro l; simp
    | cons b bs ih =>
      intro l
      have h1 := ih (ins l (ent b))
      have h2 := ins_len l (ent b)
      simp only [List.foldl_cons, List.length_cons]
      omega
  simpa [insAll] using key bs []
theorem undW : Tryz.prog.underlying 30 = some (.slice 34) := by kernel_rfl
theorem infW : (Tryz.prog.info? 34).map (fun i => (i.zero, i.size, i.bytes)) = some (some (.agg #[.int .u64 0, .bool false]), 2, 16) := by kernel_rfl
theorem undBB : Tryz.prog.underlying 67 = some (.slice 23) := by kernel_rfl
theorem infB : (Tryz.prog.info? 23).map (fun i => (i.zero, i.size, i.bytes)) = some (some (.slice none 0 0), 1, 24) := by kernel_rfl
/-- A new row of one slice. -/
theorem sl_one (w : World) (v : Value) : Sl (fun k => k = w.heap.size) (w.alloc (.cells #[v] 23)) 23 1 (.slice (some ⟨w.heap.size, 0, none⟩) 1 1) 1 [v] :=
  ⟨⟨rfl, .inr ⟨w.heap.size, 1, #[v], rfl, Nat.zero_le _, blk_new _ _ rfl, Nat.le_refl _, by decide, rfl, rfl⟩⟩, fun k hk => by simp [Value.ownBlock] at hk; exact hk.symm⟩
/-- A new row of one Want. -/
theorem sl_want (w : World) (n : Nat) (wr : Bool) : Sl (fun k => k = w.heap.size) (w.alloc (.cells #[.int .u64 (n : Nat), .bool wr] 34)) 34 2 (.slice (some ⟨w.heap.size, 0, none⟩) 1 1) 1 (wrow wr [n]) :=
  ⟨⟨rfl, .inr ⟨w.heap.size, 1, _, rfl, Nat.zero_le _, blk_new _ _ rfl, Nat.le_refl _, by decide, rfl, rfl⟩⟩, fun k hk => by simp [Value.ownBlock] at hk; exact hk.symm⟩
/-- The arguments' row. -/
structure ArgsR (z : Array Value) (p : Nat) (v1 v2 : Value) : Prop where
  c0 : z[0]? = some (.int .u32 (p : Nat))
  c1 : z[1]? = some v1
  c3 : z[3]? = some v2
  sz : z.size = 24
  one : z.all (·.oneCell') = true
def vals (p : Nat) (v1 v2 : Value) : List Value := if twoH p then [v1, v2] else [v1]
/-- The handles lie in a slice. -/
structure HandsIn (w wx : World) (z : Array Value) (p : Nat) (v1 v2 : Value) (b1 b2 : List Int) (ba : Option Addr) (bc : Nat) : Prop where
  fr : Fr Non w wx
  box : wx.heap[w.heap.size]? = some (.cells z 28 (0, 0))
  sl : Sl (New w wx) wx 23 1 (.slice ba (hands p b1 b2).length bc) (hands p b1 b2).length (vals p v1 v2)
theorem hands_at {w : World} {p : Nat} {v1 v2 : Value} {b1 b2 : List Int} (hB1 : Bytes b1) (hB2 : Bytes b2) (h1 : Byt w v1 b1) (h2 : Byt w v2 b2) {k : Nat} (hk : k < (hands p b1 b2).length) :
    ∃ v, (vals p v1 v2)[k]? = some v ∧ Byt w v (hands p b1 b2)[k] ∧ Bytes (hands p b1 b2)[k] := by
  unfold hands vals at *
  by_cases h : twoH p = true
  · simp only [h, if_true] at hk ⊢
    simp at hk
    have : k = 0 ∨ k = 1 := by omega
    rcases this with rfl | rfl
    · exact ⟨v1, rfl, h1, hB1⟩
    · exact ⟨v2, rfl, h2, hB2⟩
  · simp only [h, if_false] at hk ⊢
    simp at hk
    subst hk
    exact ⟨v1, rfl, h1, hB1⟩
theorem hands_pos (p : Nat) (b1 b2 : List Int) : 0 < (hands p b1 b2).length ∧ (hands p b1 b2).length ≤ 2 := by
  unfold hands; split <;> simp
theorem tch_append {W0 wr wz w5 : World} {O : Obj} {c : Bool} {l : List Nat} {n vc c5 : Nat} {va a5 : Option Addr} (hf : Fr Non W0 wz) (hz : wr.heap.size ≤ wz.heap.size) (hsl : Sl (New W0 wr) wz 34 2 (.slice va l.length vc) l.length (wrow c l))
    (happ : Appd (New W0 wr) (wz.alloc O) 34 2 (.slice va l.length vc) l.length 1 (wrow c l) (wrow c [n]) a5 c5 w5) : Fr Non W0 w5 ∧ Sl (New W0 w5) w5 34 2 (.slice a5 (l ++ [n]).length c5) (l ++ [n]).length (wrow c (l ++ [n])) := by
  have z := hf.size
  have z5 := happ.fr.size
  simp only [World.size_alloc] at z5
  refine ⟨(hf.alloc O).trans happ.fr (fun q hq e => by have := (hsl.2 q e).1; omega), ?_⟩
  have hlen : (l ++ [n]).length = l.length + 1 := by simp
  rw [hlen, wrow_app]
  refine happ.sl.mono fun q hq => ?_
  rcases hq with h | h
  · exact ⟨h.1, by have := h.2; omega⟩
  · simp only [World.size_alloc] at h
    exact ⟨by omega, h.2⟩
theorem tch_prepend {W0 wz w5 : World} {O : Obj} {c : Bool} {l : List Nat} {n c5 : Nat} {a5 : Option Addr} (hf : Fr Non W0 wz)
    (happ : Appd (fun q => q = wz.heap.size) (wz.alloc O) 34 2 (.slice (some ⟨wz.heap.size, 0, none⟩) 1 1) 1 l.length (wrow c [n]) (wrow c l) a5 c5 w5) : Fr Non W0 w5 ∧ Sl (New W0 w5) w5 34 2 (.slice a5 (1 + l.length) c5) (n :: l).length (wrow c (n :: l)) := by
  have z := hf.size
  have z5 := happ.fr.size
  simp only [World.size_alloc] at z5
  refine ⟨(hf.alloc O).trans happ.fr (fun q hq e => by have : wz.heap.size = q := Option.some.inj e; omega), ?_⟩
  have hlen : (n :: l).length = 1 + l.length := by simp; omega
  have hr : wrow c (n :: l) = wrow c [n] ++ wrow c l := by simp [wrow]
  rw [hlen, hr]
  refine happ.sl.mono fun q hq => ?_
  rcases hq with rfl | h
  · exact ⟨by omega, by omega⟩
  · simp only [World.size_alloc] at h
    exact ⟨by omega, h.2⟩
set_option maxHeartbeats 4000000 in
theorem touches_calls (w : World) (z : Array Value) (p : Nat) (hp : p < 4294967296) (v1 v2 : Value) (hz : ArgsR z p v1 v2) (b1 b2 : List Int) (hB1 : Bytes b1) (hB2 : Bytes b2) (h1 : Byt w v1 b1) (h2 : Byt w v2 b2) :
    Calls Tryz.prog 5 #[.agg z] w fun e w' => ∃ v, e = .returned v ∧ Fr Non w w' ∧ Sl (New w w') w' 34 2 v (touch p b1 b2).length (wrow (chg p) (touch p b1 b2)) := by
  obtain ⟨a1, c1, rfl, k1, m1, _⟩ := id h1
  obtain ⟨a2, c2, rfl, k2, m2, _⟩ := id h2
  unfold maxLen at m1 m2
  have HZ := Lib.hid hz
  have HB1 := Lib.hid hB1
  have HB2 := Lib.hid hB2
  have H1 := Lib.hid h1
  have H2 := Lib.hid h2
  clear hz hB1 hB2 h1 h2
  go_enter Tryz.func5, Tryz.ntmps5
  go_upto_region 1 with (refine wpList_box_row rfl _ _ rfl z rfl ?_)
  have hbx := blk_new w (.cells z 28) rfl
  have hf0 : Fr Non w (w.alloc (.cells z 28)) := (Fr.refl Non w).alloc _
  generalize w.alloc (.cells z 28) = w0 at *
  have hc0 := blk_cell hbx 0
  have hc1 := blk_cell hbx 1
  have hc3 := blk_cell hbx 3
  rw [HZ.out.c0] at hc0
  rw [HZ.out.c1] at hc1
  rw [HZ.out.c3] at hc3
  have hlt0 := lt_of_block hbx
  have Hbx := Lib.hid hbx
  have Hf0 := Lib.hid hf0
  clear hbx hf0
  go_wp2_with fail
  refine (knownP_calls p w0).mono ?_
  rintro e w0 ⟨rfl, rfl⟩
  by_cases hkn : known p = true
  · by_cases hp0 : p = 0
    · subst hp0
      have Htouch : Hid (touch 0 b1 b2 = []) := Lib.hid (by unfold touch; rw [if_neg (fun h => h.2 rfl)])
      rw [hkn]
      clear hkn
      go_wp2_with fail
      go_ret
      refine ⟨_, rfl, Hf0.out, ?_⟩
      rw [Htouch.out]
      exact Sl.nil _ _ _ _
    · have hp0b : ((p : Int) == 0) = false := by simp; omega
      rw [hkn]
      have Htouch : Hid (touch p b1 b2 = insAll (hands p b1 b2)) := Lib.hid (by unfold touch; rw [if_pos ⟨hkn, hp0⟩])
      clear hkn hp0
      go_wp2_with fail
      refine (two_calls p _).mono ?_
      rintro e w1 ⟨rfl, rfl⟩
      have hsl1 := sl_one w0 (.slice a1 b1.length c1)
      have hf1 : Fr Non w (w0.alloc (.cells #[.slice a1 b1.length c1] 23)) := Hf0.out.alloc _
      have hb1 : ∀ O, (w0.alloc O).heap[w.heap.size]? = some (.cells z 28 (0, 0)) := fun O => blk_old_some Hbx.out O
      have Hsl1 := Lib.hid hsl1
      have Hf1 := Lib.hid hf1
      have Hb1 := Lib.hid hb1
      clear hsl1 hf1 hb1
      go_upto_if 24 with fail
      go_cut [3] (fun t3 wx => ∃ ba bc, t3 = .slice ba (hands p b1 b2).length bc ∧ HandsIn w wx z p (.slice a1 b1.length c1) (.slice a2 b2.length c2) b1 b2 ba bc)
      case first =>
        by_cases h2h : twoH p = true
        · have hh : hands p b1 b2 = [b1, b2] := by unfold hands; rw [if_pos h2h]
          rw [h2h]
          have Hh := Lib.hid hh
          have H2h := Lib.hid h2h
          clear hh h2h
          have hc3a := fun O => ((Fr.refl Non w0).alloc O).cell hc3 (fun h => h)
          go_wp2_with (at_builtin; go_loud (refine wpList_append_any _ rfl _ _ _ rfl 23 undBB infB rfl (by decide) rfl (Hsl1.out.alloc _) (some ⟨w0.heap.size + 1, 0, none⟩) 1 1 [.slice a2 b2.length c2] rfl rfl (fun e => by cases e) (fun ad e j u hu => by cases e; exact news_at _ _ _ (by simp) j u hu) (by simp [Value.oneCell']) (by decide) (by decide) ?_); intro a5 c5 w5 happ)
          go_meet
          have z0 := Hf0.out.size
          replace happ : Appd _ _ _ _ (.slice (some ⟨w0.heap.size, 0, none⟩) 1 1) _ _ _ _ _ _ _ := happ
          have hF : Fr (fun q => q = w0.heap.size) (w0.alloc (.cells #[.slice a1 b1.length c1] 23)) w5 := ((Fr.refl _ _).alloc _).trans happ.fr (fun q _ e => (Option.some.inj e).symm)
          have hF1 : Fr Non w w5 := Hf1.out.trans hF (fun q hq e => by omega)
          refine ⟨a5, c5, by rw [Hh.out]; rfl, ?_⟩
          exact {
            fr := hF1
            box := hF.keep (Hb1.out _) (by omega)
            sl := by
              rw [Hh.out]
              have hv : vals p (.slice a1 b1.length c1) (.slice a2 b2.length c2) = [.slice a1 b1.length c1, .slice a2 b2.length c2] := by unfold vals; rw [if_pos H2h.out]
              rw [hv]
              refine happ.sl.mono fun q hq => ?_
              have z5 := happ.fr.size
              simp only [World.size_alloc] at z5 hq
              rcases hq with rfl | h
              · exact ⟨by omega, by omega⟩
              · exact ⟨by omega, h.2⟩ }
        · have h2f : twoH p = false := by simpa using h2h
          have hh : hands p b1 b2 = [b1] := by unfold hands; rw [if_neg h2h]
          rw [h2f]
          go_wp2
          go_meet
          refine ⟨some ⟨w0.heap.size, 0, none⟩, 1, by rw [hh]; rfl, ?_⟩
          exact {
            fr := Hf1.out
            box := Hb1.out _
            sl := by
              rw [hh]
              have hv : vals p (.slice a1 b1.length c1) (.slice a2 b2.length c2) = [.slice a1 b1.length c1] := by unfold vals; rw [if_neg h2h]
              rw [hv]
              refine Hsl1.out.mono fun q hq => ?_
              subst hq
              have := Hf0.out.size
              exact ⟨by omega, by simp⟩ }
      case rest =>
        obtain ⟨ba, bc, rfl, hin⟩ := hcut
        have hsl := hin.sl
        obtain ⟨_, _, he, hN1, hN2, _, hrow⟩ := hsl.open
        obtain ⟨rfl, rfl⟩ : _ ∧ _ := by simpa using he
        obtain ⟨g, rfl, _, _, hcells⟩ := hrow.resolve_left (by have := (hands_pos p b1 b2).1; omega)
        have hN := hands_pos p b1 b2
        have hat := fun k (hk : k < (hands p b1 b2).length) => hands_at HB1.out HB2.out H1.out H2.out hk
        unfold maxLen at hN2
        generalize hands p b1 b2 = hs at *
        have Hin := Lib.hid hin
        have Hat := Lib.hid hat
        have Hcells := Lib.hid hcells
        have hcc := blk_cell hin.box 0
        rw [HZ.out.c0] at hcc
        clear hin hat hcells hsl hrow
        obtain ⟨W0, hW0⟩ : ∃ W0, W0 = wc := ⟨_, rfl⟩
        subst hW0
        go_wp2_with fail
        go_loopw [4, 32] (fun s i wr => ∃ (k : Nat) (va : Option Addr) (vc : Nat), k ≤ hs.length ∧ i = .int .i64 (k : Nat) ∧ s = .slice va (insAll (hs.take k)).length vc ∧ Fr Non W0 wr ∧ Sl (New W0 wr) wr 34 2 (.slice va (insAll (hs.take k)).length vc) (insAll (hs.take k)).length (wrow (chg p) (insAll (hs.take k)))) (fun _ i _ => hs.length - (intOf i).toNat)
        case atStart => exact ⟨0, none, 0, Nat.zero_le _, rfl, rfl, Fr.refl _ _, Sl.nil _ _ _ _⟩
        case round =>
          obtain ⟨k, va, vc, hk, rfl, rfl, hfr, hslr⟩ := hrel
          have Hfr := Lib.hid hfr
          have Hslr := Lib.hid hslr
          have hLk := insAll_len (hs.take k)
          have hLt : (hs.take k).length ≤ 2 := by simp; omega
          clear hfr hslr
          by_cases hlt : k < hs.length
          · obtain ⟨v, hv1, hv2, hv3⟩ := Hat.out k hlt
            have hcell := Hfr.out.cell (Hcells.out k v hv1) (fun h => h)
            have Hsn : Hid (insAll (hs.take (k + 1)) = ins (insAll (hs.take k)) (ent hs[k])) := Lib.hid (by rw [take_snoc' hlt, insAll_snoc])
            obtain ⟨b, hb⟩ : ∃ b, b = hs[k] := ⟨_, rfl⟩
            rw [← hb] at hv2 hv3 Hsn
            obtain ⟨av, cv, rfl, _⟩ := id hv2
            have Hbv := Lib.hid (hv2.fr (Hin.out.fr.trans Hfr.out (fun _ _ h => h)) (fun _ _ h => h))
            have HbB := Lib.hid hv3
            clear hb hv1 hv2 hv3
            obtain ⟨l, hl⟩ : ∃ l, l = insAll (hs.take k) := ⟨_, rfl⟩
            rw [← hl] at Hslr hLk Hsn ⊢
            have Hl := Lib.hid hl
            clear hl
            go_wp2_with fail
            refine (gethand_calls _ _ b HbB.out Hbv.out).mono ?_
            rintro e w2 ⟨hans, hf2⟩
            have hfr2 := Hfr.out.trans hf2 (fun _ _ h => h)
            have hslr2 := Hslr.out.fr hf2 (fun _ _ h => h)
            have hcc2 := (Hfr.out.trans hf2 (fun _ _ h => h)).cell hcc (fun h => h)
            have hltA : w.heap.size < w2.heap.size := by have := lt_of_block (hfr2.keep Hin.out.box (fun h => h)); exact this
            have Hfr2 := Lib.hid hfr2
            have Hslr2 := Lib.hid hslr2
            have Hz2 := Lib.hid hf2.size
            clear hfr2 hslr2 hf2
            have Hno : Hid (∀ W, Fr Non w2 W → ent b = none → ∃ (k_1 : Nat) (va_1 : Option Addr) (vc_1 : Nat), k_1 ≤ hs.length ∧ Value.int .i64 ((k : Int) + 1) = .int .i64 (k_1 : Nat) ∧ Value.slice va l.length vc = .slice va_1 (insAll (hs.take k_1)).length vc_1 ∧ Fr Non W0 W ∧ Sl (New W0 W) W 34 2 (.slice va_1 (insAll (hs.take k_1)).length vc_1) (insAll (hs.take k_1)).length (wrow (chg p) (insAll (hs.take k_1)))) := Lib.hid (fun W hf he => by
              have e : insAll (hs.take (k + 1)) = l := by rw [Hsn.out, he]; rfl
              refine ⟨k + 1, va, vc, by omega, by simp, by rw [e], Hfr2.out.trans hf (fun _ _ h => h), ?_⟩
              rw [e]
              have h2 := hf.size
              have h3 := Hz2.out
              exact (Hslr2.out.fr hf (fun _ _ h => h)).mono (fun q hq => ⟨hq.1, by have h1 := hq.2; omega⟩))
            rcases hans with ⟨hh, rfl⟩ | ⟨hnh, rfl⟩
            · have hno := num_lt ((b.drop 8).take 8) 0 (Bytes.take (Bytes.drop HbB.out 8) 8) (by decide)
              rw [show num ((b.drop 8).take 8) 0 = hNo b from rfl] at hno
              by_cases hfs : hFs b = 0
              · have he : ent b = some (hNo b) := by unfold ent; rw [if_pos ⟨hh, hfs⟩]
                have He : Hid (insAll (hs.take (k + 1)) = ins l (some (hNo b))) := Lib.hid (by rw [Hsn.out, he])
                rw [hfs]
                clear he hh hfs Hno
                generalize hNo b = n at *
                generalize hGe b = ge at *
                have hcca := fun O => ((Fr.refl Non w2).alloc O).cell hcc2 (fun h => h)
                have hccb := fun O O' => (((Fr.refl Non w2).alloc O).alloc O').cell hcc2 (fun h => h)
                go_upto_region 12 with fail
                go_cut [9] (fun t9 wx => ∃ y, t9 = .pointer (some ⟨y, 0, none⟩) ∧ Fr Non w2 wx ∧ wx.heap[y]? = some (.cells #[.int .u64 (n : Nat), .bool (chg p)] 34 (0, 0)))
                case first =>
                  go_region_law (go_simp; go_at_call 7; refine (chgP_calls p _).mono ?_; rintro e w' ⟨rfl, rfl⟩)
                  all_goals
                    clear hcca hccb hcc2 hcell
                    go_wp2
                    go_meet
                    exact ⟨_, rfl, (((Fr.refl Non w2).alloc _).alloc _).drew, blk_new _ _ (by simp)⟩
                case rest =>
                  obtain ⟨y, rfl, hf3, hby⟩ := hcut
                  have Hf3 := Lib.hid (Hfr2.out.trans hf3 (fun _ _ h => h))
                  have Hz3 := Lib.hid hf3.size
                  have hsl3 := Hslr2.out.fr hf3 (fun _ _ h => h)
                  have hltA3 : w.heap.size < wc.heap.size := by have := hf3.size; omega
                  have hy0 := blk_cell hby 0
                  have hy1 := blk_cell hby 1
                  simp only [List.getElem?_toArray, List.getElem?_cons_zero, List.getElem?_cons_succ] at hy0 hy1
                  have hyz := lt_of_block hby
                  clear hf3 hby hcca hccb hcc2
                  cases l with
                  | nil =>
                    have Hsl3 := Lib.hid hsl3
                    clear hsl3
                    have E1 : Hid (insAll (hs.take (k + 1)) = [] ++ [n]) := Lib.hid (by rw [He.out]; rfl)
                    go_wp2_with fail
                    go_quiet (fail)
                    have hy04 : (wc.drewN nq).cell? ⟨y, 0, none⟩ = some (.int .u64 (n : Nat)) := hy0
                    have hy14 : (wc.drewN nq).cell? ⟨y, 1, none⟩ = some (.bool (chg p)) := hy1
                    have Hf4 := Lib.hid (Hf3.out.drewN nq)
                    have Hz4 : Hid (wr.heap.size ≤ (wc.drewN nq).heap.size) := Lib.hid (by have := Hz2.out; have := Hz3.out; show wr.heap.size ≤ wc.heap.size; omega)
                    have Hsl4 : Hid (Sl (New W0 wr) (wc.drewN nq) 34 2 (.slice va [].length vc) [].length (wrow (chg p) [])) := Lib.hid ⟨Hsl3.out.1, Hsl3.out.2⟩
                    clear hy0 hy1 hcell hyz hltA3
                    generalize wc.drewN nq = wz at *
                    go_wp2_with (at_builtin; go_loud (refine wpList_append_any _ rfl _ _ _ rfl 34 undW infW rfl (by decide) rfl (Hsl4.out.alloc _) (some ⟨wz.heap.size, 0, none⟩) 1 1 (wrow (chg p) [n]) rfl (by rfl) (fun e => by cases e) (fun ad e j u hu => by cases e; exact news_at _ _ _ rfl j u hu) (wrow_one _ _) (by unfold maxLen; omega) (by omega) ?_); intro a5 c5 w5 happ)
                    have Happ := Lib.hid happ
                    clear happ
                    go_roundw
                    case rel =>
                      obtain ⟨q1, q2⟩ := tch_append Hf4.out Hz4.out Hsl4.out Happ.out
                      exact ⟨k + 1, a5, c5, by omega, by simp, by rw [E1.out]; first | rfl | simp, q1, by rw [E1.out]; exact q2⟩
                    case measure => simp [intOf]; omega
                  | cons m r =>
                    obtain ⟨_, _, heq, hlc, hcm, _, hopen⟩ := hsl3.open
                    obtain ⟨rfl, rfl⟩ : _ ∧ _ := by simpa using heq
                    obtain ⟨gl, rfl, _, hglz, hcl⟩ := hopen.resolve_left (by simp)
                    have hm0 := hcl 0 (.int .u64 (m : Nat)) rfl
                    have Hcl := Lib.hid hcl
                    have Hsl3 := Lib.hid hsl3
                    have hlr : (m :: r).length ≤ 2 := by omega
                    unfold maxLen at hcm
                    clear hsl3 hcl heq hopen
                    by_cases hmn : m < n
                    · have E1 : Hid (insAll (hs.take (k + 1)) = (m :: r) ++ [n]) := Lib.hid (by rw [He.out]; simp only [ins, if_pos hmn])
                      have hmb : decide ((m : Int) < (n : Int)) = true := by simp; omega
                      go_wp2_with fail
                      go_quiet (fail)
                      have hy04 : (wc.drewN nq).cell? ⟨y, 0, none⟩ = some (.int .u64 (n : Nat)) := hy0
                      have hy14 : (wc.drewN nq).cell? ⟨y, 1, none⟩ = some (.bool (chg p)) := hy1
                      have hm4 : (wc.drewN nq).cell? ⟨gl, 0, none⟩ = some (.int .u64 (m : Nat)) := hm0
                      have Hcl4 : Hid (∀ j u, (wrow (chg p) (m :: r))[j]? = some u → (wc.drewN nq).cell? ⟨gl, j, none⟩ = some u) := Lib.hid Hcl.out
                      have Hf4 := Lib.hid (Hf3.out.drewN nq)
                      have Hz4 : Hid (wr.heap.size ≤ (wc.drewN nq).heap.size) := Lib.hid (by have := Hz2.out; have := Hz3.out; show wr.heap.size ≤ wc.heap.size; omega)
                      have Hsl4 : Hid (Sl (New W0 wr) (wc.drewN nq) 34 2 (.slice (some ⟨gl, 0, none⟩) (m :: r).length vc) (m :: r).length (wrow (chg p) (m :: r))) := Lib.hid ⟨Hsl3.out.1, Hsl3.out.2⟩
                      clear hy0 hy1 hm0 hcell hyz hltA3
                      generalize wc.drewN nq = wz at *
                      go_wp2_with (at_builtin; go_loud (refine wpList_append_any _ rfl _ _ _ rfl 34 undW infW rfl (by decide) rfl (Hsl4.out.alloc _) (some ⟨wz.heap.size, 0, none⟩) 1 1 (wrow (chg p) [n]) rfl (by rfl) (fun e => by cases e) (fun ad e j u hu => by cases e; exact news_at _ _ _ rfl j u hu) (wrow_one _ _) (by unfold maxLen; omega) (by omega) ?_); intro a5 c5 w5 happ)
                      have Happ := Lib.hid happ
                      clear happ
                      go_roundw
                      case rel =>
                        obtain ⟨q1, q2⟩ := tch_append Hf4.out Hz4.out Hsl4.out Happ.out
                        exact ⟨k + 1, a5, c5, by omega, by simp, by rw [E1.out]; first | rfl | simp, q1, by rw [E1.out]; exact q2⟩
                      case measure => simp [intOf]; omega
                    have hmb : decide ((m : Int) < (n : Int)) = false := by simp; omega
                    by_cases hnm : n < m
                    · have E1 : Hid (insAll (hs.take (k + 1)) = n :: m :: r) := Lib.hid (by rw [He.out]; simp only [ins, if_neg hmn, if_pos hnm])
                      have hmb2 : decide ((n : Int) < (m : Int)) = true := by simp; omega
                      go_wp2_with fail
                      go_quiet (fail)
                      have hy04 : (wc.drewN nq).cell? ⟨y, 0, none⟩ = some (.int .u64 (n : Nat)) := hy0
                      have hy14 : (wc.drewN nq).cell? ⟨y, 1, none⟩ = some (.bool (chg p)) := hy1
                      have hm4 : (wc.drewN nq).cell? ⟨gl, 0, none⟩ = some (.int .u64 (m : Nat)) := hm0
                      have Hcl4 : Hid (∀ j u, (wrow (chg p) (m :: r))[j]? = some u → (wc.drewN nq).cell? ⟨gl, j, none⟩ = some u) := Lib.hid Hcl.out
                      have Hf4 := Lib.hid (Hf3.out.drewN nq)
                      have Hz4 : Hid (wr.heap.size ≤ (wc.drewN nq).heap.size) := Lib.hid (by have := Hz2.out; have := Hz3.out; show wr.heap.size ≤ wc.heap.size; omega)
                      have Hsl4 : Hid (Sl (New W0 wr) (wc.drewN nq) 34 2 (.slice (some ⟨gl, 0, none⟩) (m :: r).length vc) (m :: r).length (wrow (chg p) (m :: r))) := Lib.hid ⟨Hsl3.out.1, Hsl3.out.2⟩
                      clear hy0 hy1 hm0 hcell hyz hltA3
                      generalize wc.drewN nq = wz at *
                      go_wp2_with fail
                      go_quiet (fail)
                      have hy05 : (wz.drewN nq).cell? ⟨y, 0, none⟩ = some (.int .u64 (n : Nat)) := hy04
                      have hy15 : (wz.drewN nq).cell? ⟨y, 1, none⟩ = some (.bool (chg p)) := hy14
                      have Hclx : Hid (∀ O j u, (wrow (chg p) (m :: r))[j]? = some u → ((wz.drewN nq).alloc O).cell? ((⟨gl, 0, none⟩ : Addr).add j) = some u) := Lib.hid (fun O j u hu => by
                        have hadd : (⟨gl, 0, none⟩ : Addr).add j = ⟨gl, j, none⟩ := by unfold Addr.add; split <;> simp_all
                        rw [hadd]
                        exact ((Fr.refl Non (wz.drewN nq)).alloc O).cell (Hcl4.out j u hu) (fun h => h))
                      have Hfx := Lib.hid (Hf4.out.drewN nq)
                      clear hy04 hy14 hm4
                      generalize wz.drewN nq = wx at *
                      go_wp2_with (at_builtin; go_loud (refine wpList_append_any _ rfl _ _ _ rfl 34 undW infW rfl (by decide) rfl (sl_want wx n (chg p)) (some ⟨gl, 0, none⟩) (m :: r).length vc (wrow (chg p) (m :: r)) rfl (wrow_len _ _) (fun e => by cases e) (fun ad e j u hu => by cases e; exact Hclx.out _ j u hu) (wrow_one _ _) (by unfold maxLen; omega) (by omega) ?_); intro a5 c5 w5 happ)
                      have Happ := Lib.hid happ
                      clear happ
                      go_roundw
                      case rel =>
                        obtain ⟨q1, q2⟩ := tch_prepend Hfx.out Happ.out
                        exact ⟨k + 1, a5, c5, by omega, by simp, by rw [E1.out]; simp; omega, q1, by rw [E1.out]; simpa [Nat.add_comm] using q2⟩
                      case measure => simp [intOf]; omega
                    · have E1 : Hid (insAll (hs.take (k + 1)) = m :: r) := Lib.hid (by rw [He.out]; simp only [ins, if_neg hmn, if_neg hnm])
                      have hmb2 : decide ((n : Int) < (m : Int)) = false := by simp; omega
                      go_wp2_with fail
                      go_quiet (fail)
                      have hy04 : (wc.drewN nq).cell? ⟨y, 0, none⟩ = some (.int .u64 (n : Nat)) := hy0
                      have hy14 : (wc.drewN nq).cell? ⟨y, 1, none⟩ = some (.bool (chg p)) := hy1
                      have hm4 : (wc.drewN nq).cell? ⟨gl, 0, none⟩ = some (.int .u64 (m : Nat)) := hm0
                      have Hcl4 : Hid (∀ j u, (wrow (chg p) (m :: r))[j]? = some u → (wc.drewN nq).cell? ⟨gl, j, none⟩ = some u) := Lib.hid Hcl.out
                      have Hf4 := Lib.hid (Hf3.out.drewN nq)
                      have Hz4 : Hid (wr.heap.size ≤ (wc.drewN nq).heap.size) := Lib.hid (by have := Hz2.out; have := Hz3.out; show wr.heap.size ≤ wc.heap.size; omega)
                      have Hsl4 : Hid (Sl (New W0 wr) (wc.drewN nq) 34 2 (.slice (some ⟨gl, 0, none⟩) (m :: r).length vc) (m :: r).length (wrow (chg p) (m :: r))) := Lib.hid ⟨Hsl3.out.1, Hsl3.out.2⟩
                      clear hy0 hy1 hm0 hcell hyz hltA3
                      generalize wc.drewN nq = wz at *
                      go_wp2_with fail
                      go_quiet (fail)
                      have Hfx := Lib.hid (Hf4.out.drewN nq)
                      have Hslx : Hid (Sl (New W0 wr) (wz.drewN nq) 34 2 (.slice (some ⟨gl, 0, none⟩) (m :: r).length vc) (m :: r).length (wrow (chg p) (m :: r))) := Lib.hid ⟨Hsl4.out.1, Hsl4.out.2⟩
                      have Hzx : Hid (wr.heap.size ≤ (wz.drewN nq).heap.size) := Lib.hid Hz4.out
                      clear hy04 hy14 hm4
                      generalize wz.drewN nq = wx at *
                      go_wp2_with fail
                      go_roundw
                      case rel => exact ⟨k + 1, some ⟨gl, 0, none⟩, vc, by omega, by simp, by rw [E1.out]; first | rfl | simp, Hfx.out, by rw [E1.out]; exact Hslx.out.mono (fun q hq => ⟨hq.1, by have := hq.2; have := Hzx.out; omega⟩)⟩
                      case measure => simp [intOf]; omega
              · have he : ent b = none := by unfold ent; rw [if_neg (fun h => hfs h.2)]
                have He := Lib.hid he
                have hfb : ((hFs b : Int) != 0) = true := by simp; omega
                clear he hh
                generalize hFs b = fs at *
                go_wp2_with fail
                go_roundw
                case rel => exact Hno.out _ ((Fr.refl Non w2).alloc _) He.out
                case measure => simp [intOf]; omega
            · have he : ent b = none := by unfold ent; rw [if_neg (fun h => hnh h.1)]
              have He := Lib.hid he
              clear he hnh
              go_wp2_with fail
              go_roundw
              case rel => exact Hno.out _ ((Fr.refl Non w2).alloc _) He.out
              case measure => simp [intOf]; omega
          · have ek : k = hs.length := by omega
            go_wp2_with fail
            go_ret
            refine ⟨_, rfl, Hin.out.fr.trans Hfr.out (fun _ _ h => h), ?_⟩
            have hx := Hslr.out
            rw [ek, List.take_length] at hx ⊢
            rw [Htouch.out]
            have := Hin.out.fr.size
            exact hx.mono (fun q hq => ⟨by have := hq.1; omega, hq.2⟩)
  · have hkf : known p = false := by simpa using hkn
    have Htouch : Hid (touch p b1 b2 = []) := Lib.hid (by unfold touch; rw [if_neg (fun h => hkn h.1)])
    rw [hkf]
    clear hkn hkf
    go_wp2_with fail
    go_ret
    refine ⟨_, rfl, Hf0.out, ?_⟩
    rw [Htouch.out]
    exact Sl.nil _ _ _ _
end Go.Proofs.YtabllhhainepgaaGreatDoor
