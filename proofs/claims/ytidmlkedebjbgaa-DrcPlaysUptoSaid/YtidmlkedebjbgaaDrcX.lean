/-
  The law's 'tells': the program's cache tells what the document's does.
-/
import Derived.Test.YtidmlkedebjbgaaDrcQ
namespace Go.Proofs.Ytidmlkedebjbgaa
open Go.RowKit

def openN (l : List Ent) : Nat := (l.filter (fun e => !e.done)).length
theorem openN_snoc {l : List Ent} {k : Nat} (h : k < l.length) : openN (l.take (k + 1)) = openN (l.take k) + (if l[k].done then 0 else 1) := by
  unfold openN
  rw [take_snoc' h, List.filter_append, List.length_append]
  cases hb : l[k].done <;> simp [List.filter_cons, hb]
theorem openN_le (l : List Ent) : openN l ≤ l.length := List.length_filter_le _ _
theorem openN_done (l : List Ent) : openN l + (l.filter (fun e => e.done)).length = l.length := by
  unfold openN
  induction l with
  | nil => rfl
  | cons p t ih => cases hp : p.done <;> simp [List.filter_cons, hp] <;> omega
theorem Fair.openN {r : RS} (h : Fair r) : (openN r.L : Int) = r.L.length - r.D.length := by
  have := openN_done r.L
  have := h.done
  have := h.dlen
  omega

set_option maxHeartbeats 400000 in
theorem same_quiet (X Y : Nat → Prop) (w : World) (va vb : Value) (l : List Ent) (ha : Sl X w 52 5 va l.length (rowsE l)) (hb : Sl Y w 52 5 vb l.length (rowsE l)) (hlen : l.length ≤ 1024) :
    Calls Try.prog 32 #[va, vb] w fun e w' => e = .returned (.bool true) ∧ ∃ m, w' = w.drewN m := by
  obtain ⟨aa, ac, rfl, _, _, _, harow⟩ := ha.open
  obtain ⟨ba, bc, rfl, _, _, _, hbrow⟩ := hb.open
  clear ha hb
  have hnn : ((l.length : Int) != (l.length : Int)) = false := by simp
  go_enter Try.func32, Try.ntmps32
  go_wp2
  go_loopw [5, 4] (fun i _ wr => ∃ (k : Nat), k ≤ l.length ∧ i = .int .i64 k ∧ ∃ m, wr = w.drewN m) (fun i _ _ => l.length - (intOf i).toNat)
  case atStart => exact ⟨0, Nat.zero_le _, rfl, 0, rfl⟩
  case round =>
    obtain ⟨k, hk, rfl, m, hwr⟩ := hrel
    have hfr : Fr Non w wr := by rw [hwr]; exact (Fr.refl _ _).drewN m
    have Hwr := Lib.hid hwr
    clear hwr
    by_cases hlt : k < l.length
    · obtain ⟨g, rfl, _, _, hcl⟩ : ∃ g, aa = some ⟨g, 0, none⟩ ∧ _ := harow.resolve_left (by omega)
      obtain ⟨g', rfl, _, _, hcl'⟩ : ∃ g, ba = some ⟨g, 0, none⟩ ∧ _ := hbrow.resolve_left (by omega)
      have hcj : ∀ j, j < 5 → wr.cell? ⟨g, k * 5 + j, none⟩ = (e24 l[k])[j]? ∧ wr.cell? ⟨g', k * 5 + j, none⟩ = (e24 l[k])[j]? := fun j hj => by
        have h1 := rowsE_at _ _ hlt j hj
        have h2 : ∃ u, (e24 l[k])[j]? = some u := ⟨_, List.getElem?_eq_getElem (by simpa [e24] using hj)⟩
        obtain ⟨u, hu⟩ := h2
        rw [hu]; exact ⟨hfr.cell (hcl _ u (h1.trans hu)) (fun h => h), hfr.cell (hcl' _ u (h1.trans hu)) (fun h => h)⟩
      have hc0 : wr.cell? ⟨g, k * 5, none⟩ = some (.int .u64 l[k].ticket) := (hcj 0 (by omega)).1
      have hc1 : wr.cell? ⟨g, k * 5 + 1, none⟩ = some (.int .i64 l[k].client) := (hcj 1 (by omega)).1
      have hc2 : wr.cell? ⟨g, k * 5 + 2, none⟩ = some (.string l[k].rcd) := (hcj 2 (by omega)).1
      have hc3 : wr.cell? ⟨g, k * 5 + 3, none⟩ = some (.string l[k].reply) := (hcj 3 (by omega)).1
      have hc4 : wr.cell? ⟨g, k * 5 + 4, none⟩ = some (.bool l[k].done) := (hcj 4 (by omega)).1
      have hd0 : wr.cell? ⟨g', k * 5, none⟩ = some (.int .u64 l[k].ticket) := (hcj 0 (by omega)).2
      have hd1 : wr.cell? ⟨g', k * 5 + 1, none⟩ = some (.int .i64 l[k].client) := (hcj 1 (by omega)).2
      have hd2 : wr.cell? ⟨g', k * 5 + 2, none⟩ = some (.string l[k].rcd) := (hcj 2 (by omega)).2
      have hd3 : wr.cell? ⟨g', k * 5 + 3, none⟩ = some (.string l[k].reply) := (hcj 3 (by omega)).2
      have hd4 : wr.cell? ⟨g', k * 5 + 4, none⟩ = some (.bool l[k].done) := (hcj 4 (by omega)).2
      clear hcl hcl' hcj harow hbrow
      generalize l[k] = q at *
      go_wp2
      go_quiet (fail)
      go_wp2
      go_roundw
      case rel => exact ⟨k + 1, by omega, by go_num, _, by rw [Hwr.out, World.drewN_drewN]⟩
      case measure => simp [intOf]; omega
    · obtain rfl : k = l.length := by omega
      clear harow hbrow
      go_wp2
      go_ret
      exact ⟨rfl, m, Hwr.out⟩
theorem busy_quiet (X : Nat → Prop) (w : World) (b : Nat) (r : RS) (h : IsP X w b r) : Calls Try.prog 20 #[ptr b] w fun e w' => e = .returned (.int .i64 (r.L.length - r.D.length)) ∧ ∃ m, w' = w.drewN m := by
  obtain ⟨s, h, hg, hs⟩ := h
  rw [hs.L, hs.D, List.length_map, List.length_map]
  obtain ⟨mb, lv, ov, h⟩ := h
  obtain ⟨la, lc, rfl, _, _, _, _⟩ := h.l.open
  obtain ⟨oa, oc, rfl, _, _, _, _⟩ := h.old.open
  have hc := blk_cell h.top
  have h1 := hg.oldLen
  have h2 := hg.few
  have h3 := hg.most2
  have h4 : s.l.length ≤ 1024 := by omega
  rw [show s.ptrs.length = s.l.length by simp [PS.ptrs]] at hc
  clear hg hs
  unfold ptr
  go_enter Try.func20, Try.ntmps20
  go_wp2
  go_quiet (fail)
  go_wp2
  go_ret
  exact ⟨rfl, _, rfl⟩

def TellsPost (w : World) (e : Ending) (w' : World) : Prop := e = .returned (.bool true) ∧ Fr Non w w'

set_option maxRecDepth 100000 in
set_option maxHeartbeats 2000000 in
theorem tells_calls (B : Nat) (w : World) (c b : Nat) (r : RS) (h : Two B w c b r) : Calls Try.prog 24 #[ptr c, ptr b] w (TellsPost w) := by
  obtain ⟨X, Y, hp, hr, hd, hx, hy⟩ := h
  have hF := hp.fair
  have hlen := hF.l1024
  have hdlen := hF.d1024
  have hopen := Lib.hid hF.openN
  obtain ⟨lv, dv, hR⟩ := hr
  have hrc := blk_cell hR.top
  have HR := Lib.hid hR
  have HP := Lib.hid hp
  obtain ⟨la, lc, rfl, hlc, hlm, _, hlrow⟩ := hR.l.open
  obtain ⟨da, dc, rfl, hdc, hdm, _, hdrow⟩ := hR.d.open
  have Hdrow := Lib.hid hdrow
  unfold maxLen at hlm hdm
  have hc1 := hrc 1
  have hc2 := hrc 2
  simp only [List.getElem?_toArray, List.getElem?_cons_zero, List.getElem?_cons_succ] at hc1 hc2
  clear hR hp hrc hdrow hF
  unfold ptr
  go_enter Try.func24, Try.ntmps24
  go_wp2
  go_loopw [5, 6] (fun n i wr => ∃ k : Nat, k ≤ r.L.length ∧ i = .int .i64 k ∧ n = .int .i64 (openN (r.L.take k) : Nat) ∧ Fr Non w wr) (fun _ i _ => r.L.length - (intOf i).toNat)
  case atStart => exact ⟨0, Nat.zero_le _, rfl, rfl, Fr.refl _ _⟩
  case round =>
    obtain ⟨k, hk, rfl, rfl, hfr⟩ := hrel
    have hw1 := hfr.cell hc1 (fun h => h)
    by_cases hlt : k < r.L.length
    · obtain ⟨g, rfl, _, _, hcl⟩ := hlrow.resolve_left (by omega)
      have hc4 : wr.cell? ⟨g, k * 5 + 4, none⟩ = some (.bool r.L[k].done) := hfr.cell (hcl (k * 5 + 4) _ (by rw [rowsE_at _ _ hlt 4 (by omega)]; rfl)) (fun h => h)
      have Hsn := Lib.hid (openN_snoc hlt)
      have hon := openN_le (r.L.take k)
      rw [List.length_take] at hon
      generalize openN (r.L.take k) = m at *
      clear hcl hlrow
      rcases hdn : r.L[k].done with _ | _
      all_goals
        rw [hdn] at hc4 Hsn
        go_wp2
        go_roundw
        case rel => exact ⟨k + 1, by omega, by go_num, by rw [Hsn.out]; go_num, hfr⟩
        case measure => simp [intOf]; omega
    · obtain rfl : k = r.L.length := by omega
      rw [List.take_length]
      generalize hmo : openN r.L = m at *
      clear hlrow hlt
      have HB : Hid (∀ wz, Fr Non w wz → Calls Try.prog 20 #[.pointer (some ⟨c, 0, none⟩)] wz fun e w' => e = .returned (.int .i64 m) ∧ ∃ k, w' = wz.drewN k) := Lib.hid (fun wz hf => by
        have := busy_quiet X wz c r (HP.out.fr hf (fun _ _ h => h))
        rw [← hopen.out] at this
        exact this)
      rcases hDD : r.D with _ | ⟨d, t⟩
      · have HW : Hid (∀ wz, Fr Non w wz → wz.cell? ⟨b, 1, none⟩ = some (.slice la r.L.length lc) ∧ wz.cell? ⟨b, 2, none⟩ = some (.slice da 0 dc)) := Lib.hid (fun wz hf => ⟨hf.cell hc1 (fun h => h), by rw [hf.cell hc2 (fun h => h), hDD]; rfl⟩)
        have HO : Hid (∀ wz, Fr Non w wz → Calls Try.prog 21 #[.pointer (some ⟨c, 0, none⟩)] wz fun e w' => e = .returned (.tuple #[.int .u64 0, .bool false]) ∧ wz = w') := Lib.hid (fun wz hf => by
          have := oldestP X wz c r (HP.out.fr hf (fun _ _ h => h))
          rw [show r.oldest = (0, false) by unfold RS.oldest; rw [hDD]] at this
          exact this)
        go_upto_region 9 with (first
          | (go_at_call 15; go_loud (refine (entriesP X _ c r (HP.out.fr hfr (fun _ _ h => h))).mono ?_); rintro e w1 ⟨v, rfl, hf1, hsl⟩; have hfr1 := hfr.trans hf1 (fun _ _ h => h); obtain ⟨va, vc, rfl, hvc, hvm, _, hvrow⟩ := hsl.open; unfold maxLen at hvm)
          | (go_at_call 21; go_loud (refine (HO.out _ hfr1).mono ?_); rintro e w' ⟨rfl, rfl⟩))
        have hcells := HW.out _ hfr1
        have HS := Lib.hid (fun n => hsl.fr ((Fr.refl Non w1).drewN n) (fun _ _ h => h))
        have HL := Lib.hid (fun n => HR.out.l.fr (hfr1.drewN n) (fun _ _ h => h))
        have HQ := Lib.hid (fun n => HP.out.fr (hfr1.drewN n) (fun _ _ h => h))
        have Hsl := Lib.hid hsl
        clear hsl
        obtain ⟨hw1b, hw2b⟩ := hcells
        go_quiet ((first
            | (go_at_call 32; exact Calls.quiet_of (same_quiet _ Y _ _ _ r.L (HS.out _) (HL.out _) hlen))
            | (go_at_call 12; exact Calls.quiet_of_same ((lenP X _ c r (HQ.out _)).mono fun e w' ⟨he, hw⟩ => ⟨he, hw.symm⟩))
            | (go_at_call 20; exact Calls.quiet_of (HB.out _ (hfr1.drewN _)))))
        have hszr := hfr.size
        obtain ⟨wo, hwo⟩ : ∃ wo : World, wo = w1.drewN nq := ⟨_, rfl⟩
        have hslq := HS.out nq
        have hfrq := hfr1.drewN nq
        rw [← hwo] at hslq hfrq ⊢
        have Hsq := Lib.hid hslq
        have Hfq := Lib.hid hfrq
        clear hslq hfrq hwo hw1b hw2b hvrow HS HL HQ HO HB
        go_wp2_with (fail)
        go_loopw [10] (fun i wz => ∃ (k : Nat) (ys : List Value), k ≤ r.L.length ∧ i = .int .i64 k ∧ Fr Non w wz ∧ Sl (New wr w1) wz 52 5 (.slice va r.L.length vc) r.L.length ys) (fun i _ => r.L.length - (intOf i).toNat)
        case atStart => exact ⟨0, _, Nat.zero_le _, rfl, Hfq.out, Hsq.out⟩
        case round =>
          obtain ⟨k, ys, hk, rfl, hfz, hslz⟩ := hrel
          have Hsz := Lib.hid hslz
          clear hslz
          by_cases hlt : k < r.L.length
          · obtain ⟨a4, c4, e4, _, _, hyl, hrow⟩ := Hsz.out.open
            obtain ⟨rfl, rfl⟩ : va = a4 ∧ vc = c4 := by simpa using e4
            obtain ⟨g4, rfl, hg4, hglt, hcell⟩ := hrow.resolve_left (by omega)
            have hkl : k * 5 + 1 < ys.length := by omega
            have hck : wr.cell? ⟨g4, k * 5 + 1, none⟩ = some ys[k * 5 + 1] := hcell _ _ (List.getElem?_eq_getElem hkl)
            obtain ⟨cur, hgrow⟩ := Hsz.out.row (k := g4) rfl
            have hfz4 := blk_free hgrow
            have Hput := Lib.hid (fun u => Hsz.out.put (g := g4) rfl hkl u)
            have hnew := hg4.1
            clear hcell hgrow e4 hrow hg4
            generalize ys[k * 5 + 1] = y at *
            go_wp2
            go_roundw
            case rel => exact ⟨k + 1, _, by omega, by go_num, hfz.setCell (fun h => by simp at h; omega) _, Hput.out _⟩
            case measure => simp [intOf]; omega
          · obtain rfl : k = r.L.length := by omega
            clear hlt
            go_upto_region 15 with (fail)
            have HWq := Lib.hid (fun wq (hq : Fr Non w wq) => hq.cell hc1 (fun h => h))
            have hcq := HWq.out _ hfz.drew
            go_region_held3 (fun w' => w'.cell? ⟨b, 1, none⟩ = some (.slice la r.L.length lc))
              (first
                | exact HWq.out _ ((hfz.drew.trans hf6 (fun _ _ h => h)).trans hf7 (fun _ _ h => h))
                | exact HWq.out _ (hfz.drew.trans hf6 (fun _ _ h => h))
                | exact hcq
                | go_keep)
              (first
                | (go_at_call 15; refine (entriesP X _ c r (HP.out.fr hfz.drew (fun _ _ h => h))).mono ?_; rintro e w6 ⟨v6, rfl, hf6, hsl6⟩)
                | (go_at_call 32; refine (same_calls _ Y _ _ _ r.L hsl6 (HR.out.l.fr (hfz.drew.trans hf6 (fun _ _ h => h)) (fun _ _ h => h)) hlen).mono ?_; rintro e w7 ⟨rfl, hf7⟩))
            go_wp2
            go_ret
            exact ⟨rfl, (hfz.drew.trans hf6 (fun _ _ h => h)).trans hf7 (fun _ _ h => h)⟩
      · have HW : ∃ g, da = some ⟨g, 0, none⟩ ∧ ∀ wz, Fr Non w wz → wz.cell? ⟨b, 1, none⟩ = some (.slice la r.L.length lc) ∧ wz.cell? ⟨b, 2, none⟩ = some (.slice da (t.length + 1) dc) ∧ wz.cell? ⟨g, 0, none⟩ = some (.int .u64 d) := by
          obtain ⟨g, hg, _, _, hcl⟩ := Hdrow.out.resolve_left (by rw [hDD]; simp)
          exact ⟨g, hg, fun wz hf => ⟨hf.cell hc1 (fun h => h), by rw [hf.cell hc2 (fun h => h), hDD]; rfl, hf.cell (hcl 0 _ (by rw [hDD]; rfl)) (fun h => h)⟩⟩
        obtain ⟨g, rfl, hw⟩ := HW
        have HW := Lib.hid hw
        have ht : t.length + 1 ≤ 1024 := by rw [hDD] at hdlen; exact hdlen
        rw [hDD] at hdc
        simp only [List.length_cons] at hdc
        clear hw
        have HO : Hid (∀ wz, Fr Non w wz → Calls Try.prog 21 #[.pointer (some ⟨c, 0, none⟩)] wz fun e w' => e = .returned (.tuple #[.int .u64 d, .bool true]) ∧ wz = w') := Lib.hid (fun wz hf => by
          have := oldestP X wz c r (HP.out.fr hf (fun _ _ h => h))
          rw [show r.oldest = (d, true) by unfold RS.oldest; rw [hDD]] at this
          exact this)
        go_upto_region 9 with (first
          | (go_at_call 15; go_loud (refine (entriesP X _ c r (HP.out.fr hfr (fun _ _ h => h))).mono ?_); rintro e w1 ⟨v, rfl, hf1, hsl⟩; have hfr1 := hfr.trans hf1 (fun _ _ h => h); obtain ⟨va, vc, rfl, hvc, hvm, _, hvrow⟩ := hsl.open; unfold maxLen at hvm)
          | (go_at_call 21; go_loud (refine (HO.out _ hfr1).mono ?_); rintro e w' ⟨rfl, rfl⟩))
        have hcells := HW.out _ hfr1
        have HS := Lib.hid (fun n => hsl.fr ((Fr.refl Non w1).drewN n) (fun _ _ h => h))
        have HL := Lib.hid (fun n => HR.out.l.fr (hfr1.drewN n) (fun _ _ h => h))
        have HQ := Lib.hid (fun n => HP.out.fr (hfr1.drewN n) (fun _ _ h => h))
        have Hsl := Lib.hid hsl
        clear hsl
        obtain ⟨hw1b, hw2b, hw0b⟩ := hcells
        go_quiet ((first
            | (go_at_call 32; exact Calls.quiet_of (same_quiet _ Y _ _ _ r.L (HS.out _) (HL.out _) hlen))
            | (go_at_call 12; exact Calls.quiet_of_same ((lenP X _ c r (HQ.out _)).mono fun e w' ⟨he, hw⟩ => ⟨he, hw.symm⟩))
            | (go_at_call 20; exact Calls.quiet_of (HB.out _ (hfr1.drewN _)))))
        have hszr := hfr.size
        obtain ⟨wo, hwo⟩ : ∃ wo : World, wo = w1.drewN nq := ⟨_, rfl⟩
        have hslq := HS.out nq
        have hfrq := hfr1.drewN nq
        rw [← hwo] at hslq hfrq ⊢
        have Hsq := Lib.hid hslq
        have Hfq := Lib.hid hfrq
        clear hslq hfrq hwo hw1b hw2b hvrow HS HL HQ HO HB
        go_wp2_with (fail)
        go_loopw [10] (fun i wz => ∃ (k : Nat) (ys : List Value), k ≤ r.L.length ∧ i = .int .i64 k ∧ Fr Non w wz ∧ Sl (New wr w1) wz 52 5 (.slice va r.L.length vc) r.L.length ys) (fun i _ => r.L.length - (intOf i).toNat)
        case atStart => exact ⟨0, _, Nat.zero_le _, rfl, Hfq.out, Hsq.out⟩
        case round =>
          obtain ⟨k, ys, hk, rfl, hfz, hslz⟩ := hrel
          have Hsz := Lib.hid hslz
          clear hslz
          by_cases hlt : k < r.L.length
          · obtain ⟨a4, c4, e4, _, _, hyl, hrow⟩ := Hsz.out.open
            obtain ⟨rfl, rfl⟩ : va = a4 ∧ vc = c4 := by simpa using e4
            obtain ⟨g4, rfl, hg4, hglt, hcell⟩ := hrow.resolve_left (by omega)
            have hkl : k * 5 + 1 < ys.length := by omega
            have hck : wr.cell? ⟨g4, k * 5 + 1, none⟩ = some ys[k * 5 + 1] := hcell _ _ (List.getElem?_eq_getElem hkl)
            obtain ⟨cur, hgrow⟩ := Hsz.out.row (k := g4) rfl
            have hfz4 := blk_free hgrow
            have Hput := Lib.hid (fun u => Hsz.out.put (g := g4) rfl hkl u)
            have hnew := hg4.1
            clear hcell hgrow e4 hrow hg4
            generalize ys[k * 5 + 1] = y at *
            go_wp2
            go_roundw
            case rel => exact ⟨k + 1, _, by omega, by go_num, hfz.setCell (fun h => by simp at h; omega) _, Hput.out _⟩
            case measure => simp [intOf]; omega
          · obtain rfl : k = r.L.length := by omega
            clear hlt
            go_upto_region 15 with (fail)
            have HWq := Lib.hid (fun wq (hq : Fr Non w wq) => hq.cell hc1 (fun h => h))
            have hcq := HWq.out _ hfz.drew
            go_region_held3 (fun w' => w'.cell? ⟨b, 1, none⟩ = some (.slice la r.L.length lc))
              (first
                | exact HWq.out _ ((hfz.drew.trans hf6 (fun _ _ h => h)).trans hf7 (fun _ _ h => h))
                | exact HWq.out _ (hfz.drew.trans hf6 (fun _ _ h => h))
                | exact hcq
                | go_keep)
              (first
                | (go_at_call 15; refine (entriesP X _ c r (HP.out.fr hfz.drew (fun _ _ h => h))).mono ?_; rintro e w6 ⟨v6, rfl, hf6, hsl6⟩)
                | (go_at_call 32; refine (same_calls _ Y _ _ _ r.L hsl6 (HR.out.l.fr (hfz.drew.trans hf6 (fun _ _ h => h)) (fun _ _ h => h)) hlen).mono ?_; rintro e w7 ⟨rfl, hf7⟩))
            go_wp2
            go_ret
            exact ⟨rfl, (hfz.drew.trans hf6 (fun _ _ h => h)).trans hf7 (fun _ _ h => h)⟩
end Go.Proofs.Ytidmlkedebjbgaa
