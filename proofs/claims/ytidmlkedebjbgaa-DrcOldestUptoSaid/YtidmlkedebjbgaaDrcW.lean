/-
  An Arrive for which there is no room, in both; lists that are the same.
-/
import Derived.Test.YtidmlkedebjbgaaDrcV
namespace Go.Proofs.Ytidmlkedebjbgaa
open Go.RowKit

set_option maxRecDepth 100000 in
set_option maxHeartbeats 400000 in
theorem arrive_full (X : Nat → Prop) (w : World) (b : Nat) (s : PS) (client : Int) (v : Value) (bs : List UInt8) (h : IsC X w b s) (hg : Good s) (hv : Bts w v bs) (hl : bs.length ≤ 4096) (hp : s.find (client, str bs) = none) (hfull : s.most ≤ (s.l.length : Int)) (ho : s.old = []) :
    Calls Try.prog 11 #[ptr b, .int .i64 client, v] w fun e w' => e = .returned (arr 3 0 emp) ∧ Fr Non w w' := by
  obtain ⟨mb, lv, ov, h⟩ := h
  have hc := blk_cell h.top
  have hb := lt_of_block h.top
  have hconv := conv_bytes (P := Try.prog) (src := 32) (e := 5) (dst := 9) (by kernel_rfl) (by kernel_rfl) (by kernel_rfl) (hv.fr (((Fr.refl Non w).alloc (.cells #[.int .i64 0, .int .u64 0, .string emp] 30))) (fun _ _ h => h))
  have hlook : ∀ w', Fr Non w w' → (Instr.lookup 60 (.map (some mb)) (kf (client, str bs)) false).run Try.prog w' = .ok (.pointer none) w' := fun w' hf => by
    have := run_lookup_key keyLaw w' (h.map.fr hf (fun h => h)) Try.und60 (Try.zero66 w') (client, str bs) trivial (fun _ _ => trivial)
    rw [this, PS.find_get, hp]; rfl
  obtain ⟨a, c, rfl, h1, h2, _⟩ := hv
  obtain ⟨la, lc, rfl, _, _, _, _⟩ := h.l.open
  obtain ⟨oa, oc, rfl, _, _, _, _⟩ := h.old.open
  unfold kf at hlook
  unfold emp at hconv
  have hln : s.l.length ≤ 1024 := by have := hg.few; have := hg.most2; omega
  rw [show s.ptrs.length = s.l.length by simp [PS.ptrs], show s.old.length = 0 by rw [ho]; rfl] at hc
  unfold ptr
  have Hl := Lib.hid hlook
  clear hlook hp h hg ho
  go_enter Try.func11, Try.ntmps11
  go_wp2
  have hl := fun n => Hl.out _ ((((Fr.refl Non w).alloc (.cells #[.int .i64 0, .int .u64 0, .string ⟨#[]⟩] 30)).alloc (.cells #[.int .i64 client, .string (str bs)] 65)).drewN n)
  go_quiet (fail)
  clear hl
  generalize nq = n0
  go_upto_region 12 with (fail)
  go_quiet (fail)
  go_wp2
  exact bodyPost_ret (v := arr 3 0 emp) (by simp [results, Try.results11, go_sem, arr, emp]) rfl ⟨rfl, by repeat (first | exact Fr.refl _ _ | refine Fr.drewN ?_ _ | refine Fr.drew ?_ | refine Fr.alloc ?_ _ | refine Fr.setCell ?_ (fun h => absurd h (by simp)) _)⟩

set_option maxRecDepth 100000 in
set_option maxHeartbeats 1000000 in
theorem rarrive_full (X : Nat → Prop) (w : World) (b : Nat) (r : RS) (client : Int) (s : ByteArray) (h : IsR X w b r) (hlen : r.L.length ≤ 1024) (hl : s.size ≤ 4096) (hh : r.hit (client, s) = none) (hfull : r.most ≤ (r.L.length : Int)) (hD : r.D = []) :
    Calls Try.prog 28 #[ptr b, .int .i64 client, .string s] w fun e w' => e = .returned (arr 3 0 emp) ∧ Fr Non w w' := by
  obtain ⟨lv, dv, h⟩ := h
  obtain ⟨la, lc, rfl, _, _, _, hrow⟩ := h.l.open
  obtain ⟨da, dc, rfl, _, _, _, _⟩ := h.d.open
  have hb := lt_of_block h.top
  have H := Lib.hid h
  have HD : Hid (r.D.length = 0) := by rw [hD]; rfl
  have Hh : Hid (∀ x ∈ r.L, decide ((client, s) = x.key) = false) := fun x hx => by
    unfold RS.hit at hh
    have := List.find?_eq_none.1 hh x hx
    simpa using this
  clear h hh hD
  unfold ptr
  go_enter Try.func28, Try.ntmps28
  go_wp2
  have hfr0 : Fr Non w (w.alloc (.cells #[.int .i64 0, .int .u64 0, .string ⟨#[]⟩] 30)) := (Fr.refl _ _).alloc _
  go_loopw [7, 8] (fun i _ wr => ∃ (k : Nat), k ≤ r.L.length ∧ i = .int .i64 k ∧ Fr Non w wr ∧ wr.heap[w.heap.size]? = some (.cells #[.int .i64 0, .int .u64 0, .string ⟨#[]⟩] 30 (0, 0))) (fun i _ _ => r.L.length - (intOf i).toNat)
  case atStart => exact ⟨0, Nat.zero_le _, rfl, hfr0, blk_new w _ rfl⟩
  case round =>
    obtain ⟨k, hk, rfl, hfr, hres⟩ := hrel
    have hcw := blk_cell (hfr.keep H.out.top (fun h => h))
    rw [HD.out] at hcw
    have hrl := lt_of_block hres
    have hrf := blk_free hres
    have hrc := blk_cell hres
    have Hres := Lib.hid hres
    clear hres
    by_cases hlt : k < r.L.length
    · obtain ⟨g, rfl, _, hgl, hcl⟩ : ∃ g, la = some ⟨g, 0, none⟩ ∧ _ := hrow.resolve_left (by omega)
      have hcj : ∀ j, j < 5 → wr.cell? ⟨g, k * 5 + j, none⟩ = (e24 r.L[k])[j]? := fun j hj => by
        have h1 := rowsE_at _ _ hlt j hj
        have h2 : ∃ u, (e24 r.L[k])[j]? = some u := ⟨_, List.getElem?_eq_getElem (by simpa [e24] using hj)⟩
        obtain ⟨u, hu⟩ := h2
        rw [hu]; exact hfr.cell (hcl _ u (h1.trans hu)) (fun h => h)
      have hc0 : wr.cell? ⟨g, k * 5, none⟩ = some (.int .u64 r.L[k].ticket) := hcj 0 (by omega)
      have hc1 : wr.cell? ⟨g, k * 5 + 1, none⟩ = some (.int .i64 r.L[k].client) := hcj 1 (by omega)
      have hc2 : wr.cell? ⟨g, k * 5 + 2, none⟩ = some (.string r.L[k].rcd) := hcj 2 (by omega)
      have hc3 : wr.cell? ⟨g, k * 5 + 3, none⟩ = some (.string r.L[k].reply) := hcj 3 (by omega)
      have hc4 : wr.cell? ⟨g, k * 5 + 4, none⟩ = some (.bool r.L[k].done) := hcj 4 (by omega)
      have Hq := Lib.hid (Hh.out r.L[k] (by simp))
      clear hcl hcj hrow
      generalize r.L[k] = q at *
      by_cases hcl : q.client = client
      · by_cases hrc' : q.rcd = s
        · exact absurd Hq.out (by simp [Ent.key, hcl, hrc'])
        · have hb2 : (q.rcd.toList == s.toList) = false := by rw [← beq_toListBytes, bytes_beq]; simp [hrc']
          subst hcl
          go_wp2
          go_roundw
          case rel => exact ⟨k + 1, by omega, by go_num, hfr.alloc _, blk_old_some Hres.out _⟩
          case measure => simp [intOf]; omega
      · go_wp2
        go_roundw
        case rel => exact ⟨k + 1, by omega, by go_num, hfr.alloc _, blk_old_some Hres.out _⟩
        case measure => simp [intOf]; omega
    · obtain rfl : k = r.L.length := by omega
      have hresE := fun a b c => blk_cell (blk_set (i := 2) (blk_set (i := 1) (blk_set (i := 0) Hres.out a) b) c)
      have HE := Lib.hid hresE
      clear hlt hrow hresE
      go_upto_region 11 with (fail)
      go_quiet (fail)
      go_wp2
      exact bodyPost_ret (v := arr 3 0 emp) (by simp [results, Try.results28, go_sem, arr, emp, hrc]) rfl ⟨rfl, by repeat (first | assumption | exact Fr.refl _ _ | refine Fr.drewN ?_ _ | refine Fr.drew ?_ | refine Fr.alloc ?_ _ | refine Fr.setCell ?_ (fun h => absurd h (by simp)) _)⟩

set_option maxHeartbeats 400000 in
theorem same_calls (X Y : Nat → Prop) (w : World) (va vb : Value) (l : List Ent) (ha : Sl X w 52 5 va l.length (rowsE l)) (hb : Sl Y w 52 5 vb l.length (rowsE l)) (hlen : l.length ≤ 1024) :
    Calls Try.prog 32 #[va, vb] w fun e w' => e = .returned (.bool true) ∧ Fr Non w w' := by
  obtain ⟨aa, ac, rfl, _, _, _, harow⟩ := ha.open
  obtain ⟨ba, bc, rfl, _, _, _, hbrow⟩ := hb.open
  clear ha hb
  have hnn : ((l.length : Int) != (l.length : Int)) = false := by simp
  go_enter Try.func32, Try.ntmps32
  go_wp2
  go_loopw [5, 4] (fun i _ wr => ∃ (k : Nat), k ≤ l.length ∧ i = .int .i64 k ∧ Fr Non w wr) (fun i _ _ => l.length - (intOf i).toNat)
  case atStart => exact ⟨0, Nat.zero_le _, rfl, Fr.refl _ _⟩
  case round =>
    obtain ⟨k, hk, rfl, hfr⟩ := hrel
    by_cases hlt : k < l.length
    · obtain ⟨g, rfl, _, _, hcl⟩ : ∃ g, aa = some ⟨g, 0, none⟩ ∧ _ := harow.resolve_left (by omega)
      obtain ⟨g', rfl, _, _, hcl'⟩ : ∃ g, ba = some ⟨g, 0, none⟩ ∧ _ := hbrow.resolve_left (by omega)
      have hcj : ∀ j, j < 5 → wr.cell? ⟨g, k * 5 + j, none⟩ = (e24 l[k])[j]? ∧ wr.cell? ⟨g', k * 5 + j, none⟩ = (e24 l[k])[j]? := fun j hj => by
        have h1 := rowsE_at _ _ hlt j hj
        have h2 : ∃ u, (e24 l[k])[j]? = some u := ⟨_, List.getElem?_eq_getElem (by simpa [e24] using hj)⟩
        obtain ⟨u, hu⟩ := h2
        rw [hu]; exact ⟨hfr.cell (hcl _ u (h1.trans hu)) (fun h => h), hfr.cell (hcl' _ u (h1.trans hu)) (fun h => h)⟩
      have hc0 : wr.cell? ⟨g, k * 5, none⟩ = some (.int .u64 l[k].ticket) := (hcj 0 (by omega)).1
      have hc1 : wr.cell? ⟨g, k * 5 + 1, none⟩ = some (.int .i64 l[k].client) := (hcj 1 (by omega)).1
      have hc2 : wr.cell? ⟨g, k * 5 + 2, none⟩ = some (.string l[k].rcd) := (hcj 2 (by omega)).1
      have hc3 : wr.cell? ⟨g, k * 5 + 3, none⟩ = some (.string l[k].reply) := (hcj 3 (by omega)).1
      have hc4 : wr.cell? ⟨g, k * 5 + 4, none⟩ = some (.bool l[k].done) := (hcj 4 (by omega)).1
      have hd0 : wr.cell? ⟨g', k * 5, none⟩ = some (.int .u64 l[k].ticket) := (hcj 0 (by omega)).2
      have hd1 : wr.cell? ⟨g', k * 5 + 1, none⟩ = some (.int .i64 l[k].client) := (hcj 1 (by omega)).2
      have hd2 : wr.cell? ⟨g', k * 5 + 2, none⟩ = some (.string l[k].rcd) := (hcj 2 (by omega)).2
      have hd3 : wr.cell? ⟨g', k * 5 + 3, none⟩ = some (.string l[k].reply) := (hcj 3 (by omega)).2
      have hd4 : wr.cell? ⟨g', k * 5 + 4, none⟩ = some (.bool l[k].done) := (hcj 4 (by omega)).2
      clear hcl hcl' hcj harow hbrow
      generalize l[k] = q at *
      go_wp2
      go_quiet (fail)
      go_wp2
      go_roundw
      case rel => exact ⟨k + 1, by omega, by go_num, hfr.drewN _⟩
      case measure => simp [intOf]; omega
    · obtain rfl : k = l.length := by omega
      clear harow hbrow
      go_wp2
      go_ret
      exact ⟨rfl, hfr⟩
end Go.Proofs.Ytidmlkedebjbgaa
