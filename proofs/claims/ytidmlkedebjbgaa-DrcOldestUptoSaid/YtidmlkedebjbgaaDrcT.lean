/-
  The document's cache: Arrive.
-/
import Derived.Test.YtidmlkedebjbgaaDrcS
namespace Go.Proofs.Ytidmlkedebjbgaa
open Go.RowKit

def RS.hit (r : RS) (k : Int × ByteArray) : Option Ent := r.L.find? fun e => decide (k = e.key)

theorem rarrive_long (w : World) (b : Nat) (client : Int) (s : ByteArray) (hl : 4096 < s.size) :
    Calls Try.prog 28 #[ptr b, .int .i64 client, .string s] w fun e w' => e = .returned (arr 4 0 emp) ∧ Fr Non w w' := by
  unfold ptr
  go_enter Try.func28, Try.ntmps28
  go_wp2
  exact bodyPost_ret (v := arr 4 0 emp) (by simp [results, Try.results28, go_sem, arr, emp]) rfl ⟨rfl, (Fr.refl _ _).alloc _⟩

set_option maxRecDepth 100000 in
set_option maxHeartbeats 1000000 in
theorem rarrive_found (X : Nat → Prop) (w : World) (b : Nat) (r : RS) (client : Int) (s : ByteArray) (h : IsR X w b r) (hlen : r.L.length ≤ 1024) (hl : s.size ≤ 4096) (e0 : Ent) (hh : r.hit (client, s) = some e0) :
    Calls Try.prog 28 #[ptr b, .int .i64 client, .string s] w fun e w' => e = .returned (if e0.done then arr 2 e0.ticket e0.reply else arr 1 e0.ticket emp) ∧ Fr Non w w' := by
  obtain ⟨lv, dv, h⟩ := h
  obtain ⟨la, lc, rfl, _, _, _, hrow⟩ := h.l.open
  have hb := lt_of_block h.top
  have H := Lib.hid h
  have Hh := Lib.hid hh
  clear h hh
  unfold ptr
  go_enter Try.func28, Try.ntmps28
  go_wp2
  have hfr0 : Fr Non w (w.alloc (.cells #[.int .i64 0, .int .u64 0, .string ⟨#[]⟩] 30)) := (Fr.refl _ _).alloc _
  go_loopw [7, 8] (fun i _ wr => ∃ (k : Nat), k ≤ r.L.length ∧ i = .int .i64 k ∧ Fr Non w wr ∧ wr.heap[w.heap.size]? = some (.cells #[.int .i64 0, .int .u64 0, .string ⟨#[]⟩] 30 (0, 0)) ∧ ∀ x ∈ r.L.take k, decide ((client, s) = x.key) = false) (fun i _ _ => r.L.length - (intOf i).toNat)
  case atStart => exact ⟨0, Nat.zero_le _, rfl, hfr0, blk_new w _ rfl, by simp⟩
  case round =>
    obtain ⟨k, hk, rfl, hfr, hres, hnot⟩ := hrel
    have Hn := Lib.hid hnot
    have hcw := blk_cell (hfr.keep H.out.top (fun h => h))
    have hrf := blk_free hres
    have hrc := blk_cell hres
    have hrl := lt_of_block hres
    have Hres := Lib.hid hres
    clear hnot hres
    by_cases hlt : k < r.L.length
    · obtain ⟨g, rfl, _, hgl, hcl⟩ : ∃ g, la = some ⟨g, 0, none⟩ ∧ _ := hrow.resolve_left (by omega)
      have hcj : ∀ j, j < 5 → wr.cell? ⟨g, k * 5 + j, none⟩ = (e24 r.L[k])[j]? := fun j hj => by
        have h1 := rowsE_at _ _ hlt j hj
        have h2 : ∃ u, (e24 r.L[k])[j]? = some u := ⟨_, List.getElem?_eq_getElem (by simpa [e24] using hj)⟩
        obtain ⟨u, hu⟩ := h2
        rw [hu]; exact hfr.cell (hcl _ u (h1.trans hu)) (fun h => h)
      have hc0 : wr.cell? ⟨g, k * 5, none⟩ = some (.int .u64 r.L[k].ticket) := hcj 0 (by omega)
      have hc1 : wr.cell? ⟨g, k * 5 + 1, none⟩ = some (.int .i64 r.L[k].client) := hcj 1 (by omega)
      have hc2 : wr.cell? ⟨g, k * 5 + 2, none⟩ = some (.string r.L[k].rcd) := hcj 2 (by omega)
      have hc3 : wr.cell? ⟨g, k * 5 + 3, none⟩ = some (.string r.L[k].reply) := hcj 3 (by omega)
      have hc4 : wr.cell? ⟨g, k * 5 + 4, none⟩ = some (.bool r.L[k].done) := hcj 4 (by omega)
      have hfound : decide ((client, s) = r.L[k].key) = true → r.hit (client, s) = some r.L[k] := fun h => find_take_none hlt Hn.out h
      have Hf := Lib.hid hfound
      have Hs : Hid (decide ((client, s) = r.L[k].key) = false → ∀ x ∈ r.L.take (k + 1), decide ((client, s) = x.key) = false) := by
        intro h x hx
        rw [take_snoc' hlt] at hx
        rcases List.mem_append.1 hx with hx | hx
        · exact Hn.out x hx
        · simp at hx; subst hx; exact h
      clear hcl hcj hrow hfound
      generalize r.L[k] = q at *
      by_cases hcl : q.client = client
      · by_cases hrc' : q.rcd = s
        · have hkey : decide ((client, s) = q.key) = true := by simp [Ent.key, hcl, hrc']
          have Hq := Lib.hid (Hf.out hkey)
          obtain rfl : q = e0 := Option.some.inj (Hq.out.symm.trans Hh.out)
          subst hcl hrc'
          have hresE := fun a b c o => blk_cell (blk_old_some (blk_set (i := 2) (blk_set (i := 1) (blk_set (i := 0) Hres.out a) b) c) o)
          have HE := Lib.hid hresE
          clear hkey hresE
          by_cases hd : q.done = true
          · go_wp2
            exact bodyPost_ret (v := arr 2 q.ticket q.reply) (by simp [results, Try.results28, go_sem, arr, HE.out]) rfl ⟨rfl, (by repeat (first | assumption | exact Fr.refl _ _ | refine Fr.drewN ?_ _ | refine Fr.drew ?_ | refine Fr.alloc ?_ _ | refine Fr.setCell ?_ (fun h => absurd h (by simp)) _))⟩
          · simp only [Bool.not_eq_true] at hd
            go_wp2
            all_goals exact bodyPost_ret (v := arr 1 q.ticket emp) (by simp [results, Try.results28, go_sem, arr, emp, HE.out]) rfl ⟨rfl, (by repeat (first | assumption | exact Fr.refl _ _ | refine Fr.drewN ?_ _ | refine Fr.drew ?_ | refine Fr.alloc ?_ _ | refine Fr.setCell ?_ (fun h => absurd h (by simp)) _))⟩
        · have hs1 := Lib.hid (Hs.out (by simp [Ent.key, Ne.symm hrc']))
          have hb1 : (q.rcd == s) = false := by rw [bytes_beq]; simp [hrc']
          have hb2 : (q.rcd.toList == s.toList) = false := by rw [← beq_toListBytes, bytes_beq]; simp [hrc']
          subst hcl
          go_wp2
          go_roundw
          case rel => exact ⟨k + 1, by omega, by go_num, hfr.alloc _, blk_old_some Hres.out _, hs1.out⟩
          case measure => simp [intOf]; omega
      · have hs1 := Lib.hid (Hs.out (by simp [Ent.key, Ne.symm hcl]))
        go_wp2
        go_roundw
        case rel => exact ⟨k + 1, by omega, by go_num, hfr.alloc _, blk_old_some Hres.out _, hs1.out⟩
        case measure => simp [intOf]; omega
    · exfalso
      obtain rfl : k = r.L.length := by omega
      have h1 := Hn.out
      rw [List.take_length] at h1
      have h2 := Hh.out
      unfold RS.hit at h2
      have := List.find?_some h2
      rw [h1 e0 (List.mem_of_find?_eq_some h2)] at this
      cases this
end Go.Proofs.Ytidmlkedebjbgaa
