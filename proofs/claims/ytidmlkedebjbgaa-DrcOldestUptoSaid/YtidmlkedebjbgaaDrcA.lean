/-
  drc: the closure that 'out' hands on, slices.IndexFunc and slices.DeleteFunc over it, the small methods.
-/
import Derived.Test.YtidmlkedebjbgaaProg
import Derived.Test.YtidmlkedebjbgaaHeap
namespace Go.Proofs.Ytidmlkedebjbgaa
open Go.RowKit

def ptr (p : Nat) : Value := .pointer (some ⟨p, 0, none⟩)
/-- Block p is a row of cells that may be written. -/
def Isb (w : World) (p : Nat) : Prop := ∃ c t, w.heap[p]? = some (.cells c t (0, 0))
theorem Isb.fr {X : Nat → Prop} {w w' : World} {p : Nat} (h : Isb w p) (hf : Fr X w w') (hx : ¬ X p) : Isb w' p := by
  obtain ⟨c, t, h⟩ := h; exact ⟨c, t, hf.keep h hx⟩

theorem Try.und66 : Try.prog.underlying 66 = some (.pointer 68) := by kernel_rfl
theorem Try.inf68 : ∃ j, Try.prog.info? 68 = some j ∧ j.size ≠ 0 := ⟨_, rfl, by decide⟩

theorem ptr_eql (w : World) (p x : Nat) (hp : Isb w p) (hx : Isb w x) : (binOp .eql 66 (ptr p) (ptr x)).run Try.prog w = .ok (.bool (decide (p = x))) w := by
  obtain ⟨j, hj, hs⟩ := Try.inf68
  by_cases h : p = x
  · subst h
    rw [ptr, run_eql_ptr_same w _ Try.und66 hj]; simp
  · obtain ⟨c, t, hp⟩ := hp
    obtain ⟨c', t', hx⟩ := hx
    rw [ptr, ptr, run_eql_ptr_other w Try.und66 hj hs (fun e0 => h (by cases e0; rfl)) hp hx]; simp [h]

set_option maxHeartbeats 400000 in
theorem is_calls (w : World) (p x cb : Nat) (hcb : w.cell? ⟨cb, 0, none⟩ = some (ptr x)) (hp : Isb w p) (hx : Isb w x) :
    Calls Try.prog 33 #[ptr p, ptr cb] w fun e w' => e = .returned (.bool (decide (p = x))) ∧ w = w' := by
  have he := ptr_eql w p x hp hx
  unfold ptr at *
  go_enter Try.func33, Try.ntmps33
  go_wp2
  go_ret
  exact ⟨rfl, rfl⟩

/-- The place of x in ps. -/
def idx (x : Nat) (ps : List Nat) : Int := if x ∈ ps then (ps.idxOf x : Int) else -1
theorem idx_at {x k : Nat} {ps : List Nat} (hlt : k < ps.length) (hn : x ∉ ps.take k) (h : ps[k] = x) : idx x ps = k := by
  have h1 : x ∈ ps := h ▸ List.getElem_mem hlt
  have h2 : ps = ps.take k ++ ps.drop k := (List.take_append_drop k ps).symm
  have h3 : ps.drop k = x :: ps.drop (k + 1) := by rw [List.drop_eq_getElem_cons hlt, h]
  unfold idx; rw [if_pos h1, h2, h3, List.idxOf_append, if_neg hn, List.idxOf_cons_self, List.length_take]
  simp; omega
theorem idx_not {x : Nat} {ps : List Nat} (hn : x ∉ ps) : idx x ps = -1 := by unfold idx; rw [if_neg hn]
set_option maxHeartbeats 400000 in
theorem indexFunc_calls (w : World) (X : Nat → Prop) (v : Value) (ps : List Nat) (x cb : Nat) (hv : Sl X w 66 1 v ps.length (ps.map ptr)) (hcb : w.cell? ⟨cb, 0, none⟩ = some (ptr x)) (hps : ∀ p ∈ ps, Isb w p) (hx : Isb w x) :
    Calls Try.prog 37 #[v, .func (.func 33) #[] #[ptr cb]] w fun e w' => e = .returned (.int .i64 (idx x ps)) ∧ w = w' := by
  obtain ⟨a, c, rfl, hlc, hcm, _, hrow⟩ := hv.open
  unfold maxLen at hcm
  clear hv
  go_enter Try.func37, Try.ntmps37
  go_wp2
  go_loop [8, 5] (fun i _ => ∃ k : Nat, k ≤ ps.length ∧ i = .int .i64 k ∧ x ∉ ps.take k) (fun i _ => ps.length - (intOf i).toNat)
  case atStart => exact ⟨0, Nat.zero_le _, rfl, by simp⟩
  case round =>
    obtain ⟨k, hk, rfl, hnot⟩ := hrel
    by_cases hlt : k < ps.length
    · obtain ⟨g, rfl, _, _, hc⟩ : ∃ g, a = some ⟨g, 0, none⟩ ∧ _ := hrow.resolve_left (by omega)
      have hcell : w.cell? ⟨g, k, none⟩ = some (ptr ps[k]) := hc k _ (by simp [hlt])
      have hcl := is_calls w ps[k] x cb hcb (hps _ (by simp)) hx
      clear hc hrow
      by_cases hpx : ps[k] = x
      · have Hi := Lib.hid (idx_at hlt hnot hpx)
        rw [hpx] at hcl hcell
        clear hpx hnot
        simp only [decide_true] at hcl
        have HC := Lib.hid hcl
        clear hcl
        go_wp2_with (go_at_call 33; refine (HC.out).mono ?_; rintro e w' ⟨rfl, rfl⟩)
        go_ret
        exact ⟨ret_int Hi.out.symm, rfl⟩
      · have Hn : Hid (x ∉ ps.take (k + 1)) := by rw [take_snoc' hlt]; intro h; rcases List.mem_append.1 h with h | h
                                                  · exact hnot h
                                                  · exact hpx (by simpa [eq_comm] using h)
        simp only [decide_eq_false hpx] at hcl
        generalize ps[k] = p at *
        clear hpx hnot
        have HC := Lib.hid hcl
        clear hcl
        go_wp2_with (go_at_call 33; refine (HC.out).mono ?_; rintro e w' ⟨rfl, rfl⟩)
        go_round
        case rel => exact ⟨k + 1, by omega, by go_num, Hn.out⟩
        case measure => simp [intOf]; omega
    · obtain rfl : k = ps.length := by omega
      rw [List.take_length] at hnot
      have Hi := Lib.hid (idx_not hnot)
      clear hnot
      go_wp2
      go_ret
      exact ⟨ret_int Hi.out.symm, rfl⟩

def keeps (x : Nat) (ps : List Nat) : List Nat := ps.filter (fun p => !decide (p = x))
theorem keeps_snoc {x k : Nat} {ps : List Nat} (h : k < ps.length) : keeps x (ps.take (k + 1)) = keeps x (ps.take k) ++ (if ps[k] = x then [] else [ps[k]]) := by
  rw [take_snoc' h]; unfold keeps; rw [List.filter_append]
  by_cases e : ps[k] = x <;> simp [e]
theorem keeps_len (x : Nat) (ps : List Nat) : (keeps x ps).length ≤ ps.length := List.length_filter_le _ _
theorem keeps_not {x : Nat} {ps : List Nat} (h : x ∉ ps) : keeps x ps = ps := by
  unfold keeps; rw [List.filter_eq_self]; intro p hp; simp; rintro rfl; exact h hp

/-- The row while DeleteFunc goes over it: i elements are kept, those from j on stand as they were. -/
def Mid (ps : List Nat) (x : Nat) (cap j : Nat) (cur : Array Value) : Prop :=
  cur.size = cap ∧ cur.toList.take (keeps x (ps.take j)).length = (keeps x (ps.take j)).map ptr ∧ ∀ t, j ≤ t → ∀ h : t < ps.length, cur[t]? = some (ptr ps[t])

theorem keeps_idx {x : Nat} {ps : List Nat} (h : x ∈ ps) : ∃ i, ps.idxOf x = i ∧ i < ps.length ∧ (keeps x (ps.take (i + 1))).length = i ∧ keeps x (ps.take (i + 1)) = ps.take i := by
  have hi := List.idxOf_lt_length_of_mem h
  have hg : ps[ps.idxOf x] = x := List.getElem_idxOf hi
  have hn : x ∉ ps.take (ps.idxOf x) := by
    intro hm
    have h2 : (ps.take (ps.idxOf x)).idxOf x < (ps.take (ps.idxOf x)).length := List.idxOf_lt_length_of_mem hm
    have h3 : ps.idxOf x = (ps.take (ps.idxOf x)).idxOf x := by
      conv => lhs; rw [← List.take_append_drop (ps.idxOf x) ps]
      rw [List.idxOf_append, if_pos hm]
    rw [List.length_take] at h2
    omega
  have hk : keeps x (ps.take (ps.idxOf x + 1)) = ps.take (ps.idxOf x) := by
    rw [keeps_snoc hi, if_pos hg, List.append_nil, keeps_not hn]
  exact ⟨_, rfl, hi, by rw [hk, List.length_take]; omega, hk⟩
theorem Mid.skip {ps : List Nat} {x cap j : Nat} {cur : Array Value} (h : Mid ps x cap j cur) (hj : j < ps.length) (e : ps[j] = x) : Mid ps x cap (j + 1) cur := by
  obtain ⟨h1, h2, h3⟩ := h
  refine ⟨h1, ?_, fun t ht hl => h3 t (by omega) hl⟩
  rw [keeps_snoc hj, if_pos e, List.append_nil]; exact h2
theorem Mid.keep {ps : List Nat} {x cap j : Nat} {cur : Array Value} (h : Mid ps x cap j cur) (hj : j < ps.length) (hc : ps.length ≤ cap) (e : ps[j] ≠ x) :
    Mid ps x cap (j + 1) (cur.setIfInBounds (keeps x (ps.take j)).length (ptr ps[j])) := by
  obtain ⟨h1, h2, h3⟩ := h
  have hl : (keeps x (ps.take j)).length ≤ j := Nat.le_trans (keeps_len _ _) (by simp; omega)
  refine ⟨by simpa using h1, ?_, fun t ht hl' => ?_⟩
  · rw [keeps_snoc hj, if_neg e, List.length_append, List.length_singleton, Array.toList_setIfInBounds, List.map_append, ← h2, List.map_singleton, List.take_succ_eq_append_getElem (by simp; omega), List.getElem_set_self,
      List.take_set_of_le (Nat.le_refl _)]
  · rw [Array.getElem?_setIfInBounds_ne (by omega)]; exact h3 t (by omega) hl'

set_option maxHeartbeats 400000 in
theorem deleteFunc_calls (w : World) (g cap : Nat) (cur : Array Value) (ps : List Nat) (x cb : Nat) (hg : w.heap[g]? = some (.cells cur 66 (0, 0))) (hn : ps.length ≤ cap) (hcm : cap ≤ maxLen) (hcs : cur.size = cap) (ht : cur.toList.take ps.length = ps.map ptr)
    (hcb : w.cell? ⟨cb, 0, none⟩ = some (ptr x)) (hne : cb ≠ g) (hps : ∀ p ∈ ps, Isb w p) (hx : Isb w x) (hmem : x ∈ ps) :
    Calls Try.prog 34 #[.slice (some ⟨g, 0, none⟩) ps.length cap, .func (.func 33) #[] #[ptr cb]] w fun e w' =>
      e = .returned (.slice (some ⟨g, 0, none⟩) (keeps x ps).length cap) ∧ Fr (· = g) w w' ∧ ∃ cur', w'.heap[g]? = some (.cells cur' 66 (0, 0)) ∧ cur'.size = cap ∧ cur'.toList.take (keeps x ps).length = (keeps x ps).map ptr := by
  have hsl : Sl (fun _ => True) w 66 1 (.slice (some ⟨g, 0, none⟩) ps.length cap) ps.length (ps.map ptr) :=
    ⟨⟨by simp, .inr ⟨g, cap, cur, rfl, Nat.zero_le _, hg, hn, hcm, by omega, by simpa using ht⟩⟩, fun _ _ => trivial⟩
  have hidx := indexFunc_calls w _ _ ps x cb hsl hcb hps hx
  obtain ⟨i0, hi0, hi1, hi2, hi3⟩ := keeps_idx hmem
  rw [show idx x ps = (i0 : Int) from by unfold idx; rw [if_pos hmem, hi0]] at hidx
  have Hmid : Hid (Mid ps x cap (i0 + 1) cur) := by
    refine ⟨hcs, ?_, fun t _ hl => ?_⟩
    · rw [hi2, hi3]
      have := congrArg (List.take i0) ht
      rwa [List.take_take, Nat.min_eq_left (by omega), ← List.map_take] at this
    · have h1 : (cur.toList.take ps.length)[t]? = (ps.map ptr)[t]? := by rw [ht]
      rw [List.getElem?_take_of_lt hl] at h1
      simpa [hl] using h1
  have Hi2 := Lib.hid hi2
  clear hi0 hi2 hi3 ht hcs
  have hb0 : ((i0 : Int) == -1) = false := beq_eq_false_iff_ne.2 (by omega)
  have HI := Lib.hid hidx
  have Hg := Lib.hid hg
  have Hps := Lib.hid hps
  clear hidx hsl hg hps
  unfold maxLen at hcm
  go_enter Try.func34, Try.ntmps34
  go_wp2_with (go_at_call 37; refine (HI.out).mono ?_; rintro e w' ⟨rfl, rfl⟩)
  go_loopw [5, 6] (fun i j wr => ∃ (k : Nat) (cur' : Array Value), k ≤ ps.length ∧ (keeps x (ps.take k)).length < k ∧ i = .int .i64 ((keeps x (ps.take k)).length : Nat) ∧ j = .int .i64 k ∧ Mid ps x cap k cur' ∧ wr.heap[g]? = some (.cells cur' 66 (0, 0)) ∧ Fr (· = g) w wr) (fun _ j _ => ps.length - (intOf j).toNat)
  case atStart => exact ⟨i0 + 1, cur, by omega, by rw [Hi2.out]; omega, by rw [Hi2.out], by go_num, Hmid.out, Hg.out, Fr.refl _ _⟩
  case round =>
    obtain ⟨k, cur', hk, hik, rfl, rfl, hm, hg, hfr⟩ := hrel
    have hcb' : wr.cell? ⟨cb, 0, none⟩ = some (ptr x) := hfr.cell hcb (by simpa using hne)
    have hx' : Isb wr x := by
      by_cases e : x = g
      · subst e; exact ⟨_, _, hg⟩
      · exact hx.fr hfr e
    have hlk : (keeps x (ps.take k)).length ≤ ps.length := by omega
    by_cases hlt : k < ps.length
    · have hp' : Isb wr ps[k] := by
        have h := Hps.out ps[k] (by simp)
        by_cases e : ps[k] = g
        · rw [e]; exact ⟨_, _, hg⟩
        · exact h.fr hfr e
      have hcl := is_calls wr ps[k] x cb hcb' hp' hx'
      have hcell : wr.cell? ⟨g, k, none⟩ = some (ptr ps[k]) := by rw [blk_cell hg]; exact hm.2.2 k (Nat.le_refl _) hlt
      by_cases hpx : ps[k] = x
      · have hm1 := Lib.hid (hm.skip hlt hpx)
        have hl1 := Lib.hid (show (keeps x (ps.take (k + 1))).length = (keeps x (ps.take k)).length by rw [keeps_snoc hlt, if_pos hpx, List.append_nil])
        have Hgg := Lib.hid hg
        have Hcb := Lib.hid hcb'
        rw [hpx] at hcl hcell
        simp only [decide_true] at hcl
        have HC := Lib.hid hcl
        clear hcl hpx hm hg hcb hcb' hi1 hp' hx'
        generalize hK : (keeps x (ps.take k)).length = K at *
        clear hK
        go_wp2_with (go_at_call 33; refine (HC.out).mono ?_; rintro e w' ⟨rfl, rfl⟩)
        go_roundw
        case rel => exact ⟨k + 1, cur', by omega, by rw [hl1.out]; omega, by rw [hl1.out], by go_num, hm1.out, Hgg.out, hfr⟩
        case measure => simp [intOf]; omega
      · have hm1 := Lib.hid (hm.keep hlt hn hpx)
        have hl1 := Lib.hid (show (keeps x (ps.take (k + 1))).length = (keeps x (ps.take k)).length + 1 by rw [keeps_snoc hlt, if_neg hpx]; simp)
        simp only [decide_eq_false hpx] at hcl
        have HC := Lib.hid hcl
        have hfz := blk_free hg ((keeps x (ps.take k)).length)
        obtain ⟨u, hu⟩ : ∃ u, wr.cell? ⟨g, (keeps x (ps.take k)).length, none⟩ = some u := by
          rw [blk_cell hg, Array.getElem?_eq_getElem (by rw [hm.1]; omega)]; exact ⟨_, rfl⟩
        have hfr1 := hfr.setCell (p := ⟨g, (keeps x (ps.take k)).length, none⟩) (fun _ => rfl) (ptr ps[k])
        have hg1 := Lib.hid (blk_set (i := (keeps x (ps.take k)).length) hg (ptr ps[k]))
        clear hcl hpx hm hg hcb hcb' hi1 hp' hx'
        generalize hK : (keeps x (ps.take k)).length = K at *
        generalize ps[k] = p at *
        clear hK
        unfold ptr at hcell
        go_wp2_with (go_at_call 33; refine (HC.out).mono ?_; rintro e w' ⟨rfl, rfl⟩)
        go_roundw
        case rel => exact ⟨k + 1, _, by omega, by rw [hl1.out]; omega, by rw [hl1.out]; go_num, by go_num, hm1.out, hg1.out, hfr1⟩
        case measure => simp [intOf]; omega
    · obtain rfl : k = ps.length := by omega
      rw [List.take_length] at *
      have Hm := Lib.hid hm
      generalize hK : keeps x ps = ks at *
      have hcs := hm.1
      have HK := Lib.hid hK
      clear hK hm
      obtain ⟨cur1, hclr, hs1, ht1⟩ := run_clear_cells (P := Try.prog) (mt := 61) (ty := 0) (z := .pointer none) (o := ks.length) (m := ps.length - ks.length) (c := cap - ks.length) (by kernel_rfl) (fun _ => by kernel_rfl) (by simp [Value.cells, Value.oneCell']) hg (by simp [Value.cells]; omega)
      have Hs := Lib.hid hs1
      have Ht := Lib.hid ht1
      have Hcs := Lib.hid hcs
      have Hgg := Lib.hid hg
      clear hs1 ht1 hcs hg
      go_wp2
      go_ret
      refine ⟨ret_eq ?_, hfr.setRow (fun _ => rfl) _, cur1, setRow_heap _ _ _ _ _ _ Hgg.out, Hs.out.trans Hcs.out, ?_⟩
      · rw [HK.out]; rfl
      · rw [HK.out, Ht.out]
        have := Hm.out.2.1
        rw [List.take_length, HK.out] at this
        exact this
end Go.Proofs.Ytidmlkedebjbgaa
