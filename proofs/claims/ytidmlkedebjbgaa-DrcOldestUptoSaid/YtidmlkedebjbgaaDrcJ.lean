/-
  DrcOnce's two readers: 'resident' and 'answers'.
-/
import Derived.Test.YtidmlkedebjbgaaDrcI
namespace Go.Proofs.Ytidmlkedebjbgaa
open Go.RowKit

def c45 (e : Ent) : List Value := [.int .i64 e.client, .string e.rcd, .int .u64 e.ticket, .bool e.done, .string e.reply]
def rowsC (l : List Ent) : List Value := l.flatMap c45
theorem rowsC_len (l : List Ent) : (rowsC l).length = l.length * 5 := by
  unfold rowsC
  induction l with
  | nil => rfl
  | cons p t ih => simp [List.flatMap_cons, c45] at ih ⊢; omega
theorem rowsC_at (l : List Ent) (k : Nat) (h : k < l.length) (j : Nat) (hj : j < 5) : (rowsC l)[k * 5 + j]? = (c45 l[k])[j]? := by
  induction l generalizing k with
  | nil => cases h
  | cons p t ih =>
    have e : rowsC (p :: t) = c45 p ++ rowsC t := by simp [rowsC, List.flatMap_cons]
    rw [e]
    cases k with
    | zero => rw [List.getElem?_append_left (by simp [c45]; omega)]; simp
    | succ k =>
      rw [List.getElem?_append_right (by simp [c45]; omega)]
      have := ih k (by simpa using h)
      simpa [c45, show (k + 1) * 5 + j - 5 = k * 5 + j by omega] using this

theorem rowsC_modify (l : List Ent) (i : Nat) (h : i < l.length) (s : ByteArray) : rowsC (l.modify i (fun e => { e with done := true, reply := s })) = ((rowsC l).set (i * 5 + 3) (.bool true)).set (i * 5 + 4) (.string s) := by
  induction l generalizing i with
  | nil => cases h
  | cons p t ih =>
    have e : ∀ p t, rowsC (p :: t) = c45 p ++ rowsC t := fun p t => by simp [rowsC, List.flatMap_cons]
    cases i with
    | zero => simp [e, c45]
    | succ i =>
      rw [List.modify_succ_cons, e, e, ih i (by simpa using h)]
      have h1 : (i + 1) * 5 + 4 = (c45 p).length + (i * 5 + 4) := by simp [c45]; omega
      have h2 : (i + 1) * 5 + 3 = (c45 p).length + (i * 5 + 3) := by simp [c45]; omega
      rw [h1, h2, List.set_append_right _ _ (by omega), List.set_append_right _ _ (by omega)]
      simp

set_option maxRecDepth 100000 in
set_option maxHeartbeats 1000000 in
theorem resident_calls (X Y : Nat → Prop) (w : World) (va vm : Value) (L M : List Ent) (kind client ticket : Int) (bv : Value) (bs : List UInt8) (hl : Sl X w 52 5 va L.length (rowsE L)) (hm : Sl Y w 45 5 vm M.length (rowsC M)) (hb : Bts w bv bs)
    (hL : L.length ≤ 1024) (hM : M.length ≤ 1024) (hno : ∀ e ∈ L, ∀ m ∈ M, ¬ (m.ticket = e.ticket ∧ m.client = client ∧ m.rcd = str bs)) :
    Calls Try.prog 16 #[va, vm, .agg #[.int .i64 kind, .int .i64 client, bv, .int .u64 ticket]] w fun e w' => e = .returned (.bool false) ∧ Fr Non w w' := by
  obtain ⟨la, lc, rfl, hlc, hlm, _, hlrow⟩ := hl.open
  obtain ⟨ma, mc, rfl, hmc, hmm, _, hmrow⟩ := hm.open
  obtain ⟨ba, bc, hbv, _⟩ := id hb
  have Hconv := Lib.hid (fun (w' : World) (hf : Fr Non w w') => conv_bytes Try.und32 Try.und5 Try.und9 (hb.fr hf (fun _ _ h => h)))
  subst hbv
  unfold maxLen at hlm hmm
  have Hno := Lib.hid hno
  clear hl hm hb hno
  go_enter Try.func16, Try.ntmps16
  go_wp2
  go_loopw [7] (fun i wr => ∃ k : Nat, k ≤ L.length ∧ i = .int .i64 k ∧ Fr Non w wr ∧ wr.heap[w.heap.size]? = some (.cells #[.int .i64 kind, .int .i64 client, .slice ba bs.length bc, .int .u64 ticket] 40 (0, 0))) (fun i _ => L.length - (intOf i).toNat)
  case atStart => exact ⟨0, Nat.zero_le _, rfl, (Fr.refl _ _).alloc _, blk_new _ _ rfl⟩
  case round =>
    obtain ⟨k, hk, rfl, hfr, hbox⟩ := hrel
    by_cases hlt : k < L.length
    · obtain ⟨wo, rfl⟩ : ∃ wo : World, wo = wr := ⟨_, rfl⟩
      obtain ⟨g, rfl, _, _, hlc⟩ := hlrow.resolve_left (by omega)
      have hlk : w.cell? ⟨g, k * 5, none⟩ = some (.int .u64 L[k].ticket) := hlc (k * 5 + 0) _ (by rw [rowsE_at L k hlt 0 (by omega)]; rfl)
      have hnok := Hno.out L[k] (by simp)
      clear hlc hlrow
      generalize L[k] = e at *
      go_wp2
      go_loopw [8] (fun i wr => ∃ j : Nat, j ≤ M.length ∧ i = .int .i64 j ∧ Fr Non w wr ∧ wr.heap[w.heap.size]? = some (.cells #[.int .i64 kind, .int .i64 client, .slice ba bs.length bc, .int .u64 ticket] 40 (0, 0))) (fun i _ => M.length - (intOf i).toNat)
      case atStart => exact ⟨0, Nat.zero_le _, rfl, hfr, hbox⟩
      case round =>
        obtain ⟨j, hj, rfl, hfr2, hbox2⟩ := hrel
        by_cases hlt2 : j < M.length
        · obtain ⟨g', rfl, _, _, hmc2⟩ := hmrow.resolve_left (by omega)
          have hm0 : wr.cell? ⟨g', j * 5, none⟩ = some (.int .i64 M[j].client) := hfr2.cell (hmc2 (j * 5 + 0) _ (by rw [rowsC_at M j hlt2 0 (by omega)]; rfl)) (fun h => h)
          have hm1 : wr.cell? ⟨g', j * 5 + 1, none⟩ = some (.string M[j].rcd) := hfr2.cell (hmc2 (j * 5 + 1) _ (by rw [rowsC_at M j hlt2 1 (by omega)]; rfl)) (fun h => h)
          have hm2 : wr.cell? ⟨g', j * 5 + 2, none⟩ = some (.int .u64 M[j].ticket) := hfr2.cell (hmc2 (j * 5 + 2) _ (by rw [rowsC_at M j hlt2 2 (by omega)]; rfl)) (fun h => h)
          have hlk2 := hfr2.cell hlk (fun h => h)
          have hnoj := hnok M[j] (by simp)
          have hbc := blk_cell hbox2
          have hconv := fun n => Hconv.out _ (hfr2.drewN n)
          clear hmc2 hmrow hnok
          generalize M[j] = m at *
          have hend : ∀ nq : Nat, (∃ j' : Nat, j' ≤ M.length ∧ Value.int .i64 ((j : Int) + 1) = .int .i64 j' ∧ Fr Non w (wr.drewN nq) ∧ (wr.drewN nq).heap[w.heap.size]? = some (.cells #[.int .i64 kind, .int .i64 client, .slice ba bs.length bc, .int .u64 ticket] 40 (0, 0))) := fun nq => ⟨j + 1, by omega, by go_num, hfr2.drewN nq, hbox2⟩
          by_cases h1 : m.ticket = e.ticket
          · by_cases h2 : m.client = client
            · have h3 : m.rcd ≠ str bs := fun h3 => hnoj ⟨h1, h2, h3⟩
              have hb1 : (m.ticket == e.ticket) = true := by simpa using h1
              have hb2 : (m.client == client) = true := by simpa using h2
              have hb3 : (m.rcd.toList == (str bs).toList) = false := by rw [← beq_toListBytes, bytes_beq]; simp [h3]
              go_wp2
              go_quiet (fail)
              go_wp2
              go_roundw
              case rel => exact hend _
              case measure => simp [intOf]; omega
            · have hb1 : (m.ticket == e.ticket) = true := by simpa using h1
              have hb2 : (m.client == client) = false := by simpa using h2
              go_wp2
              go_quiet (fail)
              go_wp2
              go_roundw
              case rel => exact hend _
              case measure => simp [intOf]; omega
          · have hb1 : (m.ticket == e.ticket) = false := by simpa using h1
            go_wp2
            go_quiet (fail)
            go_wp2
            go_roundw
            case rel => exact hend _
            case measure => simp [intOf]; omega
        · obtain rfl : j = M.length := by omega
          go_wp2
          go_roundw
          case rel => exact ⟨k + 1, by omega, by go_num, hfr2, hbox2⟩
          case measure => simp [intOf]; omega
    · obtain rfl : k = L.length := by omega
      go_wp2
      go_ret
      exact ⟨rfl, hfr⟩

set_option maxRecDepth 100000 in
set_option maxHeartbeats 1000000 in
theorem answers_calls (Y : Nat → Prop) (w : World) (vm : Value) (M : List Ent) (kind ticket : Int) (bv : Value) (bs : List UInt8) (xk : Int) (e : Ent) (hm : Sl Y w 45 5 vm M.length (rowsC M)) (hb : Bts w bv bs)
    (hM : M.length ≤ 1024) (hnd : (M.map (·.ticket)).Nodup) (he : e ∈ M) (hrcd : e.rcd = str bs) (hxk : xk = if e.done then 2 else 1) :
    Calls Try.prog 17 #[vm, .agg #[.int .i64 kind, .int .i64 e.client, bv, .int .u64 ticket], .agg #[.int .i64 xk, .int .u64 e.ticket, .string e.reply]] w fun r w' => r = .returned (.bool true) ∧ Fr Non w w' := by
  obtain ⟨ma, mc, rfl, hmc, hmm, _, hmrow⟩ := hm.open
  obtain ⟨ba, bc, hbv, _⟩ := id hb
  have Hconv := Lib.hid (fun (w' : World) (hf : Fr Non w w') => conv_bytes Try.und32 Try.und5 Try.und9 (hb.fr hf (fun _ _ h => h)))
  subst hbv
  obtain ⟨i0, hi0, hei⟩ := List.getElem_of_mem he
  have Hdiff : Hid (∀ j (hj : j < M.length), j ≠ i0 → M[j].ticket ≠ e.ticket) := Lib.hid (fun j hj hne ht => by
    have hn := List.pairwise_iff_getElem.1 hnd
    rcases Nat.lt_or_gt_of_ne hne with h3 | h3
    · exact hn j i0 (by simpa using hj) (by simpa using hi0) h3 (by simp [ht, hei])
    · exact hn i0 j (by simpa using hi0) (by simpa using hj) h3 (by simp [ht, hei]))
  unfold maxLen at hmm
  have Hxk := Lib.hid hxk
  have Hrcd := Lib.hid hrcd
  clear hm hb hnd he hxk hrcd
  go_enter Try.func17, Try.ntmps17
  go_wp2
  go_loopw [7] (fun i wr => ∃ k : Nat, k ≤ i0 ∧ i = .int .i64 k ∧ Fr Non w wr ∧ wr.heap[w.heap.size]? = some (.cells #[.int .i64 kind, .int .i64 e.client, .slice ba bs.length bc, .int .u64 ticket] 40 (0, 0)) ∧ wr.heap[w.heap.size + 1]? = some (.cells #[.int .i64 xk, .int .u64 e.ticket, .string e.reply] 30 (0, 0))) (fun i _ => M.length - (intOf i).toNat)
  case atStart => exact ⟨0, Nat.zero_le _, rfl, ((Fr.refl _ _).alloc _).alloc _, blk_old_some (blk_new _ _ rfl) _, blk_new _ _ (by simp)⟩
  case round =>
    obtain ⟨k, hk, rfl, hfr, hbox, hbox2⟩ := hrel
    have hlt : k < M.length := by omega
    obtain ⟨g', rfl, _, _, hmc2⟩ := hmrow.resolve_left (by omega)
    have hm0 : wr.cell? ⟨g', k * 5, none⟩ = some (.int .i64 M[k].client) := hfr.cell (hmc2 (k * 5 + 0) _ (by rw [rowsC_at M k hlt 0 (by omega)]; rfl)) (fun h => h)
    have hm1 : wr.cell? ⟨g', k * 5 + 1, none⟩ = some (.string M[k].rcd) := hfr.cell (hmc2 (k * 5 + 1) _ (by rw [rowsC_at M k hlt 1 (by omega)]; rfl)) (fun h => h)
    have hm2 : wr.cell? ⟨g', k * 5 + 2, none⟩ = some (.int .u64 M[k].ticket) := hfr.cell (hmc2 (k * 5 + 2) _ (by rw [rowsC_at M k hlt 2 (by omega)]; rfl)) (fun h => h)
    have hm3 : wr.cell? ⟨g', k * 5 + 3, none⟩ = some (.bool M[k].done) := hfr.cell (hmc2 (k * 5 + 3) _ (by rw [rowsC_at M k hlt 3 (by omega)]; rfl)) (fun h => h)
    have hm4 : wr.cell? ⟨g', k * 5 + 4, none⟩ = some (.string M[k].reply) := hfr.cell (hmc2 (k * 5 + 4) _ (by rw [rowsC_at M k hlt 4 (by omega)]; rfl)) (fun h => h)
    have hbc := blk_cell hbox
    have hbc2 := blk_cell hbox2
    have hNl := lt_of_block hbox
    have hNl2 := lt_of_block hbox2
    clear hmc2 hmrow
    by_cases h1 : k = i0
    · subst h1
      rw [hei] at hm0 hm1 hm2 hm3 hm4
      have hxk := Hxk.out
      rw [Hrcd.out] at hm1
      have hconv := Hconv.out _ (hfr.alloc (.cells #[.int .i64 e.client, .string (str bs), .int .u64 e.ticket, .bool e.done, .string e.reply] 45))
      rcases hd : e.done with _ | _
      all_goals
        rw [hd] at hm3 hconv hxk
        simp only [Bool.false_eq_true, if_false, if_true] at hxk
        subst hxk
        go_wp2
        go_ret
        exact ⟨rfl, hfr.alloc _⟩
    · have hb1 : (M[k].ticket == e.ticket) = false := by simpa using Hdiff.out k hlt h1
      generalize M[k] = m at *
      go_wp2
      go_roundw
      case rel => exact ⟨k + 1, by omega, by go_num, hfr.alloc _, blk_old_some hbox _, blk_old_some hbox2 _⟩
      case measure => simp [intOf]; omega
end Go.Proofs.Ytidmlkedebjbgaa
