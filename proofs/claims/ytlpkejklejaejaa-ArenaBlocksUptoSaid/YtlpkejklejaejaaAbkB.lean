/-
  ArenaBlocks: bytes as strings; slices.Clone, bytes.Equal; same.
-/
import Derived.Test.YtlpkejklejaejaaAbkA
set_option maxRecDepth 100000
set_option linter.unusedVariables false
set_option linter.unusedSimpArgs false
set_option linter.constructorNameAsVariable false
namespace Go.Proofs.Ytlpkejklejaejaa
open Go.RowKit Abk

def toU (l : List Int) : List UInt8 := l.map fun i => UInt8.ofNat i.toNat
def b8 (l : List UInt8) : List Int := l.map fun b => (b.toNat : Int)
theorem b8_len (l : List UInt8) : (b8 l).length = l.length := by simp [b8]
theorem b8_toU {l : List Int} (h : Bytes l) : b8 (toU l) = l := by
  unfold b8 toU
  rw [List.map_map]
  conv => rhs; rw [← List.map_id l]
  refine List.map_congr_left fun i hi => ?_
  have := h i hi
  simp only [Function.comp_apply, id]
  rw [UInt8.toNat_ofNat_of_lt' (by simp [UInt8.size]; omega)]
  omega
def str (l : List Int) : ByteArray := ⟨(toU l).toArray⟩
theorem str_inj {a b : List Int} (ha : Bytes a) (hb : Bytes b) : str a = str b ↔ a = b := by
  unfold str
  constructor
  · intro h
    have h1 := congrArg ByteArray.data h
    have h2 : toU a = toU b := by simpa using h1
    rw [← b8_toU ha, ← b8_toU hb, h2]
  · rintro rfl; rfl
theorem conv_byt {w : World} {v : Value} {l : List Int} (hB : Bytes l) (h : Byt w v l) : (convert 26 9 v).run Try.prog w = .ok (.string (str l)) w := by
  rw [← b8_toU hB] at h
  unfold str
  generalize toU l = bs at *
  obtain ⟨a, c, rfl, h1, h2, h3⟩ := h
  rw [b8_len] at *
  rcases h3 with h0 | ⟨g, o, rfl, hc⟩
  · obtain rfl : bs = [] := by simpa [b8] using h0
    cases a with
    | none => exact run_convert_bytes_nil w 26 5 Try.undB Try.und5 _ _ 9 Try.und9
    | some a =>
      rw [show ([] : List UInt8).length = 0 from rfl, run_convert_bytes_string w 26 9 5 _ _ c Try.undB Try.und5 Try.und9]
      rw [run_bytesToString w a _ c [] (by simp [loadCells, loadCellsFrom])]
      rfl
  · rw [run_convert_bytes_arg w 26 5 Try.undB Try.und5 g o bs.length c (b8 bs) (by simp [b8]) (fun i hi => by
      have hi' : i < (b8 bs).length := by rw [b8_len]; exact hi
      rw [hc i _ (List.getElem?_eq_getElem hi'), List.getD_eq_getElem?_getD, List.getElem?_eq_getElem hi']; rfl) 9 Try.und9]
    unfold strOfNums b8
    simp [Function.comp_def]
theorem str_list (l : List Int) : (str l).toList = toU l := by rw [ByteArray.toList_eq]; rfl
theorem equal_calls (v u : Value) (a b : List Int) (w : World) (hA : Bytes a) (hB : Bytes b) (h : Byt w v a) (k : Byt w u b) :
    Calls Try.prog 30 #[v, u] w fun e w' => e = .returned (.bool (decide (a = b))) ∧ w' = w := by
  have c1 := conv_byt hA h
  have c2 := conv_byt hB k
  have Hs := Lib.hid (str_inj hA hB)
  clear h k hA hB
  go_enter Try.func30, Try.ntmps30
  go_wp2_with (simp only [c1, c2])
  go_ret
  refine ⟨?_, rfl⟩
  show Ending.returned (.bool ((str a).toList == (str b).toList)) = _
  congr 2
  rw [Bool.eq_iff_iff, beq_iff_eq, decide_eq_true_eq, str_list, str_list]
  exact ⟨fun h => Hs.out.1 (by unfold str; rw [h]), fun h => by rw [h]⟩
theorem nils_none (n c : Nat) (w : World) : (binOp .eql 26 (.slice none n c) (.slice none 0 0)).run Try.prog w = .ok (.bool true) w := by kernel_rfl
theorem nils_some (a : Addr) (n c : Nat) (w : World) : (binOp .eql 26 (.slice (some a) n c) (.slice none 0 0)).run Try.prog w = .ok (.bool false) w := by kernel_rfl
theorem clone_calls (v : Value) (l : List Int) (w : World) (h : Byt w v l) (hl : l.length ≤ 1099511627776) :
    Calls Try.prog 29 #[v] w fun e w' => ∃ v', e = .returned v' ∧ Fr Non w w' ∧ Sl (New w w') w' 5 1 v' l.length (u8s l) := by
  obtain ⟨a, c, rfl, h1, h2, h3⟩ := id h
  unfold maxLen at h2
  cases a with
  | none =>
    obtain rfl : l = [] := h3.resolve_right (fun ⟨_, _, e, _⟩ => by cases e)
    go_enter Try.func29, Try.ntmps29
    go_wp2_with (simp only [nils_none])
    go_ret
    exact ⟨_, rfl, Fr.refl _ _, Sl.nil _ _ _ _⟩
  | some ad =>
    have HB := Lib.hid (h.fr (((Fr.refl Non w)).alloc (.cells #[] 5)) (fun _ _ h => h))
    clear h h3
    go_enter Try.func29, Try.ntmps29
    go_wp2_with (first | (simp only [nils_some]) | at_builtin; go_loud (refine wpList_append_any _ rfl _ _ _ rfl 5 Try.undB Try.inf5b rfl (by decide) rfl (fresh_at w rfl) (some ad) l.length c (u8s l) rfl (by simp [u8s]) HB.out.news.2.2.2.1 HB.out.news.2.2.2.2 (u8s_one _) (by unfold maxLen; omega) (by omega) ?_); intro a3 c3 w3 happ)
    go_ret
    replace happ : Appd _ _ _ _ (.slice (some ⟨w.heap.size, 0, none⟩) 0 0) _ _ _ _ _ _ _ := happ
    have hsz := happ.fr.size
    simp only [World.size_alloc] at hsz
    have hs := happ.sl
    simp only [Nat.zero_add, List.nil_append, World.size_alloc] at hs
    have hf : Fr Non w w3 := ((Fr.refl _ _).alloc _).trans happ.fr (fun k hk e => by have : w.heap.size = k := Option.some.inj e; omega)
    exact ⟨_, rfl, hf, hs.mono (fun k hk => ⟨by rcases hk with hk | hk <;> omega, by rcases hk with hk | hk <;> omega⟩)⟩
/-- All bytes are bytes. -/
def AllB (l : List (List Int)) : Prop := ∀ c ∈ l, Bytes c
theorem same_calls (v u : Value) (l m : List (List Int)) (w : World) (hl : AllB l) (hm : AllB m) (h : Chs w v l) (k : Chs w u m) :
    Calls Try.prog 12 #[v, u] w fun e w' => ∃ r : Bool, e = .returned (.bool r) ∧ (r = true ↔ l = m) ∧ Fr Non w w' := by
  obtain ⟨a, c, rfl, h1, h2, h3⟩ := h
  obtain ⟨a', c', rfl, k1, k2, k3⟩ := k
  have H3 := Lib.hid h3
  have K3 := Lib.hid k3
  have Hl := Lib.hid hl
  have Hm := Lib.hid hm
  clear h3 k3 hl hm
  unfold maxLen at h2 k2
  go_enter Try.func12, Try.ntmps12
  by_cases hlen : l.length = m.length
  · have Hlen := Lib.hid hlen
    go_wp2_with fail
    go_loopw [5] (fun i wr => ∃ j : Nat, j ≤ l.length ∧ i = .int .i64 (j : Nat) ∧ l.take j = m.take j ∧ Fr Non w wr) (fun i _ => l.length - (intOf i).toNat)
    case atStart => exact ⟨0, Nat.zero_le _, rfl, rfl, Fr.refl _ _⟩
    case round =>
      obtain ⟨j, hj, rfl, ht, hf⟩ := hrel
      have Ht := Lib.hid ht
      have Hf := Lib.hid hf
      clear ht hf
      by_cases hjl : j < l.length
      · have hlt : j < m.length := by have := Hlen.out; omega
        obtain ⟨g, o, rfl, hc⟩ := H3.out.resolve_left (fun e => by rw [e] at hjl; simp at hjl)
        obtain ⟨g', o', rfl, kc⟩ := K3.out.resolve_left (fun e => by rw [e] at hlt; simp at hlt)
        obtain ⟨s, hcell0, hby⟩ := hc j l[j] (List.getElem?_eq_getElem hjl)
        obtain ⟨s', kcell0, kby⟩ := kc j m[j] (List.getElem?_eq_getElem hlt)
        have hcell := Hf.out.cell hcell0 (fun h => h.elim)
        have kcell := Hf.out.cell kcell0 (fun h => h.elim)
        have c1 : ∀ n, (convert 26 9 s).run Try.prog (wr.drewN n) = .ok (.string (str l[j])) (wr.drewN n) := fun n => conv_byt (Hl.out _ (List.getElem_mem hjl)) (hby.fr (Hf.out.drewN n) (fun _ _ h => h))
        have c2 : ∀ n, (convert 26 9 s').run Try.prog (wr.drewN n) = .ok (.string (str m[j])) (wr.drewN n) := fun n => conv_byt (Hm.out _ (List.getElem_mem hlt)) (kby.fr (Hf.out.drewN n) (fun _ _ h => h))
        have Hs := Lib.hid (str_inj (Hl.out _ (List.getElem_mem hjl)) (Hm.out _ (List.getElem_mem hlt)))
        clear hc kc hby kby hcell0 kcell0
        go_wp2_with fail
        go_quiet (simp only [c1, c2])
        have hbe : ((str l[j]).toList == (str m[j]).toList) = decide (l[j] = m[j]) := by
          rw [Bool.eq_iff_iff, beq_iff_eq, decide_eq_true_eq, str_list, str_list]
          exact ⟨fun h => Hs.out.1 (by unfold str; rw [h]), fun h => by rw [h]⟩
        rw [hbe]
        have hfd : Fr Non w (wr.drewN nq) := Hf.out.drewN nq
        have Hfd := Lib.hid hfd
        clear hfd hbe c1 c2
        by_cases he : l[j] = m[j]
        · have Hnx : Hid (l.take (j + 1) = m.take (j + 1)) := Lib.hid (by rw [take_snoc' hjl, take_snoc' hlt, Ht.out, he])
          rw [show decide (l[j] = m[j]) = true from decide_eq_true he]
          clear he
          go_wp2_with fail
          go_roundw
          case rel => exact ⟨j + 1, by omega, by simp, Hnx.out, Hfd.out⟩
          case measure => simp [intOf]; omega
        · rw [show decide (l[j] = m[j]) = false from decide_eq_false he]
          go_wp2_with fail
          go_ret
          refine ⟨false, rfl, ⟨fun h => (by cases h), fun h => ?_⟩, Hfd.out⟩
          subst h
          exact absurd rfl he
      · have ej : j = l.length := by omega
        go_wp2_with fail
        go_ret
        refine ⟨true, rfl, ⟨fun _ => ?_, fun _ => rfl⟩, Hf.out⟩
        have := Ht.out
        rw [ej, List.take_length, Hlen.out, List.take_length] at this
        exact this
  · go_wp2_with fail
    go_ret
    exact ⟨false, rfl, by simp; intro e; exact hlen (by rw [e]), Fr.refl _ _⟩
end Go.Proofs.Ytlpkejklejaejaa
