/-
  ProcTouches: handles.
-/
import Derived.Test.YtabllhhainepgaaGreatDoorPtA
import Derived.Deep.CutBlock
import Derived.Deep.DeepCutAuto
set_option maxRecDepth 100000
set_option linter.unusedVariables false
set_option linter.unusedSimpArgs false
set_option linter.constructorNameAsVariable false
namespace Go.Proofs.YtabllhhainepgaaGreatDoor
open Go.RowKit Abk

def grn1 : List Int := [71, 82, 78, 49]
theorem grn1_test {l : List Int} (h : Bytes l) : ((str l).toList == [71, 82, 78, 49]) = decide (l = grn1) := by
  rw [Bool.eq_iff_iff, beq_iff_eq, decide_eq_true_eq, str_list]
  constructor
  · intro e
    rw [← b8_toU h, e]
    rfl
  · rintro rfl
    rfl
def hFs (b : List Int) : Nat := num ((b.drop 4).take 4) 0
def hNo (b : List Int) : Nat := num ((b.drop 8).take 8) 0
def hGe (b : List Int) : Nat := num ((b.drop 16).take 4) 0
def IsHand (b : List Int) : Prop := b.length = 20 ∧ b.take 4 = grn1 ∧ hNo b ≠ 0 ∧ hGe b ≠ 0
theorem num4_lt {l : List Int} (h : Bytes l) (h2 : l.length ≤ 4) : num l 0 < 4294967296 := by
  have key : ∀ (l : List Int) (k x : Nat), Bytes l → l.length + k ≤ 4 → x < 256 ^ k → num l x < 4294967296 := by
    intro l
    induction l with
    | nil =>
      intro k x _ hk hx
      show x < _
      have : 256 ^ k ≤ 256 ^ 4 := Nat.pow_le_pow_right (by decide) (by simpa using hk)
      omega
    | cons c l ih =>
      intro k x hB hk hx
      have hc := hB c (by simp)
      have hk4 : k ≤ 3 := by simp at hk; omega
      have hp : 256 ^ k ≤ 256 ^ 3 := Nat.pow_le_pow_right (by decide) hk4
      show num l (x * 256 % 18446744073709551616 + c.toNat) < _
      exact ih (k + 1) _ (fun u hu => hB u (by simp [hu])) (by simp at hk; omega) (by rw [Nat.pow_succ]; omega)
  exact key l 0 0 h (by omega) (by decide)
/-- What GetHandle answers. -/
def HandAns (b : List Int) (e : Ending) : Prop :=
  (IsHand b ∧ e = .returned (.tuple #[.agg #[.int .u32 (hFs b : Nat), .int .u64 (hNo b : Nat), .int .u32 (hGe b : Nat)], .int .i64 0])) ∨ (¬ IsHand b ∧ e = .returned (.tuple #[.agg #[.int .u32 0, .int .u64 0, .int .u32 0], .int .i64 121]))
set_option maxHeartbeats 2000000 in
theorem gethand_calls (w : World) (v : Value) (b : List Int) (hB : Bytes b) (h : Byt w v b) :
    Calls Tryz.prog 15 #[v] w fun e w' => HandAns b e ∧ Fr Non w w' := by
  have HBy := Lib.hid h
  obtain ⟨a, c, rfl, h1, h2, h3⟩ := h
  unfold maxLen at h2
  have H3 := Lib.hid h3
  clear h3
  by_cases hlen : b.length = 20
  · obtain ⟨g, o, rfl, hc⟩ := H3.out.resolve_left (fun e => by rw [e] at hlen; simp at hlen)
    have Hlen := Lib.hid hlen
    clear hc H3
    have HB4 := Lib.hid (show Byt w (.slice (some ⟨g, o, none⟩) 20 c) b by have := HBy.out; rw [hlen] at this; exact this)
    clear HBy
    have h4 : ∀ W, Fr Non w W → (convert 23 9 (.slice (some ⟨g, o, none⟩) 4 c)).run Tryz.prog W = .ok (.string (str (b.take 4))) W := fun W hf => conv_byt (Bytes.take hB 4) ((HB4.out.take 4 c (by decide) (by omega) (by unfold maxLen; omega)).fr hf (fun _ _ h => h))
    have h4w := fun O => h4 (w.alloc O) ((Fr.refl Non w).alloc O)
    have hG : ∀ (W : World) (k m : Nat), Fr Non w W → k + m ≤ 20 → 0 < m → Calls Tryz.prog 32 #[.slice (some ⟨g, o + k, none⟩) m (c - k)] W fun e w' => e = .returned (.int .u64 (num ((b.drop k).take m) 0 : Nat)) ∧ w' = W := fun W k m hf hk hm =>
      get_byt W g (o + k) m (c - k) (Bytes.take (Bytes.drop hB k) m) (((HB4.out.drop k (by omega)).take m (c - k) (by omega) (by omega) (by unfold maxLen; omega)).fr hf (fun _ _ h => h)) (by simp; omega)
    have HG := Lib.hid hG
    have f4 : num ((b.drop 4).take 4) 0 < 4294967296 := num4_lt (Bytes.take (Bytes.drop hB 4) 4) (by simp; omega)
    have f8 : num ((b.drop 8).take 8) 0 < 18446744073709551616 := num_lt _ 0 (Bytes.take (Bytes.drop hB 8) 8) (by decide)
    have f16 : num ((b.drop 16).take 4) 0 < 4294967296 := num4_lt (Bytes.take (Bytes.drop hB 16) 4) (by simp; omega)
    rw [hlen] at h1 ⊢
    clear hlen h4 hG
    have ht := grn1_test (Bytes.take hB 4)
    go_enter Tryz.func15, Tryz.ntmps15
    by_cases hA : b.take 4 = grn1
    · have hA2 : (!(str (b.take 4)).toList == [71, 82, 78, 49]) = false := by rw [ht, decide_eq_true hA]; rfl
      have HA := Lib.hid hA
      clear hA ht
      go_upto_region 3 with (simp only [h4w])
      clear h4w hA2
      have q8 : (8 : Int) ≤ (c : Int) := by omega
      have q16 : (16 : Int) ≤ (c : Int) := by omega
      have n4 : ¬ c = 4 := by omega
      have n8 : ¬ c = 8 := by omega
      have n16 : ¬ c = 16 := by omega
      obtain ⟨fs, e4⟩ : ∃ fs, num ((b.drop 4).take 4) 0 = fs := ⟨_, rfl⟩
      obtain ⟨no, e8⟩ : ∃ no, num ((b.drop 8).take 8) 0 = no := ⟨_, rfl⟩
      obtain ⟨ge, e16⟩ : ∃ ge, num ((b.drop 16).take 4) 0 = ge := ⟨_, rfl⟩
      rw [e4] at f4
      rw [e8] at f8
      rw [e16] at f16
      have HE : Hid (hFs b = fs ∧ hNo b = no ∧ hGe b = ge) := Lib.hid ⟨e4, e8, e16⟩
      have w4 : IntKind.u32.wrap (fs : Int) = (fs : Int) := by rw [IntKind.wrap_u32]; omega
      have w16 : IntKind.u32.wrap (ge : Int) = (ge : Int) := by rw [IntKind.wrap_u32]; omega
      have hgood : no ≠ 0 → ge ≠ 0 → HandAns b (.returned (.tuple #[.agg #[.int .u32 (fs : Nat), .int .u64 (no : Nat), .int .u32 (ge : Nat)], .int .i64 0])) := fun h1 h2 => by
        obtain ⟨q1, q2, q3⟩ := HE.out
        unfold HandAns
        rw [q1, q2, q3]
        exact .inl ⟨⟨Hlen.out, HA.out, by rw [q2]; exact h1, by rw [q3]; exact h2⟩, rfl⟩
      have hbad : no = 0 ∨ ge = 0 → HandAns b (.returned (.tuple #[.agg #[.int .u32 0, .int .u64 0, .int .u32 0], .int .i64 121])) := fun h => .inr ⟨fun k => by
        obtain ⟨q1, q2, q3⟩ := HE.out
        rcases h with h | h
        · exact k.2.2.1 (by rw [q2]; exact h)
        · exact k.2.2.2 (by rw [q3]; exact h), rfl⟩
      have Hgood := Lib.hid hgood
      have Hbad := Lib.hid hbad
      clear hgood hbad
      go_region_law (go_simp; go_at_call 32; refine (HG.out _ _ _ (by first | exact ((Fr.refl Non _).alloc _).drew | exact (((Fr.refl Non _).alloc _).alloc _).drew) (by decide) (by decide)).mono ?_; rintro e w' ⟨rfl, rfl⟩)
      all_goals
        clear e4 e8 e16 w4 w16 q8 q16 n4 n8 n16
        by_cases z1 : no = 0
        · subst z1
          go_wp2_with fail
          refine bodyPost_ret (v := .tuple #[.agg #[.int .u32 0, .int .u64 0, .int .u32 0], .int .i64 121]) ?_ rfl ⟨Hbad.out (by simp), ?_⟩
          · rw [results_cell_tmp rfl]
            go_simp
          · exact (((Fr.refl _ _).alloc _).alloc _).drew
        have z1b : ((no : Int) == 0) = false := by simp; omega
        by_cases z2 : ge = 0
        · subst z2
          go_wp2_with fail
          refine bodyPost_ret (v := .tuple #[.agg #[.int .u32 0, .int .u64 0, .int .u32 0], .int .i64 121]) ?_ rfl ⟨Hbad.out (by simp), ?_⟩
          · rw [results_cell_tmp rfl]
            go_simp
          · exact (((Fr.refl _ _).alloc _).alloc _).drew
        have z2b : ((ge : Int) == 0) = false := by simp; omega
        go_wp2_with fail
        refine bodyPost_ret (v := .tuple #[.agg #[.int .u32 (fs : Nat), .int .u64 (no : Nat), .int .u32 (ge : Nat)], .int .i64 0]) ?_ rfl ⟨Hgood.out z1 z2, ?_⟩
        · rw [results_cell_tmp rfl]
          go_simp
        · exact (((Fr.refl _ _).alloc _).alloc _).drew
    · have hA2 : (!(str (b.take 4)).toList == [71, 82, 78, 49]) = true := by rw [ht, decide_eq_false hA]; rfl
      have HA := Lib.hid hA
      clear hA ht
      go_wp2_with (simp only [h4w])
      refine bodyPost_ret (v := .tuple #[.agg #[.int .u32 0, .int .u64 0, .int .u32 0], .int .i64 121]) ?_ rfl ⟨.inr ⟨fun h => HA.out h.2.1, rfl⟩, ?_⟩
      · rw [results_cell_tmp rfl]
        go_simp
      · exact (Fr.refl _ _).alloc _
  · go_enter Tryz.func15, Tryz.ntmps15
    have hlb : ((b.length : Int) != 20) = true := by simp; omega
    go_wp2_with fail
    refine bodyPost_ret (v := .tuple #[.agg #[.int .u32 0, .int .u64 0, .int .u32 0], .int .i64 121]) ?_ rfl ⟨.inr ⟨fun h => hlen h.1, rfl⟩, ?_⟩
    · rw [results_cell_tmp rfl]
      go_simp
    · exact (Fr.refl _ _).alloc _
theorem number_calls (w : World) (g o c : Nat) (b : List Int) (hB : Bytes b) (hlen : b.length = 20) (h : Byt w (.slice (some ⟨g, o, none⟩) 20 c) b) (k m : Nat) (hkm : k + m ≤ 20) :
    Calls Tryz.prog 34 #[.slice (some ⟨g, o, none⟩) 20 c, .int .i64 (k : Nat), .int .i64 (m : Nat)] w fun e w' => e = .returned (.int .u64 (num ((b.drop k).take m) 0 : Nat)) ∧ w' = w := by
  have H := Lib.hid h
  have HB := Lib.hid hB
  have Hlen := Lib.hid hlen
  clear h hB hlen
  go_enter Tryz.func34, Tryz.ntmps34
  go_wp2_with fail
  go_loopw [7, 8] (fun s i wr => ∃ j : Nat, j ≤ m ∧ i = .int .i64 (j : Nat) ∧ s = .int .u64 (num ((b.drop k).take j) 0 : Nat) ∧ wr = w) (fun _ i _ => m - (intOf i).toNat)
  case atStart => exact ⟨0, Nat.zero_le _, rfl, rfl, rfl⟩
  case round =>
    obtain ⟨j, hj, rfl, rfl, rfl⟩ := hrel
    by_cases hlt : j < m
    · have hjb : k + j < b.length := by rw [Hlen.out]; omega
      have hcell := H.out.at' (k + j) hjb
      have hbb := HB.out b[k + j] (List.getElem_mem hjb)
      have hsn : (b.drop k).take (j + 1) = (b.drop k).take j ++ [b[k + j]] := by
        rw [take_snoc' (by rw [List.length_drop]; omega), List.getElem_drop]
      have hxl := num_lt ((b.drop k).take j) 0 (Bytes.take (Bytes.drop HB.out k) j) (by decide)
      have hns := num_snoc ((b.drop k).take j) b[k + j] 0
      rw [← hsn] at hns
      clear hsn
      generalize b[k + j] = u at *
      clear hjb
      obtain ⟨y, hyy⟩ : ∃ y, y = num ((b.drop k).take (j + 1)) 0 := ⟨_, rfl⟩
      rw [← hyy] at hns
      have Hyy := Lib.hid hyy
      clear hyy
      generalize num ((b.drop k).take j) 0 = x at *
      have hyl : y < 18446744073709551616 := by omega
      have e1 : bits .or .u64 ((x : Int) * 256 % 18446744073709551616) u = (y : Int) := by
        rw [show (x : Int) * 256 % 18446744073709551616 = ((x * 256 % 18446744073709551616 : Nat) : Int) by omega, show u = (u.toNat : Int) by omega, u64_or_nat _ _ (by omega) (by omega), nat_join 8 _ _ (by omega) (by omega)]
        omega
      have He := Lib.hid e1
      clear e1 hns
      go_wp2_with fail
      go_roundw
      case rel =>
        refine ⟨j + 1, by omega, by simp, congrArg (Value.int .u64) ?_, trivial⟩
        rw [← Hyy.out]
        first
          | exact He.out
          | (show bits .or .u64 (IntKind.u64.wrap ((x : Int) * 256)) u = _
             rw [IntKind.wrap_u64]
             exact He.out)
      case measure => simp [intOf]; omega
    · have ej : j = m := by omega
      subst ej
      go_wp2_with fail
      go_ret
      exact ⟨rfl, rfl⟩
set_option maxHeartbeats 2000000 in
theorem refhand_calls (w : World) (v : Value) (b : List Int) (hB : Bytes b) (h : Byt w v b) :
    Calls Tryz.prog 18 #[v] w fun e w' => HandAns b e ∧ Fr Non w w' := by
  have HBy := Lib.hid h
  obtain ⟨a, c, rfl, h1, h2, h3⟩ := h
  unfold maxLen at h2
  have H3 := Lib.hid h3
  clear h3
  by_cases hlen : b.length = 20
  · obtain ⟨g, o, rfl, hc⟩ := H3.out.resolve_left (fun e => by rw [e] at hlen; simp at hlen)
    have Hlen := Lib.hid hlen
    clear hc H3
    have HB4 := Lib.hid (show Byt w (.slice (some ⟨g, o, none⟩) 20 c) b by have := HBy.out; rw [hlen] at this; exact this)
    clear HBy
    have h4 : ∀ W, Fr Non w W → (convert 23 9 (.slice (some ⟨g, o, none⟩) 4 c)).run Tryz.prog W = .ok (.string (str (b.take 4))) W := fun W hf => conv_byt (Bytes.take hB 4) ((HB4.out.take 4 c (by decide) (by omega) (by unfold maxLen; omega)).fr hf (fun _ _ h => h))
    have h4w := fun O => h4 (w.alloc O) ((Fr.refl Non w).alloc O)
    have hG : ∀ (O : Obj) (k m : Nat), k + m ≤ 20 → Calls Tryz.prog 34 #[.slice (some ⟨g, o, none⟩) 20 c, .int .i64 (k : Nat), .int .i64 (m : Nat)] (w.alloc O) fun e w' => e = .returned (.int .u64 (num ((b.drop k).take m) 0 : Nat)) ∧ w' = w.alloc O := fun O k m hk =>
      number_calls (w.alloc O) g o c b hB Hlen.out (HB4.out.fr ((Fr.refl Non w).alloc O) (fun _ _ h => h)) k m hk
    have HG4 := fun O => Lib.hid (hG O 4 4 (by decide))
    have HG8 := fun O => Lib.hid (hG O 8 8 (by decide))
    have HG16 := fun O => Lib.hid (hG O 16 4 (by decide))
    have f4 : num ((b.drop 4).take 4) 0 < 4294967296 := num4_lt (Bytes.take (Bytes.drop hB 4) 4) (by simp; omega)
    have f8 : num ((b.drop 8).take 8) 0 < 18446744073709551616 := num_lt _ 0 (Bytes.take (Bytes.drop hB 8) 8) (by decide)
    have f16 : num ((b.drop 16).take 4) 0 < 4294967296 := num4_lt (Bytes.take (Bytes.drop hB 16) 4) (by simp; omega)
    obtain ⟨fs, e4⟩ : ∃ fs, num ((b.drop 4).take 4) 0 = fs := ⟨_, rfl⟩
    obtain ⟨no, e8⟩ : ∃ no, num ((b.drop 8).take 8) 0 = no := ⟨_, rfl⟩
    obtain ⟨ge, e16⟩ : ∃ ge, num ((b.drop 16).take 4) 0 = ge := ⟨_, rfl⟩
    rw [e4] at f4 HG4
    rw [e8] at f8 HG8
    rw [e16] at f16 HG16
    have HE : Hid (hFs b = fs ∧ hNo b = no ∧ hGe b = ge) := Lib.hid ⟨e4, e8, e16⟩
    rw [hlen] at h1 ⊢
    clear hlen h4 hG e4 e8 e16
    have ht := grn1_test (Bytes.take hB 4)
    go_enter Tryz.func18, Tryz.ntmps18
    by_cases hA : b.take 4 = grn1
    · have hA2 : (!(str (b.take 4)).toList == [71, 82, 78, 49]) = false := by rw [ht, decide_eq_true hA]; rfl
      have HA := Lib.hid hA
      clear hA ht
      have hgood : no ≠ 0 → ge ≠ 0 → HandAns b (.returned (.tuple #[.agg #[.int .u32 (fs : Nat), .int .u64 (no : Nat), .int .u32 (ge : Nat)], .int .i64 0])) := fun h1 h2 => by
        obtain ⟨q1, q2, q3⟩ := HE.out
        unfold HandAns
        rw [q1, q2, q3]
        exact .inl ⟨⟨Hlen.out, HA.out, by rw [q2]; exact h1, by rw [q3]; exact h2⟩, rfl⟩
      have hbad : no = 0 ∨ ge = 0 → HandAns b (.returned (.tuple #[.agg #[.int .u32 0, .int .u64 0, .int .u32 0], .int .i64 121])) := fun h => .inr ⟨fun k => by
        obtain ⟨q1, q2, q3⟩ := HE.out
        rcases h with h | h
        · exact k.2.2.1 (by rw [q2]; exact h)
        · exact k.2.2.2 (by rw [q3]; exact h), rfl⟩
      have Hgood := Lib.hid hgood
      have Hbad := Lib.hid hbad
      clear hgood hbad
      go_wp2_with (first | simp only [h4w] | (go_at_call 34; fail))
      refine (HG4 _).out.mono ?_
      rintro e w' ⟨rfl, rfl⟩
      clear h4w hA2
      go_wp2_with fail
      refine (HG8 _).out.mono ?_
      rintro e w' ⟨rfl, rfl⟩
      go_wp2_with fail
      refine (HG16 _).out.mono ?_
      rintro e w' ⟨rfl, rfl⟩
      by_cases z1 : no = 0
      · subst z1
        go_wp2_with fail
        refine bodyPost_ret (v := .tuple #[.agg #[.int .u32 0, .int .u64 0, .int .u32 0], .int .i64 121]) ?_ rfl ⟨Hbad.out (by simp), ?_⟩
        · rw [results_cell_tmp rfl]
          go_simp
        · exact (((Fr.refl _ _).alloc _).alloc _)
      have z1b : ((no : Int) == 0) = false := by simp; omega
      by_cases z2 : ge = 0
      · subst z2
        go_wp2_with fail
        refine bodyPost_ret (v := .tuple #[.agg #[.int .u32 0, .int .u64 0, .int .u32 0], .int .i64 121]) ?_ rfl ⟨Hbad.out (by simp), ?_⟩
        · rw [results_cell_tmp rfl]
          go_simp
        · exact (((Fr.refl _ _).alloc _).alloc _)
      have z2b : ((ge : Int) == 0) = false := by simp; omega
      go_wp2_with fail
      refine bodyPost_ret (v := .tuple #[.agg #[.int .u32 (fs : Nat), .int .u64 (no : Nat), .int .u32 (ge : Nat)], .int .i64 0]) ?_ rfl ⟨Hgood.out z1 z2, ?_⟩
      · rw [results_cell_tmp rfl]
        go_simp
      · exact (((Fr.refl _ _).alloc _).alloc _)
    · have hA2 : (!(str (b.take 4)).toList == [71, 82, 78, 49]) = true := by rw [ht, decide_eq_false hA]; rfl
      have HA := Lib.hid hA
      clear hA ht
      go_wp2_with (simp only [h4w])
      refine bodyPost_ret (v := .tuple #[.agg #[.int .u32 0, .int .u64 0, .int .u32 0], .int .i64 121]) ?_ rfl ⟨.inr ⟨fun h => HA.out h.2.1, rfl⟩, ?_⟩
      · rw [results_cell_tmp rfl]
        go_simp
      · exact (Fr.refl _ _).alloc _
  · go_enter Tryz.func18, Tryz.ntmps18
    have hlb : ((b.length : Int) != 20) = true := by simp; omega
    go_wp2_with fail
    refine bodyPost_ret (v := .tuple #[.agg #[.int .u32 0, .int .u64 0, .int .u32 0], .int .i64 121]) ?_ rfl ⟨.inr ⟨fun h => hlen h.1, rfl⟩, ?_⟩
    · rw [results_cell_tmp rfl]
      go_simp
    · exact (Fr.refl _ _).alloc _
end Go.Proofs.YtabllhhainepgaaGreatDoor
