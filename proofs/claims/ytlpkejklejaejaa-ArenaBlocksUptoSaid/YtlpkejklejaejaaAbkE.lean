/-
  ArenaBlocks: arena.PutBlock.
-/
import Derived.Test.YtlpkejklejaejaaAbkD
import Derived.Lib.SlBytesConst
set_option maxRecDepth 100000
set_option linter.unusedVariables false
set_option linter.unusedSimpArgs false
set_option linter.constructorNameAsVariable false
namespace Go.Proofs.Ytlpkejklejaejaa
open Go.RowKit Abk

theorem Byt.lt {w : World} {v : Value} {l : List Int} (h : Byt w v l) (hl : l ≠ []) : ∀ q, v.ownBlock = some q → q < w.heap.size := by
  obtain ⟨a, c, rfl, h1, h2, h3⟩ := h
  obtain ⟨g, o, rfl, hc⟩ := h3.resolve_left hl
  intro q hq
  have hpos : 0 < l.length := by
    rcases l with _ | ⟨x, l⟩
    · exact absurd rfl hl
    · simp
  have := World.block_lt_of_cell? w _ (hc 0 l[0] (List.getElem?_eq_getElem hpos))
  have e : g = q := by simpa [Value.ownBlock] using hq
  subst e
  exact this
theorem run_append_zeros0 (w : World) {X : Nat → Prop} {v : Value} {n : Nat} {xs : List Value} (h : Sl X w 5 1 v n xs) (ty : TypeId) :
    (Builtin.append_ #[26, 3] ty #[v, .int .i64 ((0 : Nat) : Int)]).run Try.prog w = .ok v w := by
  obtain ⟨i, hi, hz, hs, hby⟩ := info_parts Try.inf5b
  have hw : IntKind.i64.wrap 0 = 0 := by rw [IntKind.wrap_i64]; omega
  rcases h.1.2 with ⟨rfl, rfl⟩ | ⟨g, cap, cur, rfl, _, hg, hnc, _⟩
  · simp [Builtin.append_, run_underlying Try.undB, run_underlying undI, sizeOf, typeInfo, hi, hs, hby, asInt, asIntOf, hw]
  · simp [Builtin.append_, run_underlying Try.undB, run_underlying undI, sizeOf, typeInfo, hi, hs, hby, asInt, asIntOf, hw, hnc, storeCells]
theorem zs_u8s (m : Nat) : zs m = u8s (List.replicate m 0) := by simp [zs, u8s]
theorem u8s_app (a b : List Int) : u8s a ++ u8s b = u8s (a ++ b) := by simp [u8s]
/-- append(b, make([]byte, m)...), m zero, too. -/
theorem run_append_pad (w : World) {X : Nat → Prop} {v : Value} {n : Nat} {l : List Int} (h : Sl X w 5 1 v n (u8s l)) (m : Nat) (hb : n + m < 1048576) (ty : TypeId) :
    ∃ v' w', (Builtin.append_ #[26, 3] ty #[v, .int .i64 (m : Nat)]).run Try.prog w = .ok v' w' ∧ Sl (fun k => X k ∨ New w w' k) w' 5 1 v' (n + m) (u8s (l ++ List.replicate m 0)) ∧ Fr (fun k => v.ownBlock = some k) w w' := by
  rcases Nat.eq_zero_or_pos m with rfl | hm
  · refine ⟨v, w, run_append_zeros0 w h ty, ?_, Fr.refl _ _⟩
    simp only [List.replicate_zero, List.append_nil, Nat.add_zero]
    exact h.mono fun k hk => .inl hk
  · obtain ⟨a', c', w', hr, ha⟩ := run_append_zeros w h m hm hb ty
    refine ⟨_, _, hr, ?_, ha.fr⟩
    rw [← u8s_app, ← zs_u8s]
    exact ha.sl
/-- What PutBlock answers. -/
def PutAns (w w' : World) (st : Nat) (l : List (List Int)) (v' : Value) (r : Int) : Prop :=
  (Abk.Good st l ∧ r = 0 ∧ Sl (New w w') w' 5 1 v' 384 (u8s (block st l))) ∨ (¬ Abk.Good st l ∧ r = 160 ∧ v' = .slice none 0 0)
theorem putblock_calls (w : World) (st : Nat) (hst : st < 18446744073709551616) (v : Value) (l : List (List Int)) (h : Chs w v l) (hs : fits l < 1048576) :
    Calls Try.prog 7 #[.agg #[.int .u64 (st : Nat), v]] w fun e w' => ∃ v' r, e = .returned (.tuple #[v', .int .i64 r]) ∧ Fr Non w w' ∧ PutAns w w' st l v' r := by
  obtain ⟨a, c, rfl, h1, h2, h3⟩ := h
  have H3 := Lib.hid h3
  have hl := fits_ge l
  unfold maxLen at h2
  clear h3
  go_enter Try.func7, Try.ntmps7
  by_cases b1 : st = 0
  · subst b1
    go_wp2_with fail
    go_ret2
    exact ⟨_, _, rfl, (Fr.refl _ _).alloc _, .inr ⟨fun h => h.1 rfl, rfl, rfl⟩⟩
  by_cases b2 : 4611686018427387904 < st
  · go_wp2_with fail
    go_ret2
    exact ⟨_, _, rfl, (Fr.refl _ _).alloc _, .inr ⟨fun h => by have := h.2.1; omega, rfl, rfl⟩⟩
  by_cases b3 : l.length = 0
  · go_wp2_with fail
    go_ret2
    exact ⟨_, _, rfl, (Fr.refl _ _).alloc _, .inr ⟨fun h => h.2.2.1 (List.eq_nil_of_length_eq_zero b3), rfl, rfl⟩⟩
  have b3' : 0 < l.length := by omega
  have b4 : ((st : Int) == 0) = false := by simp; omega
  have b5 : decide ((4611686018427387904 : Int) < (st : Int)) = false := by simp; omega
  have b6 : ((l.length : Int) == 0) = false := by simp; intro e; subst e; simp at b3'
  have hcv : ∀ O : Obj, (convert 26 26 (.slice (some ⟨w.heap.size + 1, 0, none⟩) 4 4)).run Try.prog ((w.alloc O).alloc (.cells #[.int .u8 65, .int .u8 82, .int .u8 69, .int .u8 78] 5)) = .ok (.slice (some ⟨w.heap.size + 1, 0, none⟩) 4 4) ((w.alloc O).alloc (.cells #[.int .u8 65, .int .u8 82, .int .u8 69, .int .u8 78] 5 (4, 5))) := fun O => by
    have := Lib.run_convert_bytes_const (P := Try.prog) (w.alloc O) 26 5 #[.int .u8 65, .int .u8 82, .int .u8 69, .int .u8 78] 4 4 Try.undB Try.und5
    simp only [World.size_alloc] at this
    exact this
  go_wp2_with (simp only [hcv])
  have hby : ∀ O : Obj, Byt ((w.alloc O).alloc (.cells #[.int .u8 65, .int .u8 82, .int .u8 69, .int .u8 78] 5 (4, 5))) (.slice (some ⟨w.heap.size + 1, 0, none⟩) 4 4) aren := fun O =>
    ⟨_, 4, rfl, by decide, by unfold maxLen; omega, .inr ⟨w.heap.size + 1, 0, rfl, fun i u hu => by
      rw [blk_cell (blk_new (w.alloc O) _ (by simp))]
      rcases i with _ | _ | _ | _ | i
      · cases hu; rfl
      · cases hu; rfl
      · cases hu; rfl
      · cases hu; rfl
      · simp [aren] at hu⟩⟩
  have hp := put_grow _ _ _ _ _ (hby (.cells #[.int .u64 (st : Nat), .slice a l.length c] 25)) st 8 hst (by decide) (by decide) (by decide) (by decide)
  rw [show ((8 : Nat) : Int) = 8 from rfl] at hp
  refine hp.mono ?_
  rintro e w1 ⟨v1, rfl, hf1, hs1⟩
  obtain ⟨a1, c1, rfl, g1, g2, _⟩ := hs1.open
  have hf : Fr Non w w1 := (((Fr.refl Non w).alloc _).alloc _).trans hf1 (fun _ _ h => h)
  have hbx := hf1.keep (b := w.heap.size) (o := .cells #[.int .u64 (st : Nat), .slice a l.length c] 25 (0, 0)) (blk_old_some (blk_new w _ rfl) _) (fun h => h)
  have hz := hf1.size
  simp only [World.size_alloc] at hz
  have hs : Sl (New w w1) w1 5 1 (.slice a1 (aren.length + 8) c1) (aren.length + 8) (u8s (aren ++ be 8 st)) := hs1.mono fun q hq => ⟨by have := hq.1; simp only [World.size_alloc] at this; omega, hq.2⟩
  have Hf := Lib.hid hf
  have Hs := Lib.hid hs
  have hcx := blk_cell hbx
  clear hf1 hs1 hf hs hby hp hcv
  go_wp2_with fail
  go_loopw [4, 29] (fun s i wr => ∃ (k : Nat) (va : Option Addr) (vc : Nat), k ≤ l.length ∧ i = .int .i64 (k : Nat) ∧ s = .slice va (12 + fits (l.take k)) vc ∧ Fr Non w wr ∧ Sl (New w wr) wr 5 1 (.slice va (12 + fits (l.take k)) vc) (12 + fits (l.take k)) (u8s (aren ++ be 8 st ++ body (l.take k))) ∧ fits (l.take k) ≤ 372 ∧ ∀ c ∈ l.take k, Okc c) (fun _ i _ => l.length - (intOf i).toNat)
  case atStart => exact ⟨0, a1, c1, Nat.zero_le _, rfl, rfl, Hf.out, by
    have := Hs.out
    simp only [body, fits, List.take_zero, List.append_nil, Nat.add_zero]
    exact this, by simp [fits], by simp⟩
  case round =>
    obtain ⟨k, va, vc, hk, rfl, rfl, hfr, hsl, hft, hok⟩ := hrel
    have Hfr := Lib.hid hfr
    have Hsl := Lib.hid hsl
    have Hok := Lib.hid hok
    clear hfr hsl hok
    by_cases hlt : k < l.length
    · obtain ⟨g, o, rfl, hc⟩ := H3.out.resolve_left (fun e => by rw [e] at hlt; simp at hlt)
      obtain ⟨s, hcell0, hby0⟩ := hc k l[k] (List.getElem?_eq_getElem hlt)
      have hcell := Hfr.out.cell hcell0 (fun h => h.elim)
      have Hby := Lib.hid (hby0.fr Hfr.out (fun _ _ h => h))
      have Hlt := Lib.hid (hby0.lt)
      have Hst := Lib.hid (fits_take_succ hlt)
      have Htk := Lib.hid (take_snoc' hlt)
      have Hle := Lib.hid (fits_take_le l (k + 1))
      have Hmem := Lib.hid (List.getElem_mem hlt)
      obtain ⟨b, hb⟩ : ∃ b, b = l[k] := ⟨_, rfl⟩
      rw [← hb] at Hby Hlt Hst Htk Hmem
      clear hb hby0 hcell0 hc
      obtain ⟨a', c', rfl, g3, g4, _⟩ := id Hby.out
      unfold maxLen at g4
      have Hlk : Hid (fits (l.take k) = fits (l.take k)) := Lib.hid rfl
      obtain ⟨F, hF⟩ : ∃ F, F = fits (l.take k) := ⟨_, rfl⟩
      rw [← hF] at hft Hst Hsl ⊢
      have HF := Lib.hid hF
      clear hF Hlk
      by_cases e0 : b.length = 0
      · go_wp2_with fail
        go_ret2
        exact ⟨_, _, rfl, Hfr.out, .inr ⟨fun h => by have := (h.2.2.2.2 b Hmem.out).1; omega, rfl, rfl⟩⟩
      have e0' : 0 < b.length := by omega
      have e0b : ((b.length : Int) == 0) = false := by simp; intro e; subst e; simp at e0'
      by_cases e1 : 300 < b.length
      · go_wp2_with fail
        go_ret2
        exact ⟨_, _, rfl, Hfr.out, .inr ⟨fun h => by have := (h.2.2.2.2 b Hmem.out).2; omega, rfl, rfl⟩⟩
      by_cases e2 : 384 < 12 + F + 2 + b.length
      · go_wp2_with fail
        go_ret2
        exact ⟨_, _, rfl, Hfr.out, .inr ⟨fun h => by have := h.2.2.2.1; have := Hst.out; have := Hle.out; omega, rfl, rfl⟩⟩
      have hL : (aren ++ be 8 st ++ body (l.take k)).length = 12 + F := by simp [aren, be_len, body_len]; have := HF.out; omega
      have hp := put_calls wr (l := aren ++ be 8 st ++ body (l.take k)) (by rw [hL]; exact Hsl.out) b.length 2 (by omega) (by decide) (by decide) (by omega)
      rw [hL, show ((2 : Nat) : Int) = 2 from rfl] at hp
      go_wp2_with fail
      refine hp.mono ?_
      rintro e w2 ⟨v2, rfl, hf2, hs2⟩
      clear hp hL
      obtain ⟨a2, c2, rfl, g5, g6, _⟩ := hs2.open
      have HB := Lib.hid (Hby.out.fr hf2 (fun q hq e => by
        have h1 := Hlt.out (fun e => by subst e; simp at e0') q hq
        have h2 := (Hsl.out.2 q e).1
        omega))
      have Hf2 := Lib.hid hf2
      have Hs2 := Lib.hid hs2
      clear hf2 hs2
      go_wp2_with (at_builtin; go_loud (refine wpList_append_any _ rfl _ _ _ rfl 5 Try.undB Try.inf5b rfl (by decide) rfl Hs2.out a' b.length c' (u8s b) rfl (by simp [u8s]) HB.out.news.2.2.2.1 HB.out.news.2.2.2.2 (u8s_one _) (by unfold maxLen; omega) (by omega) ?_); intro a5 c5 w5 happ)
      have Happ := Lib.hid happ
      clear happ
      go_roundw
      case rel =>
        have happ := Happ.out
        have hfw2 : Fr Non w w2 := Hfr.out.trans Hf2.out (fun q hq e => by have := (Hsl.out.2 q e).1; omega)
        have hfw5 : Fr Non w w5 := hfw2.trans happ.fr (fun q hq e => by
          rcases Hs2.out.2 q e with h | h
          · have := h.1; omega
          · have := h.1; have := Hfr.out.size; omega)
        have e : 12 + fits (l.take (k + 1)) = 12 + F + 2 + b.length := by have := Hst.out; omega
        have eb : u8s (aren ++ be 8 st ++ body (l.take (k + 1))) = u8s (aren ++ be 8 st ++ body (l.take k) ++ be 2 b.length) ++ u8s b := by
          rw [Htk.out, body_append, u8s_app]; simp [body, laid]
        have hsl5 : Sl (New w w5) w5 5 1 (.slice a5 (12 + fits (l.take (k + 1))) c5) (12 + fits (l.take (k + 1))) (u8s (aren ++ be 8 st ++ body (l.take (k + 1)))) := by
          rw [e, eb]
          refine happ.sl.mono (fun q hq => ?_)
          have z1 := Hfr.out.size
          have z2 := Hf2.out.size
          have z3 := happ.fr.size
          rcases hq with (h | h) | h
          · exact ⟨h.1, by have := h.2; omega⟩
          · exact ⟨by have := h.1; omega, by have := h.2; omega⟩
          · exact ⟨by omega, h.2⟩
        refine ⟨k + 1, a5, c5, by omega, by simp, by rw [e], hfw5, hsl5, by omega, fun c hc => ?_⟩
        · rw [Htk.out, List.mem_append, List.mem_singleton] at hc
          rcases hc with hc | rfl
          · exact Hok.out c hc
          · exact ⟨by omega, by omega⟩
      case measure => simp [intOf]; omega
    · have ek : k = l.length := by omega
      have hF : 12 + fits (l.take k) + (384 - (12 + fits (l.take k))) = 384 := by omega
      obtain ⟨v5, w5, hr, hs5, hf5⟩ := run_append_pad wr Hsl.out (384 - (12 + fits (l.take k))) (by omega) 26
      rw [hF] at hs5
      have Hg := Lib.hid (And.intro hs5 hf5)
      have hr' := hr
      have Hfe := Lib.hid (show fits (l.take k) = fits l by rw [ek, List.take_length])
      have Hbe := Lib.hid (show body (l.take k) = body l by rw [ek, List.take_length])
      have Hle := Lib.hid (show l.take k = l by rw [ek, List.take_length])
      obtain ⟨F, hFF⟩ : ∃ F, F = fits (l.take k) := ⟨_, rfl⟩
      rw [← hFF] at hft Hsl Hfe Hg hr hr' hF ⊢
      have HF := Lib.hid hFF
      clear hFF hs5 hf5 hF
      rw [show ((384 - (12 + F) : Nat) : Int) = 384 - (12 + (F : Int)) by omega] at hr
      have Hr := Lib.hid hr
      clear hr hr'
      go_wp2_with (at_builtin; go_loud (refine Lib.wpList_append_run _ rfl _ _ _ _ rfl _ (.int .i64 (384 - (12 + (F : Int)))) rfl rfl _ _ Hr.out ?_))
      go_ret2
      obtain ⟨hs5, hf5⟩ := Hg.out
      have hfw5 : Fr Non w w5 := Hfr.out.trans hf5 (fun q hq e => by have := (Hsl.out.2 q e).1; omega)
      refine ⟨_, _, rfl, hfw5, .inl ⟨⟨b1, by omega, fun e => by subst e; simp at b3', by have := Hfe.out; omega, fun c hc => Hok.out c (by rw [Hle.out]; exact hc)⟩, rfl, ?_⟩⟩
      have e : aren ++ be 8 st ++ body (l.take k) ++ List.replicate (384 - (12 + F)) 0 = block st l := by
        rw [Hbe.out, Hfe.out]; unfold block; congr 2; omega
      rw [e] at hs5
      refine hs5.mono fun q hq => ?_
      have z1 := Hfr.out.size
      have z2 := hf5.size
      rcases hq with h | h
      · exact ⟨h.1, by have := h.2; omega⟩
      · exact ⟨by have := h.1; omega, h.2⟩
end Go.Proofs.Ytlpkejklejaejaa
