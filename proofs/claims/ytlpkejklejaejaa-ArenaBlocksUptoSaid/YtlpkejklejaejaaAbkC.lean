/-
  ArenaBlocks: own.
-/
import Derived.Test.YtlpkejklejaejaaAbkB
set_option maxRecDepth 100000
set_option linter.unusedVariables false
set_option linter.unusedSimpArgs false
set_option linter.constructorNameAsVariable false
namespace Go.Proofs.Ytlpkejklejaejaa
open Go.RowKit Abk

theorem undBB : Try.prog.underlying 23 = some (.slice 26) := by kernel_rfl
theorem infB : (Try.prog.info? 26).map (fun i => (i.zero, i.size, i.bytes)) = some (some (.slice none 0 0), 1, 24) := by kernel_rfl
/-- Slices of bytes among what is new, their bytes elsewhere than block g. -/
def Rows (X : Nat → Prop) (w : World) (v : Value) (ps : List Value) (l : List (List Int)) : Prop :=
  ps.length = l.length ∧ ∀ (j : Nat) (b : List Int), l[j]? = some b → ∃ s, ps[j]? = some s ∧ Byt w s b ∧ ∀ q, s.ownBlock = some q → X q ∧ v.ownBlock ≠ some q
theorem own_calls (v : Value) (l : List (List Int)) (w : World) (hs : fits l < 1048576) (h : Chs w v l) :
    Calls Try.prog 6 #[v] w fun e w' => ∃ v' ps, e = .returned v' ∧ Fr Non w w' ∧ Sl (New w w') w' 26 1 v' l.length ps ∧ Rows (New w w') w' v' ps l := by
  obtain ⟨a, c, rfl, h1, h2, h3⟩ := h
  have H3 := Lib.hid h3
  have hl := fits_ge l
  unfold maxLen at h2
  clear h3
  go_enter Try.func6, Try.ntmps6
  go_wp2_with fail
  go_loopw [3, 4] (fun s i wr => ∃ (k : Nat) (va : Option Addr) (vc : Nat) (ps : List Value), k ≤ l.length ∧ i = .int .i64 (k : Nat) ∧ s = .slice va k vc ∧ Fr Non w wr ∧ Sl (New w wr) wr 26 1 (.slice va k vc) k ps ∧ Rows (New w wr) wr (.slice va k vc) ps (l.take k)) (fun _ i _ => l.length - (intOf i).toNat)
  case atStart => exact ⟨0, none, 0, [], Nat.zero_le _, rfl, rfl, Fr.refl _ _, Sl.nil _ _ _ _, by simp, fun j b h => by simp at h⟩
  case round =>
    obtain ⟨k, va, vc, ps, hk, rfl, rfl, hf, hsl, hr⟩ := hrel
    have Hf := Lib.hid hf
    have Hsl := Lib.hid hsl
    have Hr := Lib.hid hr
    clear hf hsl hr
    by_cases hlt : k < l.length
    · obtain ⟨g, o, rfl, hc⟩ := H3.out.resolve_left (fun e => by rw [e] at hlt; simp at hlt)
      obtain ⟨s, hcell0, hby0⟩ := hc k l[k] (List.getElem?_eq_getElem hlt)
      have hcell := Hf.out.cell hcell0 (fun h => h.elim)
      have hby := hby0.fr Hf.out (fun _ _ h => h)
      have hb1 := fits_take_succ hlt
      have hb2 := fits_take_le l (k + 1)
      have Htk := Lib.hid (take_snoc' hlt)
      obtain ⟨b, hb⟩ : ∃ b, b = l[k] := ⟨_, rfl⟩
      rw [← hb] at hby hb1 Htk
      obtain ⟨a', c', rfl, g1, g2, _⟩ := id hby
      have hbl : b.length < 1048576 := by omega
      have HB := Lib.hid (hby.fr ((Fr.refl Non wr).alloc (.cells #[] 5)) (fun _ _ h => h))
      have hcell2 := ((Fr.refl Non wr).alloc (.cells #[] 5)).cell hcell (fun h => h)
      have hgl : g < wr.heap.size := World.block_lt_of_cell? wr _ hcell
      unfold maxLen at g2
      clear hc hby hby0 hcell0 hb1 hb2 hb
      go_wp2_with (first
        | (at_builtin; go_loud (refine wpList_append_any _ rfl _ _ _ rfl 5 Try.undB Try.inf5b rfl (by decide) rfl (fresh_at wr rfl) a' b.length c' (u8s b) rfl (by simp [u8s]) HB.out.news.2.2.2.1 HB.out.news.2.2.2.2 (u8s_one _) (by unfold maxLen; omega) (by omega) ?_); intro a5 c5 w5 happ; have hf15 : Fr Non wr w5 := ((Fr.refl _ _).alloc _).trans happ.fr (fun q hq e => by have : wr.heap.size = q := Option.some.inj e; omega); have Happ := Lib.hid happ; clear happ)
        | (at_builtin; go_loud (refine wpList_append_any _ rfl _ _ _ rfl 26 undBB infB rfl (by decide) rfl ((Hsl.out.fr hf15 (fun _ _ h => h)).alloc _) (some ⟨w5.heap.size, 0, none⟩) 1 1 [_] rfl (by simp) (fun e => by cases e) (fun ad e j u hu => by cases e; exact news_at _ _ _ rfl j u hu) (by simp [Value.oneCell']) (by unfold maxLen; omega) (by omega) ?_); intro a7 c7 w7 happ7))
      have happ5 : Appd _ _ _ _ (.slice (some ⟨wr.heap.size, 0, none⟩) 0 0) _ _ _ _ _ _ _ := Happ.out
      replace happ7 : Appd (New w wr) (w5.alloc (.cells #[Value.slice a5 b.length c5] 26)) 26 1 (.slice va k vc) k 1 ps [Value.slice a5 b.length c5] a7 c7 w7 := happ7
      have hs5 := happ5.sl
      simp only [Nat.zero_add, List.nil_append, World.size_alloc] at hs5
      have hz5 := hf15.size
      have hz7 := happ7.fr.size
      have hzw := Hf.out.size
      simp only [World.size_alloc] at hz7
      have hsp : ∀ q, (Value.slice va k vc).ownBlock = some q → New w wr q := fun q hq => Hsl.out.2 q hq
      have hnew : ∀ q, (Value.slice a5 b.length c5).ownBlock = some q → wr.heap.size ≤ q ∧ q < w5.heap.size := fun q hq => ⟨by rcases hs5.2 q hq with h | h <;> omega, hs5.lt q hq⟩
      have hF : Fr (fun q => (Value.slice va k vc).ownBlock = some q) wr w7 := (hf15.alloc _).mono (fun _ _ h => h.elim) |>.trans happ7.fr (fun _ _ h => h)
      have hF5 : Fr (fun q => (Value.slice va k vc).ownBlock = some q) w5 w7 := ((Fr.refl _ _).alloc _).trans happ7.fr (fun _ _ h => h)
      have hfw : Fr Non w w7 := (Hf.out.trans hF (fun q hq e => absurd (hsp q e).1 (by omega)))
      have hby5 : Byt w7 (.slice a5 b.length c5) b := (Byt.of_sl rfl hs5).fr hF5 (fun q hq e => by have := (hnew q hq).1; have := (hsp q e).2; omega)
      have Hg := Lib.hid (And.intro hfw (And.intro hby5 happ7))
      have Hh := Lib.hid (And.intro hsp (And.intro hnew hF))
      have hzz : wr.heap.size ≤ w5.heap.size ∧ w5.heap.size + 1 ≤ w7.heap.size ∧ w.heap.size ≤ wr.heap.size := ⟨hz5, hz7, hzw⟩
      clear hfw hby5 happ7 hsp hnew hF hF5 hs5 happ5 Happ hz5 hz7 hzw hf15 HB
      go_roundw
      case rel =>
        obtain ⟨hfw, hby5, happ7⟩ := Hg.out
        obtain ⟨hsp, hnew, hF⟩ := Hh.out
        refine ⟨k + 1, a7, c7, ps ++ [.slice a5 b.length c5], by omega, by simp, rfl, hfw, happ7.sl.mono (fun q hq => ?_), ?_, fun j b' hj => ?_⟩
        · rcases hq with hq | hq
          · exact ⟨hq.1, by have := hq.2; omega⟩
          · simp only [World.size_alloc] at hq
            exact ⟨by omega, hq.2⟩
        · have := Hr.out.1
          rw [Htk.out, List.length_append, List.length_append, this]; rfl
        · have hlen := Hr.out.1
          rw [Htk.out] at hj
          rcases Nat.lt_or_ge j (l.take k).length with hjk | hjk
          · rw [List.getElem?_append_left hjk] at hj
            obtain ⟨s, e1, e2, e3⟩ := Hr.out.2 j b' hj
            refine ⟨s, by rw [List.getElem?_append_left (by omega)]; exact e1, e2.fr hF (fun q hq e => (e3 q hq).2 e), fun q hq => ⟨⟨(e3 q hq).1.1, by have := (e3 q hq).1.2; omega⟩, fun e => ?_⟩⟩
            rcases happ7.own q e with h | h
            · exact (e3 q hq).2 h
            · simp only [World.size_alloc] at h
              have := (e3 q hq).1.2
              omega
          · rw [List.getElem?_append_right hjk] at hj
            have ej : j = (l.take k).length := by
              have := (List.getElem?_eq_some_iff.1 hj).1
              simp only [List.length_singleton] at this
              omega
            subst ej
            simp only [Nat.sub_self, List.getElem?_cons_zero, Option.some.injEq] at hj
            subst hj
            refine ⟨_, by rw [List.getElem?_append_right (by omega), hlen, Nat.sub_self]; rfl, hby5, fun q hq => ⟨⟨by have := (hnew q hq).1; omega, by have := (hnew q hq).2; omega⟩, fun e => ?_⟩⟩
            rcases happ7.own q e with h | h
            · have := (hsp q h).2
              have := (hnew q hq).1
              omega
            · simp only [World.size_alloc] at h
              have := (hnew q hq).2
              omega
      case measure => simp [intOf]; omega
    · have ek : k = l.length := by omega
      go_wp2_with fail
      go_ret
      refine ⟨_, ps, rfl, Hf.out, ?_, ?_⟩
      · have := Hsl.out
        rw [ek] at this ⊢
        exact this
      · have := Hr.out
        rw [ek, List.take_length] at this
        rw [ek]
        exact this
end Go.Proofs.Ytlpkejklejaejaa
