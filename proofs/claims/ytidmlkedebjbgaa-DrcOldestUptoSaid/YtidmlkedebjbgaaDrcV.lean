/-
  The document's cache: Done, Forget, Clear, Same, an Arrive for which there is no room; the program's Arrive likewise.
-/
import Derived.Test.YtidmlkedebjbgaaDrcU
namespace Go.Proofs.Ytidmlkedebjbgaa
open Go.RowKit

def RS.fin (r : RS) (i : Nat) (t : Int) (s : ByteArray) : RS := { r with L := r.L.modify i (fun e => { e with done := true, reply := s }), D := r.D ++ [t] }
theorem rowsE_modify (l : List Ent) (i : Nat) (h : i < l.length) (s : ByteArray) : rowsE (l.modify i (fun e => { e with done := true, reply := s })) = ((rowsE l).set (i * 5 + 4) (.bool true)).set (i * 5 + 3) (.string s) := by
  induction l generalizing i with
  | nil => cases h
  | cons p t ih =>
    have e : ∀ p t, rowsE (p :: t) = e24 p ++ rowsE t := fun p t => by simp [rowsE, List.flatMap_cons]
    cases i with
    | zero => simp [e, e24]
    | succ i =>
      rw [List.modify_succ_cons, e, e, ih i (by simpa using h)]
      have h1 : (i + 1) * 5 + 4 = (e24 p).length + (i * 5 + 4) := by simp [e24]; omega
      have h2 : (i + 1) * 5 + 3 = (e24 p).length + (i * 5 + 3) := by simp [e24]; omega
      rw [h1, h2, List.set_append_right _ _ (by omega), List.set_append_right _ _ (by omega)]
      simp

theorem rdone_none (X : Nat → Prop) (w : World) (b : Nat) (r : RS) (t : Int) (s : ByteArray) (h : IsR X w b r) (hlen : r.L.length ≤ 1024) (hf : r.find t = -1) : Calls Try.prog 29 #[ptr b, .int .u64 t, .string s] w fun e w' => e = .returned (.int .i64 240) ∧ w = w' := by
  have hc := rfind_calls X w b r t h hlen
  rw [hf] at hc
  have Hc := Lib.hid hc
  clear hc hf h
  unfold ptr
  go_enter Try.func29, Try.ntmps29
  go_wp2_with (go_at_call 36; refine (Hc.out).mono ?_; rintro e w' ⟨rfl, rfl⟩)
  go_ret
  exact ⟨rfl, rfl⟩
theorem rdone_long (X : Nat → Prop) (w : World) (b : Nat) (r : RS) (t : Int) (s : ByteArray) (h : IsR X w b r) (hlen : r.L.length ≤ 1024) (i : Nat) (hf : r.find t = i) (hs : 4096 < s.size) : Calls Try.prog 29 #[ptr b, .int .u64 t, .string s] w fun e w' => e = .returned (.int .i64 1) ∧ w = w' := by
  have hc := rfind_calls X w b r t h hlen
  rw [hf] at hc
  have Hc := Lib.hid hc
  have hi : ¬ (i : Int) < 0 := by omega
  clear hc hf h
  unfold ptr
  go_enter Try.func29, Try.ntmps29
  go_wp2_with (go_at_call 36; refine (Hc.out).mono ?_; rintro e w' ⟨rfl, rfl⟩)
  go_ret
  exact ⟨rfl, rfl⟩

set_option maxHeartbeats 400000 in
theorem rdone_calls (X : Nat → Prop) (w : World) (b : Nat) (r : RS) (t : Int) (s : ByteArray) (h : IsR X w b r) (hlen : r.L.length ≤ 1024) (hdlen : r.D.length ≤ 1024) (i : Nat) (hi : i < r.L.length) (hf : r.find t = i) (hs : s.size ≤ 4096) :
    Calls Try.prog 29 #[ptr b, .int .u64 t, .string s] w fun e w' => e = .returned (.int .i64 0) ∧ Fr X w w' ∧ IsR (Nw X w w') w' b (r.fin i t s) := by
  have hc := rfind_calls X w b r t h hlen
  rw [hf] at hc
  have Hc := Lib.hid hc
  have hi0 : ¬ (i : Int) < 0 := by omega
  obtain ⟨lv, dv, h⟩ := h
  have hdl := h.dl
  have hdd := h.dd
  have hl0 := h.l
  obtain ⟨la, lc, rfl, _, _, _, hrow⟩ := h.l.open
  obtain ⟨da, dc, rfl, _, _, _, _⟩ := h.d.open
  obtain ⟨g, rfl, hgX, hgl, hcl⟩ := hrow.resolve_left (by omega)
  have hgb := hdl g rfl
  have hl1 := (hl0.put (g := g) (j := i * 5 + 4) rfl (by rw [rowsE_len]; omega) (.bool true)).put (g := g) (j := i * 5 + 3) rfl (by rw [List.length_set, rowsE_len]; omega) (.string s)
  rw [← rowsE_modify _ _ hi] at hl1
  have hc3 : w.cell? ⟨g, i * 5 + 3, none⟩ = some (.string r.L[i].reply) := hcl _ _ (by rw [rowsE_at _ _ hi 3 (by omega)]; rfl)
  have hc4 : w.cell? ⟨g, i * 5 + 4, none⟩ = some (.bool r.L[i].done) := hcl _ _ (by rw [rowsE_at _ _ hi 4 (by omega)]; rfl)
  obtain ⟨cg, hcg⟩ := hl0.row (k := g) rfl
  have hfg := blk_free hcg
  have hcb := blk_cell h.top
  have hfb := blk_free h.top
  have hbl := lt_of_block h.top
  have n1 : g ≠ b := hgb.1
  have n2 : b ≠ g := Ne.symm n1
  have hfr2 : Fr (· = g) w ((w.setCell ⟨g, i * 5 + 4, none⟩ (.bool true)).setCell ⟨g, i * 5 + 3, none⟩ (.string s)) := (Fr.one _ _ _ _).setCell (p := ⟨g, i * 5 + 3, none⟩) (fun _ => rfl) _
  have hd2 : Sl X ((w.setCell ⟨g, i * 5 + 4, none⟩ (.bool true)).setCell ⟨g, i * 5 + 3, none⟩ (.string s)) 28 1 _ r.D.length (r.D.map (Value.int .u64)) := ⟨ownsRow_fr hfr2 h.d.1 (fun k hk e => hgb.2 (e ▸ hk)), h.d.2⟩
  have H := Lib.hid h
  have Hl1 := Lib.hid hl1
  clear hc hf h hl0 hl1 hcl hrow hcg
  generalize r.L[i] = q at *
  unfold ptr
  go_enter Try.func29, Try.ntmps29
  go_wp2_with (first | (go_at_call 36; refine (Hc.out).mono ?_; rintro e w' ⟨rfl, rfl⟩) | (at_builtin; refine wpList_append_sl _ rfl _ _ _ rfl 28 (by kernel_rfl) Try.inf28 rfl (by decide) rfl (hd2.alloc _) ⟨w.heap.size, 0, none⟩ 1 1 [.int .u64 t] rfl rfl (news_at _ _ _ (by simp)) (by simp [Value.oneCell']) (by unfold maxLen; omega) (by omega) ?_; intro a5 c5 w5 happ; have hfr25 : Fr (fun j => (Value.slice da r.D.length dc).ownBlock = some j) ((w.setCell ⟨g, i * 5 + 4, none⟩ (.bool true)).setCell ⟨g, i * 5 + 3, none⟩ (.string s)) w5 := ((Fr.refl _ _).alloc _).trans happ.fr (fun _ _ h => h); have htop5 := hfr25.keep (hfr2.keep H.out.top n2) (fun e => hdd _ e rfl); have hdc5 := blk_cell htop5; have hdf5 := blk_free htop5; have Htop5 := Lib.hid htop5; clear htop5))
  go_ret
  have h := H.out
  have hz5 := happ.fr.size
  simp at hz5
  have h6 := blk_set (i := 2) Htop5.out (.slice a5 (r.D.length + 1) c5)
  have hfr56 := Fr.one w5 b 2 (.slice a5 (r.D.length + 1) c5)
  generalize w5.setCell ⟨b, 2, none⟩ (.slice a5 (r.D.length + 1) c5) = w6 at *
  have hz6 := hfr56.size
  have hfr26 : Fr (fun j => (Value.slice da r.D.length dc).ownBlock = some j ∨ j = b) ((w.setCell ⟨g, i * 5 + 4, none⟩ (.bool true)).setCell ⟨g, i * 5 + 3, none⟩ (.string s)) w6 := (hfr25.mono (fun _ _ h => .inl h)).trans hfr56 (fun _ _ h => .inr h)
  have hown : ∀ j, (Value.slice a5 (r.D.length + 1) c5).ownBlock = some j → (Value.slice da r.D.length dc).ownBlock = some j ∨ w.heap.size ≤ j := fun j hj => (happ.own j hj).imp id (fun h => by simp at h; omega)
  refine ⟨rfl, ((hfr2.mono (fun _ _ (e : _ = g) => e ▸ hgX)).trans hfr26 (fun _ _ h' => h'.elim (fun h' => h.d.2 _ h') (fun e => e ▸ h.xb))), .slice (some ⟨g, 0, none⟩) r.L.length lc, .slice a5 (r.D.length + 1) c5, ?_⟩
  exact {
    top := h6
    xb := .inl h.xb
    l := by
      have e : (r.fin i t s).L.length = r.L.length := by simp [RS.fin]
      rw [e]
      exact ⟨ownsRow_fr hfr26 Hl1.out.1 (fun j hj e => by
        simp only [Value.ownBlock, Option.some.injEq] at hj
        subst hj
        exact e.elim hgb.2 n1), fun j hj => .inl (Hl1.out.2 j hj)⟩
    d := by
      have e : (r.fin i t s).D = r.D ++ [t] := rfl
      rw [e, List.map_append, List.length_append]
      refine ⟨ownsRow_fr hfr56 happ.sl.1 (fun j hj e => (hown j hj).elim (fun h' => hdd j h' e) (fun h' => by omega)), fun j hj => (hown j hj).imp (fun h' => h.d.2 j h') (fun h' => ⟨h', Nat.lt_of_lt_of_le (happ.sl.lt j hj) hz6⟩)⟩
    lt := fun k hk => hk.elim (fun hk => by have := h.lt k hk; omega) (fun hk => hk.2) }

theorem rforget_none (X : Nat → Prop) (w : World) (b : Nat) (r : RS) (t : Int) (h : IsR X w b r) (hlen : r.L.length ≤ 1024) (hf : r.find t = -1) : Calls Try.prog 30 #[ptr b, .int .u64 t] w fun e w' => e = .returned (.int .i64 240) ∧ w = w' := by
  have hc := rfind_calls X w b r t h hlen
  rw [hf] at hc
  have Hc := Lib.hid hc
  clear hc hf h
  unfold ptr
  go_enter Try.func30, Try.ntmps30
  go_wp2_with (go_at_call 36; refine (Hc.out).mono ?_; rintro e w' ⟨rfl, rfl⟩)
  go_ret
  exact ⟨rfl, rfl⟩
theorem rforget_calls (X : Nat → Prop) (w : World) (b : Nat) (r : RS) (t : Int) (h : IsR X w b r) (hlen : r.L.length ≤ 1024) (hdlen : r.D.length ≤ 1024) (i : Nat) (hf : r.find t = i) :
    Calls Try.prog 30 #[ptr b, .int .u64 t] w fun e w' => e = .returned (.int .i64 0) ∧ Fr X w w' ∧ IsR (Nw X w w') w' b (r.take t) := by
  have hc := rfind_calls X w b r t h hlen
  rw [hf] at hc
  have Hc := Lib.hid hc
  have Ht := Lib.hid (rtake_calls X w b r t h hlen hdlen)
  have hi : ¬ (i : Int) < 0 := by omega
  clear hc hf h
  unfold ptr
  go_enter Try.func30, Try.ntmps30
  go_wp2_with (first | (go_at_call 36; refine (Hc.out).mono ?_; rintro e w' ⟨rfl, rfl⟩) | (go_at_call 35; refine (Ht.out).mono ?_; rintro e w' ⟨rfl, hfr, hi⟩))
  go_ret
  exact ⟨rfl, hfr, hi⟩
def RS.clear (r : RS) : RS := { r with L := [], D := [] }
theorem rclear_calls (X : Nat → Prop) (w : World) (b : Nat) (r : RS) (h : IsR X w b r) : Calls Try.prog 31 #[ptr b] w fun e w' => e = .returned (.tuple #[]) ∧ Fr X w w' ∧ IsR X w' b r.clear := by
  obtain ⟨lv, dv, h⟩ := h
  have hc := blk_cell h.top
  have hf := blk_free h.top
  have H := Lib.hid h
  clear h
  unfold ptr
  go_enter Try.func31, Try.ntmps31
  go_wp2
  go_end0
  have h := H.out
  have hfr : Fr (· = b) w ((w.setCell ⟨b, 1, none⟩ (.slice none 0 0)).setCell ⟨b, 2, none⟩ (.slice none 0 0)) := (Fr.one _ _ _ _).setCell (p := ⟨b, 2, none⟩) (fun _ => rfl) _
  refine ⟨rfl, hfr.mono (fun _ _ (e : _ = b) => e ▸ h.xb), .slice none 0 0, .slice none 0 0, ?_⟩
  exact {
    top := blk_set (i := 2) (blk_set (i := 1) h.top (.slice none 0 0)) (.slice none 0 0)
    xb := h.xb
    l := Sl.nil _ _ _ _
    d := Sl.nil _ _ _ _
    lt := fun k hk => Nat.lt_of_lt_of_le (h.lt k hk) hfr.size }
end Go.Proofs.Ytidmlkedebjbgaa
