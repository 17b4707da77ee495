/-
  FsopsCodes: the walk: what an error is, however deep it is wrapped.
-/
import Derived.Test.YtfcbnpkigobehaaGreatDoorInsOK
import Derived.Test.YtfcbnpkigobehaaGreatDoorFsopsLiveR10
set_option maxRecDepth 100000
namespace Go.Proofs.YtfcbnpkigobehaaGreatDoor
open Go.RowKit Ab
set_option linter.unusedVariables false
set_option linter.unusedSimpArgs false
set_option linter.constructorNameAsVariable false

/-- The handle of the type 'error' lies where errors.As looks for it. -/
def ErrT (w : World) : Prop := w.cell? ⟨0, 0, none⟩ = some (.iface 161 (.agg #[.pointer (some ⟨2, 25, none⟩)]))
theorem ErrT.below {w w' : World} (h : ErrT w) (hb : Below w.heap.size w w') : ErrT w' := by
  have := Go.block_lt_of_cell h
  unfold ErrT at *
  rw [← h]; simp only [World.cell?, hb.block _ this]
theorem below_cell {w w' : World} (hb : Below w.heap.size w w') {a : Addr} {v : Value} (h : w.cell? a = some v) : w'.cell? a = some v := by
  have := Go.block_lt_of_cell h
  rw [← h]; simp only [World.cell?, hb.block _ this]
theorem below_tr {w w1 w2 : World} (h : Below w.heap.size w w1) (k : Below w1.heap.size w1 w2) : Below w.heap.size w w2 :=
  ⟨k.os.trans h.os, k.tape.trans h.tape, k.output.trans h.output, Nat.le_trans h.size k.size, fun i hi => (k.block i (Nat.lt_of_lt_of_le hi h.size)).trans (h.block i hi)⟩
theorem live_calls (w : World) (hg : ErrT w) : Calls Tryz.prog 4 #[] w fun e w' => e = .returned (.bool true) ∧ Below w.heap.size w w' :=
  (fl_calls w (lawK_ok hg)).mono fun e w' h => ⟨h.1, h.2.below (Nat.le_refl _) (fun _ h => h.elim)⟩
theorem cell_after {W : World} {q : Nat} {t : TypeId} {u : Value} (n : Int) (h : W.heap[q]? = some (.cells #[u] t (0, 0))) : (W.setCell ⟨q, 0, none⟩ (.int .i64 n)).cell? ⟨q, 0, none⟩ = some (.int .i64 n) := by
  simp [World.cell?, World.setCell, Array.getElem?_modify, h]
theorem code_nil (w : World) : Calls Tryz.prog 5 #[.nilIface] w fun e w' => e = .returned (.int .i64 0) ∧ w' = w := by
  go_enter Tryz.func5, Tryz.ntmps5
  go_wp2
  go_ret
  exact ⟨rfl, rfl⟩
set_option maxHeartbeats 4000000 in
/-- What fsops.Code tells of a chain. -/
theorem code_calls (e : Value) (k : Nat) (r : Option Int) (w : World) (hc : Chn w k e r) (hg : ErrT w) : Calls Tryz.prog 5 #[e] w fun ev w' => ev = .returned (.int .i64 (r.getD 2)) ∧ Below w.heap.size w w' := by
  obtain ⟨tt, vv, rfl⟩ := hc.iface
  have hB : Below w.heap.size w (w.alloc (.cells #[.int .i64 0] 23)) := (Below.refl _ _).alloc (Nat.le_refl _) _
  have as1 := as_calls (.iface tt vv) ⟨w.heap.size, 0, none⟩ r k (.int .i64 0) (w.alloc (.cells #[.int .i64 0] 23)) (hc.mono (fun _ _ h => cell_lt _ h)) (hg.below hB) (by rw [World.cell?_alloc_at _ _ _ _ rfl]; rfl) (by rw [World.frozen?_alloc_at _ _ _ _ rfl])
  have hb0 := blk_new w (.cells #[.int .i64 0] 23) rfl
  have hsz : w.heap.size < (w.alloc (.cells #[.int .i64 0] 23)).heap.size := by simp
  have HB := Lib.hid hB
  have Hb0 := Lib.hid hb0
  have Hsz := Lib.hid hsz
  clear hB hb0 hsz hc hg
  go_enter Tryz.func5, Tryz.ntmps5
  cases r with
  | none =>
    go_wp2_with (go_at_call 13; refine as1.mono ?_; rintro e w' ⟨rfl, hpost⟩; obtain ⟨W, hW, rfl⟩ := hpost)
    go_ret
    exact ⟨rfl, below_tr HB.out hW⟩
  | some n =>
    go_wp2_with (go_at_call 13; refine as1.mono ?_; rintro e w' ⟨rfl, hpost⟩; obtain ⟨W, hW, rfl⟩ := hpost; have hcl := cell_after n ((hW.block _ Hsz.out).trans Hb0.out))
    go_ret
    exact ⟨rfl, below_tr HB.out hW |>.setCell (Nat.le_refl _) _⟩
/-- What fsops.Code tells of an error. -/
inductive CodeIs (w : World) : Value → Int → Prop
  | nil : CodeIs w .nilIface 0
  | chn (k : Nat) (e : Value) (r : Option Int) (h : Chn w k e r) : CodeIs w e (r.getD 2)
theorem code_any (e : Value) (m : Int) (w : World) (hg : ErrT w) (h : CodeIs w e m) : Calls Tryz.prog 5 #[e] w fun ev w' => ev = .returned (.int .i64 m) ∧ Below w.heap.size w w' := by
  cases h with
  | nil => exact (code_nil w).mono fun e w' h => ⟨h.1, by rw [h.2]; exact Below.refl _ _⟩
  | chn k e r h => exact code_calls e k r w h hg
set_option maxHeartbeats 8000000 in
set_option maxRecDepth 100000 in
theorem fsopsCodes_walk (n d : Int) (s : ByteArray) (w : World) (hg : ErrT w) : Calls Tryz.prog 3 #[.int .i64 n, .int .i64 d, .string s] w fun e w' => e = .returned (.bool true) ∧ Below w.heap.size w w' := by
  have Hg := Lib.hid hg
  clear hg
  go_enter Tryz.func3, Tryz.ntmps3
  by_cases hd0 : d < 0
  · go_wp2_with (go_at_call 4; refine (live_calls _ Hg.out).mono ?_; rintro e w' ⟨rfl, hf⟩)
    go_ret
    exact ⟨rfl, hf⟩
  by_cases hd1 : 50 < d
  · go_wp2_with (go_at_call 4; refine (live_calls _ Hg.out).mono ?_; rintro e w' ⟨rfl, hf⟩)
    go_ret
    exact ⟨rfl, hf⟩
  by_cases hs : 60000 < (s.size : Int)
  · go_wp2_with (go_at_call 4; refine (live_calls _ Hg.out).mono ?_; rintro e w' ⟨rfl, hf⟩)
    go_ret
    exact ⟨rfl, hf⟩
  obtain ⟨q, rfl⟩ : ∃ q : Nat, d = q := ⟨d.toNat, by omega⟩
  go_wp2_with fail
  go_loopw [7, 8, 9] (fun e f i wr => ∃ j : Nat, j ≤ q ∧ i = .int .i64 (j : Nat) ∧ Below w.heap.size w wr ∧ Chn wr j e (some n) ∧ Chn wr j f none) (fun _ _ i _ => q - (intOf i).toNat)
  case atStart => exact ⟨0, Nat.zero_le _, rfl, Below.refl _ _, .hit n, .wrNil⟩
  case round =>
    obtain ⟨j, hj, rfl, hB, he, hf⟩ := hrel
    obtain ⟨te, ve, rfl⟩ := he.iface
    obtain ⟨tf, vf, rfl⟩ := hf.iface
    have HB := Lib.hid hB
    have He := Lib.hid he
    have Hf := Lib.hid hf
    clear hB he hf
    by_cases hlt : j < q
    · by_cases hm : (j : Int) % 2 = 0
      · go_wp2_with fail
        exact ⟨⟨j + 1, by omega, by simp, HB.out, .wr _ _ _ He.out, .wr _ _ _ Hf.out⟩, by simp [intOf]; omega⟩
      · go_wp2_with fail
        refine ⟨⟨j + 1, by omega, by simp, HB.out.alloc HB.out.size _, .fs _ _ _ _ _ ?_ (He.out.mono (fun _ _ h => cell_lt _ h)), .wr _ _ _ (Hf.out.mono (fun _ _ h => cell_lt _ h))⟩, by simp [intOf]; omega⟩
        rw [World.cell?_alloc_at _ _ _ _ rfl]; rfl
    · go_wp2_with fail
      refine (code_calls _ j (some n) wr He.out (Hg.out.below HB.out)).mono ?_
      rintro e w1 ⟨rfl, h1⟩
      have H1 := Lib.hid h1
      clear h1
      go_wp2_with fail
      refine (code_calls _ j none w1 (Hf.out.mono (fun _ _ h => below_cell H1.out h)) ((Hg.out.below HB.out).below H1.out)).mono ?_
      rintro e w2 ⟨rfl, h2⟩
      have H2 := Lib.hid h2
      clear h2
      go_wp2_with fail
      refine (code_nil w2).mono ?_
      rintro e w2' ⟨rfl, rfl⟩
      go_wp2_with fail
      refine (live_calls _ (((Hg.out.below HB.out).below H1.out).below H2.out)).mono ?_
      rintro e w3 ⟨rfl, hf3⟩
      go_wp2_with fail
      go_ret
      exact ⟨rfl, below_tr (below_tr (below_tr HB.out H1.out) H2.out) hf3⟩
end Go.Proofs.YtfcbnpkigobehaaGreatDoor
