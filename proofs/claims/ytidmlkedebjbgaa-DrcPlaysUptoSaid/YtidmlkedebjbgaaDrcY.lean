/-
  The law 'DrcPlays': the walk.
-/
import Derived.Test.YtidmlkedebjbgaaDrcX
namespace Go.Proofs.Ytidmlkedebjbgaa
open Go.RowKit

def PlaysPost (B : Nat) (w : World) (e : Ending) (w' : World) : Prop := e = .returned (.bool true) ∧ Fr (B ≤ ·) w w'

set_option maxRecDepth 100000 in
set_option maxHeartbeats 2000000 in
theorem plays_calls (B : Nat) (w : World) (most : Int) (a : Option Addr) (c : Nat) (l : List ActD) (h : Acts B w a l) (hc : l.length ≤ c) (hcm : c ≤ maxLen) (hB : B ≤ w.heap.size) :
    Calls Try.prog 6 #[.int .i64 most, .slice a l.length c] w (PlaysPost B w) := by
  have Hlong := Lib.hid (longP B w a c l h hc hcm)
  have H := Lib.hid h
  unfold maxLen at hcm
  clear h
  go_enter Try.func6, Try.ntmps6
  go_wp2_with fail
  refine (Hlong.out).mono ?_
  rintro e w' ⟨lg, rfl, rfl, hshort⟩
  rcases lg with _ | _
  · obtain ⟨h80, hbig⟩ := hshort rfl
    by_cases hm : most < 1 ∨ 1024 < most
    · go_wp2_with (first
        | (go_at_call 9; refine (new_bad most _ hm).mono ?_; rintro e w' ⟨rfl, rfl⟩)
        | (go_at_call 22; refine (rnew_bad most _ hm).mono ?_; rintro e w' ⟨rfl, rfl⟩)
        | (go_at_call 10; refine (num_calls _ _).mono ?_; rintro e w' ⟨rfl, rfl⟩)
        | (go_at_call 8; refine (live_calls _).mono ?_; rintro e w1 ⟨rfl, hf1⟩))
      go_loopw [5, 9] (fun p i wr => p = .pointer none ∧ i = .int .i64 0 ∧ Fr Non w wr) (fun _ _ _ => 0)
      case atStart => exact ⟨rfl, rfl, hf1⟩
      case round =>
        obtain ⟨rfl, rfl, hfr⟩ := hrel
        go_wp2
        go_ret
        exact ⟨rfl, hfr.mono (fun _ _ h => h.elim)⟩
    · have h1 : 1 ≤ most := by omega
      have h2 : most ≤ 1024 := by omega
      go_wp2_with (first
        | (go_at_call 9; refine (newP most _ h1 h2).mono ?_; rintro e w1 ⟨cb, he, hf1, hp1⟩; unfold ptr at he; subst he)
        | (go_at_call 22; refine (rnew_calls most _ h1 h2).mono ?_; rintro e w2 ⟨rb, he, hf2, hr2⟩; unfold ptr at he; subst he)
        | (go_at_call 10; refine (num_calls _ _).mono ?_; rintro e w' ⟨rfl, rfl⟩)
        | (go_at_call 8; refine (live_calls _).mono ?_; rintro e w3 ⟨rfl, hf3⟩))
      have hz1 := hf1.size
      have hz2 := hf2.size
      have hf123 : Fr (B ≤ ·) w w3 := ((hf1.trans hf2 (fun _ _ h => h)).trans hf3 (fun _ _ h => h)).mono (fun _ _ h => h.elim)
      have htwo : Two B w3 cb rb (RS.new most) := ⟨_, _, (hp1.fr hf2 (fun _ _ h => h)).fr hf3 (fun _ _ h => h), hr2.fr hf3 (fun _ _ h => h), fun k hk hk' => by have := hk.2; have := hk'.1; omega, fun k hk => by have := hk.1; omega, fun k hk => by have := hk.1; omega⟩
      clear hp1 hr2
      go_loopw [5, 9] (fun p i wr => ∃ k ca r, k ≤ l.length ∧ i = .int .i64 (k : Nat) ∧ p = .pointer (some ⟨ca, 0, none⟩) ∧ Fr (B ≤ ·) w wr ∧ Two B wr ca rb r ∧ r.last ≤ k) (fun _ i _ => l.length - (intOf i).toNat)
      case atStart => exact ⟨0, cb, _, Nat.zero_le _, rfl, rfl, hf123, htwo, by simp [RS.new]⟩
      case round =>
        obtain ⟨k, ca, r, hk, rfl, rfl, hfr, htw, hla⟩ := hrel
        have Htw := Lib.hid htw
        clear htw
        by_cases hlt : k < l.length
        · have HA := H.out.fr hfr (fun _ h => h)
          obtain ⟨g, o, rfl, hg, hcl⟩ := HA.cells.resolve_left (by intro e; rw [e] at hlt; simp at hlt)
          obtain ⟨hb1, hlow, _⟩ := HA.bytes l[k] (by simp)
          have hb3 := hbig l[k] (by simp)
          obtain ⟨ba, bc, hbv, hbl, hbm, _⟩ := id hb1
          obtain ⟨hx0, hx1, hx2, hx3⟩ := hcl k hlt
          have hsz := hfr.size
          have hact := act_calls B wr ca rb r l[k] Htw.out (by omega) hb1 hlow hb3 (by omega)
          rw [hbv] at hx2 hact
          have Hact := Lib.hid hact
          clear hcl HA hb1 hlow hbv hact
          generalize l[k].kind = xk at *
          generalize l[k].client = xc at *
          generalize l[k].ticket = xt at *
          generalize l[k].bs.length = xn at *
          go_wp2_with (first
            | (go_at_call 23; go_loud (refine (Hact.out).mono ?_); rintro e w4 ⟨cd, r', he, hf4, ht4, hl4⟩; unfold ptr at he; subst he)
            | (go_at_call 24; go_loud (refine (tells_calls B _ cd rb r' ht4).mono ?_); rintro e w5 ⟨rfl, hf5⟩))
          go_roundw
          case rel => exact ⟨k + 1, cd, r', by omega, by go_num, rfl, (hfr.trans hf4 (fun _ _ h => h)).trans hf5 (fun _ _ h => h.elim), ht4.fr hf5 (fun _ h => h.elim), by omega⟩
          case measure => simp [intOf]; omega
        · obtain rfl : k = l.length := by omega
          go_wp2
          go_ret
          exact ⟨rfl, hfr⟩
  · go_wp2_with (go_at_call 8; refine (live_calls _).mono ?_; rintro e w1 ⟨rfl, hf1⟩)
    go_ret
    exact ⟨rfl, hf1.mono (fun _ _ h => h.elim)⟩
end Go.Proofs.Ytidmlkedebjbgaa
