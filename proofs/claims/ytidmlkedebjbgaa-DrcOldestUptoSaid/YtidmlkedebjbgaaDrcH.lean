/-
  drc: Copy.
-/
import Derived.Test.YtidmlkedebjbgaaDrcG
import Derived.Deep.RegionLaw
namespace Go.Proofs.Ytidmlkedebjbgaa
open Go.RowKit

theorem Try.und78 : Try.prog.underlying 78 = some (.map 66 66) := by kernel_rfl
theorem ptrLaw : KeyFn Try.prog 66 ptr Isb where
  under := ⟨_, Try.und66, fun a b r h => by simp [Instr.sameNow] at h⟩
  eq := by
    intro w a b ha hb
    obtain ⟨j, hj, hs⟩ := Try.inf68
    by_cases e : a = b
    · subst e
      have h : ∀ d : Nat, (Op.equalIn (d + 1) 66 (.pointer (some ⟨a, 0, none⟩)) (.pointer (some ⟨a, 0, none⟩))).run Try.prog w = .ok true w := fun d => by
        simp [Op.equalIn, run_underlying Try.und66, sizeOf, typeInfo, hj, run_sameAddr_same]
      rw [decide_eq_true rfl]
      exact h 9999
    · obtain ⟨c, t, ha⟩ := ha
      obtain ⟨c', t', hb⟩ := hb
      have h : ∀ d : Nat, (Op.equalIn (d + 1) 66 (.pointer (some ⟨a, 0, none⟩)) (.pointer (some ⟨b, 0, none⟩))).run Try.prog w = .ok false w := fun d => by
        simp [Op.equalIn, run_underlying Try.und66, sizeOf, typeInfo, hj, hs, run_sameAddr_other w (a := ⟨a, 0, none⟩) (b := ⟨b, 0, none⟩) (fun e0 => e (by cases e0; rfl)) ha hb]
      rw [decide_eq_false e]
      exact h 9999
  check := by
    intro w a e
    have h : ∀ d : Nat, (Instr.checkKey e (d + 1) 66 (.pointer (some ⟨a, 0, none⟩))).run Try.prog w = .ok () w := fun d => by
      unfold Instr.checkKey
      simp [run_underlying Try.und66]
    exact h 9999
  bits := by intro a; simp [ptr, Instr.sameBits]

theorem copy_nil (w : World) : Calls Try.prog 25 #[.pointer none] w fun e w' => e = .returned (.pointer none) ∧ w = w' := by
  go_enter Try.func25, Try.ntmps25
  go_wp2
  go_ret
  exact ⟨rfl, rfl⟩

/-- A copy of the first k entries; f x is the new block of x. -/
def PS.cp (s : PS) (f : Nat → Nat) (k : Nat) : PS := ⟨s.most, s.last, (s.l.take k).map (fun p => (f p.1, p.2)), []⟩
def PS.same (s : PS) (f : Nat → Nat) (k : Nat) : List (Nat × Value) := (s.l.take k).map (fun p => (p.1, ptr (f p.1)))
theorem PS.cp_len {s : PS} {f : Nat → Nat} {k : Nat} (h : k ≤ s.l.length) : (s.cp f k).ptrs.length = k := by simp [PS.cp, PS.ptrs]; omega
theorem PS.take_ne {s : PS} (h : Good s) {k : Nat} (hk : k < s.l.length) : ∀ p ∈ s.l.take k, s.l[k].1 ≠ p.1 ∧ s.l[k].2.key ≠ p.2.key := by
  intro p hp
  have h1 : s.l = s.l.take k ++ s.l.drop k := (List.take_append_drop k s.l).symm
  have hd : s.l[k] ∈ s.l.drop k := by
    have := List.drop_eq_getElem_cons hk
    rw [this]; exact List.mem_cons_self
  constructor
  · intro e
    have hn := h.ptrs
    unfold PS.ptrs at hn
    rw [h1, List.map_append, List.nodup_append] at hn
    exact hn.2.2 p.1 (List.mem_map.2 ⟨p, hp, rfl⟩) s.l[k].1 (List.mem_map.2 ⟨_, hd, rfl⟩) e.symm
  · intro e
    have hn := h.keys
    rw [h1, List.pairwise_append] at hn
    exact hn.2.2 p hp _ hd e.symm
theorem map_if {α β : Type} {l : List α} {g g' : α → β} (h : ∀ x ∈ l, g x = g' x) : l.map g = l.map g' := List.map_congr_left h
theorem PS.cp_snoc {s : PS} (h : Good s) {f : Nat → Nat} {k q : Nat} (hk : k < s.l.length) :
    s.cp (fun x => if x = s.l[k].1 then q else f x) (k + 1) = { s.cp f k with l := (s.cp f k).l ++ [(q, s.l[k].2)] } := by
  unfold PS.cp
  rw [take_snoc' hk, List.map_append]
  congr 1
  congr 1
  · refine map_if fun p hp => ?_
    simp only [if_neg (Ne.symm (PS.take_ne h hk p hp).1)]
  · simp
theorem PS.same_snoc {s : PS} (h : Good s) {f : Nat → Nat} {k q : Nat} (hk : k < s.l.length) :
    s.same (fun x => if x = s.l[k].1 then q else f x) (k + 1) = s.same f k ++ [(s.l[k].1, ptr q)] := by
  unfold PS.same
  rw [take_snoc' hk, List.map_append]
  congr 1
  · refine map_if fun p hp => ?_
    simp only [if_neg (Ne.symm (PS.take_ne h hk p hp).1)]
  · simp

def CopyPost (s : PS) (w : World) (e : Ending) (w' : World) : Prop := ∃ (b' : Nat) (f : Nat → Nat), e = .returned (ptr b') ∧ Fr Non w w' ∧ IsC (New w w') w' b' { s with l := s.l.map (fun p => (f p.1, p.2)), old := s.old.map f } ∧ ∀ x ∈ s.ptrs, ∀ y ∈ s.ptrs, f x = f y → x = y

set_option maxHeartbeats 1000000 in
theorem copy_calls (X : Nat → Prop) (w : World) (b : Nat) (s : PS) (h : IsC X w b s) (hg : Good s) : Calls Try.prog 25 #[ptr b] w (CopyPost s w) := by
  obtain ⟨mb, lv, ov, h⟩ := h
  have hll := hg.few
  have hl2 := hg.most2
  have hlen : s.l.length ≤ 1024 := by omega
  have holen := hg.oldLen
  obtain ⟨la, lc, rfl, _, _, _, hrow⟩ := h.l.open
  obtain ⟨oa, oc, rfl, _, _, _, horow⟩ := h.old.open
  have hc := blk_cell h.top
  have hb := lt_of_block h.top
  have hpl : s.ptrs.length = s.l.length := by simp [PS.ptrs]
  rw [hpl] at hc hrow
  have H := Lib.hid h
  have Hg := Lib.hid hg
  have hc0 := hc 0
  have hc4 := hc 4
  simp only [List.getElem?_toArray, List.getElem?_cons_zero, List.getElem?_cons_succ] at hc0 hc4
  have hmk := @run_makeMap Try.prog
  clear hpl hg hll hl2 h
  unfold ptr
  go_enter Try.func25, Try.ntmps25
  go_wp2
  go_region_held3 (fun w' => w'.cell? ⟨b, 0, none⟩ = some (.int .i64 s.most) ∧ w'.cell? ⟨b, 4, none⟩ = some (.int .u64 s.last))
    (go_keep)
    ((fail))
  have hfr0 : Fr Non w ((((w.alloc (.map #[] 0)).alloc (.cells #[.int .i64 s.most, .map (some w.heap.size), .slice none 0 0, .slice none 0 0, .int .u64 s.last] 63)).alloc (.map #[] 0)).drew) := ((((Fr.refl Non w).alloc _).alloc _).alloc _).drew
  have hc3 := blk_cell (hfr0.keep H.out.top (fun h => h))
  rw [show s.ptrs.length = s.l.length by simp [PS.ptrs]] at hc3
  go_wp2
  go_loopw [29, 6] (fun i _ wr => ∃ (k : Nat) (f : Nat → Nat) (va : Option Addr) (vc : Nat), k ≤ s.l.length ∧ i = .int .i64 k ∧ Fr Non w wr ∧ IsCat (New w wr) wr (w.heap.size + 1) (s.cp f k) w.heap.size (.slice va k vc) (.slice none 0 0) ∧
      MapIs wr (w.heap.size + 1 + 1) ptr (s.same f k) ∧ (∀ x ∈ s.ptrs.take k, f x < wr.heap.size) ∧ ∀ x ∈ s.ptrs.take k, ∀ y ∈ s.ptrs.take k, f x = f y → x = y) (fun i _ _ => s.l.length - (intOf i).toNat)
  case atStart =>
    refine ⟨0, id, none, 0, Nat.zero_le _, rfl, hfr0, ?_, ?_, by simp, by simp⟩
    · exact {
        top := blk_old_some (blk_new (n := w.heap.size + 1) (w.alloc (.map #[] 0)) (.cells #[.int .i64 s.most, .map (some w.heap.size), .slice none 0 0, .slice none 0 0, .int .u64 s.last] 63) (by simp)) _
        xb := ⟨by omega, by simp⟩
        xm := ⟨by omega, by simp; omega⟩
        map := ⟨#[], 0, blk_old_some (blk_old_some (blk_new w _ rfl) _) _, by simp [Ents, PS.cp, PS.ents]⟩
        l := by simpa [PS.cp, PS.ptrs] using Sl.nil _ _ _ _
        old := Sl.nil _ _ _ _
        apart := fun j hj => by cases hj
        ents := fun p hp => by simp [PS.cp] at hp
        lt := fun j hj => hj.2 }
    · exact ⟨#[], 0, blk_new _ _ (by simp), by simp [Ents, PS.same]⟩
  case round =>
    obtain ⟨k, f, va, vc, hk, rfl, hfr, hcat, hsame, hflt, hinj⟩ := hrel
    have Hcat := Lib.hid hcat
    have Hsame := Lib.hid hsame
    have Hflt := Lib.hid hflt
    have Hinj := Lib.hid hinj
    have hdc := blk_cell hcat.top
    have hdf := blk_free hcat.top
    have hdl := lt_of_block hcat.top
    have hsl := hsame.lt
    clear hcat hsame hflt hinj
    by_cases hlt : k < s.l.length
    · obtain ⟨g, rfl, _, _, hcl⟩ : ∃ g, la = some ⟨g, 0, none⟩ ∧ _ := hrow.resolve_left (by omega)
      have hcell : wr.cell? ⟨g, k, none⟩ = some (ptr s.l[k].1) := hfr.cell (hcl k _ (by simp [PS.ptrs, hlt])) (fun h => h)
      have hqb := hfr.keep (H.out.ents s.l[k] (by simp)).2 (fun h => h)
      have hec := blk_cell hqb
      have Hqb := Lib.hid hqb
      have Hq : Hid (s.l[k] ∈ s.l) := by simp [Hid]
      have Hcp := Lib.hid (fun q => PS.cp_snoc (q := q) (f := f) Hg.out hlt)
      have Hsm := Lib.hid (fun q => PS.same_snoc (q := q) (f := f) Hg.out hlt)
      have Hne := Lib.hid (PS.take_ne Hg.out hlt)
      have Hpt : Hid (s.ptrs.take (k + 1) = s.ptrs.take k ++ [s.l[k].1]) := by
        have h1 : k < s.ptrs.length := by simp [PS.ptrs, hlt]
        have := take_snoc' h1
        simpa [PS.ptrs, Hid] using this
      have hisb : ∀ o, ∀ p ∈ s.same f k, Isb (wr.alloc o) p.1 := fun o p hp => by
        obtain ⟨p0, hp0, rfl⟩ := List.mem_map.1 hp
        exact ⟨_, _, blk_old_some (hfr.keep (H.out.ents p0 (List.mem_of_mem_take hp0)).2 (fun h => h)) o⟩
      have hisq : ∀ o, Isb (wr.alloc o) s.l[k].1 := fun o => ⟨_, _, blk_old_some hqb o⟩
      have Hisb := Lib.hid hisb
      have Hisq := Lib.hid hisq
      unfold Ent.cells at hec
      unfold ptr at hcell
      clear hcl hqb hisb hisq
      generalize s.l[k] = q at *
      go_wp2_with (at_mapUpdate; refine wpList_mapUpdate_key (mt := 78) ptrLaw _ rfl _ _ _ rfl rfl (Hsame.out.fr ((Fr.refl Non wr).alloc _) (fun h => h)) Try.und78 q.1 rfl (Hisq.out _) (Hisb.out _) (ptr wr.heap.size) rfl ?_; intro w2 hmd2)
      have hfr12 : Fr (· = w.heap.size + 1 + 1) wr w2 := ((Fr.refl (· = w.heap.size + 1 + 1) wr).alloc _).trans hmd2.fr (fun _ _ h => h)
      have hdn : w.heap.size + 1 ≠ w.heap.size + 1 + 1 := by omega
      have htop2 := hfr12.keep Hcat.out.top hdn
      have hq2 := hmd2.fr.keep (blk_new (n := wr.heap.size) wr _ rfl) (by have := hsl; omega)
      have hdc2 := blk_cell htop2
      have hdf2 := blk_free htop2
      have hqc2 := blk_cell hq2
      have Htop2 := Lib.hid htop2
      have Hq2 := Lib.hid hq2
      clear htop2 hq2 hdc hdf hec
      go_wp2
      refine region_tail 6 (by kernel_rfl) (by kernel_rfl) ?_
      simp only [List.take_succ_cons, List.take_zero, List.drop_succ_cons, List.drop_zero]
      repeat still_step
      refine wpStill_nil ?_
      refine wpList_mapUpdate_key (mt := 60) keyLaw _ rfl _ _ _ rfl rfl (Hcat.out.map.fr (hfr12.drew) (fun e => by omega)) Try.und60 q.2.key rfl trivial (fun _ _ => trivial) (ptr wr.heap.size) rfl ?_
      intro w3 hmd3
      have hz2 := Lib.hid hmd2.size
      have hz3 := Lib.hid hmd3.size
      have hz30 : wr.heap.size < w3.heap.size := by have h1 := hz2.out; have h2 := hz3.out; simp at h1 h2; omega
      have hfr23 : Fr (· = w.heap.size) w2 w3 := (((Fr.refl (· = w.heap.size) w2).drew).trans hmd3.fr (fun _ _ h => h))
      have hdn1 : w.heap.size + 1 ≠ w.heap.size := by omega
      have hqn1 : wr.heap.size ≠ w.heap.size := by omega
      have htop3 := hfr23.keep Htop2.out hdn1
      have hq3 := hfr23.keep Hq2.out hqn1
      have hl3 : Sl (New w wr) w3 66 1 (.slice va k vc) k ((s.cp f k).ptrs.map ptr) := by
        have h0 := Hcat.out.l
        rw [PS.cp_len hk] at h0
        refine ⟨ownsRow_fr hfr23 (ownsRow_fr hfr12 h0.1 (fun j hj e => ?_)) (fun j hj e => (Hcat.out.dis.bl j hj).2 e), h0.2⟩
        obtain ⟨c, hc⟩ := h0.row hj
        exact Hsame.out.ne hc e
      have hdc3 := blk_cell htop3
      have hdf3 := blk_free htop3
      have Htop3 := Lib.hid htop3
      have Hq3 := Lib.hid hq3
      clear hdc2 hdf2 hqc2 htop3 hq3
      go_wp2_with (at_builtin; refine wpList_append_sl _ rfl _ _ _ rfl 66 (by kernel_rfl) Try.inf66 rfl (by decide) rfl (hl3.alloc _) ⟨w3.heap.size, 0, none⟩ 1 1 [ptr wr.heap.size] rfl rfl (news_at _ _ _ rfl) (by simp [ptr, Value.oneCell']) (by unfold maxLen; omega) (by omega) ?_; intro a5 c5 w5 happ; have hfr35 : Fr (fun j => (Value.slice va k vc).ownBlock = some j) w3 w5 := ((Fr.refl _ _).alloc _).trans happ.fr (fun _ _ h => h); have htop5 := hfr35.keep Htop3.out (fun e => (Hcat.out.dis.bl _ e).1 rfl); have hdc5 := blk_cell htop5; have hdf5 := blk_free htop5; have Htop5 := Lib.hid htop5; clear htop5 hdc3 hdf3)
      go_roundw
      case rel =>
        have hcat := Hcat.out
        have hd := hcat.dis
        have hz2' : w2.heap.size = wr.heap.size + 1 := by have := hz2.out; simpa using this
        have hz3' : w3.heap.size = wr.heap.size + 1 := by have := hz3.out; simp at this; omega
        have hz5 := happ.fr.size
        have h6 := blk_set (i := 2) Htop5.out (.slice a5 (k + 1) c5)
        have hfr56 := Fr.one w5 (w.heap.size + 1) 2 (.slice a5 (k + 1) c5)
        generalize w5.setCell ⟨w.heap.size + 1, 2, none⟩ (.slice a5 (k + 1) c5) = w6 at *
        have hz6 := hfr56.size
        simp only [World.size_alloc] at hz5
        have hfr36 : Fr (fun j => (Value.slice va k vc).ownBlock = some j ∨ j = w.heap.size + 1) w3 w6 := (hfr35.mono (fun _ _ h => .inl h)).trans hfr56 (fun _ _ h => .inr h)
        have hfr26 : Fr (fun j => j = w.heap.size ∨ (Value.slice va k vc).ownBlock = some j ∨ j = w.heap.size + 1) w2 w6 := (hfr23.mono (fun _ _ h => .inl h)).trans hfr36 (fun _ _ h => .inr h)
        have hfr06 : Fr (fun j => j = w.heap.size + 1 + 1 ∨ j = w.heap.size ∨ (Value.slice va k vc).ownBlock = some j ∨ j = w.heap.size + 1) wr w6 := (hfr12.mono (fun _ _ h => .inl h)).trans hfr26 (fun _ _ h => .inr h)
        have hown : ∀ j, (Value.slice a5 (k + 1) c5).ownBlock = some j → (Value.slice va k vc).ownBlock = some j ∨ wr.heap.size < j := fun j hj => (happ.own j hj).imp id (fun h => by simp at h; omega)
        have hfrw : Fr Non w w6 := hfr.trans hfr06 (fun i hi h => h.elim (fun h => by omega) (fun h => h.elim (fun h => by omega) (fun h => h.elim (fun h => by have := (hcat.l.2 _ h).1; omega) (fun h => by omega))))
        have hne := Hne.out
        have hwr := hfr.size
        have hsame_ne : ∀ p ∈ (s.cp f k).l, p.1 ≠ w.heap.size + 1 + 1 := fun p hp => Hsame.out.ne (hcat.ents p hp).2
        refine ⟨k + 1, fun x => if x = q.1 then wr.heap.size else f x, a5, c5, by omega, by go_num, hfrw, ?_, ?_, ?_, ?_⟩
        · rw [Hcp.out]
          exact {
            top := h6
            xb := ⟨by omega, by omega⟩
            xm := ⟨by omega, by omega⟩
            map := by
              have hm := hmd3.is
              rw [mput_new (by
                intro p hp
                simp only [PS.cp, PS.ents, List.map_map, List.mem_map, Function.comp] at hp
                obtain ⟨p0, hp0, rfl⟩ := hp
                exact (hne p0 hp0).2)] at hm
              have := hm.fr hfr36 (fun h => h.elim (fun h => (hd.bl _ h).2 rfl) (fun h => by omega))
              simpa [PS.ents] using this
            l := by
              have hp : (PS.ptrs { s.cp f k with l := (s.cp f k).l ++ [(wr.heap.size, q.2)] }) = (s.cp f k).ptrs ++ [wr.heap.size] := by simp [PS.ptrs]
              rw [hp, List.map_append, List.length_append, PS.cp_len hk]
              refine ⟨ownsRow_fr hfr56 happ.sl.1 (fun j hj e => (hown j hj).elim (fun h => (hd.bl j h).1 e) (fun h => by omega)), fun j hj => ?_⟩
              rcases happ.sl.2 j hj with h | h
              · exact ⟨h.1, by have := h.2; omega⟩
              · have h1 := h.1; have h2 := h.2; simp at h1; exact ⟨by omega, by omega⟩
            old := Sl.nil _ _ _ _
            apart := fun j _ h => by cases h
            ents := by
              intro p hp
              rcases List.mem_append.1 hp with hp | hp
              · have he := hcat.ents p hp
                have hs := hsame_ne p hp
                exact ⟨⟨he.1.1, by have := he.1.2; omega⟩, hfr06.keep he.2 (fun h => h.elim hs (fun h => h.elim (hd.e p hp).2.1 (fun h => h.elim (hd.e p hp).2.2.1 (hd.e p hp).1)))⟩
              · rw [List.mem_singleton] at hp
                subst hp
                exact ⟨⟨by omega, by omega⟩, hfr36.keep Hq3.out (fun h => h.elim (fun h => by have := hcat.l.lt _ h; omega) (fun h => by omega))⟩
            lt := fun j hj => hj.2 }
        · rw [Hsm.out]
          have hm := hmd2.is
          rw [mput_new (by
            intro p hp
            obtain ⟨p0, hp0, rfl⟩ := List.mem_map.1 hp
            exact (hne p0 hp0).1)] at hm
          refine hm.fr hfr26 (fun h => h.elim (fun h => by omega) (fun h => h.elim (fun h => ?_) (fun h => by omega)))
          obtain ⟨c, hc⟩ := hcat.l.row h
          exact Hsame.out.ne hc rfl
        · intro x hx
          rw [Hpt.out] at hx
          by_cases e : x = q.1
          · simp only [if_pos e]; omega
          · simp only [if_neg e]
            rcases List.mem_append.1 hx with hx | hx
            · have := Hflt.out x hx; omega
            · exact absurd (List.mem_singleton.1 hx) e
        · intro x hx y hy hxy
          rw [Hpt.out] at hx hy
          simp only at hxy
          have hlow : ∀ z ∈ s.ptrs.take k ++ [q.1], z ≠ q.1 → z ∈ s.ptrs.take k := fun z hz hne => (List.mem_append.1 hz).elim id (fun h => absurd (List.mem_singleton.1 h) hne)
          by_cases e : x = q.1
          · by_cases e' : y = q.1
            · rw [e, e']
            · rw [if_pos e, if_neg e'] at hxy
              have := Hflt.out y (hlow y hy e'); omega
          · by_cases e' : y = q.1
            · rw [if_neg e, if_pos e'] at hxy
              have := Hflt.out x (hlow x hx e); omega
            · rw [if_neg e, if_neg e'] at hxy
              exact Hinj.out x (hlow x hx e) y (hlow y hy e') hxy
      case measure => simp [intOf]; omega
    · obtain rfl : k = s.l.length := by omega
      clear hlt
      have hc9 := blk_cell (hfr.keep H.out.top (fun h => h))
      go_wp2
      obtain ⟨wo, rfl⟩ : ∃ wo : World, wo = wr := ⟨_, rfl⟩
      have Hfro := Lib.hid hfr
      clear hdc hdf hdl hsl hfr hrow hc9
      go_loopw [59, 9] (fun i _ wr => ∃ (k : Nat) (ua : Option Addr) (uc : Nat), k ≤ s.old.length ∧ i = .int .i64 k ∧ Fr Non w wr ∧ IsCat (New w wr) wr (w.heap.size + 1) { s.cp f s.l.length with old := (s.old.take k).map f } w.heap.size (.slice va s.l.length vc) (.slice ua k uc) ∧
        MapIs wr (w.heap.size + 1 + 1) ptr (s.same f s.l.length)) (fun i _ _ => s.old.length - (intOf i).toNat)
      case atStart => exact ⟨0, none, 0, Nat.zero_le _, rfl, Hfro.out, Hcat.out, Hsame.out⟩
      case round =>
        obtain ⟨k, ua, uc, hk2, rfl, hfr, hcat, hsame⟩ := hrel
        have Hcat2 := Lib.hid hcat
        have Hsame2 := Lib.hid hsame
        have hdc := blk_cell hcat.top
        have hdf := blk_free hcat.top
        have hdl := lt_of_block hcat.top
        have hsl := hsame.lt
        have hol2 : Sl (New w wr) wr 66 1 (.slice ua k uc) k (((s.old.take k).map f).map ptr) := by
          have := hcat.old
          simpa [Nat.min_eq_left hk2] using this
        by_cases hlt : k < s.old.length
        · obtain ⟨g, rfl, hgX, hgl, hcl⟩ : ∃ g, oa = some ⟨g, 0, none⟩ ∧ _ := horow.resolve_left (by omega)
          have hcell : wr.cell? ⟨g, k, none⟩ = some (ptr s.old[k]) := hfr.cell (hcl k _ (by simp [hlt])) (fun h => h)
          have hoin : s.old[k] ∈ s.old := by simp
          obtain ⟨e, he, hed⟩ := Hg.out.oldIn _ hoin
          have hlk : ∀ x, Fr Non wr x ∨ Fr (fun j => (Value.slice ua k uc).ownBlock = some j) wr x → (Instr.lookup 78 (.map (some (w.heap.size + 1 + 1))) (ptr s.old[k]) false).run Try.prog x = .ok (ptr (f s.old[k])) x := by
            intro x hx
            have hm : MapIs x (w.heap.size + 1 + 1) ptr (s.same f s.l.length) := hx.elim (fun h => hsame.fr h (fun h => h)) (fun h => hsame.fr h (fun h => by
              obtain ⟨c, hc⟩ := hcat.old.row h; exact hsame.ne hc rfl))
            have hisb : ∀ p ∈ s.l, Isb x p.1 := fun p hp => by
              have h0 := hfr.keep (H.out.ents p hp).2 (fun h => h)
              have hb0 := lt_of_block (H.out.ents p hp).2
              exact hx.elim (fun h => ⟨_, _, h.keep h0 (fun h => h)⟩) (fun h => ⟨_, _, h.keep h0 (fun h => by have := (hcat.old.2 _ h).1; omega)⟩)
            have := run_lookup_key ptrLaw x hm Try.und78 (Try.zero66 x) s.old[k] (hisb _ he) (fun p hp => by
              obtain ⟨p0, hp0, rfl⟩ := List.mem_map.1 hp; exact hisb p0 (List.mem_of_mem_take hp0))
            rw [this]
            congr 1
            unfold PS.same
            rw [List.take_length]
            have key : ∀ l : List (Nat × Ent), (s.old[k], e) ∈ l → (mget s.old[k] (l.map fun p => (p.1, ptr (f p.1)))).getD (.pointer none) = ptr (f s.old[k]) := by
              intro l
              induction l with
              | nil => intro h; cases h
              | cons p t ih =>
                intro hm
                simp only [List.map_cons, mget]
                by_cases e' : s.old[k] = p.1
                · simp [e']
                · rw [if_neg e']
                  rcases List.mem_cons.1 hm with h | h
                  · rw [← h] at e'; exact absurd rfl e'
                  · exact ih h
            exact key s.l he
          have Hlk := Lib.hid hlk
          have Hsn := Lib.hid (take_snoc' hlt)
          unfold ptr at hcell
          have hd3 := hdc 3
          simp only [List.getElem?_toArray, List.getElem?_cons_zero, List.getElem?_cons_succ] at hd3
          clear hcl hlk hcat hsame horow
          generalize s.old[k] = q at *
          have hl0 := Hlk.out wr (.inl (Fr.refl _ _))
          unfold ptr at hl0
          go_wp2
          have hl1 := Hlk.out wr.drew (.inl (Fr.refl _ _).drew)
          unfold ptr at hl1
          go_region_law (first | (refine step_append_sl (by rfl) _ _ _ (by rfl) 66 (by kernel_rfl) Try.inf66 rfl (by decide) (by rfl) ((hol2.alloc _).drew) ⟨wr.heap.size, 0, none⟩ 1 1 [ptr (f q)] (by rfl) (by rfl) (news_at _ _ _ (by simp)) (by simp [ptr, Value.oneCell']) (by unfold maxLen; omega) (by omega) ?_; intro a5 c5 w5 happ; have hfr5 : Fr (fun j => (Value.slice ua k uc).ownBlock = some j) wr w5 := ((Fr.refl _ _).alloc _).drew.trans happ.fr (fun _ _ h => h); have htop5 := hfr5.keep Hcat2.out.top (fun e => (Hcat2.out.dis.bo _ e).1 rfl); have hdc5 := blk_cell htop5; have hdf5 := blk_free htop5; have Htop5 := Lib.hid htop5; clear htop5))
          all_goals
            have Happ := Lib.hid happ
            clear happ hl0 hl1
            go_wp2
            go_roundw
            case rel =>
              have hcat := Hcat2.out
              have hd := hcat.dis
              have h6 := blk_set (i := 3) Htop5.out (.slice a5 (k + 1) c5)
              have hfr56 := Fr.one w5 (w.heap.size + 1) 3 (.slice a5 (k + 1) c5)
              have hz5 := Happ.out.fr.size
              generalize w5.setCell ⟨w.heap.size + 1, 3, none⟩ (.slice a5 (k + 1) c5) = w6 at *
              have hz6 := hfr56.size
              have hwr := hfr.size
              have hz0 : wr.heap.size + 1 ≤ w5.heap.size := by simpa using hz5
              have hfr06 : Fr (fun j => (Value.slice ua k uc).ownBlock = some j ∨ j = w.heap.size + 1) wr w6 := (hfr5.mono (fun _ _ h => .inl h)).trans hfr56 (fun _ _ h => .inr h)
              have hown : ∀ j, (Value.slice a5 (k + 1) c5).ownBlock = some j → (Value.slice ua k uc).ownBlock = some j ∨ wr.heap.size < j := fun j hj => (Happ.out.own j hj).imp id (fun h => by simp at h; omega)
              refine ⟨k + 1, a5, c5, by omega, by go_num, hfr.trans hfr06 (fun i hi h => h.elim (fun h => by have := (hcat.old.2 _ h).1; omega) (fun h => by omega)), ?_, ?_⟩
              · exact {
                  top := h6
                  xb := ⟨by omega, by omega⟩
                  xm := ⟨by omega, by omega⟩
                  map := hcat.map.fr hfr06 (fun h => h.elim (fun h => (hd.bo _ h).2 rfl) (fun h => by omega))
                  l := ⟨ownsRow_fr hfr06 hcat.l.1 (fun j hj h => h.elim (fun h => hd.lo j hj h) (fun h => (hd.bl j hj).1 h)), fun j hj => ⟨(hcat.l.2 j hj).1, by have := (hcat.l.2 j hj).2; omega⟩⟩
                  old := by
                    have h1 := Happ.out.sl
                    have e : ((s.old.take (k + 1)).map f).length = k + 1 := by simp; omega
                    rw [e, Hsn.out, List.map_append, List.map_append]
                    refine ⟨ownsRow_fr hfr56 h1.1 (fun j hj e => (hown j hj).elim (fun h => (hd.bo j h).1 e) (fun h => by omega)), fun j hj => ?_⟩
                    rcases h1.2 j hj with h | h
                    · exact ⟨h.1, by have := h.2; omega⟩
                    · have h2 := h.1; have h3 := h.2; simp at h2; exact ⟨by omega, by omega⟩
                  apart := fun j hj hj' => (hown j hj').elim (fun h => hd.lo j hj h) (fun h => by have := hcat.l.lt _ hj; omega)
                  ents := fun p hp => by
                    have he := hcat.ents p hp
                    exact ⟨⟨he.1.1, by have := he.1.2; omega⟩, hfr06.keep he.2 (fun h => h.elim (hd.e p hp).2.2.2 (hd.e p hp).1)⟩
                  lt := fun j hj => hj.2 }
              · exact Hsame2.out.fr hfr06 (fun h => h.elim (fun h => by obtain ⟨c, hc⟩ := hcat.old.row h; exact Hsame2.out.ne hc rfl) (fun h => by omega))
            case measure => simp [intOf]; omega
        · obtain rfl : k = s.old.length := by omega
          have Hc2 := Lib.hid hcat
          clear hcat hsame hdc hdf hol2 horow
          go_wp2
          go_ret
          unfold CopyPost
          refine ⟨w.heap.size + 1, f, rfl, hfr, ⟨w.heap.size, .slice va s.l.length vc, .slice ua s.old.length uc, ?_⟩, ?_⟩
          · have := Hc2.out
            rw [List.take_length] at this
            simpa [PS.cp] using this
          · have := Hinj.out
            rw [show s.l.length = s.ptrs.length by simp [PS.ptrs], List.take_length] at this
            exact this
end Go.Proofs.Ytidmlkedebjbgaa
