/-
  drc: a Cache in memory ('IsC') and what its methods make of it.
-/
import Derived.Test.YtidmlkedebjbgaaDrcA
namespace Go.Proofs.Ytidmlkedebjbgaa
open Go.RowKit

structure Ent where
  client : Int
  rcd : ByteArray
  ticket : Int
  reply : ByteArray
  done : Bool
def Ent.cells (e : Ent) : Array Value := #[.int .i64 e.client, .string e.rcd, .int .u64 e.ticket, .string e.reply, .bool e.done]
def Ent.key (e : Ent) : Int × ByteArray := (e.client, e.rcd)
/-- What a Cache holds: the entries with their blocks, by rising tickets; the blocks of those that are done, the oldest first. -/
structure PS where
  most : Int
  last : Int
  l : List (Nat × Ent)
  old : List Nat
def kf (k : Int × ByteArray) : Value := .agg #[.int .i64 k.1, .string k.2]
def PS.ents (s : PS) : List ((Int × ByteArray) × Value) := s.l.map fun p => (p.2.key, ptr p.1)
def PS.ptrs (s : PS) : List Nat := s.l.map (·.1)
def PS.out (s : PS) (x : Nat) : PS := { s with l := s.l.filter (fun p => !decide (p.1 = x)), old := keeps x s.old }

/-- The parts of a Cache at block b, its memory among X. -/
structure IsCat (X : Nat → Prop) (w : World) (b : Nat) (s : PS) (mb : Nat) (lv ov : Value) : Prop where
  top : w.heap[b]? = some (.cells #[.int .i64 s.most, .map (some mb), lv, ov, .int .u64 s.last] 63 (0, 0))
  xb : X b
  xm : X mb
  map : MapIs w mb kf s.ents
  l : Sl X w 66 1 lv s.ptrs.length (s.ptrs.map ptr)
  old : Sl X w 66 1 ov s.old.length (s.old.map ptr)
  apart : ∀ k, lv.ownBlock = some k → ov.ownBlock ≠ some k
  ents : ∀ p ∈ s.l, X p.1 ∧ w.heap[p.1]? = some (.cells p.2.cells 68 (0, 0))
  lt : ∀ k, X k → k < w.heap.size
def IsC (X : Nat → Prop) (w : World) (b : Nat) (s : PS) : Prop := ∃ mb lv ov, IsCat X w b s mb lv ov

/-- What holds of every Cache that is reached. -/
structure Good (s : PS) : Prop where
  most1 : 1 ≤ s.most
  most2 : s.most ≤ 1024
  few : (s.l.length : Int) ≤ s.most
  keys : s.l.Pairwise (fun p q => p.2.key ≠ q.2.key)
  ptrs : s.ptrs.Nodup
  old : s.old.Nodup
  oldIn : ∀ o ∈ s.old, ∃ e, (o, e) ∈ s.l ∧ e.done = true
  inOld : ∀ p ∈ s.l, p.2.done = true → p.1 ∈ s.old
  rising : s.l.Pairwise (fun p q => p.2.ticket < q.2.ticket)
  lo : ∀ p ∈ s.l, 1 ≤ p.2.ticket ∧ p.2.ticket ≤ s.last
  last : 0 ≤ s.last
  reply : ∀ p ∈ s.l, p.2.done = false → p.2.reply = ⟨#[]⟩

theorem Good.oldLen {s : PS} (h : Good s) : s.old.length ≤ s.l.length := by
  have h1 : s.old ⊆ s.ptrs := fun o ho => by
    obtain ⟨e, he, _⟩ := h.oldIn o ho
    exact List.mem_map.2 ⟨_, he, rfl⟩
  have := h.old.length_le_of_subset h1
  simpa [PS.ptrs] using this

theorem Good.del {s : PS} (h : Good s) {p : Nat × Ent} (hp : p ∈ s.l) : mdel p.2.key s.ents = (s.out p.1).ents := by
  have key : ∀ l : List (Nat × Ent), l.Pairwise (fun p q => p.2.key ≠ q.2.key) → (l.map (·.1)).Nodup → p ∈ l → mdel p.2.key (l.map fun p => (p.2.key, ptr p.1)) = (l.filter (fun q => !decide (q.1 = p.1))).map fun p => (p.2.key, ptr p.1) := by
    intro l
    induction l with
    | nil => intro _ _ h; cases h
    | cons q t ih =>
      intro hk hn hm
      rw [List.pairwise_cons] at hk
      rw [List.map_cons, List.nodup_cons] at hn
      simp only [List.map_cons, mdel]
      rcases List.mem_cons.1 hm with rfl | hm
      · rw [if_pos rfl, List.filter_cons_of_neg (by simp)]
        rw [List.filter_eq_self.2]
        intro q hq; simp; intro e; exact hn.1 (List.mem_map.2 ⟨q, hq, e⟩)
      · rw [if_neg (Ne.symm (hk.1 p hm)), List.filter_cons_of_pos (by simp; intro e; exact hn.1 (List.mem_map.2 ⟨p, hm, e.symm⟩)), List.map_cons, ih hk.2 hn.2 hm]
  exact key s.l h.keys h.ptrs hp

theorem Good.inj {s : PS} (h : Good s) {p q : Nat × Ent} (hp : p ∈ s.l) (hq : q ∈ s.l) (e : p.1 = q.1) : p = q := by
  have key : ∀ l : List (Nat × Ent), (l.map (·.1)).Nodup → p ∈ l → q ∈ l → p = q := by
    intro l
    induction l with
    | nil => intro _ h; cases h
    | cons r t ih =>
      intro hn hp1 hq1
      rw [List.map_cons, List.nodup_cons] at hn
      rw [List.mem_cons] at hp1 hq1
      rcases hp1 with hp1 | hp1 <;> rcases hq1 with hq1 | hq1
      · rw [hp1, hq1]
      · exact (hn.1 (List.mem_map.2 ⟨q, hq1, by rw [← e, hp1]⟩)).elim
      · exact (hn.1 (List.mem_map.2 ⟨p, hp1, by rw [e, hq1]⟩)).elim
      · exact ih hn.2 hp1 hq1
  exact key s.l h.ptrs hp hq
theorem PS.out_ptrs (s : PS) (x : Nat) : (s.out x).ptrs = keeps x s.ptrs := by
  unfold PS.ptrs PS.out keeps; rw [List.filter_map]; rfl

theorem Try.und60 : Try.prog.underlying 60 = some (.map 65 66) := by kernel_rfl
theorem Try.zero66 (w : World) : (zeroValue 66).run Try.prog w = .ok (.pointer none) w := by kernel_rfl

theorem bytes_beq (a b : ByteArray) : (a == b) = decide (a = b) := by
  have h : (a == b) = (a.data == b.data) := rfl
  rw [h]
  cases a; cases b
  rw [Bool.eq_iff_iff]; simp
theorem keyLaw : KeyFn Try.prog 65 kf (fun _ _ => True) where
  under := ⟨_, (by kernel_rfl : Try.prog.underlying 65 = some (.struct (Try.prog.fieldsOf 65))), fun a b r h => by simp [Instr.sameNow] at h⟩
  eq := by
    intro w a b _ _
    obtain ⟨c, s⟩ := a
    obtain ⟨c', s'⟩ := b
    unfold kf
    simp [go_sem, Op.equal, Op.maxDepth]
    by_cases h1 : c = c'
    · by_cases h2 : s = s'
      · simp [h1, h2]
      · have : ¬ s.toList = s'.toList := fun e => h2 (by
          have := beq_toListBytes s s'
          rw [e, bytes_beq] at this; simpa using this)
        simp [h1, h2, this]
    · simp [h1]
  check := by
    intro w a e
    obtain ⟨c, s⟩ := a
    unfold kf
    have hf : Try.prog.underlying 65 = some (.struct (Try.prog.fieldsOf 65)) := by kernel_rfl
    unfold Instr.checkKey
    simp [go_sem, run_underlying hf]
    have h3 : (Instr.checkKey e 9999 3 (.int .i64 c)).run Try.prog w = .ok () w := MapKept.run_checkKey (d := .int .i64) (by kernel_rfl) (by trivial) e 9998
    have h9 : (Instr.checkKey e 9999 9 (.string s)).run Try.prog w = .ok () w := MapKept.run_checkKey (d := .string) (by kernel_rfl) (by trivial) e 9998
    simp [h3, h9]
  bits := by
    intro a
    simp [kf, Instr.sameBits]
    rw [bytes_beq]; simp

theorem keeps_sub (x : Nat) (ps : List Nat) : ∀ p ∈ keeps x ps, p ∈ ps := fun _ hp => (List.mem_filter.1 hp).1

/-- DeleteFunc over a row that is owned. -/
theorem deleteFunc_sl (w : World) (X : Nat → Prop) (v : Value) (ps : List Nat) (x cb : Nat) (hv : Sl X w 66 1 v ps.length (ps.map ptr)) (hcb : w.cell? ⟨cb, 0, none⟩ = some (ptr x)) (hne : ¬ X cb) (hps : ∀ p ∈ ps, Isb w p) (hx : Isb w x) :
    Calls Try.prog 34 #[v, .func (.func 33) #[] #[ptr cb]] w fun e w' =>
      ∃ v', e = .returned v' ∧ v'.ownBlock = v.ownBlock ∧ Fr (fun k => v.ownBlock = some k) w w' ∧ Sl X w' 66 1 v' (keeps x ps).length ((keeps x ps).map ptr) := by
  by_cases hmem : x ∈ ps
  · rcases hv.1.2 with ⟨rfl, h0⟩ | ⟨g, cap, cur, rfl, _, hg, hnc, hcm, hcs, ht⟩
    · rw [List.length_eq_zero_iff] at h0; subst h0; cases hmem
    · refine (deleteFunc_calls w g cap cur ps x cb hg hnc hcm (by omega) (by simpa using ht) hcb (fun e => hne (e ▸ hv.2 g rfl)) hps hx hmem).mono ?_
      rintro e w' ⟨rfl, hfr, cur', hg', hs', ht'⟩
      exact ⟨_, rfl, rfl, hfr.mono (by rintro k _ rfl; rfl), ⟨by simp, .inr ⟨g, cap, cur', rfl, Nat.zero_le _, hg', Nat.le_trans (keeps_len _ _) hnc, hcm, by omega, by simpa using ht'⟩⟩, fun k hk => hv.2 k hk⟩
  · have hi := indexFunc_calls w X v ps x cb hv hcb hps hx
    rw [idx_not hmem] at hi
    have HI := Lib.hid hi
    have hk := keeps_not hmem
    have HV := Lib.hid hv
    clear hi
    go_enter Try.func34, Try.ntmps34
    go_wp2_with (go_at_call 37; refine (HI.out).mono ?_; rintro e w' ⟨rfl, rfl⟩)
    go_ret
    exact ⟨_, rfl, rfl, Fr.refl _ _, by rw [hk]; exact HV.out⟩

/-- No two parts of a Cache lie in one block. -/
structure Dis (s : PS) (b mb : Nat) (lv ov : Value) : Prop where
  bm : b ≠ mb
  bl : ∀ k, lv.ownBlock = some k → k ≠ b ∧ k ≠ mb
  bo : ∀ k, ov.ownBlock = some k → k ≠ b ∧ k ≠ mb
  lo : ∀ k, lv.ownBlock = some k → ov.ownBlock ≠ some k
  e : ∀ p ∈ s.l, p.1 ≠ b ∧ p.1 ≠ mb ∧ lv.ownBlock ≠ some p.1 ∧ ov.ownBlock ≠ some p.1
theorem IsCat.dis {X : Nat → Prop} {w : World} {b : Nat} {s : PS} {mb : Nat} {lv ov : Value} (h : IsCat X w b s mb lv ov) : Dis s b mb lv ov where
  bm := h.map.ne h.top
  bl := fun k hk => by obtain ⟨c, hc⟩ := h.l.row hk; exact ⟨blk_ne_type hc h.top (by decide), h.map.ne hc⟩
  bo := fun k hk => by obtain ⟨c, hc⟩ := h.old.row hk; exact ⟨blk_ne_type hc h.top (by decide), h.map.ne hc⟩
  lo := h.apart
  e := fun p hp => by
    have he := (h.ents p hp).2
    refine ⟨blk_ne_type he h.top (by decide), h.map.ne he, fun hk => ?_, fun hk => ?_⟩
    · obtain ⟨c, hc⟩ := h.l.row hk; exact blk_ne_type he hc (by decide) rfl
    · obtain ⟨c, hc⟩ := h.old.row hk; exact blk_ne_type he hc (by decide) rfl

set_option maxHeartbeats 400000 in
theorem out_calls (X : Nat → Prop) (w : World) (b : Nat) (s : PS) (p : Nat × Ent) (h : IsC X w b s) (hs : Good s) (hp : p ∈ s.l) :
    Calls Try.prog 26 #[ptr b, ptr p.1] w fun e w' => e = .returned (.tuple #[]) ∧ Fr X w w' ∧ IsC X w' b (s.out p.1) := by
  obtain ⟨mb, lv, ov, h⟩ := h
  have hd := h.dis
  have hb := lt_of_block h.top
  have hpe := h.ents p hp
  have hpl := lt_of_block hpe.2
  -- the world behind the box, the draw and the delete
  have hfr1 : Fr Non w ((w.alloc (.cells #[.pointer (some ⟨p.1, 0, none⟩)] 66)).drew) := ((Fr.refl _ _).alloc _).drew
  obtain ⟨o, hdel, hmap2⟩ := run_delete_key (ty := 0) (kt' := 65) keyLaw _ (h.map.fr hfr1 (fun h => h)) Try.und60 p.2.key trivial (fun _ _ => trivial)
  rw [hs.del hp] at hmap2
  have hfr2 : Fr X w (putObj ((w.alloc (.cells #[.pointer (some ⟨p.1, 0, none⟩)] 66)).drew) mb o) := (hfr1.mono (fun _ _ h => h.elim)).putObj (fun _ => h.xm) o
  have hcb2 : (putObj ((w.alloc (.cells #[.pointer (some ⟨p.1, 0, none⟩)] 66)).drew) mb o).heap[w.heap.size]? = some (.cells #[.pointer (some ⟨p.1, 0, none⟩)] 66 (0, 0)) := by
    rw [putObj_other _ _ _ _ (by have := h.map.lt; omega)]; exact heap_alloc_new w _
  have hsame2 : ∀ k, k < w.heap.size → k ≠ mb → (putObj ((w.alloc (.cells #[.pointer (some ⟨p.1, 0, none⟩)] 66)).drew) mb o).heap[k]? = w.heap[k]? := fun k hk hne => by
    rw [putObj_other _ _ _ _ hne]; exact blk_old _ hk
  have hsz2 : w.heap.size < (putObj ((w.alloc (.cells #[.pointer (some ⟨p.1, 0, none⟩)] 66)).drew) mb o).heap.size := lt_of_block hcb2
  have hcell1 := blk_cell h.top
  have hpc := blk_cell hpe.2
  unfold Ent.cells at hpc
  unfold Ent.key kf at hdel
  generalize putObj ((w.alloc (.cells #[.pointer (some ⟨p.1, 0, none⟩)] 66)).drew) mb o = W2 at *
  have htop2 : W2.heap[b]? = some (.cells #[.int .i64 s.most, .map (some mb), lv, ov, .int .u64 s.last] 63 (0, 0)) := (hsame2 b hb hd.bm).trans h.top
  have hl2 : Sl X W2 66 1 lv s.ptrs.length (s.ptrs.map ptr) := by
    refine ⟨ownsRow_fr (X := (· = mb)) ⟨hfr2.os, hfr2.tape, hfr2.output, hfr2.size, fun k hk hn => hsame2 k hk hn⟩ h.l.1 (fun k hk => (hd.bl k hk).2), h.l.2⟩
  have ho2 : Sl X W2 66 1 ov s.old.length (s.old.map ptr) := by
    refine ⟨ownsRow_fr (X := (· = mb)) ⟨hfr2.os, hfr2.tape, hfr2.output, hfr2.size, fun k hk hn => hsame2 k hk hn⟩ h.old.1 (fun k hk => (hd.bo k hk).2), h.old.2⟩
  have he2 : ∀ q ∈ s.l, W2.heap[q.1]? = some (.cells q.2.cells 68 (0, 0)) := fun q hq => (hsame2 q.1 (h.lt _ (h.ents q hq).1) (hd.e q hq).2.1).trans (h.ents q hq).2
  have hcbc : W2.cell? ⟨w.heap.size, 0, none⟩ = some (ptr p.1) := by rw [blk_cell hcb2]; rfl
  have hnx : ¬ X w.heap.size := fun hx => by have := h.lt _ hx; omega
  have hps2 : ∀ q ∈ s.ptrs, Isb W2 q := fun q hq => by obtain ⟨r, hr, rfl⟩ := List.mem_map.1 hq; exact ⟨_, _, he2 r hr⟩
  have hdf1 := Lib.hid (deleteFunc_sl W2 X lv s.ptrs p.1 w.heap.size hl2 hcbc hnx hps2 ⟨_, _, he2 p hp⟩)
  have H := Lib.hid h
  have Hd := Lib.hid hd
  have Hs := Lib.hid hs
  have Htop2 := Lib.hid htop2
  have He2 := Lib.hid he2
  have Hsame2 := Lib.hid hsame2
  have Hcb2 := Lib.hid hcb2
  have Hcbc := Lib.hid hcbc
  have hcell2 := blk_cell htop2
  clear h hd hs htop2 he2 hsame2 hcb2 hl2 hcbc hps2
  unfold ptr
  go_enter Try.func26, Try.ntmps26
  go_wp2
  refine region_tail 8 (by kernel_rfl) (by kernel_rfl) ?_
  simp only [List.take_succ_cons, List.take_zero, List.drop_succ_cons, List.drop_zero]
  repeat still_step
  refine wpStill_nil ?_
  go_wp2_with fail
  refine (hdf1.out).mono ?_
  rintro e w3 ⟨lv', rfl, hown, hfr3, hsl3⟩
  obtain ⟨a3, c3, rfl, _⟩ := hsl3.open
  have htop3 := hfr3.keep Htop2.out (fun hk => (Hd.out.bl _ hk).1 rfl)
  have hc3 := blk_cell htop3
  have hf3 := blk_free htop3
  have htop4 := blk_set (i := 2) htop3 (.slice a3 (keeps p.1 s.ptrs).length c3)
  have hfr4 : Fr (fun k => lv.ownBlock = some k ∨ k = b) W2 (w3.setCell ⟨b, 2, none⟩ (.slice a3 (keeps p.1 s.ptrs).length c3)) := (hfr3.mono (fun _ _ h => .inl h)).setCell (fun _ => .inr rfl) _
  have ho4 := ho2.fr hfr4
  have hlv : ∀ k, lv.ownBlock = some k → k < W2.heap.size := fun k hk => Nat.lt_of_lt_of_le (H.out.l.lt k hk) hfr2.size
  have hnot4 : ∀ k, ov.ownBlock = some k → ¬ (lv.ownBlock = some k ∨ k = b) := fun k hk h => h.elim (fun h => Hd.out.lo k h hk) (fun h => (Hd.out.bo k hk).1 h)
  have ho4 : Sl X (w3.setCell ⟨b, 2, none⟩ (.slice a3 (keeps p.1 s.ptrs).length c3)) 66 1 ov s.old.length (s.old.map ptr) := ⟨ownsRow_fr hfr4 ho2.1 hnot4, ho2.2⟩
  have he4 : ∀ q ∈ s.l, (w3.setCell ⟨b, 2, none⟩ (.slice a3 (keeps p.1 s.ptrs).length c3)).heap[q.1]? = some (.cells q.2.cells 68 (0, 0)) := fun q hq => hfr4.keep (He2.out q hq) (fun h => h.elim (fun h => (Hd.out.e q hq).2.2.1 h) (fun h => (Hd.out.e q hq).1 h))
  have hcb4 : (w3.setCell ⟨b, 2, none⟩ (.slice a3 (keeps p.1 s.ptrs).length c3)).cell? ⟨w.heap.size, 0, none⟩ = some (ptr p.1) := hfr4.cell Hcbc.out (fun h => h.elim (fun h => hnx (H.out.l.2 _ h)) (fun (h : w.heap.size = b) => by omega))
  have hps4 : ∀ q ∈ s.old, Isb (w3.setCell ⟨b, 2, none⟩ (.slice a3 (keeps p.1 s.ptrs).length c3)) q := fun q hq => by
    obtain ⟨e, he, _⟩ := Hs.out.oldIn q hq; exact ⟨_, _, he4 _ he⟩
  have hdf2 := Lib.hid (deleteFunc_sl _ X ov s.old p.1 w.heap.size ho4 hcb4 hnx hps4 ⟨_, _, he4 p hp⟩)
  have Htop3 := Lib.hid htop3
  have Htop4 := Lib.hid htop4
  have He4 := Lib.hid he4
  have Hown := Lib.hid hown
  have Hhlv := Lib.hid hlv
  have Hnot4 := Lib.hid hnot4
  clear htop3 htop4 he4 hcb4 hps4 hown hlv hnot4 ho2 ho4
  go_wp2_with fail
  refine (hdf2.out).mono ?_
  rintro e w5 ⟨ov', rfl, hown5, hfr5, hsl5⟩
  obtain ⟨a5, c5, rfl, _⟩ := hsl5.open
  have htop5 := hfr5.keep Htop4.out (fun hk => (Hd.out.bo _ hk).1 rfl)
  have hc5 := blk_cell htop5
  have hf5 := blk_free htop5
  have Htop5 := Lib.hid htop5
  have Hown5 := Lib.hid hown5
  clear htop5 hown5
  go_wp2_with fail
  go_end0
  have h := H.out
  have hd := Hd.out
  have htop6 := blk_set (i := 3) Htop5.out (.slice a5 (keeps p.1 s.old).length c5)
  -- from W2 on: only the top block and the two rows are written
  have hfr6 : Fr (fun k => lv.ownBlock = some k ∨ k = b ∨ ov.ownBlock = some k) W2 (w5.setCell ⟨b, 3, none⟩ (.slice a5 (keeps p.1 s.old).length c5)) :=
    ((hfr4.mono (fun _ _ h => h.elim .inl (fun h => .inr (.inl h)))).trans hfr5 (fun _ _ h => .inr (.inr h))).setCell (fun _ => .inr (.inl rfl)) _
  have hfr56 : Fr (fun k => ov.ownBlock = some k ∨ k = b) (w3.setCell ⟨b, 2, none⟩ (.slice a3 (keeps p.1 s.ptrs).length c3)) (w5.setCell ⟨b, 3, none⟩ (.slice a5 (keeps p.1 s.old).length c5)) :=
    (hfr5.mono (fun _ _ h => .inl h)).setCell (fun _ => .inr rfl) _
  refine ⟨rfl, hfr2.trans hfr6 (fun k _ hk => hk.elim (fun hk => h.l.2 k hk) (fun hk => hk.elim (fun hk => hk ▸ h.xb) (fun hk => h.old.2 k hk))), mb, .slice a3 (keeps p.1 s.ptrs).length c3, .slice a5 (keeps p.1 s.old).length c5, ?_⟩
  have hl3 : Sl X (w3.setCell ⟨b, 2, none⟩ (.slice a3 (keeps p.1 s.ptrs).length c3)) 66 1 (.slice a3 (keeps p.1 s.ptrs).length c3) (keeps p.1 s.ptrs).length ((keeps p.1 s.ptrs).map ptr) :=
    ⟨ownsRow_fr (X := (· = b)) (Fr.one _ _ _ _) hsl3.1 (fun k hk => (hd.bl k (by rw [← Hown.out]; exact hk)).1), fun k hk => h.l.2 k (by rw [← Hown.out]; exact hk)⟩
  exact {
    top := htop6
    xb := h.xb
    xm := h.xm
    map := hmap2.fr hfr6 (fun hk => hk.elim (fun hk => (hd.bl _ hk).2 rfl) (fun hk => hk.elim (fun hk => hd.bm hk.symm) (fun hk => (hd.bo _ hk).2 rfl)))
    l := by
      rw [PS.out_ptrs]
      exact ⟨ownsRow_fr hfr56 hl3.1 (fun k hk hx => hx.elim (fun hx => hd.lo k (by rw [← Hown.out]; exact hk) hx) (fun hx => (hd.bl k (by rw [← Hown.out]; exact hk)).1 hx)), hl3.2⟩
    old := ⟨ownsRow_fr (X := (· = b)) (Fr.one _ _ _ _) hsl5.1 (fun k hk => (hd.bo k (by rw [← Hown5.out]; exact hk)).1), fun k hk => h.old.2 k (by rw [← Hown5.out]; exact hk)⟩
    apart := fun k hk hk' => hd.lo k (by rw [← Hown.out]; exact hk) (by rw [← Hown5.out]; exact hk')
    ents := fun q hq => by
      have hq' : q ∈ s.l := (List.mem_filter.1 hq).1
      exact ⟨(h.ents q hq').1, hfr6.keep (He2.out q hq') (fun hk => hk.elim (fun hk => (hd.e q hq').2.2.1 hk) (fun hk => hk.elim (fun hk => (hd.e q hq').1 hk) (fun hk => (hd.e q hq').2.2.2 hk)))⟩
    lt := fun k hk => Nat.lt_of_lt_of_le (h.lt k hk) (Nat.le_trans hfr2.size hfr6.size) }
end Go.Proofs.Ytidmlkedebjbgaa
