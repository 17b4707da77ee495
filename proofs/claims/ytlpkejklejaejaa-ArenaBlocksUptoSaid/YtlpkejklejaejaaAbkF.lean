/-
  ArenaBlocks: octet.Get of bytes; arena.GetBlock.
-/
import Derived.Test.YtlpkejklejaejaaAbkE
import Derived.Deep.RegionLaw
import Derived.Deep.CutBlock
import Derived.Deep.DeepCutAuto
import Derived.Laws.ResultCell
set_option maxRecDepth 100000
set_option linter.unusedVariables false
set_option linter.unusedSimpArgs false
set_option linter.constructorNameAsVariable false
namespace Go.Proofs.Ytlpkejklejaejaa
open Go.RowKit Abk

theorem foldS_pack (f : Nat → Nat → Nat) : ∀ (L : List UInt8) (x : Nat), Ab.foldS f L.length (Ab.pack L) x = L.foldl (fun x b => f x b.toNat) x
  | [], x => rfl
  | b :: L, x => by
    have h := b.toNat_lt
    rw [List.length_cons, Ab.foldS, Ab.pack, show (b.toNat + 256 * Ab.pack L) / 256 = Ab.pack L by omega, show (b.toNat + 256 * Ab.pack L) % 256 = b.toNat by omega, foldS_pack f L]
    rfl
theorem num_toU (l : List Int) (h : Bytes l) (x : Nat) : num l x = (toU l).foldl (fun x b => x * 256 % 18446744073709551616 + b.toNat) x := by
  conv => lhs; rw [← b8_toU h]
  unfold num b8
  rw [List.foldl_map]
  rfl
theorem num_lt : ∀ (l : List Int) (x : Nat), Bytes l → x < 18446744073709551616 → num l x < 18446744073709551616
  | [], x, _, h => h
  | c :: l, x, hB, h => by
    have hc := hB c (by simp)
    show num l (x * 256 % 18446744073709551616 + c.toNat) < _
    exact num_lt l _ (fun u hu => hB u (by simp [hu])) (by omega)
theorem get_byt (w : World) (b o n c : Nat) {l : List Int} (hB : Bytes l) (h : Byt w (.slice (some ⟨b, o, none⟩) n c) l) (hl : l.length < 1048576) :
    Calls Try.prog 28 #[.slice (some ⟨b, o, none⟩) n c] w fun e w' => e = .returned (.int .u64 (num l 0 : Nat)) ∧ w' = w := by
  obtain ⟨rfl, h1, h2, _, hc⟩ := h.news
  have hlen : (toU l).length = l.length := by simp [toU]
  have hg := get_calls b o l.length c (Ab.pack (toU l)) w (by omega) (fun j hj => by
    have := hc _ rfl j (.int .u8 l[j]) (by simp [u8s, hj])
    have hadd : (⟨b, o, none⟩ : Addr).add j = ⟨b, o + j, none⟩ := by unfold Addr.add; split <;> simp_all
    rw [hadd] at this
    rw [this, Ab.byteAt_pack _ _ (by rw [hlen]; exact hj)]
    have hb := hB l[j] (List.getElem_mem hj)
    simp only [toU, List.getElem_map]
    rw [UInt8.toNat_ofNat_of_lt' (by simp [UInt8.size]; omega)]
    simp only [Int.ofNat_eq_natCast]
    rw [show ((l[j].toNat : Nat) : Int) = l[j] by omega])
  have e : Ab.foldS (fun x c => x * 256 % 18446744073709551616 + c) l.length (Ab.pack (toU l)) 0 = num l 0 := by
    rw [← hlen, foldS_pack, ← num_toU l hB]
  rw [e] at hg
  exact hg
theorem num2_lt {l : List Int} (h : Bytes l) (h2 : l.length ≤ 2) : num l 0 < 65536 := by
  rcases l with _ | ⟨a, _ | ⟨b, _ | ⟨c, l⟩⟩⟩
  · decide
  · have ha := h a (by simp)
    simp only [num, List.foldl_cons, List.foldl_nil]
    omega
  · have ha := h a (by simp)
    have hb := h b (by simp)
    simp only [num, List.foldl_cons, List.foldl_nil]
    omega
  · simp at h2
theorem Byt.take {w : World} {g o n c : Nat} {l : List Int} (h : Byt w (.slice (some ⟨g, o, none⟩) n c) l) (k c' : Nat) (hk : k ≤ n) (hc : k ≤ c') (hm : c' ≤ maxLen) : Byt w (.slice (some ⟨g, o, none⟩) k c') (l.take k) := by
  obtain ⟨a', c2, e, h1, h2, h3⟩ := h
  obtain ⟨rfl, rfl, rfl⟩ : some ⟨g, o, none⟩ = a' ∧ n = l.length ∧ c = c2 := by simpa using e
  have hl : (l.take k).length = k := by simp; omega
  refine ⟨_, _, by rw [hl], by rw [hl]; exact hc, hm, ?_⟩
  rcases h3 with rfl | ⟨g', o', e', hc'⟩
  · exact .inl (by simp)
  · obtain ⟨rfl, rfl⟩ : g = g' ∧ o = o' := by simpa using e'
    refine .inr ⟨_, _, rfl, fun i u hu => hc' i u ?_⟩
    rw [List.getElem?_take] at hu
    split at hu
    · exact hu
    · cases hu
theorem Abk.Bytes.drop {l : List Int} (h : Bytes l) (k : Nat) : Bytes (l.drop k) := fun u hu => h u (List.mem_of_mem_drop hu)
theorem Abk.Bytes.take {l : List Int} (h : Bytes l) (k : Nat) : Bytes (l.take k) := fun u hu => h u (List.mem_of_mem_take hu)
theorem Chs.fr {w w' : World} {v : Value} {l : List (List Int)} (h : Chs w v l) (hf : Fr Non w w') : Chs w' v l := by
  obtain ⟨a, c, rfl, h1, h2, h3⟩ := h
  refine ⟨a, c, rfl, h1, h2, h3.imp id ?_⟩
  rintro ⟨g, o, rfl, hc⟩
  refine ⟨g, o, rfl, fun i b hb => ?_⟩
  obtain ⟨s, hs, hby⟩ := hc i b hb
  exact ⟨s, hf.cell hs (fun h => h), hby.fr hf (fun _ _ h => h)⟩
theorem Chs.of_rows {X Y : Nat → Prop} {w : World} {v : Value} {ps : List Value} {l : List (List Int)} (h : Sl X w 26 1 v l.length ps) (hr : Rows Y w v ps l) : Chs w v l := by
  obtain ⟨a, c, rfl, h1, h2, _, h3⟩ := h.open
  refine ⟨a, c, rfl, h1, h2, ?_⟩
  rcases h3 with h3 | ⟨g, rfl, _, _, hc⟩
  · exact .inl (List.eq_nil_of_length_eq_zero h3)
  · refine .inr ⟨g, 0, rfl, fun i b hb => ?_⟩
    obtain ⟨s, hs, hby, _⟩ := hr.2 i b hb
    exact ⟨s, by rw [Nat.zero_add]; exact hc i s hs, hby⟩
/-- The state of GetBlock's loop: what has been taken, in memory. -/
structure Gb (B st : Nat) (w2 w : World) (va : Option Addr) (vc : Nat) (ps : List Value) (done : List (List Int)) : Prop where
  fr : Fr (fun q => q = B) w2 w
  box : w.heap[B]? = some (.cells #[.int .u64 (st : Nat), .slice va done.length vc] 25 (0, 0))
  sl : Sl (New w2 w) w 26 1 (.slice va done.length vc) done.length ps
  rows : Rows (New w2 w) w (.slice va done.length vc) ps done
theorem Gb.step {B st : Nat} {w2 w' w3 w5 : World} {va a3 a5 : Option Addr} {vc n c3 c5 : Nat} {ps : List Value} {done : List (List Int)} {q : List Int} (hg : Gb B st w2 w' va vc ps done) (hB : B < w2.heap.size) (hq : n = q.length)
    (hs3 : Sl (New w'.drew w3) w3 5 1 (.slice a3 n c3) n (u8s q)) (hf3 : Fr Non w' w3)
    (happ : Appd (New w2 w') (w3.alloc (.cells #[.slice a3 n c3] 26)) 26 1 (.slice va done.length vc) done.length 1 ps [.slice a3 n c3] a5 c5 w5)
    (hbox5 : w5.heap[B]? = some (.cells #[.int .u64 (st : Nat), .slice va done.length vc] 25 (0, 0))) (hf5 : Fr (fun q => (Value.slice va done.length vc).ownBlock = some q) w' w5) :
    Gb B st w2 (w5.setCell ⟨B, 1, none⟩ (.slice a5 (done.length + 1) c5)) a5 c5 (ps ++ [.slice a3 n c3]) (done ++ [q]) := by
  have hsp : ∀ q, (Value.slice va done.length vc).ownBlock = some q → New w2 w' q := fun q hq => hg.sl.2 q hq
  have hsp' : ∀ q, (Value.slice va done.length vc).ownBlock = some q → q < w'.heap.size := fun q hq => (hsp q hq).2
  have hnew : ∀ q, (Value.slice a3 n c3).ownBlock = some q → w'.heap.size ≤ q ∧ q < w3.heap.size := fun q hq => hs3.2 q hq
  have h1 := Fr.one w5 B 1 (.slice a5 (done.length + 1) c5)
  have hb6 := blk_set (i := 1) hbox5 (.slice a5 (done.length + 1) c5)
  have z1 := hg.fr.size
  have z3 := hf3.size
  have z5 := happ.fr.size
  have zz : (w5.setCell ⟨B, 1, none⟩ (.slice a5 (done.length + 1) c5)).heap.size = w5.heap.size := by simp [World.setCell]
  simp only [World.size_alloc] at z5
  have hown : ∀ q, (Value.slice a5 (done.length + 1) c5).ownBlock = some q → New w2 w5 q := fun q hq => by
    rcases happ.sl.2 q hq with h | h
    · exact ⟨h.1, by have := h.2; omega⟩
    · simp only [World.size_alloc] at h
      exact ⟨by omega, h.2⟩
  have hs6 : Sl (New w2 w5) (w5.setCell ⟨B, 1, none⟩ (.slice a5 (done.length + 1) c5)) 26 1 (.slice a5 (done.length + 1) c5) (done.length + 1) (ps ++ [.slice a3 n c3]) :=
    Sl.setCell ⟨happ.sl.1, hown⟩ (fun e => by have := (hown B e).1; omega) _
  have hF5 : Fr (fun q => (Value.slice va done.length vc).ownBlock = some q) w3 w5 := ((Fr.refl _ _).alloc _).trans happ.fr (fun _ _ h => h)
  have hby5 : Byt w5 (.slice a3 n c3) q := (Byt.of_sl hq hs3).fr hF5 (fun q hq e => by have := (hnew q hq).1; have := (hsp q e).2; omega)
  have hlen : (done ++ [q]).length = done.length + 1 := by simp
  refine ⟨?_, ?_, ?_, ?_⟩
  · exact (hg.fr.trans hf5 (fun i hi e => by have := (hsp i e).1; omega)).trans h1 (fun i _ e => e)
  · rw [hb6, hlen]; rfl
  · rw [hlen]
    exact hs6.mono (fun k hk => ⟨hk.1, by rw [zz]; exact hk.2⟩)
  · have hl := hg.rows.1
    refine ⟨by simp [hl], fun j b' hj => ?_⟩
    rcases Nat.lt_or_ge j done.length with hjk | hjk
    · rw [List.getElem?_append_left hjk] at hj
      obtain ⟨s, e1, e2, e3⟩ := hg.rows.2 j b' hj
      refine ⟨s, by rw [List.getElem?_append_left (by omega)]; exact e1, (e2.fr hf5 (fun q hq e => (e3 q hq).2 e)).fr h1 (fun q hq e => by have := (e3 q hq).1.1; omega), fun q hq => ⟨⟨(e3 q hq).1.1, by have := (e3 q hq).1.2; rw [zz]; omega⟩, fun e => ?_⟩⟩
      rw [hlen] at e
      rcases happ.own q e with h | h
      · exact (e3 q hq).2 h
      · simp only [World.size_alloc] at h
        have := (e3 q hq).1.2
        omega
    · rw [List.getElem?_append_right hjk] at hj
      have ej : j = done.length := by
        have := (List.getElem?_eq_some_iff.1 hj).1
        simp only [List.length_singleton] at this
        omega
      subst ej
      simp only [Nat.sub_self, List.getElem?_cons_zero, Option.some.injEq] at hj
      subst hj
      refine ⟨_, by rw [List.getElem?_append_right (by omega), hl, Nat.sub_self]; rfl, hby5.fr h1 (fun q hq e => by have := (hnew q hq).1; omega), fun q hq => ⟨⟨by have := (hnew q hq).1; omega, by have := (hnew q hq).2; rw [zz]; omega⟩, fun e => ?_⟩⟩
      rw [hlen] at e
      rcases happ.own q e with h | h
      · have := (hsp q h).2
        have := (hnew q hq).1
        omega
      · simp only [World.size_alloc] at h
        have := (hnew q hq).2
        omega
theorem Gb.chs {B st : Nat} {w2 w w' : World} {va : Option Addr} {vc : Nat} {ps : List Value} {done : List (List Int)} {X : Nat → Prop} (hg : Gb B st w2 w va vc ps done) (hf : Fr X w w') (hx : ∀ q, New w2 w q → ¬ X q) : Chs w' (.slice va done.length vc) done :=
  Chs.of_rows (hg.sl.fr hf hx) ⟨hg.rows.1, fun j b hj => by
    obtain ⟨s, e1, e2, e3⟩ := hg.rows.2 j b hj
    exact ⟨s, e1, e2.fr hf (fun q hq => hx q (e3 q hq).1), e3⟩⟩
theorem fits_parse : ∀ (f : Nat) (q : List Int), fits (parse f q) ≤ q.length
  | 0, q => by simp [parse, fits]
  | f + 1, q => by
    rw [parse]
    split
    · simp [fits]
    · rename_i h2
      dsimp only
      split
      · simp [fits]
      · rename_i hn
        have := fits_parse f ((q.drop 2).drop (num (q.take 2) 0))
        simp only [fits, List.length_take, List.length_drop] at this ⊢
        omega
theorem allB_parse : ∀ (f : Nat) (q : List Int), Bytes q → AllB (parse f q)
  | 0, q, h => fun c hc => by cases hc
  | f + 1, q, h => by
    rw [parse]
    split
    · exact fun c hc => by cases hc
    · dsimp only
      split
      · exact fun c hc => by cases hc
      · intro c hc
        rcases List.mem_cons.1 hc with rfl | hc
        · exact Bytes.take (Bytes.drop h 2) _
        · exact allB_parse f _ (Bytes.drop (Bytes.drop h 2) _) c hc
theorem bytes_body : ∀ (l : List (List Int)), AllB l → Bytes (body l)
  | [], h => fun u hu => by cases hu
  | c :: l, h => fun u hu => by
    simp only [body, laid, List.mem_append] at hu
    rcases hu with (hu | hu) | hu
    · exact be_bytes _ _ u hu
    · exact h c (by simp) u hu
    · exact bytes_body l (fun c hc => h c (by simp [hc])) u hu
theorem bytes_block {st : Nat} {l : List (List Int)} (h : AllB l) : Bytes (block st l) := fun u hu => by
  simp only [block, List.mem_append] at hu
  rcases hu with ((hu | hu) | hu) | hu
  · simp only [aren, List.mem_cons, List.not_mem_nil, or_false] at hu
    rcases hu with rfl | rfl | rfl | rfl <;> decide
  · exact be_bytes _ _ u hu
  · exact bytes_body l h u hu
  · rw [List.eq_of_mem_replicate hu]; decide
def lenS (v : Value) : Nat := match v with | .slice _ n _ => n | _ => 0
theorem parse_short (f : Nat) {q : List Int} (h : q.length < 2) : parse f q = [] := by
  cases f with
  | zero => rfl
  | succ f => rw [parse, if_pos h]
theorem parse_stop (f : Nat) {q : List Int} (h2 : 2 ≤ q.length) (h : num (q.take 2) 0 = 0 ∨ q.length - 2 < num (q.take 2) 0) : parse f q = [] := by
  cases f with
  | zero => rfl
  | succ f =>
    rw [parse, if_neg (by omega)]
    exact if_pos h
theorem parse_go (f : Nat) {q : List Int} (h2 : 2 ≤ q.length) (h : ¬ (num (q.take 2) 0 = 0 ∨ q.length - 2 < num (q.take 2) 0)) : parse (f + 1) q = (q.drop 2).take (num (q.take 2) 0) :: parse f ((q.drop 2).drop (num (q.take 2) 0)) := by
  rw [parse, if_neg (by omega)]
  exact if_neg h
/-- What GetBlock answers. -/
def GetAns (w' : World) (b : List Int) (st : Int) (cv : Value) (r : Int) : Prop :=
  (IsBlock b ∧ r = 0 ∧ st = (stampOf b : Nat) ∧ Chs w' cv (chunksOf b)) ∨ (¬ IsBlock b ∧ r = 160 ∧ st = 0 ∧ cv = .slice none 0 0)
theorem getblock_calls (w : World) (v : Value) (b : List Int) (hB : Bytes b) (h : Byt w v b) (hl : b.length < 1048576) :
    Calls Try.prog 9 #[v] w fun e w' => ∃ st cv r, e = .returned (.tuple #[.agg #[.int .u64 st, cv], .int .i64 r]) ∧ Fr Non w w' ∧ GetAns w' b st cv r := by
  have HBy := Lib.hid h
  obtain ⟨a, c, rfl, h1, h2, h3⟩ := h
  unfold maxLen at h2
  have H3 := Lib.hid h3
  clear h3
  by_cases hlen : b.length = 384
  · obtain ⟨g, o, rfl, hc⟩ := H3.out.resolve_left (fun e => by rw [e] at hlen; simp at hlen)
    have Hlen := Lib.hid hlen
    have Hc := Lib.hid hc
    have h8 : Byt w (.slice (some ⟨g, o + 4, none⟩) 8 (c - 4)) ((b.drop 4).take 8) := (HBy.out.drop 4 (by omega)).take 8 (c - 4) (by omega) (by omega) (by unfold maxLen; omega)
    have H8 := Lib.hid h8
    have HB4 := Lib.hid (show Byt w (.slice (some ⟨g, o, none⟩) 384 c) b by have := HBy.out; rw [hlen] at this; exact this)
    clear h8
    rw [hlen] at h1 ⊢
    clear hc hlen
    go_enter Try.func9, Try.ntmps9
    go_wp2_with fail
    refine (get_byt _ g (o + 4) 8 (c - 4) (Bytes.take (Bytes.drop hB 4) 8) (H8.out.fr ((Fr.refl Non w).alloc _) (fun _ _ h => h)) (by simp; omega)).mono ?_
    rintro e w' ⟨rfl, rfl⟩
    obtain ⟨st, hst⟩ : ∃ st, st = stampOf b := ⟨_, rfl⟩
    rw [show num ((b.drop 4).take 8) 0 = st from hst.symm]
    have hstl : st < 18446744073709551616 := by rw [hst]; exact num_lt _ 0 (Bytes.take (Bytes.drop hB 4) 8) (by decide)
    have Hst := Lib.hid hst
    clear hst
    go_upto_block 0 with fail
    have hbA := blk_old_some (blk_new w (.cells #[.int .u64 0, .slice none 0 0] 25) rfl) (.cells #[.int .u64 (st : Nat), .slice none 0 0] 25)
    have hbB := blk_new (w.alloc (.cells #[.int .u64 0, .slice none 0 0] 25)) (.cells #[.int .u64 (st : Nat), .slice none 0 0] 25) (n := w.heap.size + 1) (by simp)
    have hf2 : Fr Non w ((w.alloc (.cells #[.int .u64 0, .slice none 0 0] 25)).alloc (.cells #[.int .u64 (st : Nat), .slice none 0 0] 25)) := ((Fr.refl Non w).alloc _).alloc _
    have hz2 : ((w.alloc (.cells #[.int .u64 0, .slice none 0 0] 25)).alloc (.cells #[.int .u64 (st : Nat), .slice none 0 0] 25)).heap.size = w.heap.size + 2 := by simp
    generalize (w.alloc (.cells #[.int .u64 0, .slice none 0 0] 25)).alloc (.cells #[.int .u64 (st : Nat), .slice none 0 0] 25) = w2 at *
    have HA := Lib.hid hbA
    have HBB := Lib.hid hbB
    have Hf2 := Lib.hid hf2
    have Hz2 := Lib.hid hz2
    clear hbA hbB hf2 hz2
    go_cut [5, 6] (fun t5 t6 wx => ∃ va vc ps, Gb (w.heap.size + 1) st w2 wx va vc ps (chunksOf b))
    case first =>
      go_wp2_with fail
      go_loopw [5] (fun v wr => ∃ (d p : Nat) (va : Option Addr) (vc : Nat) (ps : List Value) (done : List (List Int)), 12 + 2 * done.length ≤ d ∧ d ≤ 384 ∧ v = .slice (some ⟨g, p, none⟩) (384 - d) (c - d) ∧ (d < 384 → p = o + d) ∧ Gb (w.heap.size + 1) st w2 wr va vc ps done ∧ parse 400 (b.drop 12) = done ++ parse (400 - done.length) (b.drop d)) (fun v _ => lenS v)
      case atStart => exact ⟨12, o + 12, none, 0, [], [], by simp, by decide, rfl, fun _ => rfl, ⟨Fr.refl _ _, HBB.out, Sl.nil _ _ _ _, rfl, fun j b h => by simp at h⟩, by simp⟩
      case round =>
        obtain ⟨d, p, va, vc, ps, done, hd1, hd2, rfl, hp, hgb, hpar⟩ := hrel
        have Hgb := Lib.hid hgb
        have Hpar := Lib.hid hpar
        clear hgb hpar
        have hql : (b.drop d).length = 384 - d := by rw [List.length_drop, Hlen.out]
        by_cases h2l : 384 - d < 2
        · have hdone : Hid (chunksOf b = done) := Lib.hid (by unfold chunksOf; rw [Hpar.out, parse_short _ (by omega), List.append_nil])
          go_wp2_with fail
          go_meet
          exact ⟨va, vc, ps, by rw [hdone.out]; exact Hgb.out⟩
        · obtain rfl : p = o + d := hp (by omega)
          have hfw : Fr Non w wr := Hf2.out.trans Hgb.out.fr (fun q hq e => by omega)
          have hbd := (HB4.out.drop d (by omega)).fr hfw (fun _ _ h => h)
          have hby := hbd.take 2 (c - d) (by omega) (by omega) (by unfold maxLen; omega)
          have Hbd := Lib.hid hbd
          have Hby := Lib.hid hby
          clear hbd hby hfw
          go_wp2_with fail
          refine (get_byt _ g (o + d) 2 (c - d) (Bytes.take (Bytes.drop hB d) 2) Hby.out (by simp; omega)).mono ?_
          rintro e w' ⟨rfl, rfl⟩
          have Hgo := Lib.hid (parse_go (400 - done.length - 1) (q := b.drop d) (by omega))
          have Hstop := Lib.hid (parse_stop (400 - done.length) (q := b.drop d) (by omega))
          have hn := num2_lt (Bytes.take (Bytes.drop hB d) 2) (by simp; omega)
          generalize num ((b.drop d).take 2) 0 = n at *
          by_cases hs1 : n = 0
          · have hdone : Hid (chunksOf b = done) := Lib.hid (by unfold chunksOf; rw [Hpar.out, Hstop.out (.inl hs1), List.append_nil])
            subst hs1
            go_wp2_with fail
            go_meet
            exact ⟨va, vc, ps, by rw [hdone.out]; exact Hgb.out⟩
          have hs1' : 0 < n := by omega
          have hs1b : ((n : Int) == 0) = false := by simp; omega
          by_cases hs2 : 382 - d < n
          · have hdone : Hid (chunksOf b = done) := Lib.hid (by unfold chunksOf; rw [Hpar.out, Hstop.out (.inr (by omega)), List.append_nil])
            go_wp2_with fail
            go_meet
            exact ⟨va, vc, ps, by rw [hdone.out]; exact Hgb.out⟩
          have Hgo2 := Lib.hid (Hgo.out (by omega))
          have hbox := Hgb.out.box
          have hbd2 := Hbd.out
          have hbc := blk_cell hbox
          have hbf := blk_free hbox
          clear Hgo Hstop
          have h2n := ((hbd2.drop 2 (by omega)).take n (c - d - 2) (by omega) (by omega) (by unfold maxLen; omega))
          have H2n := Lib.hid h2n
          have hcell1 := hbc 1
          have hfree1 := hbf 1
          simp only [List.getElem?_toArray, List.getElem?_cons_zero, List.getElem?_cons_succ] at hcell1
          clear hbc hbf h2n hbd2
          go_upto_region 8 with fail
          obtain ⟨n2, hn2⟩ : ∃ n2, n2 = n + 2 := ⟨_, rfl⟩
          have hw2 : IntKind.i64.wrap (2 + (n : Int)) = (n2 : Int) := by rw [IntKind.wrap_i64]; omega
          have hi1 : (n2 : Int) ≤ ((c - d : Nat) : Int) := by omega
          have hi2 : (2 : Int) ≤ (n2 : Int) := by omega
          have hi3 : max (n2 : Int) 0 = (n2 : Int) := by omega
          have hi4 : n2 - 2 = n := by omega
          have hi5 : ¬ (c - d = 2) := by omega
          have Hn2 := Lib.hid hn2
          clear hn2
          have Hsl := Lib.hid Hgb.out.sl
          have hcl : ∀ W, Fr Non w' W → Calls Try.prog 29 #[.slice (some ⟨g, o + d + 2, none⟩) n (c - d - 2)] W fun e w'' => ∃ a3 c3, e = .returned (.slice a3 n c3) ∧ Fr Non W w'' ∧ Sl (New W w'') w'' 5 1 (.slice a3 n c3) n (u8s (((b.drop d).drop 2).take n)) := by
            intro W hf
            have hQ : (((b.drop d).drop 2).take n).length = n := by rw [List.length_take, List.length_drop, hql]; omega
            refine (clone_calls _ _ W (H2n.out.fr hf (fun _ _ h => h)) (by omega)).mono ?_
            rintro e w3 ⟨v3, rfl, hf3, hs3⟩
            obtain ⟨a3, c3, rfl, _⟩ := hs3.open
            rw [hQ] at hs3 ⊢
            exact ⟨a3, c3, rfl, hf3, hs3⟩
          have Hcl := Lib.hid hcl
          have Hown : Hid (¬ (Value.slice va done.length vc).ownBlock = some (w.heap.size + 1)) := Lib.hid (fun e => by have := (Hsl.out.2 _ e).1; have := Hz2.out; omega)
          have Hbox := Lib.hid hbox
          clear hcl hbox
          go_region_law (first
            | (refine step_append_any (by rfl) _ _ _ (by rfl) 26 undBB infB rfl (by decide) (by rfl) ((Hsl.out.fr hf3 (fun _ _ h => h)).alloc _) (some ⟨w3.heap.size, 0, none⟩) 1 1 [.slice a3 n c3] (by rfl) (by rfl) (fun e => by cases e) (fun ad e j u hu => by cases e; exact news_at _ _ _ rfl j u hu) (by simp [Value.oneCell']) (by unfold maxLen; omega) (by omega) ?_; intro a5 c5 w5 happ; have hf5 : Fr (fun q => (Value.slice va done.length vc).ownBlock = some q) w' w5 := ((hf3.alloc _).mono (fun _ _ h => h.elim)).trans happ.fr (fun _ _ h => h); have hbox5 := hf5.keep Hbox.out Hown.out; have hcell5 := blk_cell hbox5 1; have hfree5 := blk_free hbox5 1; simp only [List.getElem?_toArray, List.getElem?_cons_zero, List.getElem?_cons_succ] at hcell5; have Hbox5 := Lib.hid hbox5; have Hf5 := Lib.hid hf5; have Happ := Lib.hid happ; clear hbox5 hf5 happ)
            | (go_simp; go_at_call 29; refine (Hcl.out _ (Fr.refl Non _).drew).mono ?_; rintro e w3 ⟨a3, c3, rfl, hf3d, hs3⟩; have hf3 : Fr Non w' w3 := (Fr.refl Non _).drew.trans hf3d (fun _ _ h => h); have hcell3 := hf3.cell (a := ⟨w.heap.size + 1, 1, none⟩) hcell1 (fun h => h); have hcell3a := fun O => (hf3.alloc O).cell (a := ⟨w.heap.size + 1, 1, none⟩) hcell1 (fun h => h)))
          all_goals
            have Hcs := Lib.hid (And.intro hs3 hf3)
            clear hs3 hf3 hf3d hcell3 hcell3a hw2 hi1 hi2 hi3 hi4 hi5
            go_wp2_with fail
            refine ⟨?_, by simp only [lenS]; omega⟩
            have hpar2 : parse 400 (b.drop 12) = (done ++ [((b.drop d).drop 2).take n]) ++ parse (400 - (done ++ [((b.drop d).drop 2).take n]).length) (b.drop (d + (2 + n))) := by
              have hx := Hgo2.out
              rw [Hpar.out, show 400 - done.length = 400 - done.length - 1 + 1 by omega, hx]
              simp only [List.append_assoc, List.singleton_append, List.length_append, List.length_singleton, List.drop_drop]
              rw [show 400 - (done.length + 1) = 400 - done.length - 1 by omega, show d + (2 + n) = d + 2 + n by omega]
            have hq : n = (((b.drop d).drop 2).take n).length := by rw [List.length_take, List.length_drop, hql]; omega
            have hstep := Hgb.out.step (by have := Hz2.out; omega) hq Hcs.out.1 Hcs.out.2 Happ.out Hbox5.out Hf5.out
            have hle : d + (2 + n) ≤ 384 := by omega
            by_cases hcap : c - d = 2 + n
            · exact ⟨d + (2 + n), o + d, _, _, _, _, by simp; omega, hle, by rw [if_pos hcap]; congr 1 <;> omega, fun h => by omega, hstep, hpar2⟩
            · exact ⟨d + (2 + n), o + (d + (2 + n)), _, _, _, _, by simp; omega, hle, by rw [if_neg hcap, Nat.add_assoc]; congr 1 <;> omega, fun _ => rfl, hstep, hpar2⟩
    case rest =>
      obtain ⟨va, vc, ps, hgb⟩ := hcut
      have Hgb := Lib.hid hgb
      have hbox := hgb.box
      have hbc := blk_cell hbox
      have hbf := blk_free hbox
      have hA := hgb.fr.keep HA.out (by omega)
      have HA1 := Lib.hid hA
      have hfb : fits (chunksOf b) ≤ 1000 := by have := fits_parse 400 (b.drop 12); rw [List.length_drop, Hlen.out] at this; unfold chunksOf; omega
      have hfw : Fr Non w wc := Hf2.out.trans hgb.fr (fun q hq e => by omega)
      have Hfw := Lib.hid hfw
      have hp := putblock_calls wc st hstl _ _ (hgb.chs (Fr.refl Non _) (fun _ _ h => h)) (by omega)
      have HallB := Lib.hid (allB_parse 400 (b.drop 12) (Bytes.drop hB 12))
      have Hp := Lib.hid hp
      clear hgb hA hfw hp hbox
      go_wp2_with fail
      refine Hp.out.mono ?_
      rintro e w5 ⟨v5, r5, rfl, hf5, hans⟩
      have hbox5 := hf5.keep Hgb.out.box (fun h => h)
      have hA5 := hf5.keep HA1.out (fun h => h)
      have hfw5 : Fr Non w w5 := Hfw.out.trans hf5 (fun _ _ h => h)
      have HB5 := Lib.hid (HB4.out.fr hfw5 (fun _ _ h => h))
      have hc5 := blk_cell hbox5
      have hac5 := blk_cell hA5
      have haf5 := blk_free hA5
      have hlt5 := lt_of_block hA5
      have Hfw5 := Lib.hid hfw5
      have Hf5 := Lib.hid hf5
      clear hbc hbf hbox5 hA5 hfw5 hf5
      rcases hans with ⟨hgood, rfl, hs5⟩ | ⟨hbad, rfl, rfl⟩
      · obtain ⟨a5, c5, rfl, _⟩ := id hs5.open
        have hq := equal_calls _ _ (block st (chunksOf b)) b w5 (bytes_block HallB.out) hB (Byt.of_sl (block_len hgood).symm hs5) HB5.out
        have Hgood := Lib.hid hgood
        clear hs5 hgood
        by_cases heq : block st (chunksOf b) = b
        · rw [decide_eq_true heq] at hq
          have Heq := Lib.hid heq
          have Hq := Lib.hid hq
          clear heq hq
          go_wp2_with fail
          refine Hq.out.mono ?_
          rintro e w' ⟨rfl, rfl⟩
          go_wp2_with fail
          refine bodyPost_ret (v := .tuple #[.agg #[.int .u64 (st : Nat), .slice va (chunksOf b).length vc], .int .i64 0]) ?_ rfl ⟨_, _, _, rfl, ?_, .inl ⟨⟨Hlen.out, by rw [← Hst.out]; exact Hgood.out, by rw [← Hst.out]; exact Heq.out⟩, rfl, by rw [Hst.out], ?_⟩⟩
          · rw [results_cell_tmp rfl]
            go_simp
          · exact (Hfw5.out.setCell (p := ⟨w.heap.size, 0, none⟩) (fun h => absurd h (Nat.lt_irrefl _)) _).setCell (p := ⟨w.heap.size, 1, none⟩) (fun h => absurd h (Nat.lt_irrefl _)) _
          · exact Hgb.out.chs (X := fun q => q = w.heap.size) ((((Hf5.out.mono (fun _ _ h => h.elim) : Fr (fun q => q = w.heap.size) wc _)).setCell (p := ⟨w.heap.size, 0, none⟩) (fun _ => rfl) _).setCell (p := ⟨w.heap.size, 1, none⟩) (fun _ => rfl) _) (fun q hq e => by have := hq.1; have := Hz2.out; omega)
        · rw [decide_eq_false heq] at hq
          have Heq := Lib.hid heq
          have Hq := Lib.hid hq
          clear heq hq
          go_wp2_with fail
          refine Hq.out.mono ?_
          rintro e w' ⟨rfl, rfl⟩
          go_wp2_with fail
          refine bodyPost_ret (v := .tuple #[.agg #[.int .u64 0, .slice none 0 0], .int .i64 160]) ?_ rfl ⟨_, _, _, rfl, ?_, .inr ⟨fun h => Heq.out (by rw [Hst.out]; exact h.2.2), rfl, rfl, rfl⟩⟩
          · rw [results_cell_tmp rfl]
            go_simp
          · exact (Hfw5.out.setCell (p := ⟨w.heap.size, 0, none⟩) (fun h => absurd h (Nat.lt_irrefl _)) _).setCell (p := ⟨w.heap.size, 1, none⟩) (fun h => absurd h (Nat.lt_irrefl _)) _
      · go_wp2_with fail
        refine bodyPost_ret (v := .tuple #[.agg #[.int .u64 0, .slice none 0 0], .int .i64 160]) ?_ rfl ⟨_, _, _, rfl, ?_, .inr ⟨fun h => hbad (by rw [Hst.out]; exact h.2.1), rfl, rfl, rfl⟩⟩
        · rw [results_cell_tmp rfl]
          go_simp
        · exact (Hfw5.out.setCell (p := ⟨w.heap.size, 0, none⟩) (fun h => absurd h (Nat.lt_irrefl _)) _).setCell (p := ⟨w.heap.size, 1, none⟩) (fun h => absurd h (Nat.lt_irrefl _)) _
  · go_enter Try.func9, Try.ntmps9
    go_wp2_with fail
    refine bodyPost_ret (v := .tuple #[.agg #[.int .u64 0, .slice none 0 0], .int .i64 160]) ?_ rfl ⟨_, _, _, rfl, ?_, .inr ⟨fun h => hlen h.1, rfl, rfl, rfl⟩⟩
    · rw [results_cell_tmp rfl]
      go_simp
    · exact (Fr.refl _ _).alloc _
end Go.Proofs.Ytlpkejklejaejaa
