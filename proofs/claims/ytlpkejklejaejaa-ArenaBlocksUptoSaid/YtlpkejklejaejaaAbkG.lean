/-
  ArenaBlocks: the document's PutBlock.
-/
import Derived.Test.YtlpkejklejaejaaAbkF
set_option maxRecDepth 100000
set_option linter.unusedVariables false
set_option linter.unusedSimpArgs false
set_option linter.constructorNameAsVariable false
namespace Go.Proofs.Ytlpkejklejaejaa
open Go.RowKit Abk

/-- append behind bytes that have no room: they are copied. -/
theorem run_append_full (w : World) (b o n c : Nat) {l : List Int} (h : Byt w (.slice (some ⟨b, o, none⟩) n c) l) (ad : Addr) (m cc : Nat) (q : List Int) (hm : m = q.length) (hq : ∀ j u, (u8s q)[j]? = some u → w.cell? (ad.add j) = some u) (hc : c < n + m) (hb : n + m < 1048576) (ty : TypeId) :
    ∃ a' c' w', (Builtin.append_ #[26, 26] ty #[.slice (some ⟨b, o, none⟩) n c, .slice (some ad) m cc]).run Try.prog w = .ok (.slice a' (n + m) c') w' ∧ Sl (New w w') w' 5 1 (.slice a' (n + m) c') (n + m) (u8s (l ++ q)) ∧ Fr Non w w' := by
  obtain ⟨rfl, g1, g2, _, hn⟩ := h.news
  obtain ⟨i, hi, hz, hs, hby⟩ := info_parts Try.inf5b
  have hr := run_append_grow (P := Try.prog) w 26 ty 5 i _ Try.undB hi hz ⟨b, o, none⟩ l.length c (u8s l) (by rw [hs]; simp [u8s]) (fun j u hu => hn _ rfl j u hu) ad m cc (u8s q) (by rw [hs, hm]; simp [u8s]) hq hc (by omega) (growslice_fits hc (by rw [hby]; omega))
  have hge := grownCap_ge w (l.length + m) c 5
  have hcm : grownCap w (l.length + m) c 5 ≤ maxLen := grownCap_le_maxLen w (l.length + m) c 5 (by unfold maxLen; omega)
  have hlen : (u8s l ++ u8s q).length = (l.length + m) * 1 := by simp [u8s, hm]
  refine ⟨_, _, _, hr, ⟨⟨by rw [← u8s_app]; exact hlen, .inr ⟨w.heap.size, _, _, rfl, Nat.zero_le _, heap_alloc_new w.drew _, hge, hcm, ?_, ?_⟩⟩, fun k hk => ?_⟩, ((Fr.refl _ _).drew).alloc _⟩
  · subst hm
    simp only [Array.size_append, List.size_toArray, size_zeroCells]
    simp [u8s, Value.cells]
    omega
  · simp only [Array.toList_append, List.append_assoc]
    rw [← List.append_assoc, ← hlen, ← u8s_app]
    exact List.take_left
  · simp only [Value.ownBlock, Option.some.injEq] at hk
    subst hk
    exact ⟨Nat.le_refl _, by simp⟩
theorem be_take : ∀ (k x j : Nat), j < k → (be k x).take (j + 1) = (be k x).take j ++ [((Ab.byteAt x (k - 1 - j) : Nat) : Int)] := fun k x j h => by
  have hl : j < (be k x).length := by rw [be_len]; exact h
  rw [take_snoc' hl]
  have := be_at k x j h
  rw [List.getElem?_eq_getElem hl] at this
  rw [Option.some.inj this]
/-- A slice of bytes is no box of an Arena. -/
theorem Sl.no_box {X : Nat → Prop} {w : World} {v : Value} {n b : Nat} {xs : List Value} (h : Sl X w 5 1 v n xs) {c : Array Value} {f : Nat × Nat} (hb : w.heap[b]? = some (.cells c 25 f)) : v.ownBlock ≠ some b := fun e => by
  obtain ⟨c', h'⟩ := h.row e
  rw [hb] at h'
  simp at h'
theorem refput_step {w wr w7 : World} {O : Obj} {k st : Nat} {x : Int} {va a7 : Option Addr} {vc c7 b : Nat} (hk : k < 8) (hf : Fr Non w wr) (hsl : Sl (New w wr) wr 5 1 (.slice va (4 + k) vc) (4 + k) (u8s (aren ++ (be 8 st).take k)))
    (happ : Appd (New w wr) (wr.alloc O) 5 1 (.slice va (4 + k) vc) (4 + k) 1 (u8s (aren ++ (be 8 st).take k)) [.int .u8 x] a7 c7 w7) (hx : x = (Ab.byteAt st (7 - k) : Nat)) {o : Array Value} (hb : wr.heap[b]? = some (.cells o 25 (0, 0))) :
    Fr Non w w7 ∧ w7.heap[b]? = some (.cells o 25 (0, 0)) ∧ Sl (New w w7) w7 5 1 (.slice a7 (4 + k + 1) c7) (4 + k + 1) (u8s (aren ++ (be 8 st).take (k + 1))) := by
  have hfr : Fr (fun q => (Value.slice va (4 + k) vc).ownBlock = some q) wr w7 := ((Fr.refl _ wr).alloc O).trans happ.fr (fun _ _ h => h)
  have e : u8s (aren ++ (be 8 st).take (k + 1)) = u8s (aren ++ (be 8 st).take k) ++ [.int .u8 x] := by
    rw [be_take 8 st k hk, hx, ← List.append_assoc, ← u8s_app]
    rfl
  have z := hf.size
  have z7 := hfr.size
  rw [e]
  refine ⟨hf.trans hfr (fun q hq e => by have := (hsl.2 q e).1; omega), hfr.keep hb (hsl.no_box hb), happ.sl.mono fun q hq => ?_⟩
  rcases hq with h | h
  · exact ⟨h.1, by have := h.2; omega⟩
  · simp only [World.size_alloc] at h
    exact ⟨by omega, h.2⟩
theorem be_two (n : Nat) (h : n < 65536) : [Value.int .u8 (IntKind.u8.wrap (IntKind.i64.wrap ((n : Int) / 256))), Value.int .u8 (IntKind.u8.wrap ((n : Int).tmod 256))] = u8s (be 2 n) := by
  have hx : IntKind.u8.wrap (IntKind.i64.wrap ((n : Int) / 256)) = ((n / 256 % 256 : Nat) : Int) := by
    have : IntKind.i64.wrap ((n : Int) / 256) = (n : Int) / 256 := by rw [IntKind.wrap_i64]; omega
    rw [this, IntKind.wrap_u8]
    omega
  have hy : IntKind.u8.wrap ((n : Int).tmod 256) = ((n % 256 : Nat) : Int) := by
    rw [Int.tmod_eq_emod_of_nonneg (by omega), IntKind.wrap_u8]
    omega
  rw [hx, hy]
  rfl
theorem refput_chunk {w wr w5 w7 W : World} {F bb : Nat} {L b : List Int} {va a5 a7 : Option Addr} {vc c5 c7 : Nat} {news : List Value} (hW : Fr Non wr W) (hf : Fr Non w wr) (hsl : Sl (New w wr) wr 5 1 (.slice va (12 + F) vc) (12 + F) (u8s L))
    (hf5 : Fr (fun q => (Value.slice va (12 + F) vc).ownBlock = some q) wr w5)
    (happ : Appd (New w wr) W 5 1 (.slice va (12 + F) vc) (12 + F) 2 (u8s L) news a5 c5 w5) (hn : news = u8s (be 2 b.length))
    (happ7 : Appd (fun k => New w wr k ∨ (W.heap.size ≤ k ∧ k < w5.heap.size)) w5 5 1 (.slice a5 (12 + F + 2) c5) (12 + F + 2) b.length (u8s L ++ news) (u8s b) a7 c7 w7)
    {o : Array Value} (hb : w5.heap[bb]? = some (.cells o 25 (0, 0))) :
    Fr Non w w7 ∧ w7.heap[bb]? = some (.cells o 25 (0, 0)) ∧ Sl (New w w7) w7 5 1 (.slice a7 (12 + F + 2 + b.length) c7) (12 + F + 2 + b.length) (u8s (L ++ laid b)) := by
  have z := hf.size
  have z1 := hW.size
  have z5 := hf5.size
  have z7 := happ7.fr.size
  have zz := happ.fr.size
  have hfw5 : Fr Non w w5 := hf.trans hf5 (fun q hq e => by have := (hsl.2 q e).1; omega)
  have e : u8s (L ++ laid b) = u8s L ++ news ++ u8s b := by
    rw [hn, u8s_app, u8s_app]; simp [laid]
  rw [e]
  refine ⟨hfw5.trans happ7.fr (fun q hq e => ?_), happ7.fr.keep hb (happ.sl.no_box hb), happ7.sl.mono fun q hq => ?_⟩
  · rcases happ.sl.2 q e with h | h
    · have := h.1; omega
    · have := h.1; omega
  · rcases hq with (h | h) | h
    · exact ⟨h.1, by have := h.2; omega⟩
    · exact ⟨by omega, by omega⟩
    · exact ⟨by omega, h.2⟩
set_option maxHeartbeats 2000000 in
/-- What the document's PutBlock answers. -/
theorem refput_calls (w : World) (st : Nat) (hst : st < 18446744073709551616) (v : Value) (l : List (List Int)) (h : Chs w v l) (hs : fits l < 1048576) :
    Calls Try.prog 8 #[.agg #[.int .u64 (st : Nat), v]] w fun e w' => ∃ v' r, e = .returned (.tuple #[v', .int .i64 r]) ∧ Fr Non w w' ∧ PutAns w w' st l v' r := by
  have Hch := Lib.hid h
  obtain ⟨a, c, rfl, h1, h2, h3⟩ := h
  have H3 := Lib.hid h3
  have hl := fits_ge l
  unfold maxLen at h2
  clear h3
  go_enter Try.func8, Try.ntmps8
  by_cases b1 : st = 0
  · subst b1
    go_wp2_with fail
    go_ret2
    exact ⟨_, _, rfl, (Fr.refl _ _).alloc _, .inr ⟨fun h => h.1 rfl, rfl, rfl⟩⟩
  by_cases b2 : 4611686018427387904 < st
  · go_wp2_with fail
    go_ret2
    exact ⟨_, _, rfl, (Fr.refl _ _).alloc _, .inr ⟨fun h => by have := h.2.1; omega, rfl, rfl⟩⟩
  by_cases b3 : l.length = 0
  · go_wp2_with fail
    go_ret2
    exact ⟨_, _, rfl, (Fr.refl _ _).alloc _, .inr ⟨fun h => h.2.2.1 (List.eq_nil_of_length_eq_zero b3), rfl, rfl⟩⟩
  have b3' : 0 < l.length := by omega
  have b4 : ((st : Int) == 0) = false := by simp; omega
  have b5 : decide ((4611686018427387904 : Int) < (st : Int)) = false := by simp; omega
  have b6 : ((l.length : Int) == 0) = false := by simp; intro e; subst e; simp at b3'
  have hfc := fun O => fits_calls _ l (w.alloc O) (Hch.out.fr ((Fr.refl Non w).alloc O)) (by omega)
  have Hfc := Lib.hid hfc
  clear hfc
  by_cases b7 : 372 < fits l
  · go_wp2_with fail
    refine (Hfc.out _).mono ?_
    rintro e w' ⟨rfl, rfl⟩
    go_wp2_with fail
    go_ret2
    exact ⟨_, _, rfl, (Fr.refl _ _).alloc _, .inr ⟨fun h => by have := h.2.2.2.1; omega, rfl, rfl⟩⟩
  go_wp2_with fail
  refine (Hfc.out _).mono ?_
  rintro e w' ⟨rfl, rfl⟩
  have hcv : ∀ O : Obj, (convert 26 26 (.slice (some ⟨w.heap.size + 1, 0, none⟩) 4 4)).run Try.prog ((w.alloc O).alloc (.cells #[.int .u8 65, .int .u8 82, .int .u8 69, .int .u8 78] 5)) = .ok (.slice (some ⟨w.heap.size + 1, 0, none⟩) 4 4) ((w.alloc O).alloc (.cells #[.int .u8 65, .int .u8 82, .int .u8 69, .int .u8 78] 5 (4, 5))) := fun O => by
    have := Lib.run_convert_bytes_const (P := Try.prog) (w.alloc O) 26 5 #[.int .u8 65, .int .u8 82, .int .u8 69, .int .u8 78] 4 4 Try.undB Try.und5
    simp only [World.size_alloc] at this
    exact this
  have hby : ∀ O : Obj, Byt ((w.alloc O).alloc (.cells #[.int .u8 65, .int .u8 82, .int .u8 69, .int .u8 78] 5 (4, 5))) (.slice (some ⟨w.heap.size + 1, 0, none⟩) 4 4) aren := fun O =>
    ⟨_, 4, rfl, by decide, by unfold maxLen; omega, .inr ⟨w.heap.size + 1, 0, rfl, fun i u hu => by
      rw [blk_cell (blk_new (w.alloc O) _ (by simp))]
      rcases i with _ | _ | _ | _ | i
      · cases hu; rfl
      · cases hu; rfl
      · cases hu; rfl
      · cases hu; rfl
      · simp [aren] at hu⟩⟩
  go_upto_block 0 with (simp only [hcv])
  have hbx := blk_old_some (blk_new w (.cells #[.int .u64 (st : Nat), .slice a l.length c] 25) rfl) (.cells #[.int .u8 65, .int .u8 82, .int .u8 69, .int .u8 78] 5 (4, 5))
  have hby1 := hby (.cells #[.int .u64 (st : Nat), .slice a l.length c] 25)
  have hf1 : Fr Non w ((w.alloc (.cells #[.int .u64 (st : Nat), .slice a l.length c] 25)).alloc (.cells #[.int .u8 65, .int .u8 82, .int .u8 69, .int .u8 78] 5 (4, 5))) := ((Fr.refl Non w).alloc _).alloc _
  generalize ((w.alloc (.cells #[.int .u64 (st : Nat), .slice a l.length c] 25)).alloc (.cells #[.int .u8 65, .int .u8 82, .int .u8 69, .int .u8 78] 5 (4, 5))) = w1 at *
  have Hbx := Lib.hid hbx
  have Hby1 := Lib.hid hby1
  have Hf1 := Lib.hid hf1
  clear hby hcv hbx hby1 hf1
  go_cut [4, 5] (fun t4 t5 wx => ∃ va vc, t4 = .slice va 12 vc ∧ Fr Non w wx ∧ wx.heap[w.heap.size]? = some (.cells #[.int .u64 (st : Nat), .slice a l.length c] 25 (0, 0)) ∧ Sl (New w wx) wx 5 1 (.slice va 12 vc) 12 (u8s (aren ++ be 8 st)))
  case first =>
    go_wp2_with fail
    go_loopw [4, 5] (fun s i wr => ∃ k : Nat, k ≤ 8 ∧ i = .int .i64 (7 - (k : Int)) ∧ Fr Non w wr ∧ wr.heap[w.heap.size]? = some (.cells #[.int .u64 (st : Nat), .slice a l.length c] 25 (0, 0)) ∧
      ((k = 0 ∧ s = .slice (some ⟨w.heap.size + 1, 0, none⟩) 4 4 ∧ Byt wr s aren) ∨ (0 < k ∧ ∃ va vc, s = .slice va (4 + k) vc ∧ Sl (New w wr) wr 5 1 (.slice va (4 + k) vc) (4 + k) (u8s (aren ++ (be 8 st).take k))))) (fun _ i _ => (intOf i + 1).toNat)
    case atStart => exact ⟨0, by decide, rfl, Hf1.out, Hbx.out, .inl ⟨rfl, rfl, Hby1.out⟩⟩
    case round =>
      obtain ⟨k, hk, rfl, hf, hbox, hs⟩ := hrel
      have Hf := Lib.hid hf
      have Hbox := Lib.hid hbox
      have hbc := blk_cell hbox
      clear hf hbox
      rcases hs with ⟨rfl, rfl, hb⟩ | ⟨hk0, va, vc, rfl, hsl⟩
      · have hcell1 := hbc 0
        simp only [List.getElem?_toArray, List.getElem?_cons_zero, List.getElem?_cons_succ] at hcell1
        have hr := fun O => run_append_full (wr.alloc (.cells #[.int .u8 O] 5)) (w.heap.size + 1) 0 4 4 (hb.fr ((Fr.refl Non wr).alloc _) (fun _ _ h => h)) ⟨wr.heap.size, 0, none⟩ 1 1 [O] rfl (news_at wr [.int .u8 O] _ rfl) (by decide) (by decide) 26
        obtain ⟨a5, c5, w5, hr5, hs5, hf5⟩ := hr ((st : Int) / 72057594037927936)
        have Hr5 := Lib.hid hr5
        clear hr hr5
        go_wp2_with (at_builtin; go_loud (refine Lib.wpList_append_run _ rfl _ _ _ _ rfl _ _ rfl rfl _ _ Hr5.out ?_))
        go_roundw
        case rel =>
          have hfr5 : Fr Non wr w5 := ((Fr.refl Non wr).alloc _).trans hf5 (fun _ _ h => h)
          refine ⟨1, by decide, rfl, Hf.out.trans hfr5 (fun _ _ h => h), hfr5.keep Hbox.out (fun h => h), .inr ⟨by decide, a5, c5, rfl, ?_⟩⟩
          have e : aren ++ (be 8 st).take 1 = aren ++ [(st : Int) / 72057594037927936] := by
            have := be_take 8 st 0 (by decide)
            rw [this, Ab.byteAt_eq]
            congr 2
            simp
            omega
          rw [e]
          exact hs5.mono fun q hq => ⟨by have := hq.1; have := Hf.out.size; simp only [World.size_alloc] at *; omega, hq.2⟩
        case measure => first | (simp [intOf]; done) | (simp [intOf]; omega)
      · by_cases h8 : k = 8
        · subst h8
          go_wp2_with fail
          go_meet
          exact ⟨va, vc, rfl, Hf.out, Hbox.out, by rw [List.take_of_length_le (by rw [be_len]; exact Nat.le_refl _)] at hsl; exact hsl⟩
        · have hcs : k = 1 ∨ k = 2 ∨ k = 3 ∨ k = 4 ∨ k = 5 ∨ k = 6 ∨ k = 7 := by omega
          have Hsl := Lib.hid hsl
          clear hsl
          have hcell1 := hbc 0
          simp only [List.getElem?_toArray, List.getElem?_cons_zero, List.getElem?_cons_succ] at hcell1
          rcases hcs with rfl | rfl | rfl | rfl | rfl | rfl | rfl
          all_goals
            go_wp2_with (at_builtin; go_loud (refine wpList_append_any _ rfl _ _ _ rfl 5 Try.undB Try.inf5b rfl (by decide) rfl (Hsl.out.alloc _) (some ⟨wr.heap.size, 0, none⟩) 1 1 [_] rfl (by simp) (fun e => by cases e) (fun ad e j u hu => by cases e; exact news_at _ _ _ rfl j u hu) (by simp [Value.oneCell']) (by unfold maxLen; omega) (by omega) ?_); intro a7 c7 w7 happ7)
            have Happ7 := Lib.hid happ7
            clear happ7
            go_roundw
            case rel =>
              obtain ⟨h5, h6, h7⟩ := refput_step (by decide) Hf.out Hsl.out Happ7.out (by rw [Ab.byteAt_eq]; simp; try omega) Hbox.out
              exact ⟨_, by decide, rfl, h5, h6, .inr ⟨by decide, a7, c7, rfl, h7⟩⟩
            case measure => first | (simp [intOf]; done) | (simp [intOf]; omega)
  case rest =>
    obtain ⟨va0, vc0, rfl, hf0, hbox0, hsl0⟩ := hcut
    have Hf0 := Lib.hid hf0
    have Hbox0 := Lib.hid hbox0
    have Hsl0 := Lib.hid hsl0
    clear hf0 hbox0 hsl0
    go_wp2_with fail
    go_loopw [4, 6] (fun s i wr => ∃ (k : Nat) (va : Option Addr) (vc : Nat), k ≤ l.length ∧ i = .int .i64 (k : Nat) ∧ s = .slice va (12 + fits (l.take k)) vc ∧ Fr Non w wr ∧ wr.heap[w.heap.size]? = some (.cells #[.int .u64 (st : Nat), .slice a l.length c] 25 (0, 0)) ∧ Sl (New w wr) wr 5 1 (.slice va (12 + fits (l.take k)) vc) (12 + fits (l.take k)) (u8s (aren ++ be 8 st ++ body (l.take k))) ∧ ∀ c ∈ l.take k, Okc c) (fun _ i _ => l.length - (intOf i).toNat)
    case atStart => exact ⟨0, va0, vc0, Nat.zero_le _, rfl, rfl, Hf0.out, Hbox0.out, by
      have := Hsl0.out
      simp only [body, fits, List.take_zero, List.append_nil, Nat.add_zero]
      exact this, by simp⟩
    case round =>
      obtain ⟨k, va, vc, hk, rfl, rfl, hfr, hbox, hsl, hok⟩ := hrel
      have Hfr := Lib.hid hfr
      have Hbox := Lib.hid hbox
      have Hsl := Lib.hid hsl
      have Hok := Lib.hid hok
      have hcell1 := blk_cell hbox 1
      simp only [List.getElem?_toArray, List.getElem?_cons_zero, List.getElem?_cons_succ] at hcell1
      clear hfr hbox hsl hok
      by_cases hlt : k < l.length
      · obtain ⟨g, o, rfl, hc⟩ := H3.out.resolve_left (fun e => by rw [e] at hlt; simp at hlt)
        obtain ⟨s, hcell0, hby0⟩ := hc k l[k] (List.getElem?_eq_getElem hlt)
        have hcell := Hfr.out.cell hcell0 (fun h => h.elim)
        have hgw := World.block_lt_of_cell? w _ hcell0
        have Hby := Lib.hid (hby0.fr Hfr.out (fun _ _ h => h))
        have Hlt := Lib.hid (hby0.lt)
        have Hst := Lib.hid (fits_take_succ hlt)
        have Htk := Lib.hid (take_snoc' hlt)
        have Hle := Lib.hid (fits_take_le l (k + 1))
        have Hmem := Lib.hid (List.getElem_mem hlt)
        obtain ⟨b, hb⟩ : ∃ b, b = l[k] := ⟨_, rfl⟩
        rw [← hb] at Hby Hlt Hst Htk Hmem
        clear hb hby0 hcell0 hc
        obtain ⟨a', c', rfl, g3, g4, _⟩ := id Hby.out
        unfold maxLen at g4
        obtain ⟨F, hF⟩ : ∃ F, F = fits (l.take k) := ⟨_, rfl⟩
        rw [← hF] at Hst Hsl ⊢
        have hFb : F + 2 + b.length ≤ 372 := by have := Hst.out; have := Hle.out; omega
        have HF := Lib.hid hF
        clear hF
        by_cases e0 : b.length = 0
        · go_wp2_with fail
          go_ret2
          exact ⟨_, _, rfl, Hfr.out, .inr ⟨fun h => by have := (h.2.2.2.2 b Hmem.out).1; omega, rfl, rfl⟩⟩
        have e0' : 0 < b.length := by omega
        have e0b : decide ((b.length : Int) < 1) = false := by simp; omega
        by_cases e1 : 300 < b.length
        · go_wp2_with fail
          go_ret2
          exact ⟨_, _, rfl, Hfr.out, .inr ⟨fun h => by have := (h.2.2.2.2 b Hmem.out).2; omega, rfl, rfl⟩⟩
        have e1b : decide (300 < (b.length : Int)) = false := by simp; omega
        have Hbn : Hid (b ≠ []) := Lib.hid (fun e => by subst e; simp at e0')
        have hcell1a := fun O => ((Fr.refl Non wr).alloc O).cell hcell1 (fun h => h)
        have hcella := fun O => ((Fr.refl Non wr).alloc O).cell hcell (fun h => h)
        go_upto_region 14 with fail
        go_region_law (first
          | (refine step_append_any (by rfl) _ _ _ (by rfl) 5 Try.undB Try.inf5b rfl (by decide) (by rfl) (Hsl.out.drew.alloc _) (some ⟨wr.heap.size, 0, none⟩) 2 2 [_, _] (by rfl) (by rfl) (fun e => by cases e) (fun ad e j u hu => by cases e; exact news_at _ _ _ (by simp) j u hu) (by simp [Value.oneCell']) (by unfold maxLen; omega) (by omega) ?_; intro a5 c5 w5 happ; have hf5 : Fr (fun q => (Value.slice va (12 + F) vc).ownBlock = some q) wr w5 := (((Fr.refl _ wr).drew).alloc _).trans happ.fr (fun _ _ h => h); have hbox5 := hf5.keep Hbox.out (Hsl.out.no_box Hbox.out); have hcell15 := blk_cell hbox5 1; simp only [List.getElem?_toArray, List.getElem?_cons_zero, List.getElem?_cons_succ] at hcell15; have hcc5 := hf5.cell hcell (fun e => absurd (Hsl.out.2 _ e).1 (by omega)); have HB5 := Lib.hid (Hby.out.fr hf5 (fun q hq e => absurd (Hlt.out Hbn.out q hq) (by have := (Hsl.out.2 q e).1; omega))); have Hs5 := Lib.hid happ.sl; have Hf5 := Lib.hid hf5; have Hbox5 := Lib.hid hbox5; have Happ := Lib.hid happ; clear happ hf5 hbox5)
          | (refine step_append_any (by rfl) _ _ _ (by rfl) 5 Try.undB Try.inf5b rfl (by decide) (by rfl) Hs5.out a' b.length c' (u8s b) (by rfl) (by simp [u8s]) HB5.out.news.2.2.2.1 HB5.out.news.2.2.2.2 (u8s_one _) (by unfold maxLen; omega) (by omega) ?_; intro a7 c7 w7 happ7))
        all_goals
          have Happ7 := Lib.hid happ7
          clear happ7 hcell15 hcc5
          go_wp2_with fail
          go_roundw
          case rel =>
            obtain ⟨h5, h6, h7⟩ := refput_chunk (((Fr.refl Non wr).alloc _).drew) Hfr.out Hsl.out Hf5.out Happ.out (be_two b.length (by omega)) Happ7.out Hbox5.out
            have e : 12 + fits (l.take (k + 1)) = 12 + F + 2 + b.length := by have := Hst.out; omega
            have eb : aren ++ be 8 st ++ body (l.take k) ++ laid b = aren ++ be 8 st ++ body (l.take (k + 1)) := by
              rw [Htk.out, body_append]; simp [body]
            rw [eb, ← e] at h7
            refine ⟨k + 1, a7, c7, by omega, by simp, by rw [e], h5, h6, h7, fun c hc => ?_⟩
            rw [Htk.out, List.mem_append, List.mem_singleton] at hc
            rcases hc with hc | rfl
            · exact Hok.out c hc
            · exact ⟨by omega, by omega⟩
          case measure => simp [intOf]; omega
      · have ek : k = l.length := by omega
        have Hfe := Lib.hid (show fits (l.take k) = fits l by rw [ek, List.take_length])
        have Hbe := Lib.hid (show body (l.take k) = body l by rw [ek, List.take_length])
        have Hle := Lib.hid (show l.take k = l by rw [ek, List.take_length])
        have hft : fits (l.take k) ≤ 372 := by rw [Hfe.out]; omega
        have hF : 12 + fits (l.take k) + (384 - (12 + fits (l.take k))) = 384 := by omega
        obtain ⟨v5, w5, hr, hs5, hf5⟩ := run_append_pad wr Hsl.out (384 - (12 + fits (l.take k))) (by omega) 26
        rw [hF] at hs5
        have Hg := Lib.hid (And.intro hs5 hf5)
        obtain ⟨F, hFF⟩ : ∃ F, F = fits (l.take k) := ⟨_, rfl⟩
        rw [← hFF] at hft Hsl Hfe Hg hr hF ⊢
        have HF := Lib.hid hFF
        clear hFF hs5 hf5 hF
        rw [show ((384 - (12 + F) : Nat) : Int) = 384 - (12 + (F : Int)) by omega] at hr
        have Hr := Lib.hid hr
        clear hr
        go_wp2_with (at_builtin; go_loud (refine Lib.wpList_append_run _ rfl _ _ _ _ rfl _ (.int .i64 (384 - (12 + (F : Int)))) rfl rfl _ _ Hr.out ?_))
        go_ret2
        obtain ⟨hs5, hf5⟩ := Hg.out
        have hfw5 : Fr Non w w5 := Hfr.out.trans hf5 (fun q hq e => by have := (Hsl.out.2 q e).1; omega)
        refine ⟨_, _, rfl, hfw5, .inl ⟨⟨b1, by omega, fun e => by subst e; simp at b3', by have := Hfe.out; omega, fun c hc => Hok.out c (by rw [Hle.out]; exact hc)⟩, rfl, ?_⟩⟩
        have e : aren ++ be 8 st ++ body (l.take k) ++ List.replicate (384 - (12 + F)) 0 = block st l := by
          rw [Hbe.out, Hfe.out]; unfold block; congr 2; omega
        rw [e] at hs5
        refine hs5.mono fun q hq => ?_
        have z1 := Hfr.out.size
        have z2 := hf5.size
        rcases hq with h | h
        · exact ⟨h.1, by have := h.2; omega⟩
        · exact ⟨by have := h.1; omega, h.2⟩
end Go.Proofs.Ytlpkejklejaejaa
