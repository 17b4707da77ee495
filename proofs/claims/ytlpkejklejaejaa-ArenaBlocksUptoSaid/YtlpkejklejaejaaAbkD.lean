/-
  append(b, make([]byte, k)...) on a slice of bytes that is owned; octet.Put.
-/
import Derived.Test.YtlpkejklejaejaaAbkC
import Derived.Lib.AppendZeros
import Derived.Lib.AppendZerosOnto
import Derived.Laws.CopyRow
set_option maxRecDepth 100000
set_option linter.unusedVariables false
set_option linter.unusedSimpArgs false
set_option linter.constructorNameAsVariable false
namespace Go.Proofs.Ytlpkejklejaejaa
open Go.RowKit Abk

theorem undI : Try.prog.underlying 3 = some (.int .i64) := by kernel_rfl
def zs (k : Nat) : List Value := List.replicate k (.int .u8 0)
theorem zeroCells_zs (k : Nat) : Builtin.zeroCells (Value.int .u8 0).cells k = (zs k).toArray := by
  unfold Builtin.zeroCells zs
  simp only [Value.cells]
  apply Array.ext
  · simp
  · intro i h1 h2
    simp [Nat.mod_one]
theorem run_append_zeros (w : World) {X : Nat → Prop} {v : Value} {n : Nat} {xs : List Value} (h : Sl X w 5 1 v n xs) (m : Nat) (hm : 0 < m) (hb : n + m < 1048576) (ty : TypeId) :
    ∃ a' c' w', (Builtin.append_ #[26, 3] ty #[v, .int .i64 (m : Nat)]).run Try.prog w = .ok (.slice a' (n + m) c') w' ∧ Appd X w 5 1 v n m xs (zs m) a' c' w' := by
  obtain ⟨i, hi, hz, hs, hby⟩ := info_parts Try.inf5b
  have hl : (zs m).length = m * i.size := by rw [hs]; simp [zs]
  have h1 : ∀ u ∈ zs m, u.oneCell' = true := fun u hu => by
    rw [List.eq_of_mem_replicate hu]; rfl
  have hlen : (xs ++ zs m).length = (n + m) * 1 := by rw [List.length_append, h.1.1]; simp [zs]
  have grown : ∀ (old : Nat), old < n + m →
      Sl (fun k => X k ∨ (w.heap.size ≤ k ∧ k < (w.drew.alloc (.cells (xs.toArray ++ (zs m).toArray ++ Builtin.zeroCells (Value.int .u8 0).cells (grownCap w (n + m) old 5 - (n + m))) 5)).heap.size)) (w.drew.alloc (.cells (xs.toArray ++ (zs m).toArray ++ Builtin.zeroCells (Value.int .u8 0).cells (grownCap w (n + m) old 5 - (n + m))) 5)) 5 1
        (.slice (some ⟨w.heap.size, 0, none⟩) (n + m) (grownCap w (n + m) old 5)) (n + m) (xs ++ zs m) := by
    intro old ho
    have hge := grownCap_ge w (n + m) old 5
    have hcm : grownCap w (n + m) old 5 ≤ maxLen := grownCap_le_maxLen w (n + m) old 5 (by unfold maxLen; omega)
    refine ⟨⟨hlen, .inr ⟨w.heap.size, _, _, rfl, Nat.zero_le _, heap_alloc_new w.drew _, hge, hcm, ?_, ?_⟩⟩, fun k hk => ?_⟩
    · have hxl : xs.length = n := by rw [h.1.1, Nat.mul_one]
      rw [zeroCells_zs]
      simp [zs, hxl]
      omega
    · simp only [Array.toList_append, List.append_assoc]
      rw [← List.append_assoc, ← hlen]
      exact List.take_left
    · simp only [Value.ownBlock, Option.some.injEq] at hk
      subst hk
      exact .inr ⟨Nat.le_refl _, by simp⟩
  rcases h.1.2 with ⟨rfl, rfl⟩ | ⟨g, cap, cur, rfl, _, hg, hnc, hcm, hcs, htake⟩
  · have hx : xs = [] := List.eq_nil_of_length_eq_zero (by simpa using h.1.1)
    subst hx
    have hr := Lib.run_append_nil_zeros (P := Try.prog) w 26 3 ty 5 i _ .i64 .i64 Try.undB undI hi hz m hm (by rw [hs]; omega) (by omega) (by rw [hby]; omega)
    rw [zeroCells_zs m] at hr
    have hgr := grown 0 (by omega)
    simp only [Nat.zero_add, List.nil_append, Array.empty_append] at hgr ⊢
    refine ⟨_, _, _, hr, ⟨?_, ((Fr.refl _ _).drew).alloc _, fun k hk => .inr (by simp [Value.ownBlock] at hk; omega), fun _ => by simp, fun _ => by simp⟩⟩
    rw [Nat.zero_add, List.nil_append]
    exact hgr
  · by_cases hroom : n + m ≤ cap
    · have hw : IntKind.i64.wrap (m : Int) = m := by rw [IntKind.wrap_i64]; omega
      have hfit : n * 1 + 0 + (zs m).length ≤ cur.size := by rw [hcs]; simp [zs]; exact hroom
      have hst := run_storeCells_at Try.prog g (n * 1) 5 (zs m) 0 cur w hg hfit h1
      simp only [Nat.add_zero] at hst
      have hns : ¬ (m = 0) := by omega
      have hneg : ¬ ((m : Int) < 0) := by omega
      have h48i : ¬ (281474976710656 < (m : Int)) := by omega
      have hr : (Builtin.append_ #[26, 3] ty #[.slice (some ⟨g, 0, none⟩) n cap, .int .i64 (m : Nat)]).run Try.prog w = .ok (.slice (some ⟨g, 0, none⟩) (n + m) cap) (w.setRow g (cur.toList.take (n * 1) ++ zs m ++ cur.toList.drop (n * 1 + (zs m).length)).toArray) := by
        simp [Builtin.append_, run_underlying Try.undB, run_underlying undI, sizeOf, typeInfo, zeroValue, hi, hz, hs, hby, asInt, asIntOf, hw, hroom, hneg, hns, h48i, zeroCells_zs, Addr.add_lit, hst]
        rw [Nat.mul_one, List.append_assoc] at hst
        rw [hst]
        rfl
      refine ⟨_, _, _, hr, ⟨⟨hlen, .inr ⟨g, cap, _, rfl, Nat.zero_le _, setRow_heap w g cur _ 5 _ hg, hroom, hcm, ?_, ?_⟩⟩, fun k hk => .inl (h.2 k hk)⟩, (Fr.refl (fun k => (Value.slice (some ⟨g, 0, none⟩) n cap).ownBlock = some k) w).setRow (r := g) (fun _ => rfl) _, fun k hk => .inl hk, fun _ => by simp, fun _ => by simp⟩
      · simp only [List.size_toArray, List.length_append, List.length_take, List.length_drop, Array.length_toList]
        omega
      · rw [htake, ← hlen]
        exact List.take_left
    · have holds : ∀ j u, xs[j]? = some u → w.cell? ((⟨g, 0, none⟩ : Addr).add j) = some u := h.1.cells (g := g) rfl
      have hr := Lib.run_append_grow_zeros (P := Try.prog) w 26 3 ty 5 i _ .i64 .i64 Try.undB undI hi hz (some ⟨g, 0, none⟩) n cap xs (run_firstCells_some w.drew i.size n ⟨g, 0, none⟩ n cap xs (by rw [hs]; exact h.1.1) (fun j u hu => holds j u hu)) m hm (by rw [hs]; omega) (by omega) (by omega) (by rw [hby]; omega) (growslice_fits (by omega) (by rw [hby]; omega))
      rw [zeroCells_zs m] at hr
      exact ⟨_, _, _, hr, grown cap (by omega), ((Fr.refl _ _).drew).alloc _, fun k hk => .inr (by simp [Value.ownBlock] at hk; omega), fun _ => by simp, fun _ => by simp⟩
theorem be_at : ∀ (k x j : Nat), j < k → (be k x)[j]? = some ((Ab.byteAt x (k - 1 - j) : Nat) : Int)
  | k + 1, x, j, h => by
    rw [be]
    by_cases e : j = k
    · subst e
      rw [List.getElem?_append_right (by rw [be_len]; exact Nat.le_refl _), be_len, Nat.sub_self, show j + 1 - 1 - j = 0 by omega, Ab.byteAt_eq]
      simp
    · rw [List.getElem?_append_left (by rw [be_len]; omega), be_at k _ j (by omega)]
      have := Ab.byteAt_div x 1 (k - 1 - j)
      rw [Nat.pow_one] at this
      rw [this, show 1 + (k - 1 - j) = k + 1 - 1 - j by omega]
/-- octet.Put, behind its append. -/
theorem put_core (w w1 : World) {X : Nat → Prop} (va a1 : Option Addr) (vc c1 : Nat) (l : List Int) (x k : Nat) (hx : x < 18446744073709551616) (h0 : 0 < k) (hk : k ≤ 64) (hl : l.length < 1000000)
    (hr : (Builtin.append_ #[26, 3] 26 #[.slice va l.length vc, .int .i64 (k : Nat)]).run Try.prog w = .ok (.slice a1 (l.length + k) c1) w1) (hs1 : Sl X w1 5 1 (.slice a1 (l.length + k) c1) (l.length + k) (u8s l ++ zs k)) :
    Calls Try.prog 26 #[.slice va l.length vc, .int .u64 (x : Nat), .int .i64 (k : Nat)] w fun e w' => ∃ g, e = .returned (.slice a1 (l.length + k) c1) ∧ a1 = some ⟨g, 0, none⟩ ∧ Fr (fun q => q = g) w1 w' ∧ w'.heap.size = w1.heap.size ∧ Sl X w' 5 1 (.slice a1 (l.length + k) c1) (l.length + k) (u8s (l ++ be k x)) := by
  rcases hs1.1.2 with ⟨_, h00⟩ | ⟨g, cap, cur, hv, _, hg, hnc, hcm, hcs, htake⟩
  · omega
  obtain ⟨rfl, rfl⟩ : a1 = some ⟨g, 0, none⟩ ∧ c1 = cap := by simpa using hv
  have hle : l.length + k ≤ cur.size := by rw [hcs]; omega
  have hb4 : ¬ (c1 = l.length) := by omega
  have hb5 : l.length + k ≤ c1 := hnc
  have hXg : X g := hs1.2 g rfl
  have Hg := Lib.hid hg
  have Ht := Lib.hid htake
  have Hw := Lib.hid (And.intro hcm hcs)
  clear hs1 hg htake hv hcm hcs
  go_enter Try.func26, Try.ntmps26
  go_wp2_with (at_builtin; go_loud (refine Lib.wpList_append_run _ rfl _ _ _ _ rfl _ _ rfl rfl _ _ hr ?_))
  refine (lay_calls g l.length k _ x w1 cur 5 h0 hk hx Hg.out hle).mono ?_
  rintro e w2 ⟨arr', rfl, hs, hin, hout, hap, ho'⟩
  have Hin := Lib.hid hin
  have Hout := Lib.hid hout
  have Ho := Lib.hid ho'
  clear hin hout ho'
  go_wp2_with fail
  go_ret
  have hf12 : Fr (fun q => q = g) w1 w2 := ⟨hap.os, hap.tape, hap.output, Nat.le_of_eq hap.size.symm, fun q _ hn => hap.block q hn⟩
  refine ⟨g, rfl, rfl, hf12, hap.size, ⟨⟨by simp [u8s, be_len], .inr ⟨g, c1, arr', rfl, Nat.zero_le _, Ho.out, hb5, Hw.out.1, by rw [hs]; exact Hw.out.2, ?_⟩⟩, fun q hq => ?_⟩⟩
  · apply List.ext_getElem?
    intro j
    have ht := fun j : Nat => congrArg (fun L : List Value => L[j]?) Ht.out
    by_cases hj : j < l.length + k
    · rw [List.getElem?_take, if_pos (by omega), Array.getElem?_toList]
      rcases Nat.lt_or_ge j l.length with h' | h'
      · rw [Hout.out j (.inl h')]
        have h2 := ht j
        simp only [List.getElem?_take, Array.getElem?_toList] at h2
        rw [if_pos (by omega), List.getElem?_append_left (by simpa [u8s] using h')] at h2
        rw [h2]
        simp only [u8s, List.map_append]
        rw [List.getElem?_append_left (by simpa using h')]
      · obtain ⟨q, rfl⟩ : ∃ q, j = l.length + q := ⟨j - l.length, by omega⟩
        rw [Hin.out q (by omega)]
        simp only [u8s, List.map_append]
        rw [List.getElem?_append_right (by simp), List.length_map, Nat.add_sub_cancel_left, List.getElem?_map, be_at k x q (by omega)]
        rfl
    · rw [List.getElem?_eq_none (by simp; omega), List.getElem?_eq_none (by simp [u8s, be_len]; omega)]
  · obtain rfl : g = q := Option.some.inj hq
    exact hXg
/-- octet.Put lays a number behind bytes that are owned. -/
theorem put_calls (w : World) {X : Nat → Prop} {v : Value} {l : List Int} (h : Sl X w 5 1 v l.length (u8s l)) (x k : Nat) (hx : x < 18446744073709551616) (h0 : 0 < k) (hk : k ≤ 64) (hl : l.length < 1000000) :
    Calls Try.prog 26 #[v, .int .u64 (x : Nat), .int .i64 (k : Nat)] w fun e w' => ∃ v', e = .returned v' ∧ Fr (fun q => v.ownBlock = some q) w w' ∧ Sl (fun q => X q ∨ New w w' q) w' 5 1 v' (l.length + k) (u8s (l ++ be k x)) := by
  obtain ⟨a1, c1, w1, hr, happ⟩ := run_append_zeros w h k h0 (by omega) 26
  obtain ⟨va, vc, rfl, g1, g2, _⟩ := h.open
  refine (put_core w w1 va a1 vc c1 l x k hx h0 hk hl hr happ.sl).mono ?_
  rintro e w2 ⟨g, rfl, rfl, hf, hz, hs⟩
  have hown : ∀ q, q = g → (Value.slice va l.length vc).ownBlock = some q ∨ w.heap.size ≤ q := fun q hq => by subst hq; exact happ.own q rfl
  refine ⟨_, rfl, happ.fr.trans hf (fun q hq e => (hown q e).resolve_right (by omega)), hs.mono fun q hq => hq.imp id fun h => ⟨h.1, by rw [hz]; exact h.2⟩⟩
/-- octet.Put behind bytes that have no room: they are copied. -/
theorem put_grow (w : World) (b o n c : Nat) {l : List Int} (h : Byt w (.slice (some ⟨b, o, none⟩) n c) l) (x k : Nat) (hx : x < 18446744073709551616) (h0 : 0 < k) (hk : k ≤ 64) (hl : l.length < 1000000) (hc : c < n + k) :
    Calls Try.prog 26 #[.slice (some ⟨b, o, none⟩) n c, .int .u64 (x : Nat), .int .i64 (k : Nat)] w fun e w' => ∃ v', e = .returned v' ∧ Fr Non w w' ∧ Sl (New w w') w' 5 1 v' (l.length + k) (u8s (l ++ be k x)) := by
  obtain ⟨rfl, g1, g2, _, hn⟩ := h.news
  obtain ⟨i, hi, hz, hs, hby⟩ := info_parts Try.inf5b
  have hr := Lib.run_append_grow_zeros (P := Try.prog) w 26 3 26 5 i _ .i64 .i64 Try.undB undI hi hz (some ⟨b, o, none⟩) l.length c (u8s l) (run_firstCells_some w.drew i.size l.length ⟨b, o, none⟩ l.length c (u8s l) (by rw [hs]; simp [u8s]) (fun j u hu => hn _ rfl j u hu)) k h0 (by rw [hs]; omega) hc (by omega) (by rw [hby]; omega) (growslice_fits hc (by rw [hby]; omega))
  rw [zeroCells_zs k] at hr
  have hge := grownCap_ge w (l.length + k) c 5
  have hcm : grownCap w (l.length + k) c 5 ≤ maxLen := grownCap_le_maxLen w (l.length + k) c 5 (by unfold maxLen; omega)
  have hsl : Sl (fun q => q = w.heap.size) (w.drew.alloc (.cells ((u8s l).toArray ++ (zs k).toArray ++ Builtin.zeroCells (Value.int .u8 0).cells (grownCap w (l.length + k) c 5 - (l.length + k))) 5)) 5 1 (.slice (some ⟨w.heap.size, 0, none⟩) (l.length + k) (grownCap w (l.length + k) c 5)) (l.length + k) (u8s l ++ zs k) := by
    refine ⟨⟨by simp [u8s, zs], .inr ⟨w.heap.size, _, _, rfl, Nat.zero_le _, heap_alloc_new w.drew _, hge, hcm, ?_, ?_⟩⟩, fun q hq => (Option.some.inj hq).symm⟩
    · rw [zeroCells_zs]
      simp [zs, u8s]
      omega
    · simp only [Array.toList_append, List.append_assoc]
      rw [← List.append_assoc, show (l.length + k) * 1 = (u8s l ++ zs k).length by simp [u8s, zs]]
      exact List.take_left
  refine (put_core w _ _ _ c _ l x k hx h0 hk hl hr hsl).mono ?_
  rintro e w2 ⟨g, rfl, hg, hf, hzz, hs2⟩
  obtain rfl : w.heap.size = g := by simpa using hg
  have hz1 : (w.drew.alloc (.cells ((u8s l).toArray ++ (zs k).toArray ++ Builtin.zeroCells (Value.int .u8 0).cells (grownCap w (l.length + k) c 5 - (l.length + k))) 5)).heap.size = w.heap.size + 1 := by simp
  refine ⟨_, rfl, (((Fr.refl Non w).drew).alloc _).trans hf (fun q hq e => by omega), hs2.mono fun q hq => ⟨by omega, by rw [hzz, hz1]; omega⟩⟩
end Go.Proofs.Ytlpkejklejaejaa
