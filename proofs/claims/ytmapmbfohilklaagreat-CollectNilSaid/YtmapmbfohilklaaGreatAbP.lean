/-
  The abstract machine: append, carried out.
-/
import Derived.Test.YtmapmbfohilklaaGreatAbO
namespace Go.Proofs.YtmapmbfohilklaaGreat.Ab
open Go.RowKit

section
variable {P : Program} {w0 w : World} {G : Nat} {μ : Mu} {H : AH} {r : Result Next}
theorem zeros_size (zc : Array Value) (n : Nat) : (Builtin.zeroCells zc n).size = n * zc.size := by simp [Builtin.zeroCells]
theorem app_get (a b c : Array Value) (i : Nat) : (a ++ b ++ c)[i]? = if i < a.size then a[i]? else if i < a.size + b.size then b[i - a.size]? else c[i - a.size - b.size]? := by
  by_cases h1 : i < a.size
  · rw [if_pos h1, Array.getElem?_append_left (by simp; omega), Array.getElem?_append_left h1]
  · rw [if_neg h1]
    by_cases h2 : i < a.size + b.size
    · rw [if_pos h2, Array.getElem?_append_left (by simp; omega), Array.getElem?_append_right (by omega)]
    · rw [if_neg h2, Array.getElem?_append_right (by simp; omega)]; congr 1; simp; omega
theorem one_append {a b : Array Value} (ha : One a) (hb : One b) : One (a ++ b) := fun v hv => by
  rw [Array.toList_append, List.mem_append] at hv
  rcases hv with h | h
  · exact ha v h
  · exact hb v h
theorem one_list {vs : List Value} (h : ∀ v ∈ vs, v.oneCell' = true) : One vs.toArray := fun v hv => h v (by simpa using hv)
/-- A row made anew for a slice that grew. -/
theorem grown_sound (h : HR w0 G μ H w) {e : TypeId} {s : Nat} {z : List AV} (hz : zeroCellsA P e = some z) {zc : Array Value} (hzc : LR μ z zc.toList) (hzs : z.length = s) (hs0 : 0 < s) {len k : Nat} {old new : Seq} {ovs nvs : List Value}
    (ho : SeqR μ s old ovs) (hol : ovs.length = len * s) (ho1 : ∀ v ∈ ovs, v.oneCell' = true) (hn : SeqR μ s new nvs) (hnl : nvs.length = k * s) (hn1 : ∀ v ∈ nvs, v.oneCell' = true) {tot : Nat} (htot : tot = len + k) {newCap : Nat} (hcap : tot ≤ newCap) {w' : World}
    (hw : Grew (.cells (ovs.toArray ++ nvs.toArray ++ Builtin.zeroCells zc (newCap - tot)) e) w w') (hr : r = .ok (.value (.slice (some ⟨w.heap.size, 0, none⟩) tot newCap)) w') {n : Nat} :
    XR P w0 G μ H.size (grownK P e s tot old new (.fail n) fun o => H.pushK o fun H' => rSlice H.size 0 tot tot true H') r := by
  have hzl := hzc.length
  simp only [Array.length_toList] at hzl
  have hsz : (ovs.toArray ++ nvs.toArray ++ Builtin.zeroCells zc (newCap - tot)).size = newCap * s := by
    have e1 : newCap = len + k + (newCap - tot) := by omega
    have e2 : newCap * s = len * s + k * s + (newCap - tot) * s := by
      have := congrArg (· * s) e1
      simp only [Nat.add_mul] at this
      rw [this]
    simp [zeros_size, hol, hnl, ← hzl, hzs]; omega
  have hone : One (ovs.toArray ++ nvs.toArray ++ Builtin.zeroCells zc (newCap - tot)) := by
    refine one_append (one_append (one_list ho1) (one_list hn1)) ?_
    have := zeros_one hzc (zeroCells_all hz) (n := newCap - tot)
    rw [hzl] at this
    exact this
  have fin : ∀ o : AObj, (∀ ν : Mu, μ.le ν → OR ν ⟨w.heap.size, 0, newCap - tot⟩ o (.cells (ovs.toArray ++ nvs.toArray ++ Builtin.zeroCells zc (newCap - tot)) e)) → XR P w0 G μ H.size (H.pushK o fun H' => rSlice H.size 0 tot tot true H') r := fun o hob => by
    rw [pushK_eq, rSlice_eq]
    have hp := h.push (L := ⟨w.heap.size, 0, newCap - tot⟩) hw rfl (hob _ (Mu.up_le (h.dom _ (Nat.le_refl _)) _))
    refine XR.new hp ?_ hr
    have := VR.slice0 (μ := μ.up H.size ⟨w.heap.size, 0, newCap - tot⟩) (b := H.size) (len := tot) (cap := tot) (g := true) (Mu.up_same _ _ _)
    rw [if_pos rfl, show tot + (newCap - tot) = newCap by omega] at this
    exact this
  have hbytes : ∀ R : Nat, s = 1 → R < 256 ^ tot → (∀ i, i < tot → (ovs ++ nvs)[i]? = some (.int .u8 (.ofNat (byteAt R i)))) → ∀ ν : Mu, OR ν ⟨w.heap.size, 0, newCap - tot⟩ (.bytes tot (sealB R) e false) (.cells (ovs.toArray ++ nvs.toArray ++ Builtin.zeroCells zc (newCap - tot)) e) := fun R h1 hR hc ν => by
    subst h1
    refine ⟨_, (0, 0), rfl, by rw [core_seal]; exact hR, by rw [hsz]; simp only; omega, fun i hi => ?_, free_none _, fun _ => rfl⟩
    rw [core_seal, ← hc i hi, app_get]
    simp only [Nat.zero_add, List.size_toArray, List.getElem?_toArray]
    have hl : (ovs ++ nvs).length = tot := by simp; omega
    by_cases h1 : i < ovs.length
    · rw [if_pos h1, List.getElem?_append_left h1]
    · rw [if_neg h1, if_pos (by omega), List.getElem?_append_right (by omega)]
  have hrows : ∀ c : Tr (List AV), (∀ i, i < tot → (getR c (path i) z).length = s ∧ ∀ j a, (getR c (path i) z)[j]? = some a → ∃ v, (ovs ++ nvs)[i * s + j]? = some v ∧ VR μ a v) → ∀ ν : Mu, μ.le ν → OR ν ⟨w.heap.size, 0, newCap - tot⟩ (.rows tot s c z e) (.cells (ovs.toArray ++ nvs.toArray ++ Builtin.zeroCells zc (newCap - tot)) e) := fun c hc ν hν => by
    refine ⟨_, rfl, by rw [hsz]; simp only [Nat.zero_add]; rw [show tot + (newCap - tot) = newCap by omega]; exact Nat.le_refl _, fun i hi => ⟨(hc i hi).1, fun j a ha => ?_⟩, hone⟩
    obtain ⟨v, hv, hvr⟩ := (hc i hi).2 j a ha
    refine ⟨v, ?_, hvr.mono hν⟩
    have hlt := (List.getElem?_eq_some_iff.1 hv).1
    rw [List.length_append] at hlt
    rw [app_get]
    simp only [Nat.zero_add, List.size_toArray, List.getElem?_toArray]
    by_cases h1 : i * s + j < ovs.length
    · rw [if_pos h1]; rw [List.getElem?_append_left h1] at hv; exact hv
    · rw [if_neg h1, if_pos hlt]; rw [List.getElem?_append_right (by omega)] at hv; exact hv
  unfold grownK
  split
  · rename_i m M
    refine XR.cond (fun hc => ?_) (fun _ => trivial)
    have ho : ovs = [] := ho
    subst ho
    obtain ⟨h1, hm, hM, hv⟩ := hn
    have hlen : len = 0 := by
      have : len * s = 0 := by rw [← hol]; rfl
      rcases Nat.mul_eq_zero.1 this with e | e
      · exact e
      · omega
    have hmt : m = tot := by rw [← hm, hnl, h1, htot, hlen]; omega
    rw [fNat_eq]
    subst hmt
    exact fin _ fun ν _ => hbytes M h1 hM (fun i hi => by rw [List.nil_append]; exact hv i hi) ν
  · rename_i n' N m M
    refine XR.cond (fun hc => ?_) (fun _ => trivial)
    obtain ⟨h1, hn', hN, hvo⟩ := ho
    obtain ⟨_, hm, hM, hvn⟩ := hn
    have hmt : n' + m = tot := by rw [← hm, ← hn', hnl, hol, h1, htot]; omega
    rw [fNat_eq, fNat_eq]
    refine fin _ fun ν _ => hbytes _ h1 ?_ (fun i hi => ?_) ν
    · rw [← hmt]; exact join_lt hN hM
    · have := byteAt_join (hi := M) hN i
      rw [show Nat.add N (Nat.mul (Nat.pow 256 n') M) = N + 256 ^ n' * M from rfl, this]
      by_cases h2 : i < n'
      · rw [if_pos h2, List.getElem?_append_left (by omega)]; exact hvo i h2
      · rw [if_neg h2, List.getElem?_append_right (by omega), hn']; exact hvn _ (by omega)
  · rename_i m
    split
    · rename_i z' hz'
      obtain rfl : z = z' := by rw [hz] at hz'; exact Option.some.inj hz'
      refine XR.cond (fun hc => ?_) (fun _ => trivial)
      have ho : ovs = [] := ho
      subst ho
      obtain ⟨hl, hsr⟩ := hn
      have hml : m.length = k := by
        have : m.length * s = k * s := by rw [← flat_length m hsr, hl.length, hnl]
        exact Nat.eq_of_mul_eq_mul_right hs0 this
      have hlen : len = 0 := by
        have : len * s = 0 := by rw [← hol]; rfl
        rcases Nat.mul_eq_zero.1 this with e | e
        · exact e
        · omega
      rw [fNat_eq, setRowsK_eq]
      refine fin _ (hrows _ fun i hi => ?_)
      rw [treeOf_get, if_pos (by omega), Nat.sub_zero, List.getElem?_eq_getElem (by omega), Option.getD_some]
      refine ⟨hsr _ (List.getElem_mem _), fun j a ha => ?_⟩
      rw [List.nil_append]
      exact seq_row hl hsr (List.getElem?_eq_getElem (by omega)) ha
    · trivial
  · rename_i l m
    split
    · rename_i z' hz'
      obtain rfl : z = z' := by rw [hz] at hz'; exact Option.some.inj hz'
      refine XR.cond (fun hc => ?_) (fun _ => trivial)
      obtain ⟨hlo, hso⟩ := ho
      obtain ⟨hl, hsr⟩ := hn
      have hml : m.length = k := by
        have : m.length * s = k * s := by rw [← flat_length m hsr, hl.length, hnl]
        exact Nat.eq_of_mul_eq_mul_right hs0 this
      have hll : l.length = len := by
        have : l.length * s = len * s := by rw [← flat_length l hso, hlo.length, hol]
        exact Nat.eq_of_mul_eq_mul_right hs0 this
      rw [fNat_eq, setRowsK_eq, setRowsK_eq]
      refine fin _ (hrows _ fun i hi => ?_)
      rw [treeOf_get, treeOf_get]
      by_cases h1 : l.length ≤ i
      · rw [if_pos (by omega), List.getElem?_eq_getElem (by omega), Option.getD_some]
        refine ⟨hsr _ (List.getElem_mem _), fun j a ha => ?_⟩
        obtain ⟨v, hv, hvr⟩ := seq_row hl hsr (List.getElem?_eq_getElem (by omega)) ha
        refine ⟨v, ?_, hvr⟩
        have e : (i - l.length) * s + len * s = i * s := by rw [← Nat.add_mul]; congr 1; omega
        rw [List.getElem?_append_right (by omega), hol, ← hv]; congr 1; omega
      · rw [if_neg (by omega), if_pos (by omega), Nat.sub_zero, List.getElem?_eq_getElem (by omega), Option.getD_some]
        refine ⟨hso _ (List.getElem_mem _), fun j a ha => ?_⟩
        obtain ⟨v, hv, hvr⟩ := seq_row hlo hso (List.getElem?_eq_getElem (by omega)) ha
        exact ⟨v, by rw [List.getElem?_append_left (List.getElem?_eq_some_iff.1 hv).1]; exact hv, hvr⟩
    · trivial
  · trivial
end
end Go.Proofs.YtmapmbfohilklaaGreat.Ab
