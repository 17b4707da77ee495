/-
  slices.Insert of one element into the middle of a grown row: what the abstract machine takes it to do is what it does.
-/
import Derived.Test.YtabllhhainepgaaGreatDoorInsW
import Derived.Test.YtabllhhainepgaaGreatDoorErrOK
set_option maxRecDepth 100000
namespace Go.Proofs.YtabllhhainepgaaGreatDoor
open Go.RowKit Ab
set_option linter.unusedVariables false
set_option linter.unusedSimpArgs false
set_option linter.constructorNameAsVariable false

/-- A row with values laid from a place on. -/
def spl (arr : Array Value) : Nat → List Value → Array Value
  | _, [] => arr
  | o, v :: r => spl (arr.setIfInBounds o v) (o + 1) r
theorem spl_size : ∀ (vs : List Value) (arr : Array Value) (o : Nat), (spl arr o vs).size = arr.size
  | [], _, _ => rfl
  | v :: r, arr, o => by rw [spl, spl_size r]; simp
theorem spl_get : ∀ (vs : List Value) (arr : Array Value) (o k : Nat), o + vs.length ≤ arr.size → (spl arr o vs)[k]? = if o ≤ k ∧ k < o + vs.length then vs[k - o]? else arr[k]?
  | [], arr, o, k, _ => by rw [if_neg (by simp)]; rfl
  | v :: r, arr, o, k, h => by
    simp only [List.length_cons] at h ⊢
    rw [spl, spl_get r _ _ _ (by simp; omega)]
    by_cases h1 : o + 1 ≤ k ∧ k < o + 1 + r.length
    · rw [if_pos h1, if_pos (by omega), show k - o = (k - (o + 1)) + 1 by omega, List.getElem?_cons_succ]
    · rw [if_neg h1]
      by_cases h2 : k = o
      · subst h2
        rw [if_pos (by omega), Nat.sub_self, List.getElem?_cons_zero, Array.getElem?_setIfInBounds_self, if_pos (by omega)]
      · rw [if_neg (by omega), Array.getElem?_setIfInBounds_ne (by omega)]
theorem one_get {arr : Array Value} (h : One arr) {k : Nat} {u : Value} (hu : arr[k]? = some u) : u.oneCell' = true := h u (by simpa using Array.mem_of_getElem? hu)
theorem one_of {arr : Array Value} (h : ∀ (k : Nat) (u : Value), arr[k]? = some u → u.oneCell' = true) : One arr := fun u hu => by
  obtain ⟨k, hk⟩ := List.getElem?_of_mem hu
  exact h k u (by simpa using hk)
theorem spl_one {arr : Array Value} (h : One arr) : ∀ (vs : List Value) (o : Nat), (∀ v ∈ vs, v.oneCell' = true) → One (spl arr o vs)
  | vs, o, h1 => by
    induction vs generalizing arr o with
    | nil => exact h
    | cons v r ih =>
      refine ih (arr := arr.setIfInBounds o v) (one_of ?_) (o + 1) (fun u hu => h1 u (List.mem_cons_of_mem _ hu))
      intro k u hu
      by_cases e : k = o
      · subst e
        rw [Array.getElem?_setIfInBounds_self] at hu
        split at hu
        · cases hu; exact h1 v (by simp)
        · cases hu
      · rw [Array.getElem?_setIfInBounds_ne (by omega)] at hu
        exact one_get h hu
theorem setCells_row {b : Nat} {t : TypeId} {fz : Nat × Nat} : ∀ (vs : List Value) (o : Nat) (w : World) (arr : Array Value), w.heap[b]? = some (.cells arr t fz) → (w.setCells b o vs).heap[b]? = some (.cells (spl arr o vs) t fz) ∧ Apart b w (w.setCells b o vs)
  | [], o, w, arr, h => ⟨h, ⟨rfl, rfl, rfl, rfl, fun _ _ => rfl⟩⟩
  | v :: r, o, w, arr, h => by
    have h1 : (w.setCell ⟨b, o, none⟩ v).heap[b]? = some (.cells (arr.setIfInBounds o v) t fz) := by
      simp [World.setCell, Array.getElem?_modify, h]
    obtain ⟨g1, g2⟩ := setCells_row r (o + 1) (w.setCell ⟨b, o, none⟩ v) _ h1
    refine ⟨g1, ⟨g2.os, g2.tape, g2.output, by rw [World.setCells, g2.size]; simp [World.setCell], fun k hk => ?_⟩⟩
    rw [World.setCells, g2.block k hk]
    simp only [World.setCell, Array.getElem?_modify]
    rw [if_neg (by omega)]
theorem modify_push (h0 : Array Obj) (x : Obj) (f : Obj → Obj) : (h0.push x).modify h0.size f = h0.push (f x) := by
  apply Array.ext_getElem?
  intro i
  rw [Array.getElem?_modify, Array.getElem?_push, Array.getElem?_push]
  by_cases e : i = h0.size
  · subst e; simp
  · rw [if_neg (by omega), if_neg e, if_neg e]
theorem setCells_push {t : TypeId} {fz : Nat × Nat} (h0 : Array Obj) : ∀ (vs : List Value) (o : Nat) (w : World) (arr : Array Value), w.heap = h0.push (.cells arr t fz) → (w.setCells h0.size o vs).heap = h0.push (.cells (spl arr o vs) t fz) ∧ (w.setCells h0.size o vs).os = w.os ∧ (w.setCells h0.size o vs).tape = w.tape ∧ (w.setCells h0.size o vs).output = w.output
  | [], o, w, arr, h => ⟨h, rfl, rfl, rfl⟩
  | v :: r, o, w, arr, h => by
    have h1 : (w.setCell ⟨h0.size, o, none⟩ v).heap = h0.push (.cells (arr.setIfInBounds o v) t fz) := by
      simp only [World.setCell, h, modify_push]
      simp
    obtain ⟨g1, g2, g3, g4⟩ := setCells_push h0 r (o + 1) (w.setCell ⟨h0.size, o, none⟩ v) _ h1
    exact ⟨g1, g2, g3, g4⟩
theorem rowsFrom_get (c : Tr (List AV)) (z : List AV) : ∀ (k i j : Nat), j < k → (rowsFrom c z k i)[j]? = some (getR c (path (i + j)) z)
  | 0, i, j, h => by omega
  | k + 1, i, j, h => by
    have e : rowsFrom c z (k + 1) i = getR c (path i) z :: rowsFrom c z k (i + 1) := rfl
    rw [e]
    cases j with
    | zero => rfl
    | succ j => rw [List.getElem?_cons_succ, rowsFrom_get c z k (i + 1) j (by omega), show i + 1 + j = i + (j + 1) by omega]
theorem rowsFrom_len (c : Tr (List AV)) (z : List AV) : ∀ (k i : Nat), (rowsFrom c z k i).length = k
  | 0, _ => rfl
  | k + 1, i => by
    have e : rowsFrom c z (k + 1) i = getR c (path i) z :: rowsFrom c z k (i + 1) := rfl
    rw [e, List.length_cons, rowsFrom_len]
/-- The rows with one more among them. -/
theorem ins_rows {μ : Mu} {c d : Tr (List AV)} {z row : List AV} {arr arr2 : Array Value} {o o2 n i : Nat} {x : Value} (hi : i ≤ n) (hc : ∀ j, j < n → (getR c (path j) z).length = 1 ∧ RowR μ arr (o + j * 1) (getR c (path j) z)) (hr : row.length = 1) (hrx : ∀ a, row[0]? = some a → VR μ a x)
    (hd : d = treeOf z (rowsFrom c z i 0 ++ row :: rowsFrom c z (n - i) i) .nil 0) (h1 : ∀ j, j < i → arr2[o2 + j]? = arr[o + j]?) (h2 : arr2[o2 + i]? = some x) (h3 : ∀ j, i ≤ j → j < n → arr2[o2 + (j + 1)]? = arr[o + j]?) :
    ∀ j, j < n + 1 → (getR d (path j) z).length = 1 ∧ RowR μ arr2 (o2 + j * 1) (getR d (path j) z) := by
  intro j hj
  subst hd
  have hlen : (rowsFrom c z i 0 ++ row :: rowsFrom c z (n - i) i).length = n + 1 := by simp [rowsFrom_len]; omega
  rw [treeOf_get, if_pos (by omega), Nat.sub_zero]
  rcases Nat.lt_trichotomy j i with hlt | rfl | hgt
  · rw [List.getElem?_append_left (by rw [rowsFrom_len]; exact hlt), rowsFrom_get _ _ _ _ _ hlt, Option.getD_some, Nat.zero_add]
    obtain ⟨g1, g2⟩ := hc j (by omega)
    refine ⟨g1, fun k a ha => ?_⟩
    obtain ⟨v, hv, hvr⟩ := g2 k a ha
    have hk : k < 1 := by have := (List.getElem?_eq_some_iff.1 ha).1; omega
    refine ⟨v, ?_, hvr⟩
    have : k = 0 := by omega
    subst this
    rw [Nat.mul_one, Nat.add_zero] at hv ⊢
    rw [h1 j hlt]; exact hv
  · rw [List.getElem?_append_right (by rw [rowsFrom_len]; exact Nat.le_refl _), rowsFrom_len, Nat.sub_self, List.getElem?_cons_zero, Option.getD_some]
    refine ⟨hr, fun k a ha => ?_⟩
    have hk : k < 1 := by have := (List.getElem?_eq_some_iff.1 ha).1; omega
    have : k = 0 := by omega
    subst this
    exact ⟨x, by rw [Nat.mul_one, Nat.add_zero]; exact h2, hrx a ha⟩
  · obtain ⟨q, rfl⟩ : ∃ q, j = q + 1 := ⟨j - 1, by omega⟩
    rw [List.getElem?_append_right (by rw [rowsFrom_len]; omega), rowsFrom_len, show q + 1 - i = (q - i) + 1 by omega, List.getElem?_cons_succ, rowsFrom_get _ _ _ _ _ (by omega), Option.getD_some, show i + (q - i) = q by omega]
    obtain ⟨g1, g2⟩ := hc q (by omega)
    refine ⟨g1, fun k a ha => ?_⟩
    obtain ⟨v, hv, hvr⟩ := g2 k a ha
    have hk : k < 1 := by have := (List.getElem?_eq_some_iff.1 ha).1; omega
    refine ⟨v, ?_, hvr⟩
    have : k = 0 := by omega
    subst this
    rw [Nat.mul_one, Nat.add_zero] at hv ⊢
    rw [h3 q (by omega) (by omega)]; exact hv
theorem insB_ok {w0 : World} (args : List AV) (H : AH) (v : AV) (H' : AH) (hh : insHook 23 args H = some (v, H'))
    (μ : Mu) (w : World) (cargs : Array Value) (hr : HR w0 0 μ H w) (ha : LR μ args cargs.toList) :
    Calls Tryz.prog 128 cargs w fun e w' => ∃ (u : Value) (μ' : Mu), e = .returned u ∧ VR μ' v u ∧ HR w0 0 μ' H' w' ∧ μ.lx H.size μ' ∧ H.size ≤ H'.size := by
  unfold insHook at hh
  split at hh
  case h_2 => cases hh
  rename_i b off len cap i vb voff vcap vg
  obtain ⟨L, Lv, cv, hL, hLv, rfl⟩ : ∃ (L Lv : Ab.Loc) (cv : Nat), μ b = some L ∧ μ vb = some Lv ∧ cargs = #[.slice (some ⟨L.blk, L.base + off, none⟩) len (cap + L.slack), .int .i64 i, .slice (some ⟨Lv.blk, Lv.base + voff, none⟩) 1 cv] := by
    obtain ⟨l⟩ := cargs
    cases ha with | cons _ v1 _ m h1 t1 =>
    cases t1 with | cons _ v2 _ m2 h2 t2 =>
    cases t2 with | cons _ v3 _ m3 h3 t3 =>
    cases t3
    obtain ⟨L, hL, rfl⟩ := h1.slice_inv
    obtain ⟨Lv, hLv, rfl⟩ := h3.slice_inv
    rw [h2.int_inv]
    exact ⟨L, Lv, _, hL, hLv, rfl⟩
  cases hc : (Nat.blt i len && (Nat.beq off 0 && (Nat.ble len cap && !(Nat.beq b vb)))) with
  | false => rw [hc] at hh; cases hh
  | true =>
  rw [hc] at hh
  simp only [cond_true] at hh
  rw [Bool.and_eq_true, Bool.and_eq_true, Bool.and_eq_true, Nat.blt_eq, Nat.beq_eq, Nat.ble_eq, Bool.not_eq_true'] at hc
  obtain ⟨hi, rfl, hlc, hbv⟩ := hc
  have hbv : b ≠ vb := fun e => by rw [e] at hbv; simp at hbv
  split at hh
  case h_2 => cases hh
  rename_i n c z e n' c' z' e' hg hgv
  cases hc : (Nat.beq n cap && Nat.beq e 23) && (Nat.blt voff n' && Nat.blt len 1000000) with
  | false => rw [hc] at hh; cases hh
  | true =>
  rw [hc] at hh
  simp only [cond_true] at hh
  rw [Bool.and_eq_true, Bool.and_eq_true, Bool.and_eq_true, Nat.beq_eq, Nat.beq_eq, Nat.blt_eq, Nat.blt_eq] at hc
  obtain ⟨⟨rfl, rfl⟩, hvo, hlen⟩ := hc
  rw [setRowsK_eq, setK_eq, fNat_eq, pushK_eq] at hh
  simp only [Option.some.injEq, Prod.mk.injEq] at hh
  obtain ⟨rfl, rfl⟩ := hh
  obtain ⟨arr, ho, hsz, hcell⟩ := hr.rows hL hg
  obtain ⟨varr, hov, hvsz, hvcell⟩ := hr.rows hLv hgv
  have hone := hr.rowsOne hL hg ho
  have hvone := hr.rowsOne hLv hgv hov
  have hdead : H.get b ≠ .dead := by rw [hg]; intro h; cases h
  have hvb : Lv.blk ≠ L.blk := fun e => hbv (hr.inj b vb L Lv hdead (by rw [hgv]; intro h; cases h) hL hLv e.symm)
  obtain ⟨q1, q2⟩ := hvcell voff hvo
  obtain ⟨x, hx, hxr⟩ : ∃ x, varr[Lv.base + voff]? = some x ∧ ∀ a, (getR c' (path voff) z')[0]? = some a → VR μ a x := by
    obtain ⟨a, ha0⟩ : ∃ a, (getR c' (path voff) z')[0]? = some a := ⟨_, List.getElem?_eq_getElem (by omega)⟩
    obtain ⟨x, h1, h2⟩ := q2 0 a ha0
    exact ⟨x, by rw [Nat.mul_one, Nat.add_zero] at h1; exact h1, fun a' h => by rw [ha0] at h; cases h; exact h2⟩
  rw [Nat.mul_one] at hsz
  rw [Nat.add_zero] at ha ⊢
  -- the elements
  have hcsl : ((arr.toList.drop L.base).take len).length = len := by simp; omega
  have hcs : ∀ j, j < len → ((arr.toList.drop L.base).take len)[j]? = arr[L.base + j]? := fun j hj => by rw [List.getElem?_take, if_pos hj, List.getElem?_drop]; simp
  have hx1 : x.oneCell' = true := one_get hvone hx
  have hcs1 : ∀ v ∈ (arr.toList.drop L.base).take len, v.oneCell' = true := fun v hv => by
    obtain ⟨j, hj, rfl⟩ := List.getElem_of_mem hv
    have h1 := hcs j (by omega)
    rw [List.getElem?_eq_getElem hj] at h1
    exact one_get hone h1.symm
  have hcc : ∀ j v, ((arr.toList.drop L.base).take len)[j]? = some v → w.cell? ⟨L.blk, L.base + j, none⟩ = some v := fun j v hv => by
    have hj : j < len := by have := (List.getElem?_eq_some_iff.1 hv).1; omega
    rw [cell_arr ho, ← hcs j hj]; exact hv
  have hvc : w.cell? ⟨Lv.blk, Lv.base + voff, none⟩ = some x := by rw [cell_arr hov]; exact hx
  have hfro : ∀ (q : Nat) (ar : Array Value) (t : TypeId) (k : Nat), w.heap[q]? = some (.cells ar t (0, 0)) → w.frozen? ⟨q, k, none⟩ = false := fun q ar t k h => by simp [World.frozen?, h]
  have hdl : (((arr.toList.drop L.base).take len).drop i).length = len - i := by rw [List.length_drop, hcsl]
  have hdg : ∀ j, i ≤ j → j < len → (((arr.toList.drop L.base).take len).drop i)[j - i]? = arr[L.base + j]? := fun j h1 h2 => by
    rw [List.getElem?_drop, show i + (j - i) = j by omega, hcs j h2]
  rcases Nat.lt_or_ge (n + L.slack) (len + 1) with hgrow | hroom
  · -- a new row
    refine (insB_grow L.blk L.base len (n + L.slack) i Lv.blk (Lv.base + voff) cv _ x w hi (by omega) hgrow (by omega) hcsl hcc hvc hcs1 hx1).mono ?_
    rintro ev w' ⟨rfl, rfl⟩
    generalize hG : grownCap w (len + 1) (n + L.slack) 23 = C
    have hGn : len + 1 ≤ C := by rw [← hG]; exact grownCap_ge w _ _ _
    generalize hROW : (((arr.toList.drop L.base).take len).take i).toArray ++ Builtin.zeroCells (Value.slice none 0 0).cells (len + 1 - i) ++ Builtin.zeroCells (Value.slice none 0 0).cells (C - (len + 1)) = ROW
    have hRs : ROW.size = C := by
      rw [← hROW]
      simp [Builtin.zeroCells, Value.cells]
      omega
    have hRone : One ROW := one_of fun k u hu => by
      rw [← hROW] at hu
      have hm := Array.mem_of_getElem? hu
      simp only [Array.mem_append, Builtin.zeroCells] at hm
      rcases hm with (hm | hm) | hm
      · exact hcs1 u (List.mem_of_mem_take (by simpa using hm))
      · simp only [Value.cells, List.getElem?_toArray, Array.mem_map, Array.mem_range] at hm
        obtain ⟨q, _, rfl⟩ := hm
        simp [Nat.mod_one, Value.oneCell']
      · simp only [Value.cells, List.getElem?_toArray, Array.mem_map, Array.mem_range] at hm
        obtain ⟨q, _, rfl⟩ := hm
        simp [Nat.mod_one, Value.oneCell']
    have hRg : ∀ j, j < i → ROW[j]? = arr[L.base + j]? := fun j hj => by
      rw [← hROW, Array.append_assoc, Array.getElem?_append_left (by simp; omega)]
      rw [List.getElem?_toArray, List.getElem?_take, if_pos hj, hcs j (by omega)]
    obtain ⟨g1, g2, g3, g4⟩ := setCells_push (t := 23) (fz := (0, 0)) w.heap [x] i (w.alloc (.cells ROW 23)).drew ROW rfl
    obtain ⟨k1, k2, k3, k4⟩ := setCells_push (t := 23) (fz := (0, 0)) w.heap (((arr.toList.drop L.base).take len).drop i) (i + 1) ((w.alloc (.cells ROW 23)).drew.setCells w.heap.size i [x]).drew _ g1
    have hs1 : i + [x].length ≤ ROW.size := by simp; omega
    have hs2 : i + 1 + (((arr.toList.drop L.base).take len).drop i).length ≤ (spl ROW i [x]).size := by rw [spl_size, hdl]; omega
    have hp := (hr.kill b).push (o := .rows (len + 1) 1 (treeOf z (rowsFrom c z i 0 ++ getR c' (path voff) z' :: rowsFrom c z (Nat.sub len i) i) .nil 0) z 23) (L := ⟨w.heap.size, 0, C - (len + 1)⟩) (w' := ((w.alloc (.cells ROW 23)).drew.setCells w.heap.size i [x]).drew.setCells w.heap.size (i + 1) (((arr.toList.drop L.base).take len).drop i)) (obj := .cells (spl (spl ROW i [x]) (i + 1) (((arr.toList.drop L.base).take len).drop i)) 23 (0, 0))
      ⟨k2.trans g2, k3.trans g3, k4.trans g4, k1⟩ rfl ⟨_, rfl, by rw [spl_size, spl_size, hRs]; simp only [Nat.zero_add, Nat.mul_one]; omega, ?_, spl_one (spl_one hRone [x] i (fun v hv => by simp at hv; subst hv; exact hx1)) _ _ (fun v hv => hcs1 v (List.mem_of_mem_drop hv))⟩
    · refine ⟨_, _, rfl, VR.grownAt (K := ⟨w.heap.size, 0, C - (len + 1)⟩) (Mu.up_same _ _ _) (cap := C) (by show len + 1 + (C - (len + 1)) = C; omega), hp.1, hp.2, Nat.le_succ _⟩
    · have hup := Mu.up_le (hr.dom _ (Nat.le_refl _)) (⟨w.heap.size, 0, C - (len + 1)⟩ : Ab.Loc)
      have hrows := ins_rows (μ := μ) (c := c) (z := z) (row := getR c' (path voff) z') (arr := arr) (arr2 := spl (spl ROW i [x]) (i + 1) (((arr.toList.drop L.base).take len).drop i)) (o := L.base) (o2 := 0) (n := len) (i := i) (x := x) (by omega) (fun j hj => hcell j (by omega)) q1 hxr rfl
        (fun j hj => by rw [Nat.zero_add, spl_get _ _ _ _ hs2, if_neg (by omega), spl_get _ _ _ _ hs1, if_neg (by simp; omega), hRg j hj])
        (by rw [Nat.zero_add, spl_get _ _ _ _ hs2, if_neg (by omega), spl_get _ _ _ _ hs1, if_pos (by simp)]; simp)
        (fun j h1 h2 => by rw [Nat.zero_add, spl_get _ _ _ _ hs2, if_pos (by rw [hdl]; omega), show j + 1 - (i + 1) = j - i by omega, hdg j h1 h2])
      intro j hj
      obtain ⟨r1, r2⟩ := hrows j hj
      refine ⟨r1, fun k a hk => ?_⟩
      obtain ⟨v, hv, hvr⟩ := r2 k a hk
      exact ⟨v, hv, hvr.mono hup⟩
  · -- where it lies
    refine (insB_room L.blk L.base len (n + L.slack) i Lv.blk (Lv.base + voff) cv _ x w hi hroom hlen hvb hcsl hcc (fun j hj => by rw [cell_arr ho, Array.getElem?_eq_getElem (by omega)]; rfl) (fun j _ => hfro _ _ _ _ ho) hvc hcs1 hx1
      e' 23 varr.size arr.size (by simp [World.shape?, hov]) (by simp [World.shape?, ho]) (by omega) (hfro _ _ _ _ hov) (hfro _ _ _ _ hov)).mono ?_
    rintro ev w' ⟨rfl, rfl⟩
    have hod : w.drew.heap[L.blk]? = some (.cells arr 23 (0, 0)) := ho
    obtain ⟨g1, g2⟩ := setCells_row (((arr.toList.drop L.base).take len).drop i) (L.base + (i + 1)) w.drew arr hod
    obtain ⟨k1, k2⟩ := setCells_row [x] (L.base + i) _ _ g1
    have hap : Apart L.blk w ((w.drew.setCells L.blk (L.base + (i + 1)) (((arr.toList.drop L.base).take len).drop i)).setCells L.blk (L.base + i) [x]) :=
      ⟨k2.os.trans g2.os, k2.tape.trans g2.tape, k2.output.trans g2.output, k2.size.trans g2.size, fun k hk => (k2.block k hk).trans (g2.block k hk)⟩
    have hs1 : L.base + (i + 1) + (((arr.toList.drop L.base).take len).drop i).length ≤ arr.size := by rw [hdl]; omega
    have hs2 : L.base + i + [x].length ≤ (spl arr (L.base + (i + 1)) (((arr.toList.drop L.base).take len).drop i)).size := by rw [spl_size]; simp; omega
    have hp := hr.rename hL (Nat.zero_le _) hdead (K := ⟨L.blk, L.base, n + L.slack - (len + 1)⟩) rfl hap k1 (o := .rows (len + 1) 1 (treeOf z (rowsFrom c z i 0 ++ getR c' (path voff) z' :: rowsFrom c z (Nat.sub len i) i) .nil 0) z 23)
      ⟨_, rfl, by rw [spl_size, spl_size]; simp only [Nat.mul_one]; omega, ?_, spl_one (spl_one hone _ _ (fun v hv => hcs1 v (List.mem_of_mem_drop hv))) _ _ (fun v hv => by simp at hv; subst hv; exact hx1)⟩
    · refine ⟨_, _, rfl, VR.grownAt (K := ⟨L.blk, L.base, n + L.slack - (len + 1)⟩) (Mu.up_same _ _ _) (cap := n + L.slack) (by show len + 1 + (n + L.slack - (len + 1)) = n + L.slack; omega), hp.1, hp.2, Nat.le_succ _⟩
    · have hup := Mu.up_le (hr.dom _ (Nat.le_refl _)) (⟨L.blk, L.base, n + L.slack - (len + 1)⟩ : Ab.Loc)
      have hrows := ins_rows (μ := μ) (c := c) (z := z) (row := getR c' (path voff) z') (arr := arr) (arr2 := spl (spl arr (L.base + (i + 1)) (((arr.toList.drop L.base).take len).drop i)) (L.base + i) [x]) (o := L.base) (o2 := L.base) (n := len) (i := i) (x := x) (by omega) (fun j hj => hcell j (by omega)) q1 hxr rfl
        (fun j hj => by rw [spl_get _ _ _ _ hs2, if_neg (by omega), spl_get _ _ _ _ hs1, if_neg (by omega)])
        (by rw [spl_get _ _ _ _ hs2, if_pos (by simp)]; simp)
        (fun j h1 h2 => by rw [spl_get _ _ _ _ hs2, if_neg (by simp; omega), spl_get _ _ _ _ hs1, if_pos (by rw [hdl]; omega), show L.base + (j + 1) - (L.base + (i + 1)) = j - i by omega, hdg j h1 h2])
      intro j hj
      obtain ⟨r1, r2⟩ := hrows j hj
      refine ⟨r1, fun k a hk => ?_⟩
      obtain ⟨v, hv, hvr⟩ := r2 k a hk
      exact ⟨v, hv, hvr.mono hup⟩
/-- The laws by which the abstract machine passes over errors.As and slices.Insert are right. -/
theorem lawK_ok {w0 : World} (hg : w0.cell? ⟨0, 0, none⟩ = some (.iface 268 (.agg #[.pointer (some ⟨5, 75, none⟩)]))) : HookOK Tryz.prog w0 0 lawK := by
  intro f h hk args H v H' hh μ w cargs hr ha
  unfold lawK at hk
  cases h1 : Nat.beq f 51 with
  | true =>
    rw [h1] at hk
    rw [Nat.beq_eq] at h1
    subst h1
    simp only [cond_true, Option.some.injEq] at hk
    subst hk
    exact as_ok (K := lawK) hg args H v H' hh μ w cargs hr ha
  | false =>
    rw [h1] at hk
    simp only [cond_false] at hk
    cases h2 : Nat.beq f 128 with
    | true =>
      rw [h2] at hk
      rw [Nat.beq_eq] at h2
      subst h2
      simp only [cond_true, Option.some.injEq] at hk
      subst hk
      exact insB_ok args H v H' hh μ w cargs hr ha
    | false => rw [h2] at hk; cases hk
end Go.Proofs.YtabllhhainepgaaGreatDoor
