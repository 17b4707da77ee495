/-
  The abstract machine: regions that draw their order: the order, the plan.
-/
import Derived.Test.YtmapmbfohilklaaGreatAbX
import Derived.Orders
namespace Go.Proofs.YtmapmbfohilklaaGreat.Ab
open Go.RowKit

section
variable {P : Program} {ops : Array Oper}
theorem mem_enum : ∀ {l : List Oper} {n i : Nat} {o : Oper}, (i, o) ∈ enumFrom n l ↔ n ≤ i ∧ l[i - n]? = some o
  | [], n, i, o => by simp [enumFrom]
  | x :: l, n, i, o => by
    simp only [enumFrom, List.mem_cons, Prod.mk.injEq]
    rw [mem_enum (l := l) (n := n + 1) (i := i) (o := o)]
    constructor
    · rintro (⟨rfl, rfl⟩ | ⟨h1, h2⟩)
      · simp
      · refine ⟨by omega, ?_⟩
        rw [show i - n = (i - (n + 1)) + 1 by omega, List.getElem?_cons_succ]; exact h2
    · rintro ⟨h1, h2⟩
      by_cases e : i = n
      · left; subst e; simp at h2; exact ⟨rfl, h2.symm⟩
      · right; refine ⟨by omega, ?_⟩
        rw [show i - n = (i - (n + 1)) + 1 by omega, List.getElem?_cons_succ] at h2; exact h2
theorem mem_enum0 {i : Nat} {o : Oper} : (i, o) ∈ enumFrom 0 ops.toList ↔ ops[i]? = some o := by
  rw [mem_enum]; simp
/-! ### slots -/
theorem slots_edge (h : slotsOk ops = true) {i : Nat} {o : Oper} (ho : ops[i]? = some o) {e : Edge} (he : e ∈ edgesB o) : e.on < i := by
  unfold slotsOk at h
  rw [List.all_eq_true] at h
  have := h (i, o) (mem_enum0.2 ho)
  rw [Bool.and_eq_true, List.all_eq_true] at this
  have := this.1 e he
  rwa [Nat.blt_eq] at this
theorem slots_dst (h : slotsOk ops = true) {i j : Nat} {o o' : Oper} (ho : ops[i]? = some o) (ho' : ops[j]? = some o') {d : Tmp} (hd : o.dst = some d) (hne : j ≠ i) : o'.dst ≠ some d := by
  unfold slotsOk at h
  rw [List.all_eq_true] at h
  have := h (i, o) (mem_enum0.2 ho)
  rw [Bool.and_eq_true] at this
  have := this.2
  simp only [hd] at this
  rw [List.all_eq_true] at this
  have := this (j, o') (mem_enum0.2 ho')
  rw [Bool.and_eq_true, Bool.or_eq_true] at this
  rcases this.1 with h1 | h1
  · exact absurd (Nat.beq_eq.mp h1) hne
  · intro e
    simp [e] at h1
theorem slots_look (h : slotsOk ops = true) {i j : Nat} {o o' : Oper} (ho : ops[i]? = some o) (ho' : ops[j]? = some o') {d : Tmp} (hd : o.dst = some d) (hl : d ∈ o'.looksAt ops) : (∃ e ∈ edgesB o', e.on = i) ∨ (∃ e ∈ edgesB o, e.on = j) := by
  unfold slotsOk at h
  rw [List.all_eq_true] at h
  have := h (i, o) (mem_enum0.2 ho)
  rw [Bool.and_eq_true] at this
  have := this.2
  simp only [hd] at this
  rw [List.all_eq_true] at this
  have := this (j, o') (mem_enum0.2 ho')
  rw [Bool.and_eq_true, Bool.or_eq_true] at this
  have h2 := this.2
  rw [Bool.or_eq_true] at h2
  rcases h2 with h1 | h1
  · exfalso
    rw [Bool.not_eq_true', List.any_eq_false] at h1
    exact h1 d hl (by simp)
  · rw [Bool.or_eq_true, List.any_eq_true, List.any_eq_true] at h1
    rcases h1 with ⟨e, he, hb⟩ | ⟨e, he, hb⟩
    · exact .inl ⟨e, he, Nat.beq_eq.mp hb⟩
    · exact .inr ⟨e, he, Nat.beq_eq.mp hb⟩
theorem flow_look {i j : Nat} {o o' : Oper} (h : flowB ops i o = true) (ho' : ops[j]? = some o') {d : Tmp} (hd : o.dst = some d) (hl : d ∈ o'.looksAt ops) : ∃ e ∈ edgesB o', e.on = i := by
  unfold flowB at h
  rw [hd] at h
  simp only [] at h
  rw [List.all_eq_true] at h
  have := h (j, o') (mem_enum0.2 ho')
  rw [Bool.or_eq_true] at this
  rcases this with h1 | h1
  · exfalso
    rw [Bool.not_eq_true', List.any_eq_false] at h1
    exact h1 d hl (by simp)
  · rw [List.any_eq_true] at h1
    obtain ⟨e, he, hb⟩ := h1
    exact ⟨e, he, Nat.beq_eq.mp hb⟩

/-! ### the order that is drawn -/
def EdgesIn (o : Oper) (S : Nat → Prop) : Prop := ∀ e ∈ edgesB o, S e.on
/-- A list of operations that may come up when those of S have. -/
inductive Lin (ops : Array Oper) : (Nat → Prop) → List Nat → Prop
  | nil {S : Nat → Prop} (h : ∀ i, i < ops.size → S i) : Lin ops S []
  | cons {S : Nat → Prop} (i : Nat) (o : Oper) (l : List Nat) (ho : ops[i]? = some o) (hn : ¬ S i) (he : EdgesIn o S) (t : Lin ops (fun j => S j ∨ j = i) l) : Lin ops S (i :: l)
theorem count_set_true {l : List Bool} {i : Nat} (h : l[i]? = some false) : (l.set i true).countP (!·) + 1 = l.countP (!·) := by
  induction l generalizing i with
  | nil => simp at h
  | cons b l ih =>
    cases i with
    | zero => simp at h; subst h; simp
    | succ i =>
      simp at h
      have := ih h
      simp only [List.set_cons_succ, List.countP_cons]
      omega
theorem go_lin (hs : slotsOk ops = true) : ∀ (fuel t : Nat) (listed : Array Bool) (S : Nat → Prop), listed.size = ops.size → (∀ j, j < ops.size → (listed.getD j true = true ↔ S j)) →
    listed.toList.countP (!·) ≤ fuel → Lin ops S (Region.linearise.go .any ops fuel t listed []) := by
  intro fuel
  induction fuel with
  | zero =>
    intro t listed S hsz hS hc
    simp only [Region.linearise.go, List.reverse_nil]
    refine .nil fun i hi => (hS i hi).1 ?_
    have h0 : listed.toList.countP (!·) = 0 := by omega
    rw [List.countP_eq_zero] at h0
    have hi' : i < listed.size := by omega
    have := h0 listed[i] (by simp)
    rw [Array.getD_eq_getD_getElem?, Array.getElem?_eq_getElem hi', Option.getD_some]
    simpa using this
  | succ fuel ih =>
    intro t listed S hsz hS hc
    simp only [Region.linearise.go]
    change Lin ops S (match (Region.ready .any ops listed)[t % (Region.ready .any ops listed).length]? with
      | some i => Region.linearise.go .any ops fuel (t / (Region.ready .any ops listed).length) (listed.setIfInBounds i true) [i]
      | none => [].reverse)
    cases hi : (Region.ready .any ops listed)[t % (Region.ready .any ops listed).length]? with
    | none =>
      have hnil : Region.ready .any ops listed = [] := by
        cases hr : Region.ready .any ops listed with
        | nil => rfl
        | cons x xs =>
          rw [hr] at hi
          have hlt : t % (x :: xs).length < (x :: xs).length := Nat.mod_lt _ (by simp)
          simp at hi
          simp at hlt
          omega
      simp only [List.reverse_nil]
      refine .nil fun i => ?_
      induction i using Nat.strongRecOn with
      | _ i ihi =>
        intro hi
        refine Classical.byContradiction fun hn => ?_
        have hl : listed.getD i true = false := by
          rw [← Bool.not_eq_true, hS i hi]; exact hn
        obtain ⟨o, ho⟩ : ∃ o, ops[i]? = some o := ⟨ops[i], Array.getElem?_eq_getElem hi⟩
        have : i ∈ Region.ready .any ops listed := by
          unfold Region.ready
          rw [List.mem_filter]
          refine ⟨by simpa using hi, ?_⟩
          rw [hl, ho]
          simp only [Bool.not_false, Option.map_some, Option.getD_some, Bool.true_and]
          rw [Array.all_eq_true_iff_forall_mem]
          intro e he
          cases hb : Region.binds .any e with
          | false => rfl
          | true =>
          have hlt := slots_edge hs ho (e := e) (List.mem_filter.2 ⟨Array.mem_toList_iff.2 he, hb⟩)
          have h1 : S e.on := ihi e.on hlt (by omega)
          have h2 := (hS e.on (by omega)).2 h1
          have hi' : e.on < listed.size := by omega
          rw [Array.getD_eq_getD_getElem?, Array.getElem?_eq_getElem hi', Option.getD_some] at h2 ⊢
          rw [h2]; rfl
        rw [hnil] at this
        cases this
    | some i =>
      simp only []
      rw [linearise_go_acc, List.reverse_singleton, List.singleton_append]
      have hm := List.mem_of_getElem? hi
      unfold Region.ready at hm
      rw [List.mem_filter] at hm
      obtain ⟨h1, h2⟩ := hm
      have hlt : i < ops.size := by simpa using h1
      obtain ⟨o, ho⟩ : ∃ o, ops[i]? = some o := ⟨ops[i], Array.getElem?_eq_getElem hlt⟩
      rw [ho, Bool.and_eq_true] at h2
      simp only [Option.map_some, Option.getD_some] at h2
      have hl : listed.getD i true = false := by simpa using h2.1
      have hi' : i < listed.size := by omega
      refine .cons i o _ ho (fun h => ?_) (fun e he => ?_) ?_
      · rw [(hS i hlt).2 h] at hl; cases hl
      · have := h2.2
        rw [Array.all_eq_true_iff_forall_mem] at this
        obtain ⟨hm, hb⟩ := List.mem_filter.1 he
        have := this e (Array.mem_toList_iff.1 hm)
        have hlt' := slots_edge hs ho he
        rw [hb] at this
        simp only [Bool.not_true, Bool.false_or] at this
        refine (hS e.on (by omega)).1 ?_
        have hi'' : e.on < listed.size := by omega
        rw [Array.getD_eq_getD_getElem?, Array.getElem?_eq_getElem hi'', Option.getD_some] at this ⊢
        exact this
      · refine ih _ _ _ (by simpa using hsz) (fun j hj => ?_) ?_
        · rw [Array.getD_eq_getD_getElem?, Array.getElem?_setIfInBounds]
          by_cases e : i = j
          · subst e
            rw [if_pos rfl, if_pos hi']
            simp
          · rw [if_neg e]
            have := hS j hj
            rw [Array.getD_eq_getD_getElem?] at this
            rw [this]
            constructor
            · exact .inl
            · rintro (h | h)
              · exact h
              · exact absurd h.symm e
        · rw [Array.toList_setIfInBounds]
          have hget : listed.toList[i]? = some false := by
            rw [Array.getD_eq_getD_getElem?, Array.getElem?_eq_getElem hi', Option.getD_some] at hl
            rw [Array.getElem?_toList, Array.getElem?_eq_getElem hi', hl]
          have := count_set_true hget
          omega
theorem schedule_lin (hs : slotsOk ops = true) (t : Nat) : Lin ops (fun _ => False) (Region.schedule true ops t) := by
  have : Region.schedule true ops t = Region.linearise .any ops t := by
    unfold Region.schedule; simp
  rw [this]
  unfold Region.linearise
  refine go_lin hs _ _ _ _ (by simp) (fun j hj => ?_) ?_
  · rw [Array.getD_eq_getD_getElem?, Array.getElem?_replicate, if_pos hj]; simp
  · have : (Array.replicate ops.size false).toList.length = ops.size := by simp
    exact Nat.le_trans List.countP_le_length (Nat.le_of_eq this)

/-! ### the plan -/
/-- With an operation come those that it waits for. -/
def Closed (ops : Array Oper) (S : Nat → Prop) : Prop := ∀ i o, S i → ops[i]? = some o → EdgesIn o S
def Cl (ops : Array Oper) (c : List (Nat × Nat)) : Prop := ∀ (i : Nat) (S : Nat → Prop), Closed ops S → S i → ∀ j, Nat.testBit (lookN c i) j = true → S j
theorem Cl.nil : Cl ops [] := fun i S _ _ j h => by simp [lookN] at h
theorem closeN_sound {c : List (Nat × Nat)} (hc : Cl ops c) {S : Nat → Prop} (hS : Closed ops S) {o : Oper} (he : EdgesIn o S) {j : Nat} (h : Nat.testBit (closeN c o) j = true) : S j := by
  unfold closeN at h
  unfold EdgesIn at he
  generalize edgesB o = l at h he
  induction l with
  | nil => simp at h
  | cons e l ih =>
    rw [List.foldr_cons] at h
    change Nat.testBit ((2 ^ e.on ||| lookN c e.on) ||| _) j = true at h
    rw [Nat.testBit_or, Nat.testBit_or, Bool.or_eq_true, Bool.or_eq_true] at h
    rcases h with (h | h) | h
    · rw [Nat.testBit_two_pow] at h
      have : e.on = j := by simpa using h
      rw [← this]; exact he e (by simp)
    · exact hc e.on S hS (he e (by simp)) j h
    · exact ih h fun e he' => he e (by simp [he'])
theorem Cl.cons {c : List (Nat × Nat)} (hc : Cl ops c) {i : Nat} {o : Oper} (ho : ops[i]? = some o) : Cl ops ((i, closeN c o) :: c) := fun j S hS hj k hk => by
  unfold lookN at hk
  by_cases e : i = j
  · subst e
    have : Nat.beq i i = true := by simp
    rw [this] at hk
    exact closeN_sound hc hS (hS i o hj ho) hk
  · rw [beq_ff e] at hk
    exact hc j S hS hj k hk
theorem build_nil {A sure : Nat} {fl : List (Nat × Oper)} {c : List (Nat × Nat)} {items : List PItem} (h : build P ops [] A fl sure c = some items) : items = [] ∧ ∀ i, i < ops.size → Nat.testBit A i = true := by
  unfold build at h
  split at h
  · rename_i ha
    rw [List.all_eq_true] at ha
    cases h
    refine ⟨rfl, fun i hi => ?_⟩
    exact ha (i, ops[i]) (mem_enum0.2 (Array.getElem?_eq_getElem hi))
  · cases h
theorem build_cons {i : Nat} {is : List Nat} {A sure : Nat} {fl : List (Nat × Oper)} {c : List (Nat × Nat)} {items : List PItem} (h : build P ops (i :: is) A fl sure c = some items) :
    ∃ o rest, ops[i]? = some o ∧ Nat.testBit A i = false ∧ readyB A o = true ∧
      ((isFloatP P o.op = true ∧ flowB ops i o = true ∧ o.dst ≠ none ∧ build P ops is (A ||| 2 ^ i) (fl ++ [(i, o)]) sure ((i, closeN c o) :: c) = some rest ∧ items = { ix := i, op := o, fl := true, chk := if isAlloc o.op then ((fl ++ [(i, o)]).map (·.2)).filter fun y => heapOp y.op else [] } :: rest) ∨
       (floatB P ops i o = false ∧ (∀ j oj, ops[j]? = some oj → Nat.testBit A j = true ∨ j = i ∨ readyB A oj = false) ∧
        build P ops is (A ||| 2 ^ i) (fl.filter fun y => !Nat.testBit (sure ||| 2 ^ i ||| closeN c o) y.1) (sure ||| 2 ^ i ||| closeN c o) ((i, closeN c o) :: c) = some rest ∧
        items = { ix := i, op := o, fl := false, chk := ((fl.filter fun y => !Nat.testBit (sure ||| 2 ^ i ||| closeN c o) y.1).map (·.2)).filter fun y => heapOp y.op } :: rest)) := by
  unfold build at h
  split at h
  · cases h
  · rename_i o ho
    split at h
    · cases h
    · rename_i h1
      rw [Bool.not_eq_true, Bool.or_eq_false_iff] at h1
      have h2 : readyB A o = true := by simpa using h1.2
      split at h
      · rename_i hf
        split at h
        · cases h
        · rename_i hd
          rw [Option.map_eq_some_iff] at h
          obtain ⟨rest, hr, he⟩ := h
          unfold floatB at hf
          rw [Bool.and_eq_true] at hf
          refine ⟨o, rest, ho, h1.1, h2, .inl ⟨hf.1, hf.2, ?_, hr, he.symm⟩⟩
          intro e; rw [e] at hd; exact hd rfl
      · rename_i hf
        split at h
        · rename_i ha
          rw [Option.map_eq_some_iff] at h
          obtain ⟨rest, hr, he⟩ := h
          refine ⟨o, rest, ho, h1.1, h2, .inr ⟨by simpa using hf, fun j oj hj => ?_, hr, he.symm⟩⟩
          rw [List.all_eq_true] at ha
          have := ha (j, oj) (mem_enum0.2 hj)
          rw [Bool.or_eq_true, Bool.or_eq_true] at this
          rcases this with (h | h) | h
          · exact .inl h
          · exact .inr (.inl (Nat.beq_eq.mp h))
          · exact .inr (.inr (by simpa using h))
        · cases h
theorem ready_iff {A : Nat} {o : Oper} : readyB A o = true ↔ EdgesIn o (fun j => Nat.testBit A j = true) := by
  unfold readyB EdgesIn; rw [List.all_eq_true]
end
end Go.Proofs.YtmapmbfohilklaaGreat.Ab
