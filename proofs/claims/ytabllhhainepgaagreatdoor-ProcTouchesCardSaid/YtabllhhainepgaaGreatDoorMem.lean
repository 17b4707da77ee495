/-
  Bytes in memory, by their numbers; new rows; what an append of a new row leaves.
-/
import Derived.Test.YtabllhhainepgaaGreatDoorHeap2
import Derived.Test.YtabllhhainepgaaGreatDoorProg
namespace Go.Proofs.YtabllhhainepgaaGreatDoor
open Go.RowKit

def New (w w' : World) : Nat → Prop := fun k => w.heap.size ≤ k ∧ k < w'.heap.size
theorem Tryz.inf5b : (Tryz.prog.info? 5).map (fun i => (i.zero, i.size, i.bytes)) = some (some (.int .u8 0), 1, 1) := by kernel_rfl
theorem Tryz.und5 : Tryz.prog.underlying 5 = some (.int .u8) := by kernel_rfl
theorem Tryz.und9 : Tryz.prog.underlying 9 = some .string := by kernel_rfl
theorem Tryz.undB : Tryz.prog.underlying 23 = some (.slice 5) := by kernel_rfl
/-- The slice v holds these bytes. -/
def Byt (w : World) (v : Value) (l : List Int) : Prop :=
  ∃ a c, v = .slice a l.length c ∧ l.length ≤ c ∧ c ≤ maxLen ∧ (l = [] ∨ ∃ g o, a = some ⟨g, o, none⟩ ∧ ∀ i u, l[i]? = some u → w.cell? ⟨g, o + i, none⟩ = some (.int .u8 u))
theorem Byt.fr {X : Nat → Prop} {w w' : World} {v : Value} {l : List Int} (h : Byt w v l) (hf : Fr X w w') (hx : ∀ k, v.ownBlock = some k → ¬ X k) : Byt w' v l := by
  obtain ⟨a, c, rfl, h1, h2, h3⟩ := h
  refine ⟨a, c, rfl, h1, h2, h3.imp id ?_⟩
  rintro ⟨g, o, rfl, hc⟩
  exact ⟨g, o, rfl, fun i u hu => hf.cell (hc i u hu) (fun hg => hx g rfl hg)⟩
def u8s (l : List Int) : List Value := l.map (Value.int .u8)
theorem u8s_len (l : List Int) : (u8s l).length = l.length := by simp [u8s]
theorem u8s_one (l : List Int) : ∀ u ∈ u8s l, u.oneCell' = true := by
  intro u hu
  obtain ⟨n, _, rfl⟩ := List.mem_map.1 hu
  rfl
theorem Byt.of_sl {X : Nat → Prop} {w : World} {v : Value} {l : List Int} {n : Nat} (hn : n = l.length) (h : Sl X w 5 1 v n (u8s l)) : Byt w v l := by
  subst hn
  obtain ⟨a, c, rfl, h1, h2, _, h3⟩ := h.open
  refine ⟨a, c, rfl, h1, h2, ?_⟩
  rcases h3 with h3 | ⟨g, rfl, _, _, hc⟩
  · exact .inl (List.eq_nil_of_length_eq_zero h3)
  · exact .inr ⟨g, 0, rfl, fun i u hu => by rw [Nat.zero_add]; exact hc i _ (by simp [u8s, hu])⟩
theorem Byt.news {w : World} {a : Option Addr} {n c : Nat} {l : List Int} (h : Byt w (.slice a n c) l) :
    n = l.length ∧ n ≤ c ∧ c ≤ maxLen ∧ (a = none → n = 0) ∧ ∀ ad, a = some ad → ∀ j u, (u8s l)[j]? = some u → w.cell? (ad.add j) = some u := by
  obtain ⟨a', c', e, h1, h2, h3⟩ := h
  obtain ⟨rfl, rfl, rfl⟩ : a = a' ∧ n = l.length ∧ c = c' := by simpa using e
  refine ⟨rfl, h1, h2, fun e => ?_, fun ad e j u hu => ?_⟩
  · rcases h3 with h | ⟨g, o, h, _⟩
    · rw [h]; rfl
    · rw [e] at h; cases h
  · rcases h3 with h | ⟨g, o, h, hc⟩
    · subst h; simp [u8s] at hu
    · rw [e] at h
      obtain rfl := Option.some.inj h
      simp only [u8s, List.getElem?_map, Option.map_eq_some_iff] at hu
      obtain ⟨x, hx, rfl⟩ := hu
      have hadd : (⟨g, o, none⟩ : Addr).add j = ⟨g, o + j, none⟩ := by unfold Addr.add; split <;> simp_all
      rw [hadd, hc j x hx]
theorem Byt.drop {w : World} {g o n c : Nat} {l : List Int} (h : Byt w (.slice (some ⟨g, o, none⟩) n c) l) (k : Nat) (hk : k ≤ n) : Byt w (.slice (some ⟨g, o + k, none⟩) (n - k) (c - k)) (l.drop k) := by
  obtain ⟨a', c', e, h1, h2, h3⟩ := h
  obtain ⟨rfl, rfl, rfl⟩ : some ⟨g, o, none⟩ = a' ∧ n = l.length ∧ c = c' := by simpa using e
  refine ⟨_, _, by rw [List.length_drop], by rw [List.length_drop]; omega, by omega, ?_⟩
  rcases h3 with rfl | ⟨g', o', e', hc⟩
  · exact .inl (by simp)
  · obtain ⟨rfl, rfl⟩ : g = g' ∧ o = o' := by simpa using e'
    refine .inr ⟨_, _, rfl, fun i u hu => ?_⟩
    rw [List.getElem?_drop] at hu
    rw [Nat.add_assoc]
    exact hc _ u hu
theorem fresh_at (w : World) {n : Nat} (h : n = w.heap.size) : Sl (fun k => k = n) (w.alloc (.cells #[] 5)) 5 1 (.slice (some ⟨n, 0, none⟩) 0 0) 0 [] := by
  subst h
  exact ⟨⟨rfl, .inr ⟨w.heap.size, 0, #[], rfl, Nat.zero_le _, blk_new _ _ rfl, Nat.le_refl _, Nat.zero_le _, rfl, rfl⟩⟩, fun k hk => by simp [Value.ownBlock] at hk; exact hk.symm⟩
theorem sl_new (w : World) (l : List Int) (hl : l.length ≤ maxLen) : Sl (fun k => k = w.heap.size) (w.alloc (.cells (u8s l).toArray 5)) 5 1 (.slice (some ⟨w.heap.size, 0, none⟩) l.length l.length) l.length (u8s l) :=
  ⟨⟨by simp [u8s], .inr ⟨w.heap.size, l.length, (u8s l).toArray, rfl, Nat.zero_le _, blk_new _ _ rfl, Nat.le_refl _, hl, by simp [u8s], by rw [Nat.mul_one]; exact List.take_of_length_le (by simp [u8s])⟩⟩, fun k hk => by simp [Value.ownBlock] at hk; exact hk.symm⟩
end Go.Proofs.YtabllhhainepgaaGreatDoor
