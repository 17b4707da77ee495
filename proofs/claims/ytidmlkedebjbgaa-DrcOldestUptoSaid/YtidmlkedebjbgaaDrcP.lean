/-
  The acts of a list, as they lie in memory; 'long'; both caches together.
-/
import Derived.Test.YtidmlkedebjbgaaDrcL
import Derived.Test.YtidmlkedebjbgaaHeap2
namespace Go.Proofs.Ytidmlkedebjbgaa
open Go.RowKit

structure ActD where
  kind : Int
  client : Int
  bv : Value
  bs : List UInt8
  ticket : Int
/-- The bytes lie below block B. -/
def Low (B : Nat) (v : Value) (bs : List UInt8) : Prop := bs = [] ∨ ∀ k, v.ownBlock = some k → k < B
theorem Bts.frL {B : Nat} {X : Nat → Prop} {w w' : World} {v : Value} {bs : List UInt8} (h : Bts w v bs) (hl : Low B v bs) (hf : Fr X w w') (hX : ∀ k, X k → B ≤ k) : Bts w' v bs := by
  rcases hl with rfl | hl
  · obtain ⟨a, c, rfl, h1, h2, _⟩ := h
    exact ⟨a, c, rfl, h1, h2, .inl rfl⟩
  · exact h.fr hf (fun k hk hz => by have := hl k hk; have := hX k hz; omega)
/-- The slice value v holds these acts, in memory below block B. -/
structure Acts (B : Nat) (w : World) (a : Option Addr) (l : List ActD) : Prop where
  cells : l = [] ∨ ∃ g o, a = some ⟨g, o, none⟩ ∧ g < B ∧ ∀ i (h : i < l.length), w.cell? ⟨g, o + i * 4, none⟩ = some (.int .i64 l[i].kind) ∧ w.cell? ⟨g, o + i * 4 + 1, none⟩ = some (.int .i64 l[i].client) ∧
    w.cell? ⟨g, o + i * 4 + 2, none⟩ = some l[i].bv ∧ w.cell? ⟨g, o + i * 4 + 3, none⟩ = some (.int .u64 l[i].ticket)
  bytes : ∀ x ∈ l, Bts w x.bv x.bs ∧ Low B x.bv x.bs ∧ x.bs.length ≤ 1048576
theorem Acts.fr {B : Nat} {X : Nat → Prop} {w w' : World} {a : Option Addr} {l : List ActD} (h : Acts B w a l) (hf : Fr X w w') (hX : ∀ k, X k → B ≤ k) : Acts B w' a l where
  cells := h.cells.imp id (by
    rintro ⟨g, o, rfl, hg, hc⟩
    have hn : ¬ X g := fun hx => by have := hX g hx; omega
    exact ⟨g, o, rfl, hg, fun i hi => ⟨hf.cell (hc i hi).1 hn, hf.cell (hc i hi).2.1 hn, hf.cell (hc i hi).2.2.1 hn, hf.cell (hc i hi).2.2.2 hn⟩⟩)
  bytes := fun x hx => ⟨(h.bytes x hx).1.frL (h.bytes x hx).2.1 hf hX, (h.bytes x hx).2⟩

def LongPost2 (l : List ActD) (w : World) (e : Ending) (w' : World) : Prop := ∃ b : Bool, e = .returned (.bool b) ∧ w = w' ∧ (b = false → l.length ≤ 80 ∧ ∀ x ∈ l, x.bs.length ≤ 30000)
def sumB (l : List ActD) : Nat := (l.map fun x => x.bs.length).sum
theorem sumB_snoc {l : List ActD} {k : Nat} (h : k < l.length) : sumB (l.take (k + 1)) = sumB (l.take k) + l[k].bs.length := by
  unfold sumB; rw [take_snoc' h, List.map_append, List.sum_append]; simp only [List.map_cons, List.map_nil, List.sum_cons, List.sum_nil, Nat.add_zero]
theorem sumB_le {l : List ActD} (h : ∀ x ∈ l, x.bs.length ≤ 1048576) : sumB l ≤ l.length * 1048576 := by
  unfold sumB
  induction l with
  | nil => simp
  | cons p t ih =>
    have h1 := ih (fun x hx => h x (by simp [hx]))
    have h2 := h p (by simp)
    simp only [List.map_cons, List.sum_cons, List.length_cons]
    omega
theorem le_sumB {l : List ActD} {x : ActD} (h : x ∈ l) : x.bs.length ≤ sumB l := by
  unfold sumB
  induction l with
  | nil => cases h
  | cons p t ih =>
    simp only [List.map_cons, List.sum_cons]
    rcases List.mem_cons.1 h with rfl | h
    · omega
    · have := ih h; omega

set_option maxHeartbeats 400000 in
theorem longP (B : Nat) (w : World) (a : Option Addr) (c : Nat) (l : List ActD) (h : Acts B w a l) (hc : l.length ≤ c) (hcm : c ≤ maxLen) :
    Calls Try.prog 14 #[.slice a l.length c] w (LongPost2 l w) := by
  unfold maxLen at hcm
  have Hb := Lib.hid h.bytes
  have hcells := h.cells
  clear h
  go_enter Try.func14, Try.ntmps14
  go_wp2
  go_loop [3, 4] (fun n i => ∃ k : Nat, k ≤ l.length ∧ k ≤ 81 ∧ i = .int .i64 k ∧ n = .int .i64 (sumB (l.take k) : Nat)) (fun _ i => 81 - (intOf i).toNat)
  case atStart => exact ⟨0, Nat.zero_le _, by omega, rfl, rfl⟩
  case round =>
    obtain ⟨k, hk, hk81, rfl, rfl⟩ := hrel
    have hs : sumB (l.take k) ≤ 84934656 := by
      have := sumB_le (l := l.take k) (fun x hx => (Hb.out x (List.mem_of_mem_take hx)).2.2)
      have h2 : (l.take k).length ≤ 81 := by simp; omega
      have h3 : (l.take k).length * 1048576 ≤ 81 * 1048576 := Nat.mul_le_mul_right _ h2
      omega
    by_cases hlt : k < l.length
    · by_cases h80 : k ≤ 80
      · obtain ⟨g, o, rfl, hg, hcl⟩ := hcells.resolve_left (by intro e; rw [e] at hlt; simp at hlt)
        obtain ⟨ba, bc, hbv, hbl, hbm, _⟩ := (Hb.out l[k] (by simp)).1
        have hbl2 := (Hb.out l[k] (by simp)).2.2
        have hcell := (hcl k hlt).2.2.1
        have Hsn := Lib.hid (sumB_snoc hlt)
        rw [hbv] at hcell
        clear hcl hcells hbv
        generalize l[k] = q at *
        generalize sumB (l.take k) = S at hs Hsn ⊢
        go_wp2
        go_round
        case rel => exact ⟨k + 1, by omega, by omega, by go_num, by rw [Hsn.out]; go_num⟩
        case measure => simp [intOf]; omega
      · obtain rfl : k = 81 := by omega
        clear hcells
        have hl80 : 80 < l.length := by omega
        generalize sumB (l.take 81) = S at *
        go_wp2
        go_ret
        exact ⟨_, rfl, rfl, fun h => by cases h⟩
    · obtain rfl : k = l.length := by omega
      rw [List.take_length] at *
      have Hle := Lib.hid (fun x => le_sumB (l := l) (x := x))
      generalize sumB l = S at *
      clear hcells
      by_cases h80 : 80 < l.length
      · go_wp2
        go_ret
        exact ⟨_, rfl, rfl, fun h => by cases h⟩
      · go_wp2
        go_ret
        exact ⟨_, rfl, rfl, fun h => by
          have h3 : (l.length : Int) ≤ 80 ∧ (S : Int) ≤ 30000 := by simpa using h
          exact ⟨by omega, fun x hx => by have := Hle.out x hx; omega⟩⟩

/-- Both caches hold the same, apart from each other, in memory from block B on. -/
def Two (B : Nat) (w : World) (c b : Nat) (r : RS) : Prop := ∃ X Y, IsP X w c r ∧ IsR Y w b r ∧ (∀ k, X k → ¬ Y k) ∧ (∀ k, X k → B ≤ k) ∧ (∀ k, Y k → B ≤ k)
end Go.Proofs.Ytidmlkedebjbgaa
