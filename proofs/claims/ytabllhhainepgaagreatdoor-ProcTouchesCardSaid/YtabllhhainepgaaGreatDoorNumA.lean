/-
  Bytes as numbers, as strings; octet.Get.
-/
import Derived.Test.YtabllhhainepgaaGreatDoorHotO
import Derived.Test.YtabllhhainepgaaGreatDoorMem
set_option maxRecDepth 100000
set_option linter.unusedVariables false
set_option linter.unusedSimpArgs false
set_option linter.constructorNameAsVariable false
namespace Go.Proofs.YtabllhhainepgaaGreatDoor
open Go.RowKit
namespace Abk
/-- Bytes, by their numbers. -/
def Bytes (l : List Int) : Prop := ∀ u ∈ l, 0 ≤ u ∧ u < 256
/-- k bytes of a number, the highest first. -/
def be : Nat → Nat → List Int
  | 0, _ => []
  | k + 1, x => be k (x / 256) ++ [((x % 256 : Nat) : Int)]
/-- The number of bytes, from one on. -/
def num (l : List Int) (x : Nat) : Nat := l.foldl (fun x c => x * 256 % 18446744073709551616 + c.toNat) x
theorem be_len : ∀ (k x : Nat), (be k x).length = k
  | 0, _ => rfl
  | k + 1, x => by simp [be, be_len k]
theorem be_bytes : ∀ (k x : Nat), Bytes (be k x)
  | 0, _ => fun u h => by cases h
  | k + 1, x => fun u h => by
    rw [be, List.mem_append, List.mem_singleton] at h
    rcases h with h | rfl
    · exact be_bytes k _ u h
    · omega
theorem num_be : ∀ (k x : Nat), k ≤ 8 → x < 256 ^ k → num (be k x) 0 = x
  | 0, x, _, h => by simp at h; subst h; rfl
  | k + 1, x, hk, h => by
    have hd : x / 256 < 256 ^ k := by rw [Nat.pow_succ] at h; omega
    have h8 : 256 ^ k ≤ 256 ^ 7 := Nat.pow_le_pow_right (by decide) (by omega)
    have ih := num_be k (x / 256) (by omega) hd
    unfold num at ih ⊢
    rw [be, List.foldl_append, ih]
    simp only [List.foldl_cons, List.foldl_nil, Int.toNat_natCast]
    have : x / 256 < 72057594037927936 := Nat.lt_of_lt_of_le hd (by simpa using h8)
    omega

end Abk
open Abk
def toU (l : List Int) : List UInt8 := l.map fun i => UInt8.ofNat i.toNat
def b8 (l : List UInt8) : List Int := l.map fun b => (b.toNat : Int)
theorem b8_len (l : List UInt8) : (b8 l).length = l.length := by simp [b8]
theorem b8_toU {l : List Int} (h : Bytes l) : b8 (toU l) = l := by
  unfold b8 toU
  rw [List.map_map]
  conv => rhs; rw [← List.map_id l]
  refine List.map_congr_left fun i hi => ?_
  have := h i hi
  simp only [Function.comp_apply, id]
  rw [UInt8.toNat_ofNat_of_lt' (by simp [UInt8.size]; omega)]
  omega
def str (l : List Int) : ByteArray := ⟨(toU l).toArray⟩
theorem str_inj {a b : List Int} (ha : Bytes a) (hb : Bytes b) : str a = str b ↔ a = b := by
  unfold str
  constructor
  · intro h
    have h1 := congrArg ByteArray.data h
    have h2 : toU a = toU b := by simpa using h1
    rw [← b8_toU ha, ← b8_toU hb, h2]
  · rintro rfl; rfl
theorem conv_byt {w : World} {v : Value} {l : List Int} (hB : Bytes l) (h : Byt w v l) : (convert 23 9 v).run Tryz.prog w = .ok (.string (str l)) w := by
  rw [← b8_toU hB] at h
  unfold str
  generalize toU l = bs at *
  obtain ⟨a, c, rfl, h1, h2, h3⟩ := h
  rw [b8_len] at *
  rcases h3 with h0 | ⟨g, o, rfl, hc⟩
  · obtain rfl : bs = [] := by simpa [b8] using h0
    cases a with
    | none => exact run_convert_bytes_nil w 23 5 Tryz.undB Tryz.und5 _ _ 9 Tryz.und9
    | some a =>
      rw [show ([] : List UInt8).length = 0 from rfl, run_convert_bytes_string w 23 9 5 _ _ c Tryz.undB Tryz.und5 Tryz.und9]
      rw [run_bytesToString w a _ c [] (by simp [loadCells, loadCellsFrom])]
      rfl
  · rw [run_convert_bytes_arg w 23 5 Tryz.undB Tryz.und5 g o bs.length c (b8 bs) (by simp [b8]) (fun i hi => by
      have hi' : i < (b8 bs).length := by rw [b8_len]; exact hi
      rw [hc i _ (List.getElem?_eq_getElem hi'), List.getD_eq_getElem?_getD, List.getElem?_eq_getElem hi']; rfl) 9 Tryz.und9]
    unfold strOfNums b8
    simp [Function.comp_def]
theorem str_list (l : List Int) : (str l).toList = toU l := by rw [ByteArray.toList_eq]; rfl
theorem foldS_pack (f : Nat → Nat → Nat) : ∀ (L : List UInt8) (x : Nat), Ab.foldS f L.length (Ab.pack L) x = L.foldl (fun x b => f x b.toNat) x
  | [], x => rfl
  | b :: L, x => by
    have h := b.toNat_lt
    rw [List.length_cons, Ab.foldS, Ab.pack, show (b.toNat + 256 * Ab.pack L) / 256 = Ab.pack L by omega, show (b.toNat + 256 * Ab.pack L) % 256 = b.toNat by omega, foldS_pack f L]
    rfl
theorem num_toU (l : List Int) (h : Bytes l) (x : Nat) : num l x = (toU l).foldl (fun x b => x * 256 % 18446744073709551616 + b.toNat) x := by
  conv => lhs; rw [← b8_toU h]
  unfold num b8
  rw [List.foldl_map]
  rfl
theorem num_lt : ∀ (l : List Int) (x : Nat), Bytes l → x < 18446744073709551616 → num l x < 18446744073709551616
  | [], x, _, h => h
  | c :: l, x, hB, h => by
    have hc := hB c (by simp)
    show num l (x * 256 % 18446744073709551616 + c.toNat) < _
    exact num_lt l _ (fun u hu => hB u (by simp [hu])) (by omega)
theorem get_byt (w : World) (b o n c : Nat) {l : List Int} (hB : Bytes l) (h : Byt w (.slice (some ⟨b, o, none⟩) n c) l) (hl : l.length < 1048576) :
    Calls Tryz.prog 32 #[.slice (some ⟨b, o, none⟩) n c] w fun e w' => e = .returned (.int .u64 (num l 0 : Nat)) ∧ w' = w := by
  obtain ⟨rfl, h1, h2, _, hc⟩ := h.news
  have hlen : (toU l).length = l.length := by simp [toU]
  have hg := get_calls b o l.length c (Ab.pack (toU l)) w (by omega) (fun j hj => by
    have := hc _ rfl j (.int .u8 l[j]) (by simp [u8s, hj])
    have hadd : (⟨b, o, none⟩ : Addr).add j = ⟨b, o + j, none⟩ := by unfold Addr.add; split <;> simp_all
    rw [hadd] at this
    rw [this, Ab.byteAt_pack _ _ (by rw [hlen]; exact hj)]
    have hb := hB l[j] (List.getElem_mem hj)
    simp only [toU, List.getElem_map]
    rw [UInt8.toNat_ofNat_of_lt' (by simp [UInt8.size]; omega)]
    simp only [Int.ofNat_eq_natCast]
    rw [show ((l[j].toNat : Nat) : Int) = l[j] by omega])
  have e : Ab.foldS (fun x c => x * 256 % 18446744073709551616 + c) l.length (Ab.pack (toU l)) 0 = num l 0 := by
    rw [← hlen, foldS_pack, ← num_toU l hB]
  rw [e] at hg
  exact hg
theorem Byt.take {w : World} {g o n c : Nat} {l : List Int} (h : Byt w (.slice (some ⟨g, o, none⟩) n c) l) (k c' : Nat) (hk : k ≤ n) (hc : k ≤ c') (hm : c' ≤ maxLen) : Byt w (.slice (some ⟨g, o, none⟩) k c') (l.take k) := by
  obtain ⟨a', c2, e, h1, h2, h3⟩ := h
  obtain ⟨rfl, rfl, rfl⟩ : some ⟨g, o, none⟩ = a' ∧ n = l.length ∧ c = c2 := by simpa using e
  have hl : (l.take k).length = k := by simp; omega
  refine ⟨_, _, by rw [hl], by rw [hl]; exact hc, hm, ?_⟩
  rcases h3 with rfl | ⟨g', o', e', hc'⟩
  · exact .inl (by simp)
  · obtain ⟨rfl, rfl⟩ : g = g' ∧ o = o' := by simpa using e'
    refine .inr ⟨_, _, rfl, fun i u hu => hc' i u ?_⟩
    rw [List.getElem?_take] at hu
    split at hu
    · exact hu
    · cases hu
theorem Abk.Bytes.drop {l : List Int} (h : Bytes l) (k : Nat) : Bytes (l.drop k) := fun u hu => h u (List.mem_of_mem_drop hu)
theorem Abk.Bytes.take {l : List Int} (h : Bytes l) (k : Nat) : Bytes (l.take k) := fun u hu => h u (List.mem_of_mem_take hu)
theorem Byt.at' {w : World} {g o n c : Nat} {l : List Int} (h : Byt w (.slice (some ⟨g, o, none⟩) n c) l) (j : Nat) (hj : j < l.length) : w.cell? ⟨g, o + j, none⟩ = some (.int .u8 l[j]) := by
  have := h.news.2.2.2.2 _ rfl j (.int .u8 l[j]) (by simp [u8s, hj])
  have hadd : (⟨g, o, none⟩ : Addr).add j = ⟨g, o + j, none⟩ := by unfold Addr.add; split <;> simp_all
  rw [hadd] at this
  exact this
theorem num_snoc (l : List Int) (c : Int) (x : Nat) : num (l ++ [c]) x = num l x * 256 % 18446744073709551616 + c.toNat := by
  simp [num]
end Go.Proofs.YtabllhhainepgaaGreatDoor
