/-
  Blocks of chunks: the plain law. This text speaks of no program.
-/
import Derived.Test.YtlpkejklejaejaaHeap
set_option maxRecDepth 100000
set_option linter.unusedVariables false
set_option linter.unusedSimpArgs false
set_option linter.constructorNameAsVariable false
namespace Go.Proofs.Ytlpkejklejaejaa.Abk

/-- Bytes, by their numbers. -/
def Bytes (l : List Int) : Prop := ∀ u ∈ l, 0 ≤ u ∧ u < 256
/-- k bytes of a number, the highest first. -/
def be : Nat → Nat → List Int
  | 0, _ => []
  | k + 1, x => be k (x / 256) ++ [((x % 256 : Nat) : Int)]
/-- The number of bytes, from one on. -/
def num (l : List Int) (x : Nat) : Nat := l.foldl (fun x c => x * 256 % 18446744073709551616 + c.toNat) x
theorem be_len : ∀ (k x : Nat), (be k x).length = k
  | 0, _ => rfl
  | k + 1, x => by simp [be, be_len k]
theorem be_bytes : ∀ (k x : Nat), Bytes (be k x)
  | 0, _ => fun u h => by cases h
  | k + 1, x => fun u h => by
    rw [be, List.mem_append, List.mem_singleton] at h
    rcases h with h | rfl
    · exact be_bytes k _ u h
    · omega
theorem num_be : ∀ (k x : Nat), k ≤ 8 → x < 256 ^ k → num (be k x) 0 = x
  | 0, x, _, h => by simp at h; subst h; rfl
  | k + 1, x, hk, h => by
    have hd : x / 256 < 256 ^ k := by rw [Nat.pow_succ] at h; omega
    have h8 : 256 ^ k ≤ 256 ^ 7 := Nat.pow_le_pow_right (by decide) (by omega)
    have ih := num_be k (x / 256) (by omega) hd
    unfold num at ih ⊢
    rw [be, List.foldl_append, ih]
    simp only [List.foldl_cons, List.foldl_nil, Int.toNat_natCast]
    have : x / 256 < 72057594037927936 := Nat.lt_of_lt_of_le hd (by simpa using h8)
    omega

/-- A chunk as it is laid. -/
def laid (c : List Int) : List Int := be 2 c.length ++ c
def body : List (List Int) → List Int
  | [] => []
  | c :: l => laid c ++ body l
def fits : List (List Int) → Nat
  | [] => 0
  | c :: l => 2 + c.length + fits l
def Okc (c : List Int) : Prop := 1 ≤ c.length ∧ c.length ≤ 300
theorem laid_len (c : List Int) : (laid c).length = 2 + c.length := by simp [laid, be_len]
theorem body_len : ∀ l, (body l).length = fits l
  | [] => rfl
  | c :: l => by simp [body, fits, laid_len, body_len l]
theorem body_append : ∀ l k, body (l ++ k) = body l ++ body k
  | [], k => rfl
  | c :: l, k => by simp [body, body_append l k]
theorem fits_append : ∀ l k, fits (l ++ k) = fits l + fits k
  | [], k => by simp [fits]
  | c :: l, k => by simp [fits, fits_append l k]; omega
def aren : List Int := [65, 82, 69, 78]
def Good (st : Nat) (l : List (List Int)) : Prop := st ≠ 0 ∧ st ≤ 4611686018427387904 ∧ l ≠ [] ∧ fits l ≤ 372 ∧ ∀ c ∈ l, Okc c
def block (st : Nat) (l : List (List Int)) : List Int := aren ++ be 8 st ++ body l ++ List.replicate (372 - fits l) 0
theorem block_len {st : Nat} {l : List (List Int)} (h : Good st l) : (block st l).length = 384 := by
  have := h.2.2.2.1
  simp [block, aren, be_len, body_len]
  omega

/-- The chunks of what lies behind a block's head. -/
def parse : Nat → List Int → List (List Int)
  | 0, _ => []
  | f + 1, q =>
    if q.length < 2 then [] else
    let n := num (q.take 2) 0
    if n = 0 ∨ q.length - 2 < n then [] else (q.drop 2).take n :: parse f ((q.drop 2).drop n)
theorem parse_body : ∀ (l : List (List Int)) (f k : Nat), (∀ c ∈ l, Okc c) → l.length < f → parse f (body l ++ List.replicate k 0) = l
  | [], f, k, _, hf => by
    obtain ⟨f, rfl⟩ : ∃ g, f = g + 1 := ⟨f - 1, by simp at hf; omega⟩
    simp only [body, List.nil_append, parse, List.length_replicate]
    by_cases h : k < 2
    · rw [if_pos h]
    · obtain ⟨j, rfl⟩ : ∃ j, k = j + 2 := ⟨k - 2, by omega⟩
      rw [if_neg h]
      have : num (List.take 2 (List.replicate (j + 2) (0 : Int))) 0 = 0 := by
        rw [List.replicate_succ, List.replicate_succ]; rfl
      simp only [this, true_or, if_true]
  | c :: l, f, k, hc, hf => by
    obtain ⟨f, rfl⟩ : ∃ g, f = g + 1 := ⟨f - 1, by simp at hf; omega⟩
    have h1 := hc c (by simp)
    have hlen : (laid c ++ (body l ++ List.replicate k 0)).length = 2 + c.length + (fits l + k) := by simp [laid_len, body_len]
    have ht : (be 2 c.length ++ (c ++ (body l ++ List.replicate k 0))).take 2 = be 2 c.length := List.take_left' (be_len _ _)
    have hd : (be 2 c.length ++ (c ++ (body l ++ List.replicate k 0))).drop 2 = c ++ (body l ++ List.replicate k 0) := List.drop_left' (be_len _ _)
    have hn : num (be 2 c.length) 0 = c.length := num_be 2 _ (by decide) (by have := h1.2; simp; omega)
    simp only [body, List.append_assoc]
    rw [parse, hlen, if_neg (by omega)]
    simp only [laid, List.append_assoc, ht, hd, hn]
    rw [if_neg (by have := h1.1; omega), List.take_left' rfl, List.drop_left' rfl, parse_body l f k (fun x hx => hc x (by simp [hx])) (by simpa using hf)]
theorem fits_ge : ∀ l : List (List Int), 2 * l.length ≤ fits l
  | [] => Nat.le_refl _
  | c :: l => by have := fits_ge l; simp [fits]; omega

/-- What a block's bytes are. -/
def stampOf (b : List Int) : Nat := num ((b.drop 4).take 8) 0
def chunksOf (b : List Int) : List (List Int) := parse 400 (b.drop 12)
def IsBlock (b : List Int) : Prop := b.length = 384 ∧ Good (stampOf b) (chunksOf b) ∧ block (stampOf b) (chunksOf b) = b
theorem of_block {st : Nat} {l : List (List Int)} (h : Good st l) : stampOf (block st l) = st ∧ chunksOf (block st l) = l := by
  have hf := h.2.2.2.1
  have hst : st < 256 ^ 8 := by have := h.2.1; simp; omega
  constructor
  · unfold stampOf block
    rw [List.append_assoc, List.append_assoc, List.drop_left' (show aren.length = 4 from rfl), List.take_left' (be_len _ _)]
    exact num_be 8 st (by decide) hst
  · unfold chunksOf block
    rw [List.append_assoc, List.drop_left' (by simp [aren, be_len])]
    exact parse_body l 400 _ h.2.2.2.2 (by have := fits_ge l; omega)
theorem isBlock_block {st : Nat} {l : List (List Int)} (h : Good st l) : IsBlock (block st l) := by
  obtain ⟨h1, h2⟩ := of_block h
  exact ⟨block_len h, by rw [h1, h2]; exact h, by rw [h1, h2]⟩
end Go.Proofs.Ytlpkejklejaejaa.Abk
