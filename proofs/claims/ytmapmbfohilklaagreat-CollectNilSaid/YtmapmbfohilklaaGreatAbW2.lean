/-
  The abstract machine: blocks made ahead of their time come to their place.
-/
import Derived.Test.YtmapmbfohilklaaGreatAbW1
namespace Go.Proofs.YtmapmbfohilklaaGreat.Ab
open Go.RowKit

theorem beqN {a b : Nat} (h : Nat.beq a b = true) : a = b := Nat.beq_eq.mp h
mutual
theorem beq_sound : ∀ a b : AV, AV.beq a b = true → a = b
  | .junk, b, h => by cases b <;> simp [AV.beq] at h; rfl
  | .any, b, h => by cases b <;> simp [AV.beq] at h; rfl
  | .bool x, b, h => by cases b <;> simp [AV.beq] at h; rw [h]
  | .int k m, b, h => by
    cases b <;> simp only [AV.beq, Bool.false_eq_true] at h
    rw [Bool.and_eq_true, decide_eq_true_iff, eqI_eq, beq_iff_eq] at h
    rw [h.1, h.2]
  | .str x y, b, h => by cases b <;> simp [AV.beq] at h; rw [h.1, h.2]
  | .nilp, b, h => by cases b <;> simp [AV.beq] at h; rfl
  | .ptr x y, b, h => by cases b <;> simp [AV.beq] at h; rw [h.1, h.2]
  | .nils, b, h => by cases b <;> simp [AV.beq] at h; rfl
  | .slice x y z u g, b, h => by cases b <;> simp [AV.beq] at h; obtain ⟨⟨⟨⟨h1, h2⟩, h3⟩, h4⟩, h5⟩ := h; rw [h1, h2, h3, h4, h5]
  | .sliceE x y, b, h => by cases b <;> simp [AV.beq] at h; rw [h.1, h.2]
  | .nilm, b, h => by cases b <;> simp [AV.beq] at h; rfl
  | .map x, b, h => by cases b <;> simp [AV.beq] at h; rw [h]
  | .nilf, b, h => by cases b <;> simp [AV.beq] at h; rfl
  | .func f x y, b, h => by
    cases b <;> simp [AV.beq] at h
    obtain ⟨⟨h1, h2⟩, h3⟩ := h
    rw [h1, beqL_sound _ _ h2, beqL_sound _ _ h3]
  | .yield x, b, h => by cases b <;> simp [AV.beq] at h; rw [h]
  | .meth n v, b, h => by cases b <;> simp [AV.beq] at h; rw [h.1, beq_sound _ _ h.2]
  | .nili, b, h => by cases b <;> simp [AV.beq] at h; rfl
  | .iface t v, b, h => by cases b <;> simp [AV.beq] at h; rw [h.1, beq_sound _ _ h.2]
  | .agg l, b, h => by cases b <;> simp [AV.beq] at h; rw [beqL_sound _ _ h]
  | .tuple l, b, h => by cases b <;> simp [AV.beq] at h; rw [beqL_sound _ _ h]
theorem beqL_sound : ∀ l m : List AV, beqL l m = true → l = m
  | [], m, h => by cases m <;> simp [beqL] at h; rfl
  | a :: l, m, h => by
    cases m <;> simp [beqL] at h
    rw [beq_sound _ _ h.1, beqL_sound _ _ h.2]
end

theorem beqQ_sound {a b : AV} (h : beqQ a b = true) : a = b := by
  unfold beqQ at h
  cases a with
  | int k m =>
    cases b with
    | int k' n =>
      have h : (Nat.beq (kindCode k) (kindCode k') && eqI2 m n) = true := h
      rw [Bool.and_eq_true, eqI2_eq, beq_iff_eq] at h
      rw [kindCode_inj (Nat.beq_eq.mp h.1), h.2]
    | _ => cases h
  | _ => exact beq_sound _ _ h
section
variable {w0 w w' : World} {G : Nat} {μ ν ξ : Mu} {H : AH}
/-- What stands for something names blocks that have a place. -/
theorem VR.under {n : Nat} (hn : ∀ c, n ≤ c → μ c = none) {a : AV} {v : Value} (h : VR μ a v) : a.under n = true := by
  have lt : ∀ {b : Nat} {L : Loc}, μ b = some L → Nat.blt b n = true := fun {b L} h => by
    rw [Nat.blt_eq]
    rcases Nat.lt_or_ge b n with h' | h'
    · exact h'
    · rw [hn b h'] at h; cases h
  refine VR.rec (motive_1 := fun a v _ => a.under n = true) (motive_2 := fun l m _ => underL n l = true) ?_ ?_ ?_ ?_ ?_ ?_ ?_ ?_ ?_ ?_ ?_ ?_ ?_ ?_ ?_ ?_ ?_ ?_ ?_ ?_ ?_ ?_ h
  · exact fun v => rfl
  · exact fun b => rfl
  · exact fun k n => rfl
  · exact fun n N s h1 h2 => rfl
  · rfl
  · exact fun b off L h => lt h
  · rfl
  · exact fun b off len cap g L h => lt h
  · exact fun b off a c L h ha => lt h
  · rfl
  · exact fun b L h => lt h
  · rfl
  · exact fun f a c x y _ _ ha hc => by simp only [AV.under, ha, hc, Bool.and_self]
  · exact fun l L h => lt h
  · exact fun name r v y _ h => by simp only [AV.under, h]
  · rfl
  · exact fun t a v _ h => by simp only [AV.under, h]
  · exact fun l x _ h => by simp only [AV.under, h]
  · exact fun l x _ h => by simp only [AV.under, h]
  · exact fun v h => rfl
  · rfl
  · exact fun a v l m _ _ h t => by simp only [underL, h, t, Bool.and_self]
theorem VR.tr {n : Nat} (ht : ∀ c K, c < n → ν c = some K → ξ c = some K) {a : AV} {v : Value} (h : VR ν a v) : a.under n = true → VR ξ a v := by
  have lt : ∀ {b : Nat}, Nat.blt b n = true → b < n := fun {b} h => by rwa [Nat.blt_eq] at h
  refine VR.rec (motive_1 := fun a v _ => a.under n = true → VR ξ a v) (motive_2 := fun l m _ => underL n l = true → LR ξ l m) ?_ ?_ ?_ ?_ ?_ ?_ ?_ ?_ ?_ ?_ ?_ ?_ ?_ ?_ ?_ ?_ ?_ ?_ ?_ ?_ ?_ ?_ h
  · exact fun v _ => .junk v
  · exact fun b _ => .bool b
  · exact fun k n _ => .int k n
  · exact fun n N s h1 h2 _ => .str n N s h1 h2
  · exact fun _ => .nilp
  · exact fun b off L h hu => .ptr b off L (ht _ _ (lt hu) h)
  · exact fun _ => .nils
  · exact fun b off len cap g L h hu => .slice b off len cap g L (ht _ _ (lt hu) h)
  · exact fun b off a c L h ha hu => .sliceE b off a c L (ht _ _ (lt hu) h) ha
  · exact fun _ => .nilm
  · exact fun b L h hu => .map b L (ht _ _ (lt hu) h)
  · exact fun _ => .nilf
  · exact fun f a c x y _ _ ha hc hu => by
      simp only [AV.under, Bool.and_eq_true] at hu
      exact .func f a c x y (ha hu.1) (hc hu.2)
  · exact fun l L h hu => .yield l L (ht _ _ (lt hu) h)
  · exact fun name r v y _ h hu => .meth name r v y (h (by simpa only [AV.under] using hu))
  · exact fun _ => .nili
  · exact fun t a v _ h hu => .iface t a v (h (by simpa only [AV.under] using hu))
  · exact fun l x _ h hu => .agg l x (h (by simpa only [AV.under] using hu))
  · exact fun l x _ h hu => .tuple l x (h (by simpa only [AV.under] using hu))
  · exact fun v h _ => .any v h
  · exact fun _ => .nil
  · exact fun a v l m _ _ h t hu => by
      simp only [underL, Bool.and_eq_true] at hu
      exact .cons a v l m (h hu.1) (t hu.2)
theorem underL_get {n : Nat} : ∀ {l : List AV}, underL n l = true → ∀ (i : Nat) (a : AV), l[i]? = some a → a.under n = true
  | [], _, i, a, h => by simp at h
  | b :: l, hu, 0, a, h => by simp only [underL, Bool.and_eq_true] at hu; simp at h; rw [← h]; exact hu.1
  | b :: l, hu, i + 1, a, h => by simp only [underL, Bool.and_eq_true] at hu; exact underL_get hu.2 i a (by simpa using h)
theorem OR.tr {n : Nat} (hn : ∀ c, n ≤ c → μ c = none) (ht : ∀ c K, c < n → ν c = some K → ξ c = some K) {L : Loc} {o : AObj} {obj0 obj : Obj} (h0 : OR μ L o obj0) (h : OR ν L o obj) : OR ξ L o obj := by
  have lt : ∀ {b : Nat} {L : Loc}, μ b = some L → b < n := fun {b L} h => by
    rcases Nat.lt_or_ge b n with h' | h'
    · exact h'
    · rw [hn b h'] at h; cases h
  cases o with
  | dead => trivial
  | bytes n N e st => exact h
  | rows n s c z e =>
    obtain ⟨arr, h1, h2, h3, h4⟩ := h
    obtain ⟨arr0, _, _, h30, _⟩ := h0
    refine ⟨arr, h1, h2, fun i hi => ⟨(h3 i hi).1, fun j a ha => ?_⟩, h4⟩
    obtain ⟨v, hv, hr⟩ := (h3 i hi).2 j a ha
    obtain ⟨v0, _, hr0⟩ := (h30 i hi).2 j a ha
    exact ⟨v, hv, hr.tr ht (hr0.under hn)⟩
  | map es clock =>
    obtain ⟨cs, h1, h2, h3⟩ := h
    obtain ⟨cs0, _, h20, h30⟩ := h0
    refine ⟨cs, h1, h2, fun i e c he hc => ?_⟩
    obtain ⟨a1, a2, a3⟩ := h3 i e c he hc
    have hi : i < es.length := (List.getElem?_eq_some_iff.1 he).1
    obtain ⟨c0, hc0⟩ : ∃ c0, cs0.toList[i]? = some c0 := ⟨_, List.getElem?_eq_getElem (by omega)⟩
    obtain ⟨b1, b2, _⟩ := h30 i e c0 he hc0
    exact ⟨a1.tr ht (b1.under hn), a2.tr ht (b2.under hn), a3⟩
  | strIter n N pos => exact h
  | mapIter m since seen stepped =>
    obtain ⟨h0', m', h1, h2⟩ := h
    obtain ⟨_, m0, _, h20⟩ := h0
    refine ⟨h0', m', h1, ?_⟩
    cases m with
    | none => exact h2
    | some b => obtain ⟨K, h3, h4⟩ := h2; obtain ⟨K0, h30, _⟩ := h20; exact ⟨K, ht _ _ (lt h30) h3, h4⟩
  | loop st p fn mask tr n' ps asg body d =>
    obtain ⟨tmps, K, h1, h2, h3, h4⟩ := h
    obtain ⟨tmps0, K0, _, h20, _, h40⟩ := h0
    exact ⟨tmps, K, h1, ht _ _ (lt h20) h2, h3, fun t => (h4 t).tr ht ((h40 t).under hn)⟩
  | deferred t => exact h
theorem objBeq_sound {n : Nat} (ht : ∀ c K, c < n → ν c = some K → ξ c = some K) {L : Loc} {o o' : AObj} {obj : Obj} (hb : objBeq n o o' = true) (h : OR ν L o obj) : OR ξ L o' obj := by
  unfold objBeq at hb
  split at hb
  · rename_i n1 N1 e1 st1 n2 N2 e2 st2
    simp only [Bool.and_eq_true] at hb
    obtain ⟨⟨⟨b1, b2⟩, b3⟩, b4⟩ := hb
    have := beqN b1; have := beqN b2; have := beqN b3
    subst n2 N2 e2
    obtain ⟨arr, fz, h1, h2, h3, h4, h5, h6⟩ := h
    refine ⟨arr, fz, h1, h2, h3, h4, h5, fun hs => h6 ?_⟩
    rw [hs] at b4
    simpa using b4
  · rename_i n1 s1 c1 z1 e1 n2 s2 c2 z2 e2
    simp only [Bool.and_eq_true] at hb
    obtain ⟨⟨⟨b1, b2⟩, b3⟩, b4⟩ := hb
    have := beqN b1; have := beqN b2; have := beqN b3
    subst n2 s2 e2
    obtain ⟨arr, h1, h2, h3, h4⟩ := h
    unfold rowsBeq at b4
    rw [List.all_eq_true] at b4
    refine ⟨arr, h1, h2, fun i hi => ?_, h4⟩
    have := b4 i (by simpa using hi)
    rw [Bool.and_eq_true] at this
    have he := beqL_sound _ _ this.1
    rw [← he]
    exact ⟨(h3 i hi).1, fun j a ha => let ⟨v, hv, hr⟩ := (h3 i hi).2 j a ha; ⟨v, hv, hr.tr ht (underL_get this.2 j a ha)⟩⟩
  · rename_i a b
    have := beqN hb
    subst b
    obtain ⟨cs, h1, h2, h3⟩ := h
    exact ⟨cs, h1, h2, fun i e c he => by simp at he⟩
  · cases hb
theorem objBeq_dead {n : Nat} {o o' : AObj} (hb : objBeq n o o' = true) : o ≠ .dead ∧ o' ≠ .dead := by
  unfold objBeq at hb
  split at hb <;> first | (cases hb; done) | exact ⟨by simp, by simp⟩
/-- A block that was made ahead comes to its place. -/
theorem HR.place (h : HR w0 G μ H w) {ob : AObj} (h' : HR w0 G ν (H.push ob) w') (hx : μ.lx H.size ν) {b : Nat} (hb : b < H.size) (hμ : μ b = none) (hob : objBeq H.size ob (H.get b) = true) {L : Loc} (hL : ν H.size = some L) :
    ∃ ξ : Mu, HR w0 G ξ H w' ∧ μ.le ξ ∧ (∀ c, c < H.size → c ≠ b → ξ c = μ c) ∧ ξ b = some L := by
  refine ⟨fun c => if c = b then some L else if c = H.size then none else ν c, ?_, ?_, ?_, by simp⟩
  · have hdead := objBeq_dead hob
    have ht : ∀ c K, c < H.size → ν c = some K → (if c = b then some L else if c = H.size then none else ν c) = some K := fun c K hc hK => by
      have : c ≠ b := fun e => by rw [hx.2 c hc, e, hμ] at hK; cases hK
      rw [if_neg this, if_neg (by omega)]; exact hK
    have hgs : (H.push ob).get H.size = ob := by rw [get_push, if_pos rfl]
    have hsz : (H.push ob).size = H.size + 1 := rfl
    have hlt : ∀ c K, c ≠ b → (if c = b then some L else if c = H.size then none else ν c) = some K → c < H.size ∧ ν c = some K ∧ μ c = some K ∧ (H.push ob).get c = H.get c := fun c K hc hK => by
      rw [if_neg hc] at hK
      by_cases e : c = H.size
      · rw [if_pos e] at hK; cases hK
      · rw [if_neg e] at hK
        have hlt : c < H.size := by
          rcases Nat.lt_or_ge c H.size with g | g
          · exact g
          · rw [h'.dom c (by rw [hsz]; omega)] at hK; cases hK
        exact ⟨hlt, hK, by rw [← hx.2 c hlt]; exact hK, by rw [get_push, if_neg e]⟩
    refine ⟨h'.below, ?_, ?_, ?_, ?_, ?_, h.live, h.gs⟩
    · intro c hc
      rw [if_neg (by omega)]
      by_cases e : c = H.size
      · rw [if_pos e]
      · rw [if_neg e]; exact h'.dom c (by rw [hsz]; omega)
    · intro c K hK hd
      by_cases e : c = b
      · rw [if_pos e] at hK
        cases hK
        obtain ⟨obj, ho, hr⟩ := h'.obj H.size L hL (by rw [hgs]; exact hdead.1)
        rw [hgs] at hr
        exact ⟨obj, ho, by rw [e]; exact objBeq_sound ht hob hr⟩
      · obtain ⟨h1, h2, h3, h4⟩ := hlt c K e hK
        obtain ⟨obj, ho, hr⟩ := h'.obj c K h2 (by rw [h4]; exact hd)
        obtain ⟨obj0, _, hr0⟩ := h.obj c K h3 hd
        rw [h4] at hr
        exact ⟨obj, ho, hr0.tr h.dom ht hr⟩
    · intro c K hc hK
      by_cases e : c = b
      · rw [if_pos e] at hK
        cases hK
        exact h'.own H.size L h.gs hL
      · obtain ⟨h1, h2, h3, h4⟩ := hlt c K e hK
        exact h'.own c K hc h2
    · intro c d K K' hc hd hK hK' he
      by_cases e : c = b
      · by_cases e' : d = b
        · rw [e, e']
        · obtain ⟨h1, h2, h3, h4⟩ := hlt d K' e' hK'
          rw [if_pos e] at hK
          cases hK
          have := h'.inj H.size d L K' (by rw [hgs]; exact hdead.1) (by rw [h4]; exact hd) hL h2 he
          omega
      · obtain ⟨h1, h2, h3, h4⟩ := hlt c K e hK
        by_cases e' : d = b
        · rw [if_pos e'] at hK'
          cases hK'
          have := h'.inj c H.size K L (by rw [h4]; exact hc) (by rw [hgs]; exact hdead.1) h2 hL he
          omega
        · obtain ⟨g1, g2, g3, g4⟩ := hlt d K' e' hK'
          exact h'.inj c d K K' (by rw [h4]; exact hc) (by rw [g4]; exact hd) h2 g2 he
    · intro c K hK
      by_cases e : c = b
      · rw [if_pos e] at hK
        cases hK
        exact h'.lt H.size L hL
      · obtain ⟨h1, h2, h3, h4⟩ := hlt c K e hK
        exact h'.lt c K h2
  · intro c K hK
    have : c ≠ b := fun e => by rw [e, hμ] at hK; cases hK
    have hlt : c < H.size := by
      rcases Nat.lt_or_ge c H.size with g | g
      · exact g
      · rw [h.dom c g] at hK; cases hK
    simp only [if_neg this, if_neg (show c ≠ H.size by omega)]
    rw [hx.2 c hlt]; exact hK
  · intro c hc hne
    simp only [if_neg hne, if_neg (show c ≠ H.size by omega)]
    exact hx.2 c hc
end
end Go.Proofs.YtmapmbfohilklaaGreat.Ab
