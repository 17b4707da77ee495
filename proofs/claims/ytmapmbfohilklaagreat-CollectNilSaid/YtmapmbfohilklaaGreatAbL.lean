/-
  The abstract machine: conversions, strings, equality, two operands.
-/
import Derived.Test.YtmapmbfohilklaaGreatAbK
import Derived.Laws.Strings
import Derived.Laws.StructEq
namespace Go.Proofs.YtmapmbfohilklaaGreat.Ab
open Go.RowKit

section
variable {P : Program} {w0 w : World} {G : Nat} {μ : Mu} {H : AH} {r : Result Next}
/-! ### conversions -/
theorem stringToBytes_sound (h : HR w0 G μ H w) {e : TypeId} {l N : Nat} {s : ByteArray} (hs : StrR l N s)
    (hr : ∀ v w', (Conv.stringToBytes e s).run P w = .ok v w' → r = .ok (.value v) w') :
    XR P w0 G μ H.size (.val (.slice H.size 0 l l true) (H.push (.bytes l (sealB N) e true))) r := by
  have hsz : s.size = l := hs.1
  let cap := (Question.appendCap s.size 0 e).cut (w.tape w.drawn (.appendCap s.size 0 e))
  have hcap : l ≤ cap := by
    show l ≤ s.size + _
    omega
  let arr : Array Value := (s.data.map fun b => .int .u8 b.toNat) ++ Array.replicate (cap - s.size) (.int .u8 0)
  have hasz : arr.size = cap := by simp [arr]; have := hs.1; omega
  let w1 : World := { w with drawn := w.drawn + 1 }
  let w2 : World := { w1 with heap := w.heap.push (.cells arr e) }
  let w3 : World := { w1 with heap := w.heap.push (.cells arr e (cap, cap + 1)) }
  have hfreeze : w2.freeze ⟨w.heap.size, cap, none⟩ 1 = w3 := by
    simp only [World.freeze, Nat.one_ne_zero, if_false, w2, w3]
    congr 1
    apply Array.ext
    · simp
    · intro i h1 h2
      rw [Array.getElem_modify]
      by_cases hi : w.heap.size = i
      · subst hi; simp
      · have : i < w.heap.size := by simp at h2; omega
        simp [hi, Array.getElem_push_lt this]
  have hrun : (Conv.stringToBytes e s).run P w = .ok (.slice (some ⟨w.heap.size, 0, none⟩) s.size cap) w3 := by
    unfold Conv.stringToBytes
    simp only [Sem.run_bind, run_choose, Question.forced, Bool.false_eq_true, if_false, Result.andThen_ok]
    show Result.andThen ((newRow e arr).run P w1) _ = _
    rw [run_newRow]
    simp only [Result.andThen_ok]
    show Result.andThen ((markStringish ⟨w.heap.size, 0, none⟩).run P w2) _ = _
    have hshape : w2.shape? w.heap.size = some (e, cap) := by simp [World.shape?, w2, hasz]
    have hm : (markStringish ⟨w.heap.size, 0, none⟩).run P w2 = .ok () w3 := by
      unfold markStringish
      simp only [Sem.run_bind, run_shape, Result.andThen_ok, hshape, run_freeze, hfreeze]
    rw [hm]
    rfl
  have hpush := h.push (w' := w3) (obj := .cells arr e (cap, cap + 1)) (L := ⟨w.heap.size, 0, cap - l⟩) (o := .bytes l (sealB N) e true) ⟨rfl, rfl, rfl, rfl⟩ rfl
    ⟨arr, (cap, cap + 1), rfl, by rw [core_seal]; exact hs.lt, by simp only; omega, fun i hi => ?_, .inr (by simp only; omega), fun hf => by cases hf⟩
  · refine XR.new hpush (u := .slice (some ⟨w.heap.size, 0, none⟩) s.size cap) ?_ (hr _ _ hrun)
    have := VR.slice0 (μ := μ.up H.size ⟨w.heap.size, 0, cap - l⟩) (b := H.size) (len := l) (cap := l) (g := true) (Mu.up_same _ _ _)
    rw [if_pos rfl, show l + (cap - l) = cap by omega] at this
    rw [hsz]; exact this
  · obtain ⟨b, hb1, hb2⟩ := hs.byte i hi
    have hi' : i < s.data.size := by have := hs.1; omega
    simp only [Nat.zero_add, arr, core_seal]
    rw [Array.getElem?_append_left (by simpa using hi'), Array.getElem?_map, hb1, Option.map_some, hb2]; rfl
theorem conv_sound (h : HR w0 G μ H w) {src dst : TypeId} {x : AV} {xv : Value} (hx : VR μ x xv)
    (hr : ∀ v w', (convert src dst xv).run P w = .ok v w' → r = .ok (.value v) w') : XR P w0 G μ H.size (convA P G src dst x H) r := by
  unfold convA
  split
  · rename_i s d hs hd
    split
    · rename_i k k' n
      have := hx.int_inv
      subst this
      exact XR.rInt h (m := k.wrap n) (wrapA_eq _ _) (hr _ _ (by simp [convert, run_underlying hs, run_underlying hd, Conv.intToInt]))
    · rename_i l N
      obtain ⟨t, rfl, h1, h2⟩ := hx.str_inv
      exact XR.value h (.str _ _ t h1 h2) (hr _ _ (by cases s <;> simp [convert, run_underlying hs, run_underlying hd]))
    · rename_i e l N
      obtain ⟨t, rfl, h1, h2⟩ := hx.str_inv
      refine XR.cond (fun hb => ?_) (fun _ => trivial)
      rw [fNat_eq, pushK_eq]
      refine stringToBytes_sound h (s := t) ⟨h1, h2⟩ (fun v w' hv => hr v w' ?_)
      rw [← hv]
      simp [convert, run_underlying hs, run_underlying hd, run_underlying (byte_und hb)]
    · rename_i e
      refine XR.cond (fun hb => ?_) (fun _ => trivial)
      have := bytesToString_sound (P := P) h hx (len := 0) (q := .emp) rfl rfl (fun _ _ h => by cases h)
      exact XR.value h (.str 0 0 .empty rfl rfl) (hr _ _ (by cases hx; rw [run_convert_bytes_string w src dst e _ _ _ hs (byte_und hb) hd]; exact this))
    · rename_i e _ _
      refine XR.cond (fun hb => ?_) (fun _ => trivial)
      have := bytesToString_sound (P := P) h hx (len := 0) (q := .emp) rfl rfl (fun _ _ h => by cases h)
      exact XR.value h (.str 0 0 .empty rfl rfl) (hr _ _ (by cases hx; rw [run_convert_bytes_string w src dst e _ _ _ hs (byte_und hb) hd]; exact this))
    · rename_i e b off len cap g
      refine XR.cond (fun hb => ?_) (fun _ => trivial)
      have hconv : (convert src dst xv).run P w = (Conv.bytesToString xv).run P w := by
        obtain ⟨L, hL, rfl⟩ := hx.slice_inv
        simp only [convert, Sem.run_bind, run_underlying hs, run_underlying hd, Result.andThen_ok, run_underlying (byte_und hb)]
      have hq' : seqOf H 1 len (.slice b off len 0 false) = seqOf H 1 len (.slice b off len cap g) := rfl
      rw [hq']
      cases hq : seqOf H 1 len (.slice b off len cap g) with
      | none => trivial
      | some q =>
        have := bytesToString_sound (P := P) h hx (len := len) rfl hq (fun _ _ h => by cases h)
        cases q with
        | emp => exact XR.value h (.str 0 0 .empty rfl rfl) (hr _ _ (by rw [hconv]; exact this))
        | pk n N => obtain ⟨t, ht, hst⟩ := this; exact XR.value h (.str _ _ t hst.1 hst.2) (hr _ _ (by rw [hconv]; exact ht))
        | rs l => trivial
    · rename_i e0 e b off len cap g
      refine XR.cond (fun hb => ?_) (fun _ => trivial)
      rw [Bool.and_eq_true, Bool.and_eq_true, Nat.beq_eq, Nat.ble_eq] at hb
      obtain ⟨rfl, hb, hG⟩ := hb
      cases hg : H.get b with
      | bytes n N e' st =>
        show XR P w0 G μ H.size (H.setK b _ _) r
        rw [setK_eq]
        obtain ⟨L, hL, rfl⟩ := hx.slice_inv
        obtain ⟨arr, fz, ho, hN, hsz, hcell, hf, hst⟩ := h.bytes hL hg
        obtain ⟨lo, hi⟩ := fz
        have hlt : L.blk < w.heap.size := (Array.getElem?_eq_some_iff.1 ho).1
        have hob : w.heap[L.blk] = .cells arr e' (lo, hi) := (Array.getElem?_eq_some_iff.1 ho).2
        let fz' : Nat × Nat := if lo == hi then (arr.size, arr.size + 1) else (min lo arr.size, max hi (arr.size + 1))
        have hrun : (markStringish ⟨L.blk, L.base + off, none⟩).run P w = .ok () (w.freeze ⟨L.blk, arr.size, none⟩ 1) := by
          unfold markStringish
          have hshape : w.shape? L.blk = some (e', arr.size) := by simp [World.shape?, ho]
          simp only [Sem.run_bind, run_shape, Result.andThen_ok, hshape, run_freeze]
        have hw : (w.freeze ⟨L.blk, arr.size, none⟩ 1).heap[L.blk]? = some (.cells arr e' fz') := by
          simp only [World.freeze, Nat.one_ne_zero, if_false, Array.getElem?_modify, if_true, ho, Option.map_some, fz']
        have hap : Apart L.blk w (w.freeze ⟨L.blk, arr.size, none⟩ 1) := by
          refine ⟨?_, ?_, ?_, ?_, fun k hk => ?_⟩ <;> simp only [World.freeze, Nat.one_ne_zero, if_false]
          · simp
          · rw [Array.getElem?_modify, if_neg (Ne.symm hk)]
        have hf' : Free fz' arr.size := by
          simp only [fz']
          by_cases e : (lo == hi) = true
          · rw [if_pos e]; exact .inr (Nat.le_refl _)
          · rw [if_neg e]
            rcases hf with hf | hf
            · simp only [Prod.mk.injEq] at hf
              obtain ⟨rfl, rfl⟩ := hf
              simp at e
            · exact .inr (by simp only at hf ⊢; omega)
        have hfin := h.set hL hG (by rw [hg]; intro h; cases h) hap hw (o := .bytes n N e' true) ⟨arr, fz', rfl, hN, hsz, hcell, hf', fun h => by cases h⟩
        refine XR.new ⟨hfin, μ.lx_refl _⟩ hx (hr _ _ ?_)
        rw [hs] at hd
        simp only [Option.some.injEq, TypeDesc.slice.injEq] at hd
        subst hd
        simp only [convert, Sem.run_bind, run_underlying hs, Result.andThen_ok, run_underlying (byte_und hb), beq_self_eq_true, hrun, Sem.run_pure]
      | _ => trivial
    · trivial
  · trivial

/-! ### strings -/
theorem StrR.eq {s t : ByteArray} {n N m M : Nat} (hs : StrR n N s) (ht : StrR m M t) : (s.toList == t.toList) = (Nat.beq n m && Nat.beq N M) := by
  have e1 : s.toList = s.data.toList := ByteArray.toList_eq _
  have e2 : t.toList = t.data.toList := ByteArray.toList_eq _
  rw [e1, e2, Bool.eq_iff_iff, beq_iff_eq, Bool.and_eq_true, Nat.beq_eq, Nat.beq_eq]
  constructor
  · intro e
    refine ⟨?_, ?_⟩
    · rw [← hs.1, ← ht.1, ← Array.length_toList, ← Array.length_toList, e]
    · rw [← hs.2, ← ht.2, e]
  · rintro ⟨rfl, rfl⟩
    exact pack_inj (by simp [hs.1, ht.1]) (by rw [hs.2, ht.2])
theorem strLtF_succ (f la A lb B : Nat) : strLtF (Nat.succ f) la A lb B = (bif Nat.beq lb 0 then false else bif Nat.beq la 0 then true else
      bif Nat.blt (Nat.mod A 256) (Nat.mod B 256) then true else bif Nat.blt (Nat.mod B 256) (Nat.mod A 256) then false else strLtF f (Nat.sub la 1) (Nat.div A 256) (Nat.sub lb 1) (Nat.div B 256)) := rfl
theorem strLt_eq : ∀ (f : Nat) (a b : List UInt8), b.length ≤ f → strLtF (Nat.succ f) a.length (pack a) b.length (pack b) = Op.bytesLess a b := by
  intro f
  induction f with
  | zero =>
    intro a b hb
    have : b = [] := List.length_eq_zero_iff.1 (by omega)
    subst this
    cases a <;> rfl
  | succ f ih =>
    intro a b hb
    cases b with
    | nil => cases a <;> rfl
    | cons y b =>
      cases a with
      | nil => rfl
      | cons x a =>
        have hx : x.toNat < 256 := x.toNat_lt
        have hy : y.toNat < 256 := y.toNat_lt
        have m1 : Nat.mod (pack (x :: a)) 256 = x.toNat := by show pack (x :: a) % 256 = _; simp only [pack]; omega
        have m2 : Nat.mod (pack (y :: b)) 256 = y.toNat := by show pack (y :: b) % 256 = _; simp only [pack]; omega
        have d1 : Nat.div (pack (x :: a)) 256 = pack a := by show pack (x :: a) / 256 = _; simp only [pack]; omega
        have d2 : Nat.div (pack (y :: b)) 256 = pack b := by show pack (y :: b) / 256 = _; simp only [pack]; omega
        have l1 : Nat.sub (x :: a).length 1 = a.length := by simp
        have l2 : Nat.sub (y :: b).length 1 = b.length := by simp
        have z1 : Nat.beq (y :: b).length 0 = false := rfl
        have z2 : Nat.beq (x :: a).length 0 = false := rfl
        have ih' := ih a b (by simpa using hb)
        rw [strLtF_succ]
        rw [z1, z2, m1, m2, d1, d2, l1, l2, ih']
        simp only [cond_false, Op.bytesLess]
        by_cases h1 : x.toNat < y.toNat
        · have e1 : Nat.blt x.toNat y.toNat = true := by rw [Nat.blt_eq]; exact h1
          have e2 : decide (x < y) = true := by rw [decide_eq_true_iff]; exact UInt8.lt_iff_toNat_lt.2 h1
          rw [e1, e2]; rfl
        · have e1 : Nat.blt x.toNat y.toNat = false := by rw [← Bool.not_eq_true, Nat.blt_eq]; exact h1
          have e2 : decide (x < y) = false := by rw [decide_eq_false_iff_not]; exact fun h => h1 (UInt8.lt_iff_toNat_lt.1 h)
          rw [e1, e2]
          by_cases h2 : y.toNat < x.toNat
          · have e3 : Nat.blt y.toNat x.toNat = true := by rw [Nat.blt_eq]; exact h2
            have e4 : (x == y) = false := by rw [← Bool.not_eq_true, beq_iff_eq]; rintro rfl; omega
            rw [e3, e4]; rfl
          · have e3 : Nat.blt y.toNat x.toNat = false := by rw [← Bool.not_eq_true, Nat.blt_eq]; exact h2
            have e4 : (x == y) = true := by rw [beq_iff_eq]; exact UInt8.toNat_inj.1 (by omega)
            rw [e3, e4]; rfl
theorem strLt_sound {s t : ByteArray} {n N m M : Nat} (hs : StrR n N s) (ht : StrR m M t) : strLt n N m M = Op.bytesLess s.toList t.toList := by
  have e1 : s.toList = s.data.toList := ByteArray.toList_eq _
  have e2 : t.toList = t.data.toList := ByteArray.toList_eq _
  rw [e1, e2, ← strLt_eq m _ _ (by simp [ht.1])]
  unfold strLt
  rw [hs.2, ht.2]
  simp only [Array.length_toList, hs.1, ht.1]
theorem StrR.append {s t : ByteArray} {n N m M : Nat} (hs : StrR n N s) (ht : StrR m M t) : StrR (n + m) (N + 256 ^ n * M) (s ++ t) := by
  have hd : (s ++ t).data = s.data ++ t.data := ByteArray.data_append
  refine StrR.mk' (by rw [hd]; simp [hs.1, ht.1]) (join_lt hs.lt ht.lt) fun i hi => ?_
  rw [hd, byteAt_join hs.lt]
  by_cases h : i < n
  · rw [if_pos h, Array.getElem?_append_left (by rw [hs.1]; exact h)]; exact hs.byte i h
  · rw [if_neg h, Array.getElem?_append_right (by rw [hs.1]; omega), hs.1]; exact ht.byte _ (by omega)
theorem strOp_sound (h : HR w0 G μ H w) (op : BinOp) {s t : ByteArray} {n N m M : Nat} (hs : StrR n N s) (ht : StrR m M t)
    (hr : ∀ v, (Op.stringOp op s t).run P w = .ok v w → r = .ok (.value v) w) : XR P w0 G μ H.size (strOp op n N m M H) r := by
  have he := hs.eq ht
  have hlt := strLt_sound hs ht
  cases op
  case add =>
    refine XR.cond (fun hb => ?_) (fun _ => trivial)
    rw [Nat.blt_eq] at hb
    have hb : n + m < 1099511627776 := hb
    refine XR.rStr h (hs.append ht) (hr _ ?_)
    have e1 : s.size = n := hs.1
    have e2 : t.size = m := ht.1
    have hm : ¬ (((s.size + t.size : Nat) : Int) > IntKind.i64.max) := by rw [e1, e2]; simp [IntKind.max, IntKind.signed, IntKind.bits]; omega
    simp only [Op.stringOp, Sem.run_ite, if_neg hm, Sem.run_pure]
  case eql => exact XR.rBool h (c := s.toList == t.toList) he.symm (hr _ (by simp only [Op.stringOp, Sem.run_pure]))
  case neq => exact XR.rBool h (c := !(s.toList == t.toList)) (by rw [he]) (hr _ (by simp only [Op.stringOp, Sem.run_pure]))
  case lss => exact XR.rBool h (c := Op.bytesLess s.toList t.toList) hlt (hr _ (by simp only [Op.stringOp, Sem.run_pure]))
  case leq => exact XR.rBool h (c := Op.bytesLess s.toList t.toList || (s.toList == t.toList)) (by rw [hlt, he]) (hr _ (by simp only [Op.stringOp, Sem.run_pure]))
  case gtr => exact XR.rBool h (c := !(Op.bytesLess s.toList t.toList || (s.toList == t.toList))) (by rw [hlt, he]) (hr _ (by simp only [Op.stringOp, Sem.run_pure]))
  case geq => exact XR.rBool h (c := !(Op.bytesLess s.toList t.toList)) (by rw [hlt]) (hr _ (by simp only [Op.stringOp, Sem.run_pure]))
  all_goals trivial
end
end Go.Proofs.YtmapmbfohilklaaGreat.Ab
