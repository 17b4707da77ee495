/-
  The abstract machine: no operation makes the heap smaller.
-/
import Derived.Test.YtmapmbfohilklaaGreatAbW2
namespace Go.Proofs.YtmapmbfohilklaaGreat.Ab
open Go.RowKit

def Siz (n : Nat) (x : X) : Prop :=
  match x with
  | .val _ H => n ≤ H.size
  | .enter _ _ H => n ≤ H.size
  | .round _ _ H => n ≤ H.size
  | _ => True
section
variable {P : Program} {G n : Nat} {H : AH}
theorem Siz.val {v : AV} (h : n ≤ H.size) : Siz n (.val v H) := h
theorem Siz.rInt (h : n ≤ H.size) (k : IntKind) (m : Int) : Siz n (rInt k m H) := by unfold Ab.rInt; rw [fInt_eq]; exact h
theorem Siz.rSlice (h : n ≤ H.size) (b o l c : Nat) (g : Bool) : Siz n (rSlice b o l c g H) := by rw [rSlice_eq]; exact h
theorem Siz.rOpt (h : n ≤ H.size) (o : Option AV) (m : Nat) : Siz n (rOpt o m H) := by cases o <;> first | exact trivial | exact h
theorem Siz.push (h : n ≤ H.size) {ob : AObj} {k : AH → X} (hk : ∀ H' : AH, n ≤ H'.size → Siz n (k H')) : Siz n (H.pushK ob k) := by rw [pushK_eq]; exact hk _ (Nat.le_succ_of_le h)
theorem Siz.set (h : n ≤ H.size) {b : Nat} {ob : AObj} {k : AH → X} (hk : ∀ H' : AH, n ≤ H'.size → Siz n (k H')) : Siz n (H.setK b ob k) := by rw [setK_eq]; exact hk _ h
theorem Siz.cond {b : Bool} {f e : X} (h1 : Siz n f) (h2 : Siz n e) : Siz n (bif b then f else e) := by cases b <;> first | exact h2 | exact h1
theorem Siz.onB {b : Bool} {f e : Unit → X} (h1 : Siz n (f ())) (h2 : Siz n (e ())) : Siz n (onB b f e) := by cases b <;> first | exact h2 | exact h1
theorem Siz.onON {o : Option Nat} {f : Nat → X} {e : X} (h1 : ∀ n', Siz n (f n')) (h2 : Siz n e) : Siz n (onON o f e) := by cases o <;> first | exact h2 | exact h1 _
theorem Siz.onPtr {v : AV} {f : Nat → Nat → X} {e : X} (h1 : ∀ b o, Siz n (f b o)) (h2 : Siz n e) : Siz n (onPtr v f e) := by cases v <;> first | exact h2 | exact h1 _ _
theorem Siz.onInt {v : AV} {f : IntKind → Int → X} {e : X} (h1 : ∀ k n', Siz n (f k n')) (h2 : Siz n e) : Siz n (onInt v f e) := by cases v <;> first | exact h2 | exact h1 _ _
theorem Siz.onK {o : Option IntKind} {f : IntKind → X} {e : X} (h1 : ∀ n', Siz n (f n')) (h2 : Siz n e) : Siz n (onK o f e) := by cases o <;> first | exact h2 | exact h1 _
theorem Siz.fNat {m : Nat} {f : Nat → X} (h : ∀ m, Siz n (f m)) : Siz n (fNat m f) := by rw [fNat_eq]; exact h m
theorem Siz.setR {p : List Bool} {t : Tr (List AV)} {x d : List AV} {k : Tr (List AV) → X} (h : ∀ c, Siz n (k c)) : Siz n (setR p t x d k) := by rw [setR_eq]; exact h _
theorem Siz.setRows (z : List AV) (l : List (List AV)) : ∀ (c : Tr (List AV)) (i : Nat) (k : Tr (List AV) → X), (∀ c, Siz n (k c)) → Siz n (setRowsK z l c i k) := by
  induction l with
  | nil => intro c i k h; exact h c
  | cons r l ih =>
    intro c i k h
    show Siz n (Ab.setR (path i) c r z fun c' => Ab.fNat (Nat.succ i) fun j => setRowsK z l c' j k)
    rw [setR_eq, fNat_eq]
    exact ih _ _ _ h
theorem Siz.putCells {o : AObj} {off : Nat} {l : List AV} {bad : X} {k : AObj → X} (hb : Siz n bad) (h : ∀ o, Siz n (k o)) : Siz n (putCellsK o off l bad k) := by
  unfold putCellsK
  split
  · refine Siz.cond ?_ hb
    split
    · exact Siz.fNat fun _ => h _
    · exact hb
  · exact Siz.cond (Siz.cond (Siz.setR fun _ => h _) (Siz.setR fun _ => h _)) hb
  · exact hb
theorem Siz.putSeq {o : AObj} {s' off : Nat} {q : Seq} {bad : X} {k : AObj → X} (hb : Siz n bad) (h : ∀ o, Siz n (k o)) : Siz n (putSeqK o s' off q bad k) := by
  unfold putSeqK
  split
  · exact h _
  · exact Siz.cond (Siz.fNat fun _ => h _) hb
  · exact Siz.cond (Siz.setRows _ _ _ _ _ fun _ => h _) (Siz.cond (Siz.setR fun _ => h _) hb)
  · exact Siz.cond (Siz.setR fun _ => h _) hb
  · exact hb
theorem Siz.grown {e : TypeId} {s t : Nat} {old new : Seq} {bad : X} {k : AObj → X} (hb : Siz n bad) (h : ∀ o, Siz n (k o)) : Siz n (grownK P e s t old new bad k) := by
  unfold grownK
  split
  · exact Siz.cond (Siz.fNat fun _ => h _) hb
  · exact Siz.cond (Siz.fNat fun _ => Siz.fNat fun _ => h _) hb
  · split
    · exact Siz.cond (Siz.fNat fun _ => Siz.setRows _ _ _ _ _ fun _ => h _) hb
    · exact hb
  · split
    · exact Siz.cond (Siz.fNat fun _ => Siz.setRows _ _ _ _ _ fun _ => Siz.setRows _ _ _ _ _ fun _ => h _) hb
    · exact hb
  · exact hb
theorem Siz.storeA (h : n ≤ H.size) (t : TypeId) (b off : Nat) (v : AV) : Siz n (storeA P G t b off v H) := by
  unfold Ab.storeA
  split
  · exact Siz.cond (Siz.cond h (Siz.putCells trivial fun _ => Siz.set h fun _ h => h)) trivial
  · exact trivial
theorem Siz.cellPut (h : n ≤ H.size) (o : AObj) (off b : Nat) (v : AV) : Siz n (cellPut o off b v H) := by
  unfold Ab.cellPut
  cases o <;> simp only [onCells] <;> first
    | exact trivial
    | exact Siz.onB (Siz.onON (fun _ => Siz.fNat fun _ => Siz.set h fun _ h => h) trivial) trivial
    | exact Siz.onB (Siz.onB (Siz.setR fun _ => Siz.set h fun _ h => h) (Siz.setR fun _ => Siz.set h fun _ h => h)) trivial
theorem Siz.store (h : n ≤ H.size) (t : TypeId) (b off : Nat) (v : AV) : Siz n (storeX P G t b off v H) := by
  unfold storeX
  refine Siz.onB ?_ trivial
  cases loadKind P t with
  | zero => exact trivial
  | succ m => cases m with
    | zero => exact Siz.cellPut h _ _ _ _
    | succ k => exact Siz.storeA h _ _ _ _
theorem Siz.appendTo (h : n ≤ H.size) (e : TypeId) (s : Nat) (sl x : AV) (k : Nat) (q : Seq) : Siz n (appendTo P G e s sl x k q H) := by
  unfold Ab.appendTo
  split
  · exact Siz.cond h (Siz.cond (Siz.grown trivial fun _ => Siz.push h fun _ h => Siz.rSlice h _ _ _ _ _) trivial)
  · refine Siz.cond (Siz.cond (Siz.putSeq trivial fun _ => Siz.set h fun _ h => Siz.rSlice h _ _ _ _ _) trivial) (Siz.cond ?_ trivial)
    split
    · exact trivial
    · refine Siz.cond ?_ (Siz.grown trivial fun _ => Siz.push h fun _ h => Siz.rSlice h _ _ _ _ _)
      split
      · refine Siz.cond ?_ (Siz.cond ?_ trivial)
        · split
          · exact Siz.setRows _ _ _ _ _ fun _ => Siz.fNat fun _ => Siz.set h fun _ h => Siz.push h fun _ h => h
          · exact trivial
        · split
          · exact Siz.setRows _ _ _ _ _ fun _ => Siz.setRows _ _ _ _ _ fun _ => Siz.fNat fun _ => Siz.set h fun _ h => Siz.push h fun _ h => h
          · exact Siz.setRows _ _ _ _ _ fun _ => Siz.fNat fun _ => Siz.set h fun _ h => Siz.push h fun _ h => h
          · exact trivial
      · refine Siz.cond ?_ trivial
        split
        · exact Siz.fNat fun _ => Siz.fNat fun _ => Siz.set h fun _ h => Siz.push h fun _ h => h
        · exact trivial
      · exact trivial
  · refine Siz.cond ?_ trivial
    split
    · exact Siz.cond (Siz.setRows _ _ _ _ _ fun _ => Siz.set h fun _ h => Siz.push h fun _ h => h) trivial
    · exact trivial
  · exact trivial
theorem Siz.lenA (h : n ≤ H.size) (t : TypeId) (x : AV) : Siz n (lenA P t x H) := by
  unfold Ab.lenA
  repeat' (first | exact trivial | exact h | exact Siz.rInt h _ _ | split)
theorem Siz.delete (h : n ≤ H.size) (t : TypeId) (m k : AV) : Siz n (deleteA P G t m k H) := by
  unfold deleteA
  repeat' (first | exact trivial | exact h | refine Siz.cond ?_ ?_ | exact (Siz.set h (fun _ h => h)) | split)
theorem Siz.clear (h : n ≤ H.size) (t : TypeId) (m : AV) : Siz n (clearA P G t m H) := by
  unfold clearA
  repeat' (first | exact trivial | exact h | refine Siz.cond ?_ ?_ | exact (Siz.set h (fun _ h => h)) | (refine Siz.putSeq trivial (fun _ => ?_); exact (Siz.set h (fun _ h => h))) | split)
theorem Siz.builtin (h : n ≤ H.size) (b : Builtin) (types : List TypeId) (args : List AV) : Siz n (builtinA P G b types args H) := by
  unfold builtinA
  repeat' (first | contradiction | exact trivial | exact h | exact Siz.rOpt h _ _ | exact Siz.rInt h _ _ | exact Siz.lenA h _ _ | exact Siz.delete h _ _ _ | exact Siz.clear h _ _ | exact Siz.appendTo h _ _ _ _ _ _ | refine Siz.cond ?_ ?_ | dsimp only | (refine Siz.putSeq trivial (fun _ => ?_); exact (Siz.set h (fun _ h => Siz.rInt h _ _))) | split)
theorem Siz.callA (h : n ≤ H.size) (f : Nat) (args : List AV) : Siz n (callA P f args H) := by
  unfold Ab.callA
  exact Siz.onB h trivial
theorem Siz.mapUpdate (h : n ≤ H.size) (t : TypeId) (m k v : AV) : Siz n (mapUpdateA P G t m k v H) := by
  unfold mapUpdateA
  repeat' (first | exact trivial | exact h | refine Siz.cond ?_ ?_ | exact (Siz.set h (fun _ h => h)) | (refine Siz.fNat (fun _ => ?_); exact (Siz.set h (fun _ h => h))) | split)
theorem Siz.conv (h : n ≤ H.size) (s d : TypeId) (x : AV) : Siz n (convA P G s d x H) := by
  unfold convA
  repeat' (first | exact trivial | exact h | exact Siz.rInt h _ _ | refine Siz.cond ?_ ?_ | exact (Siz.set h (fun _ h => h)) | (refine Siz.fNat (fun _ => ?_); exact (Siz.push h (fun _ h => h))) | split)
theorem Flo.siz {a : Bool} {x : X} (h : Flo H a x) : Siz H.size x := by
  cases x <;> first | trivial | exact h.elim | skip
  rcases h with ⟨h, _⟩ | ⟨_, ob, h, _⟩
  · subst h; exact Nat.le_refl _
  · subst h; exact Nat.le_succ _
theorem siz_sound {o : Oper} {tm : TM} : Siz H.size (opA P G o tm H) := by
  have h : H.size ≤ H.size := Nat.le_refl _
  by_cases hf : isFloatP P o.op = true
  · exact (float_shape hf).siz
  · obtain ⟨dst, op, type, pos, after, guard⟩ := o
    cases op <;> first | (exfalso; exact hf rfl) | simp only [opA]
    all_goals first | exact trivial | skip
    case insert t m k x => exact Siz.mapUpdate h _ _ _ _
    case store t a x => exact Siz.onPtr (fun _ _ => Siz.store h _ _ _ _) trivial
    case convert s d x => exact Siz.onInt (fun _ _ => Siz.onK (fun _ => Siz.rInt h _ _) (Siz.conv h _ _ _)) (Siz.conv h _ _ _)
    case mapUpdate t m k x => exact Siz.mapUpdate h _ _ _ _
    case mapEntry t m k =>
      unfold mapEntryA
      repeat' (first | exact trivial | exact h | refine Siz.cond ?_ ?_ | exact (Siz.set h (fun _ h => h)) | (refine Siz.fNat (fun _ => ?_); exact (Siz.set h (fun _ h => h))) | split)
    case entryStore t m s x =>
      unfold entryStoreA
      repeat' (first | exact trivial | exact h | refine Siz.cond ?_ ?_ | exact (Siz.set h (fun _ h => h)) | split)
    case range t x =>
      unfold rangeA
      repeat' (first | exact trivial | exact h | refine Siz.cond ?_ ?_ | exact (Siz.push h (fun _ h => h)) | split)
    case next it s =>
      unfold nextA
      repeat' (first | exact trivial | exact h | dsimp only | refine Siz.cond ?_ ?_ | exact (Siz.set h (fun _ h => h)) | (refine Siz.fNat (fun _ => Siz.fNat (fun _ => ?_)); exact (Siz.set h (fun _ h => h))) | split)
    case call c =>
      obtain ⟨callee, args, types⟩ := c
      cases callee with
      | value f =>
        simp only [callX]
        unfold callV
        split
        · exact Siz.callA h _ _
        · exact h
        · exact trivial
      | invoke r m =>
        simp only [callX]
        unfold invokeV
        split
        · split
          · exact Siz.callA h _ _
          · exact trivial
        · exact trivial
      | builtin b => exact Siz.builtin h _ _ _
end
end Go.Proofs.YtmapmbfohilklaaGreat.Ab
