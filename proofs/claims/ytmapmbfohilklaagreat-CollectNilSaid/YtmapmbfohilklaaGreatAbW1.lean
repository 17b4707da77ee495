/-
  The abstract machine: what an operation hangs on, and what an operation that floats leaves behind.
-/
import Derived.Test.YtmapmbfohilklaaGreatAbW
namespace Go.Proofs.YtmapmbfohilklaaGreat.Ab
open Go.RowKit

/-! ### an operation hangs on its operands -/
theorem evs_congr {tm tm' : TM} : ∀ l : List Operand, (∀ x ∈ l, ev tm x = ev tm' x) → evs tm l = evs tm' l
  | [], _ => rfl
  | x :: l, h => by
    show ev tm x :: evs tm l = ev tm' x :: evs tm' l
    rw [h x (by simp), evs_congr l fun y hy => h y (by simp [hy])]
theorem evsParts_congr {tm tm' : TM} : ∀ l : List (Nat × Operand), (∀ x ∈ l.map (·.2), ev tm x = ev tm' x) → evsParts tm l = evsParts tm' l
  | [], _ => rfl
  | x :: l, h => by
    show (x.1, ev tm x.2) :: evsParts tm l = (x.1, ev tm' x.2) :: evsParts tm' l
    rw [h x.2 (by simp), evsParts_congr l fun y hy => h y (by rw [List.map_cons]; exact List.mem_cons_of_mem _ hy)]
theorem opA_congr {P : Program} {G : Nat} {H : AH} {tm tm' : TM} (o : Oper) (h : ∀ x ∈ o.op.operands, ev tm x = ev tm' x) : opA P G o tm H = opA P G o tm' H := by
  obtain ⟨dst, op, type, pos, after, guard⟩ := o
  cases op <;> (try simp only [Op.operands] at h) <;> simp only [opA]
  case build t ps => rw [evsParts_congr ps.toList fun x hx => h x (by simpa using hx)]
  case buildSlice t n ps => rw [evsParts_congr ps.toList fun x hx => h x (by simpa using hx)]
  case makeFunc fn a b =>
    rw [evs_congr a.toList fun x hx => h x (by simp at hx; simp [hx]), evs_congr b.toList fun x hx => h x (by simp at hx; simp [hx])]
  case pick c a b =>
    rw [h c (by simp)]
    cases ev tm' c <;> first | rfl | (rename_i q; cases q <;> simp only [onBool] <;> rw [h _ (by simp)])
  case makeMap t r => cases r <;> simp_all
  case slice t x lo hi mx => cases lo <;> cases hi <;> cases mx <;> simp_all
  case call c =>
    obtain ⟨callee, args, types⟩ := c
    simp only [Call.operands] at h
    have ha : evs tm args.toList = evs tm' args.toList := evs_congr _ fun x hx => h x (by simp at hx; simp [hx])
    unfold callX
    cases callee <;> simp_all
  all_goals (first | rfl | (simp_all; done))

/-! ### an operation that floats -/
/-- It leaves the heap as it was, or one block more. -/
def Flo (H : AH) (alloc : Bool) (x : X) : Prop :=
  match x with
  | .val v H1 => (H1 = H ∧ (alloc = true → (match v with | .int _ _ => True | .str _ _ => True | _ => False))) ∨ (alloc = true ∧ ∃ ob, H1 = H.push ob ∧ (v = .ptr H.size 0 ∨ (∃ l c g, v = .slice H.size 0 l c g) ∨ v = .map H.size))
  | .enter .. => False
  | .round .. => False
  | _ => True
section
variable {P : Program} {G : Nat} {H : AH}
theorem Flo.val (v : AV) : Flo H false (.val v H) := .inl ⟨rfl, fun h => by cases h⟩
theorem Flo.fail {a : Bool} (n : Nat) : Flo H a (.fail n) := trivial
theorem Flo.rInt {a : Bool} (k : IntKind) (n : Int) : Flo H a (rInt k n H) := by unfold Ab.rInt; rw [fInt_eq]; exact .inl ⟨rfl, fun _ => trivial⟩
theorem Flo.rStr {a : Bool} (k n : Nat) : Flo H a (rStr k n H) := by unfold Ab.rStr; rw [fNat_eq, fNat_eq]; exact .inl ⟨rfl, fun _ => trivial⟩
theorem Flo.rBool (b : Bool) : Flo H false (rBool b H) := by cases b <;> exact Flo.val _
theorem Flo.rPtr (b o : Nat) : Flo H false (rPtr b o H) := by unfold Ab.rPtr; rw [fNat_eq, fNat_eq]; exact Flo.val _
theorem Flo.rSlice (b o l c : Nat) (g : Bool) : Flo H false (rSlice b o l c g H) := by rw [rSlice_eq]; exact Flo.val _
theorem Flo.rOpt (o : Option AV) (n : Nat) : Flo H false (rOpt o n H) := by cases o <;> first | exact trivial | exact Flo.val _
theorem Flo.rOptB (o : Option Bool) (n : Nat) : Flo H false (rOptB o n H) := by cases o <;> first | exact trivial | exact Flo.rBool _
theorem Flo.pushP {ob : AObj} : Flo H true (H.pushK ob fun H' => .val (.ptr H.size 0) H') := by rw [pushK_eq]; exact .inr ⟨rfl, ob, rfl, .inl rfl⟩
theorem Flo.pushM {ob : AObj} : Flo H true (H.pushK ob fun H' => .val (.map H.size) H') := by rw [pushK_eq]; exact .inr ⟨rfl, ob, rfl, .inr (.inr rfl)⟩
theorem Flo.pushS {ob : AObj} {l c : Nat} {g : Bool} : Flo H true (H.pushK ob fun H' => .val (.slice H.size 0 l c g) H') := by rw [pushK_eq]; exact .inr ⟨rfl, ob, rfl, .inr (.inl ⟨l, c, g, rfl⟩)⟩
theorem Flo.pushR {ob : AObj} {l c : Nat} {g : Bool} : Flo H true (H.pushK ob fun H' => Ab.rSlice H.size 0 l c g H') := by rw [pushK_eq, rSlice_eq]; exact .inr ⟨rfl, ob, rfl, .inr (.inl ⟨l, c, g, rfl⟩)⟩
variable {a : Bool}
theorem Flo.onInt {v : AV} {f : IntKind → Int → X} {e : X} (h1 : ∀ k n, v = .int k n → Flo H a (f k n)) (h2 : Flo H a e) : Flo H a (onInt v f e) := by
  cases v <;> first | exact h2 | exact h1 _ _ rfl
theorem Flo.onBool {v : AV} {f : Bool → X} {e : X} (h1 : ∀ b, v = .bool b → Flo H a (f b)) (h2 : Flo H a e) : Flo H a (onBool v f e) := by
  cases v <;> first | exact h2 | exact h1 _ rfl
theorem Flo.onPtr {v : AV} {f : Nat → Nat → X} {e : X} (h1 : ∀ b o, v = .ptr b o → Flo H a (f b o)) (h2 : Flo H a e) : Flo H a (onPtr v f e) := by
  cases v <;> first | exact h2 | exact h1 _ _ rfl
theorem Flo.onSlice {v : AV} {f : Nat → Nat → Nat → Nat → Bool → X} {e : X} (h1 : ∀ b o l c g, v = .slice b o l c g → Flo H a (f b o l c g)) (h2 : Flo H a e) : Flo H a (onSlice v f e) := by
  cases v <;> first | exact h2 | exact h1 _ _ _ _ _ rfl
theorem Flo.onJunk {v : AV} {f : X} {e : X} (h1 : v = .junk → Flo H a f) (h2 : Flo H a e) : Flo H a (onJunk v f e) := by
  cases v <;> first | exact h2 | exact h1 rfl
theorem Flo.onON {o : Option Nat} {f : Nat → X} {e : X} (h1 : ∀ n, Flo H a (f n)) (h2 : Flo H a e) : Flo H a (onON o f e) := by
  cases o <;> first | exact h2 | exact h1 _
theorem Flo.onOV {o : Option AV} {f : AV → X} {e : X} (h1 : ∀ n, Flo H a (f n)) (h2 : Flo H a e) : Flo H a (onOV o f e) := by
  cases o <;> first | exact h2 | exact h1 _
theorem Flo.onOL {o : Option (List AV)} {f : List AV → X} {e : X} (h1 : ∀ n, Flo H a (f n)) (h2 : Flo H a e) : Flo H a (onOL o f e) := by
  cases o <;> first | exact h2 | exact h1 _
theorem Flo.onK {o : Option IntKind} {f : IntKind → X} {e : X} (h1 : ∀ n, Flo H a (f n)) (h2 : Flo H a e) : Flo H a (onK o f e) := by
  cases o <;> first | exact h2 | exact h1 _
theorem Flo.onB {b : Bool} {f e : Unit → X} (h1 : Flo H a (f ())) (h2 : Flo H a (e ())) : Flo H a (onB b f e) := by
  cases b <;> first | exact h2 | exact h1
theorem Flo.onNat {n : Int} {f : Nat → X} {e : X} (h1 : ∀ m : Nat, Flo H a (f m)) (h2 : Flo H a e) : Flo H a (onNat n f e) := by
  cases n with
  | ofNat m => exact h1 m
  | negSucc m => exact h2
theorem Flo.cond {b : Bool} {f e : X} (h1 : Flo H a f) (h2 : Flo H a e) : Flo H a (bif b then f else e) := by
  cases b <;> first | exact h2 | exact h1
theorem Flo.fNat {n : Nat} {f : Nat → X} (h : ∀ n, Flo H a (f n)) : Flo H a (fNat n f) := by rw [fNat_eq]; exact h n
theorem Flo.setRows (z : List AV) (l : List (List AV)) : ∀ (c : Tr (List AV)) (i : Nat) (k : Tr (List AV) → X), (∀ c, Flo H a (k c)) → Flo H a (setRowsK z l c i k) := by
  induction l with
  | nil => intro c i k h; exact h c
  | cons r l ih =>
    intro c i k h
    show Flo H a (setR (path i) c r z fun c' => Ab.fNat (Nat.succ i) fun j => setRowsK z l c' j k)
    rw [setR_eq, fNat_eq]
    exact ih _ _ _ h
theorem Flo.intOp (op : BinOp) (k : IntKind) (x y : Int) : Flo H false (intOp op k x y H) := by
  cases op <;> simp only [Ab.intOp, rWrap, on2] <;>
    first
      | exact Flo.rInt _ _
      | exact Flo.rBool _
      | (refine Flo.onNat (fun _ => ?_) trivial
         refine Flo.onNat (fun _ => ?_) trivial
         refine Flo.onB ?_ trivial
         exact Flo.rInt _ _)
      | (refine Flo.onNat (fun _ => ?_) trivial
         refine Flo.onB ?_ trivial
         exact Flo.rInt _ _)
theorem Flo.strOp (op : BinOp) (la A lb B : Nat) : Flo H false (strOp op la A lb B H) := by
  unfold Ab.strOp
  split
  · exact Flo.cond (Flo.rStr _ _) trivial
  all_goals first | exact Flo.rBool _ | exact trivial
theorem Flo.binA (op : BinOp) (t : TypeId) (x y : Operand) (u v : AV) : Flo H false (binA P op t x y u v H) := by
  unfold Ab.binA
  refine Flo.onInt (fun _ _ _ => Flo.onInt (fun _ _ _ => Flo.onB (Flo.intOp _ _ _ _) trivial) trivial) ?_
  unfold binSlow
  split
  · exact trivial
  · exact Flo.strOp _ _ _ _ _
  · refine Flo.cond ?_ trivial
    split <;> first | exact Flo.rOptB _ _ | exact trivial
  · refine Flo.cond trivial ?_
    split <;> first | exact Flo.rOptB _ _ | exact trivial
  · split <;> first | exact Flo.rOptB _ _ | exact trivial
theorem Flo.unA (op : UnOp) (x : AV) : Flo H false (unA op x H) := by
  unfold Ab.unA
  split
  · exact Flo.rInt _ _
  · refine Flo.cond trivial (Flo.cond (Flo.rInt _ _) trivial)
  · exact Flo.rBool _
  · exact trivial
theorem Flo.newVar (t : TypeId) (v : AV) : Flo H true (newVarK P t v H) := by
  unfold newVarK
  split
  · refine Flo.cond (Flo.cond ?_ Flo.pushP) trivial
    split
    · exact Flo.fNat fun _ => Flo.pushP
    · exact trivial
  · exact trivial
theorem Flo.buildSlice (t : TypeId) (n : Nat) (ps : List (Nat × AV)) : Flo H true (buildSliceA P t n ps H) := by
  unfold buildSliceA
  split
  · split
    · refine Flo.cond ?_ trivial
      split
      · refine Flo.cond ?_ (Flo.setRows _ _ _ _ _ fun _ => Flo.pushS)
        split
        · exact Flo.fNat fun _ => Flo.pushS
        · exact trivial
      · exact trivial
    · exact trivial
  · exact trivial
theorem Flo.makeSlice (t : TypeId) (l c : AV) : Flo H true (makeSliceA P t l c H) := by
  unfold makeSliceA
  split
  · split
    · exact Flo.cond (Flo.cond Flo.pushR Flo.pushR) trivial
    · exact trivial
  · exact trivial
theorem Flo.makeMap (t : TypeId) (r : Option AV) : Flo H true (makeMapX P t r H) := by
  unfold makeMapX
  split
  · exact Flo.pushM
  · split
    · exact Flo.pushM
    · exact trivial
theorem Flo.convA (s d : TypeId) (x : AV) (hs : rowConv P s d = false) : Flo H true (convA P G s d x H) := by
  unfold Ab.convA
  split
  · rename_i ss dd h1 h2
    split
    · exact Flo.rInt _ _
    · exact .inl ⟨rfl, fun _ => trivial⟩
    · exact Flo.cond (Flo.fNat fun _ => Flo.pushS) trivial
    · exact Flo.cond (.inl ⟨rfl, fun _ => trivial⟩) trivial
    · exact Flo.cond (.inl ⟨rfl, fun _ => trivial⟩) trivial
    · refine Flo.cond ?_ trivial
      split
      · exact .inl ⟨rfl, fun _ => trivial⟩
      · exact .inl ⟨rfl, fun _ => trivial⟩
      · exact trivial
    · simp [rowConv, h1, h2] at hs
    · exact trivial
  · exact trivial
theorem Flo.slice (t : TypeId) (x : AV) (lo hi mx : Option AV) : Flo H false (sliceA P t x lo hi mx H) := by
  unfold sliceA
  split
  · split
    · refine Flo.cond ?_ trivial
      split
      · exact Flo.rSlice _ _ _ _ _
      · exact trivial
    · exact trivial
  · split
    · split
      · exact Flo.rSlice _ _ _ _ _
      · exact trivial
    · split
      · split
        · exact Flo.rSlice _ _ _ _ _
        · exact trivial
      · exact trivial
    · split
      · exact Flo.rStr _ _
      · exact trivial
    · split
      · exact Flo.val _
      · exact trivial
    · split
      · exact Flo.val _
      · exact trivial
    · split
      · exact Flo.cond (Flo.cond (by rw [fNat_eq]; exact Flo.val _) (Flo.rSlice _ _ _ _ _)) (Flo.rSlice _ _ _ _ _)
      · exact trivial
    · exact trivial
theorem Flo.load (t : TypeId) (b off : Nat) : Flo H false (loadX P t b off H) := by
  unfold loadX
  cases loadKind P t with
  | zero => exact trivial
  | succ m =>
    cases m with
    | zero =>
      show Flo H false (cellX (H.get b) off H)
      unfold cellX
      cases H.get b <;> simp only [onCells] <;> first
        | exact trivial
        | exact Flo.onB (Flo.rInt _ _) trivial
        | (refine Flo.onB ?_ trivial
           generalize getR _ _ _ = l
           generalize Nat.mod _ _ = i
           clear b off
           induction l generalizing i with
           | nil => exact trivial
           | cons v l ih =>
             cases i with
             | zero => exact Flo.onJunk (fun _ => trivial) (Flo.val _)
             | succ i => exact ih i)
    | succ k =>
      cases k with
      | zero => exact Flo.val _
      | succ k => exact Flo.onOL (fun _ => Flo.val _) trivial
theorem Flo.lookup (t : TypeId) (x k : AV) (ok : Bool) : Flo H false (lookupA P t x k ok H) := by
  unfold lookupA
  repeat' (first | exact trivial | exact Flo.val _ | refine Flo.cond ?_ ?_ | split)
theorem Flo.typeAssert (x : AV) (t : TypeId) (ok : Bool) : Flo H false (typeAssertA P x t ok H) := by
  unfold typeAssertA
  repeat' (first | exact trivial | exact Flo.val _ | refine Flo.cond ?_ ?_ | split)
theorem float_shape {o : Oper} {tm : TM} (hf : isFloatP P o.op = true) : Flo H (isAlloc o.op) (opA P G o tm H) := by
  obtain ⟨dst, op, type, pos, after, guard⟩ := o
  cases op <;> first | (simp only [isFloatP, isFloat, Bool.false_eq_true] at hf; done) | (simp only [isAlloc, opA])
  case move x => exact Flo.onJunk (fun _ => Flo.val _) (Flo.val _)
  case assign x => exact Flo.onJunk (fun _ => Flo.val _) (Flo.val _)
  case pick c a b =>
    refine Flo.onBool (fun c _ => ?_) trivial
    cases c <;> exact Flo.onJunk (fun _ => Flo.val _) (Flo.val _)
  case alloc t => exact Flo.onOV (fun z => Flo.newVar t z) trivial
  case box t x => exact Flo.newVar _ _
  case build t ps => exact Flo.rOpt _ _
  case buildSlice t n ps => exact Flo.buildSlice _ _ _
  case load t x => exact Flo.onPtr (fun _ _ _ => Flo.load _ _ _) trivial
  case nilCheck x =>
    refine Flo.onPtr (fun _ _ _ => Flo.val _) ?_
    unfold nilSlow
    repeat' (first | exact trivial | exact Flo.val _ | refine Flo.cond ?_ ?_ | split)
  case binOp op t x y g => exact Flo.binA _ _ _ _ _ _
  case unOp op t x => exact Flo.unA _ _
  case convert s d x =>
    have hs : rowConv P s d = false := by simpa [isFloatP] using hf
    refine Flo.onInt (fun k n _ => Flo.onK (fun k => Flo.rInt _ _) (Flo.convA s d _ hs)) (Flo.convA s d _ hs)
  case makeInterface t x =>
    unfold ifaceX
    repeat' (first | exact trivial | exact Flo.val _ | refine Flo.cond ?_ ?_ | split)
  case makeFunc fn a b =>
    unfold makeFuncX
    repeat' (first | exact trivial | exact Flo.val _ | refine Flo.cond ?_ ?_ | split)
  case makeMap t r => exact Flo.makeMap _ _
  case makeSlice t l c => exact Flo.makeSlice _ _ _
  case slice t x lo hi mx => exact Flo.slice _ _ _ _ _
  case fieldAddr s x f => exact Flo.onPtr (fun _ _ _ => Flo.onON (fun _ => Flo.rPtr _ _) trivial) trivial
  case field t x f => exact Flo.rOpt _ _
  case indexAddr t x i =>
    unfold indexAddrA
    exact Flo.onInt (fun _ _ _ => Flo.onNat (fun _ => Flo.onSlice (fun _ _ _ _ _ _ => Flo.onON (fun _ => Flo.onB (Flo.rPtr _ _) trivial) trivial)
      (Flo.onPtr (fun _ _ _ => Flo.onON (fun _ => Flo.onON (fun _ => Flo.onB (Flo.rPtr _ _) trivial) trivial) trivial) trivial)) trivial) trivial
  case index t x i =>
    unfold indexA
    repeat' (first | exact trivial | exact Flo.rOpt _ _ | exact Flo.rInt _ _ | refine Flo.cond ?_ ?_ | split)
  case lookup t x k ok => exact Flo.lookup _ _ _ _
  case typeAssert x xt t ok => exact Flo.typeAssert _ _ _
  case extract x i => exact Flo.rOpt _ _
  case call c =>
    obtain ⟨callee, args, types⟩ := c
    cases callee with
    | value f => simp [isFloatP, isFloat] at hf
    | invoke r n => simp [isFloatP, isFloat] at hf
    | builtin b =>
      simp only [callX]
      unfold builtinA
      cases b <;> simp only [isFloatP, isFloat, Bool.false_eq_true, reduceCtorEq] at hf ⊢ <;>
        repeat' (first | contradiction | exact trivial | exact Flo.rOpt _ _ | exact Flo.rInt _ _ | exact Flo.val _ | refine Flo.cond ?_ ?_ | split | unfold lenA)
  all_goals trivial
/-! ### what does not hang on the heap -/
/-- Where it yields a value, it yields it on every heap, and leaves the heap as it was. -/
def Pur (f : AH → X) : Prop := ∀ H v H1, f H = .val v H1 → H1 = H ∧ ∀ H2, f H2 = .val v H2
theorem Pur.val (v : AV) : Pur (fun H => .val v H) := fun H u H1 h => by cases h; exact ⟨rfl, fun _ => rfl⟩
theorem Pur.fail (n : Nat) : Pur (fun _ => .fail n) := fun H u H1 h => by cases h
theorem Pur.rInt (k : IntKind) (n : Int) : Pur (rInt k n) := by
  have : Ab.rInt k n = fun H => .val (.int k n) H := by funext H; unfold Ab.rInt; rw [fInt_eq]
  rw [this]; exact Pur.val _
theorem Pur.rStr (k n : Nat) : Pur (rStr k n) := by
  have : Ab.rStr k n = fun H => .val (.str k n) H := by funext H; unfold Ab.rStr; rw [fNat_eq, fNat_eq]
  rw [this]; exact Pur.val _
theorem Pur.rBool (b : Bool) : Pur (rBool b) := by cases b <;> exact Pur.val _
theorem Pur.rPtr (b o : Nat) : Pur (rPtr b o) := by
  have : Ab.rPtr b o = fun H => .val (.ptr b o) H := by funext H; unfold Ab.rPtr; rw [fNat_eq, fNat_eq]
  rw [this]; exact Pur.val _
theorem Pur.rSlice (b o l c : Nat) (g : Bool) : Pur (rSlice b o l c g) := by
  have : Ab.rSlice b o l c g = fun H => .val (.slice b o l c g) H := by funext H; rw [rSlice_eq]
  rw [this]; exact Pur.val _
theorem Pur.rOpt (o : Option AV) (n : Nat) : Pur (rOpt o n) := by cases o <;> first | exact Pur.val _ | exact Pur.fail _
theorem Pur.onInt {v : AV} {f : IntKind → Int → AH → X} {e : AH → X} (h1 : ∀ k n, v = .int k n → Pur (f k n)) (h2 : Pur e) : Pur (fun H => onInt v (fun k n => f k n H) (e H)) := by
  cases v <;> first | exact h2 | exact h1 _ _ rfl
theorem Pur.onBool {v : AV} {f : Bool → AH → X} {e : AH → X} (h1 : ∀ b, Pur (f b)) (h2 : Pur e) : Pur (fun H => onBool v (fun b => f b H) (e H)) := by
  cases v <;> first | exact h2 | exact h1 _
theorem Pur.onPtr {v : AV} {f : Nat → Nat → AH → X} {e : AH → X} (h1 : ∀ b o, Pur (f b o)) (h2 : Pur e) : Pur (fun H => onPtr v (fun b o => f b o H) (e H)) := by
  cases v <;> first | exact h2 | exact h1 _ _
theorem Pur.onSlice {v : AV} {f : Nat → Nat → Nat → Nat → Bool → AH → X} {e : AH → X} (h1 : ∀ b o l c g, Pur (f b o l c g)) (h2 : Pur e) : Pur (fun H => onSlice v (fun b o l c g => f b o l c g H) (e H)) := by
  cases v <;> first | exact h2 | exact h1 _ _ _ _ _
theorem Pur.onJunk {v : AV} {f e : AH → X} (h1 : Pur f) (h2 : Pur e) : Pur (fun H => onJunk v (f H) (e H)) := by
  cases v <;> first | exact h2 | exact h1
theorem Pur.onON {o : Option Nat} {f : Nat → AH → X} {e : AH → X} (h1 : ∀ n, Pur (f n)) (h2 : Pur e) : Pur (fun H => onON o (fun n => f n H) (e H)) := by
  cases o <;> first | exact h2 | exact h1 _
theorem Pur.onB {b : Bool} {f e : AH → X} (h1 : Pur f) (h2 : Pur e) : Pur (fun H => onB b (fun _ => f H) (fun _ => e H)) := by
  cases b <;> first | exact h2 | exact h1
theorem Pur.onNat {n : Int} {f : Nat → AH → X} {e : AH → X} (h1 : ∀ m, Pur (f m)) (h2 : Pur e) : Pur (fun H => onNat n (fun m => f m H) (e H)) := by
  cases n with
  | ofNat m => exact h1 m
  | negSucc m => exact h2
theorem Pur.cond {b : Bool} {f e : AH → X} (h1 : Pur f) (h2 : Pur e) : Pur (fun H => bif b then f H else e H) := by
  cases b <;> first | exact h2 | exact h1
theorem Pur.intOp (op : BinOp) (k : IntKind) (x y : Int) : Pur (intOp op k x y) := by
  show Pur (fun H => Ab.intOp op k x y H)
  cases op <;> simp only [Ab.intOp, rWrap, on2] <;>
    first
      | exact Pur.rInt _ _
      | exact Pur.rBool _
      | exact Pur.onNat (fun _ => Pur.onNat (fun _ => Pur.onB (Pur.rInt _ _) (Pur.fail _)) (Pur.fail _)) (Pur.fail _)
      | exact Pur.onNat (fun _ => Pur.onB (Pur.rInt _ _) (Pur.fail _)) (Pur.fail _)
theorem Pur.strOp (op : BinOp) (la A lb B : Nat) : Pur (strOp op la A lb B) := by
  show Pur (fun H => Ab.strOp op la A lb B H)
  cases op <;> simp only [Ab.strOp] <;> first | exact Pur.rBool _ | exact Pur.fail _ | exact Pur.cond (Pur.rStr _ _) (Pur.fail _)
theorem Pur.binA (op : BinOp) (h1 : op ≠ .eql) (h2 : op ≠ .neq) (t : TypeId) (x y : Operand) (u v : AV) : Pur (binA P op t x y u v) := by
  unfold Ab.binA
  refine Pur.onInt (fun k m _ => Pur.onInt (fun k' n _ => Pur.onB (Pur.intOp _ _ _ _) (Pur.fail _)) (Pur.fail _)) ?_
  show Pur (fun H => binSlow P op t x y u v H)
  unfold binSlow
  split
  · exact Pur.fail _
  · exact Pur.strOp _ _ _ _ _
  · refine Pur.cond ?_ (Pur.fail _)
    split <;> first | exact absurd rfl h1 | exact absurd rfl h2 | exact Pur.fail _
  · refine Pur.cond (Pur.fail _) ?_
    split <;> first | exact absurd rfl h1 | exact absurd rfl h2 | exact Pur.fail _
  · split <;> first | exact absurd rfl h1 | exact absurd rfl h2 | exact Pur.fail _
theorem Pur.slice (t : TypeId) (x : AV) (lo hi mx : Option AV) : Pur (sliceA P t x lo hi mx) := by
  unfold sliceA
  split
  · split
    · refine Pur.cond ?_ (Pur.fail _)
      split
      · exact Pur.rSlice _ _ _ _ _
      · exact Pur.fail _
    · exact Pur.fail _
  · split
    · split
      · exact Pur.rSlice _ _ _ _ _
      · exact Pur.fail _
    · split
      · split
        · exact Pur.rSlice _ _ _ _ _
        · exact Pur.fail _
      · exact Pur.fail _
    · split
      · exact Pur.rStr _ _
      · exact Pur.fail _
    · split
      · exact Pur.val _
      · exact Pur.fail _
    · split
      · exact Pur.val _
      · exact Pur.fail _
    · split
      · exact Pur.cond (Pur.cond (by simp only [fNat_eq]; exact Pur.val _) (Pur.rSlice _ _ _ _ _)) (Pur.rSlice _ _ _ _ _)
      · exact Pur.fail _
    · exact Pur.fail _
theorem pure_any {o : Oper} {tm : TM} (hf : isFloatP P o.op = true) (hh : heapOp o.op = false) : Pur (opA P G o tm) := by
  obtain ⟨dst, op, type, pos, after, guard⟩ := o
  cases op <;> first | (simp only [isFloatP, isFloat, Bool.false_eq_true] at hf; done) | (simp only [heapOp, Bool.true_eq_false] at hh; done) | (show Pur (fun H => opA P G _ tm H); simp only [opA])
  case move x => exact Pur.onJunk (Pur.val _) (Pur.val _)
  case assign x => exact Pur.onJunk (Pur.val _) (Pur.val _)
  case pick c a b =>
    refine Pur.onBool (f := fun c H => Bool.rec (motive := fun _ => TM → Operand → Operand → AH → X) (fun tm _ b H => moveX (ev tm b) H) (fun tm a _ H => moveX (ev tm a) H) c tm a b H) (fun c => ?_) (Pur.fail _)
    cases c <;> exact Pur.onJunk (Pur.val _) (Pur.val _)
  case build t ps => exact Pur.rOpt _ _
  case nilCheck x =>
    refine Pur.onPtr (fun _ _ => Pur.val _) ?_
    unfold nilSlow
    split
    · exact Pur.val _
    · exact Pur.val _
    · exact Pur.val _
    · exact Pur.cond (Pur.val _) (Pur.fail _)
    · exact Pur.fail _
  case binOp op t x y g => exact Pur.binA op (fun e => by subst e; simp [heapOp] at hh) (fun e => by subst e; simp [heapOp] at hh) _ _ _ _ _
  case unOp op t x =>
    unfold unA
    split
    · exact Pur.rInt _ _
    · exact Pur.cond (Pur.fail _) (Pur.cond (Pur.rInt _ _) (Pur.fail _))
    · exact Pur.rBool _
    · exact Pur.fail _
  case makeInterface t x =>
    unfold ifaceX
    split <;> first | exact Pur.val _ | exact Pur.fail _
  case makeFunc fn a b =>
    unfold makeFuncX
    split <;> first | exact Pur.val _ | exact Pur.fail _
  case slice t x lo hi mx => exact Pur.slice _ _ _ _ _
  case fieldAddr s x f => exact Pur.onPtr (fun _ _ => Pur.onON (fun _ => Pur.rPtr _ _) (Pur.fail _)) (Pur.fail _)
  case field t x f => exact Pur.rOpt _ _
  case indexAddr t x i =>
    unfold indexAddrA
    exact Pur.onInt (fun _ _ _ => Pur.onNat (fun _ => Pur.onSlice (fun _ _ _ _ _ => Pur.onON (fun _ => Pur.onB (Pur.rPtr _ _) (Pur.fail _)) (Pur.fail _))
      (Pur.onPtr (fun _ _ => Pur.onON (fun _ => Pur.onON (fun _ => Pur.onB (Pur.rPtr _ _) (Pur.fail _)) (Pur.fail _)) (Pur.fail _)) (Pur.fail _))) (Pur.fail _)) (Pur.fail _)
  case index t x i =>
    unfold indexA
    split
    · split
      · exact Pur.cond (Pur.rOpt _ _) (Pur.fail _)
      · exact Pur.fail _
    · exact Pur.cond (Pur.rInt _ _) (Pur.fail _)
    · exact Pur.fail _
  case typeAssert x xt t ok =>
    unfold typeAssertA
    split
    · exact Pur.fail _
    · split
      · exact Pur.cond (Pur.val _) (Pur.val _)
      · refine Pur.cond ?_ (Pur.fail _)
        split
        · exact Pur.val _
        · exact Pur.fail _
      · exact Pur.fail _
  case extract x i => exact Pur.rOpt _ _
end
end Go.Proofs.YtmapmbfohilklaaGreat.Ab
