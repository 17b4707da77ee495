/-
  An abstract machine that Lean's kernel can run: data, operations, the run. This text speaks of no program.
-/
import Derived.WalkKit
import Derived.Orders
/-
  An abstract machine that Lean's kernel can run: data. This text speaks of no program.
-/
set_option linter.unusedVariables false
set_option linter.unusedSimpArgs false
namespace Go.Proofs.YtabllhhainepgaaGreatDoor.Ab

/-! ### trees indexed by numbers: the place of n is a path -/
inductive Tr (α : Type) where
  | nil
  | node (v : α) (l r : Tr α)
def pathF : Nat → Nat → List Bool
  | 0, _ => []
  | f + 1, n => bif Nat.beq n 0 then [] else (Nat.beq (Nat.mod n 2) 1) :: pathF f (bif Nat.beq (Nat.mod n 2) 1 then Nat.div n 2 else Nat.sub (Nat.div n 2) 1)
def path (n : Nat) : List Bool := pathF n n

/-! ### bytes in one number -/
noncomputable def byteAt (N i : Nat) : Nat := Nat.mod (Nat.div N (Nat.pow 256 i)) 256
noncomputable def cutB (N i k : Nat) : Nat := Nat.mod (Nat.div N (Nat.pow 256 i)) (Nat.pow 256 k)
/-- k bytes M at place i of N. -/
noncomputable def putB (N i k M : Nat) : Nat :=
  Nat.add (Nat.mod N (Nat.pow 256 i)) (Nat.mul (Nat.pow 256 i) (Nat.add M (Nat.mul (Nat.pow 256 k) (Nat.div N (Nat.pow 256 (Nat.add i k))))))
/-- A row of bytes is kept with four bytes ahead of it that hang on all of it (so that the kernel's table tells rows apart that begin alike). -/
noncomputable def coreB (M : Nat) : Nat := Nat.div M 4294967296
noncomputable def sealB (N : Nat) : Nat := Nat.add (Nat.mul N 4294967296) (Nat.mod N 4294967291)
def pack : List UInt8 → Nat
  | [] => 0
  | b :: l => b.toNat + 256 * pack l
/-- n bytes of a number, as a list. -/
noncomputable def unpack (n : Nat) : Nat → List Nat := Nat.rec (fun _ => []) (fun _ ih N => Nat.mod N 256 :: ih (Nat.div N 256)) n

/-! ### values -/
inductive AV where
  | junk
  | bool (b : Bool)
  | int (k : IntKind) (n : Int)
  | str (len N : Nat)
  | nilp
  | ptr (b off : Nat)
  | nils
  | slice (b off len cap : Nat) (grown : Bool)
  | sliceE (b off : Nat)
  | nilm
  | map (b : Nat)
  | nilf
  | func (f : Nat) (first captured : List AV)
  | yield (l : Nat)
  | meth (name : String) (recv : AV)
  | nili
  | iface (t : Nat) (v : AV)
  | agg (l : List AV)
  | tuple (l : List AV)
  | any

/-- What lies in a block. 'rows': n rows of s cells each; a row that is not set is z. -/
inductive AObj where
  | dead
  | bytes (n N : Nat) (elem : TypeId) (st : Bool)
  | rows (n s : Nat) (c : Tr (List AV)) (z : List AV) (elem : TypeId)
  | map (es : List (AV × AV × Nat)) (clock : Nat)
  | strIter (len N pos : Nat)
  | mapIter (m : Option Nat) (since : Nat) (seen : List Nat) (stepped : Nat)
  | loop (st : LoopState) (pending : Option Code) (fn : Nat) (mask : Nat) (tmps : Tr AV) (ntmps : Nat) (params : Array Tmp) (assign body : Code) (defers : Nat)
  | deferred (there : Bool)

structure AH where
  size : Nat
  tr : Tr AObj
/-- The slots that one region alone names, while it runs. -/
inductive Lo where
  | nil
  | cons (t : Nat) (v : AV) (r : Lo)
/-- A frame's slots. A bit of 'mask': the slot is named in several places. -/
structure TM where
  mask : Nat
  lo : Lo
  tr : Tr AV
structure PItem where
  ix : Nat
  op : Oper
  fl : Bool
  chk : List Oper
inductive AItem where
  | code (c : Code)
  | inBlock (id : Nat)
  | inLoop (c : Code)
  | inScope (c : Code)
  | reg (ops : Array Oper) (rest : List Oper)
  | dreg (ops : Array Oper) (chk : List Oper) (rest : List PItem)
  | dwait (ops : Array Oper) (rest : List PItem)
  | inRF (l : Nat)
  | endRF (l : Nat)
  | beginRound
structure AF where
  fn : Nat
  n : Nat
  tm : TM
  todo : List AItem
  ret : Bool
  defers : List Nat
  round : Option Nat
/-- What an operation, a region or a step comes to. -/
inductive X where
  | val (v : AV) (H : AH)
  | enter (f : Nat) (args : List AV) (H : AH)
  | round (l : Nat) (args : List AV) (H : AH)
  | fail (n : Nat)
  | failAt (n : Nat) (pos : String)
  | fin (tm : TM) (H : AH)
  | enterR (f : Nat) (args : List AV) (rest : List Oper) (tm : TM) (H : AH)
  | roundR (l : Nat) (args : List AV) (rest : List Oper) (tm : TM) (H : AH)
  | enterD (f : Nat) (args : List AV) (rest : List PItem) (tm : TM) (H : AH)
  | roundD (l : Nat) (args : List AV) (rest : List PItem) (tm : TM) (H : AH)
  | next (f : AF) (cs : List AF) (H : AH)
  | done (v : AV) (H : AH)
  | fork (a b : X)

/-! ### reading and writing trees -/
noncomputable def getV (t : Tr AV) : List Bool → AV → AV :=
  Tr.rec (motive := fun _ => List Bool → AV → AV) (fun _ d => d)
    (fun v _ _ gl gr p d => List.rec (motive := fun _ => (List Bool → AV → AV) → (List Bool → AV → AV) → AV → AV → AV) (fun _ _ v _ => v)
      (fun b p' _ gl gr _ d => Bool.rec (motive := fun _ => (List Bool → AV → AV) → (List Bool → AV → AV) → List Bool → AV → AV) (fun _ gr p' d => gr p' d) (fun gl _ p' d => gl p' d) b gl gr p' d) p gl gr v d) t
noncomputable def setV (p : List Bool) : Tr AV → AV → AV → (Tr AV → X) → X :=
  List.rec (motive := fun _ => Tr AV → AV → AV → (Tr AV → X) → X)
    (fun t x _ k => Tr.rec (motive := fun _ => AV → (Tr AV → X) → X) (fun x k => k (.node x .nil .nil)) (fun _ l r _ _ x k => k (.node x l r)) t x k)
    (fun b _ ih t x d k => Tr.rec (motive := fun _ => Bool → (Tr AV → AV → AV → (Tr AV → X) → X) → AV → AV → (Tr AV → X) → X)
      (fun b ih x d k => Bool.rec (motive := fun _ => (Tr AV → AV → AV → (Tr AV → X) → X) → AV → AV → (Tr AV → X) → X) (fun ih x d k => ih .nil x d fun r => k (.node d .nil r)) (fun ih x d k => ih .nil x d fun l => k (.node d l .nil)) b ih x d k)
      (fun v l r _ _ b ih x d k => Bool.rec (motive := fun _ => AV → Tr AV → Tr AV → (Tr AV → AV → AV → (Tr AV → X) → X) → AV → AV → (Tr AV → X) → X) (fun v l r ih x d k => ih r x d fun r' => k (.node v l r')) (fun v l r ih x d k => ih l x d fun l' => k (.node v l' r)) b v l r ih x d k)
      t b ih x d k) p
noncomputable def getO (t : Tr AObj) : List Bool → AObj → AObj :=
  Tr.rec (motive := fun _ => List Bool → AObj → AObj) (fun _ d => d)
    (fun v _ _ gl gr p d => List.rec (motive := fun _ => (List Bool → AObj → AObj) → (List Bool → AObj → AObj) → AObj → AObj → AObj) (fun _ _ v _ => v)
      (fun b p' _ gl gr _ d => Bool.rec (motive := fun _ => (List Bool → AObj → AObj) → (List Bool → AObj → AObj) → List Bool → AObj → AObj) (fun _ gr p' d => gr p' d) (fun gl _ p' d => gl p' d) b gl gr p' d) p gl gr v d) t
noncomputable def setO (p : List Bool) : Tr AObj → AObj → AObj → (Tr AObj → X) → X :=
  List.rec (motive := fun _ => Tr AObj → AObj → AObj → (Tr AObj → X) → X)
    (fun t x _ k => Tr.rec (motive := fun _ => AObj → (Tr AObj → X) → X) (fun x k => k (.node x .nil .nil)) (fun _ l r _ _ x k => k (.node x l r)) t x k)
    (fun b _ ih t x d k => Tr.rec (motive := fun _ => Bool → (Tr AObj → AObj → AObj → (Tr AObj → X) → X) → AObj → AObj → (Tr AObj → X) → X)
      (fun b ih x d k => Bool.rec (motive := fun _ => (Tr AObj → AObj → AObj → (Tr AObj → X) → X) → AObj → AObj → (Tr AObj → X) → X) (fun ih x d k => ih .nil x d fun r => k (.node d .nil r)) (fun ih x d k => ih .nil x d fun l => k (.node d l .nil)) b ih x d k)
      (fun v l r _ _ b ih x d k => Bool.rec (motive := fun _ => AObj → Tr AObj → Tr AObj → (Tr AObj → AObj → AObj → (Tr AObj → X) → X) → AObj → AObj → (Tr AObj → X) → X) (fun v l r ih x d k => ih r x d fun r' => k (.node v l r')) (fun v l r ih x d k => ih l x d fun l' => k (.node v l' r)) b v l r ih x d k)
      t b ih x d k) p
noncomputable def getR (t : Tr (List AV)) : List Bool → (List AV) → (List AV) :=
  Tr.rec (motive := fun _ => List Bool → (List AV) → (List AV)) (fun _ d => d)
    (fun v _ _ gl gr p d => List.rec (motive := fun _ => (List Bool → (List AV) → (List AV)) → (List Bool → (List AV) → (List AV)) → (List AV) → (List AV) → (List AV)) (fun _ _ v _ => v)
      (fun b p' _ gl gr _ d => Bool.rec (motive := fun _ => (List Bool → (List AV) → (List AV)) → (List Bool → (List AV) → (List AV)) → List Bool → (List AV) → (List AV)) (fun _ gr p' d => gr p' d) (fun gl _ p' d => gl p' d) b gl gr p' d) p gl gr v d) t
noncomputable def setR (p : List Bool) : Tr (List AV) → (List AV) → (List AV) → (Tr (List AV) → X) → X :=
  List.rec (motive := fun _ => Tr (List AV) → (List AV) → (List AV) → (Tr (List AV) → X) → X)
    (fun t x _ k => Tr.rec (motive := fun _ => (List AV) → (Tr (List AV) → X) → X) (fun x k => k (.node x .nil .nil)) (fun _ l r _ _ x k => k (.node x l r)) t x k)
    (fun b _ ih t x d k => Tr.rec (motive := fun _ => Bool → (Tr (List AV) → (List AV) → (List AV) → (Tr (List AV) → X) → X) → (List AV) → (List AV) → (Tr (List AV) → X) → X)
      (fun b ih x d k => Bool.rec (motive := fun _ => (Tr (List AV) → (List AV) → (List AV) → (Tr (List AV) → X) → X) → (List AV) → (List AV) → (Tr (List AV) → X) → X) (fun ih x d k => ih .nil x d fun r => k (.node d .nil r)) (fun ih x d k => ih .nil x d fun l => k (.node d l .nil)) b ih x d k)
      (fun v l r _ _ b ih x d k => Bool.rec (motive := fun _ => (List AV) → Tr (List AV) → Tr (List AV) → (Tr (List AV) → (List AV) → (List AV) → (Tr (List AV) → X) → X) → (List AV) → (List AV) → (Tr (List AV) → X) → X) (fun v l r ih x d k => ih r x d fun r' => k (.node v l r')) (fun v l r ih x d k => ih l x d fun l' => k (.node v l' r)) b v l r ih x d k)
      t b ih x d k) p

noncomputable def getL (l : Lo) : Nat → AV :=
  Lo.rec (motive := fun _ => Nat → AV) (fun _ => .junk) (fun t v _ ih n => Bool.rec (motive := fun _ => (Nat → AV) → Nat → AV → AV) (fun ih n _ => ih n) (fun _ _ v => v) (Nat.beq t n) ih n v) l
noncomputable def isLocal (mask t : Nat) : Bool := Nat.beq (Nat.land (Nat.shiftRight mask t) 1) 0
noncomputable def getT (m : TM) (t : Nat) : AV :=
  TM.rec (motive := fun _ => Nat → AV) (fun mask lo tr t => Bool.rec (motive := fun _ => Lo → Tr AV → Nat → AV) (fun _ tr t => getV tr (path t) .junk) (fun lo _ t => getL lo t) (isLocal mask t) lo tr t) m t
noncomputable def putT (m : TM) (d : Nat) (v : AV) (k : TM → X) : X :=
  TM.rec (motive := fun _ => Nat → AV → (TM → X) → X) (fun mask lo tr d v k =>
    Bool.rec (motive := fun _ => Nat → Lo → Tr AV → Nat → AV → (TM → X) → X) (fun mask lo tr d v k => setV (path d) tr v .junk fun tr' => k (.mk mask lo tr')) (fun mask lo tr d v k => k (.mk mask (.cons d v lo) tr)) (isLocal mask d) mask lo tr d v k) m d v k
noncomputable def clearT (m : TM) (k : TM → X) : X := TM.rec (motive := fun _ => (TM → X) → X) (fun mask _ tr k => k (.mk mask .nil tr)) m k
noncomputable def fNat (n : Nat) : (Nat → X) → X := Nat.rec (motive := fun _ => (Nat → X) → X) (fun k => k 0) (fun m _ k => k (Nat.succ m)) n
noncomputable def fInt (n : Int) : (Int → X) → X :=
  Int.rec (motive := fun _ => (Int → X) → X) (fun m k => fNat m fun m => k (Int.ofNat m)) (fun m k => fNat m fun m => k (Int.negSucc m)) n
noncomputable def AH.get (H : AH) (b : Nat) : AObj := getO H.tr (path b) .dead
noncomputable def AH.setK (H : AH) (b : Nat) (o : AObj) (k : AH → X) : X :=
  AH.rec (motive := fun _ => Nat → AObj → (AH → X) → X) (fun n t b o k => setO (path b) t o .dead fun t' => k (.mk n t')) H b o k
noncomputable def AH.pushK (H : AH) (o : AObj) (k : AH → X) : X :=
  AH.rec (motive := fun _ => AObj → (AH → X) → X) (fun n t o k => fNat (Nat.succ n) fun n' => setO (path n) t o .dead fun t' => k (.mk n' t')) H o k
noncomputable def rInt (k : IntKind) (n : Int) (H : AH) : X := fInt n fun m => .val (.int k m) H
noncomputable def rBool (b : Bool) (H : AH) : X := Bool.rec (motive := fun _ => AH → X) (fun H => .val (.bool false) H) (fun H => .val (.bool true) H) b H
noncomputable def rStr (len N : Nat) (H : AH) : X := fNat len fun len => fNat N fun N => .val (.str len N) H
noncomputable def rPtr (b off : Nat) (H : AH) : X := fNat b fun b => fNat off fun off => .val (.ptr b off) H
noncomputable def rSlice (b off len cap : Nat) (g : Bool) (H : AH) : X :=
  fNat b fun b => fNat off fun off => fNat len fun len => fNat cap fun cap => .val (.slice b off len cap g) H
def rOpt (o : Option AV) (n : Nat) (H : AH) : X := match o with | some v => .val v H | none => .fail n
noncomputable def rOptB (o : Option Bool) (n : Nat) (H : AH) : X := match o with | some v => rBool v H | none => .fail n

/-! ### a value of one kind, or else -/
noncomputable def onBool (v : AV) : (Bool → X) → X → X :=
  AV.rec (motive_1 := fun _ => (Bool → X) → X → X) (motive_2 := fun _ => Unit) (fun _ e => e) (fun a0 k _ => k a0) (fun _ _ _ e => e) (fun _ _ _ e => e) (fun _ e => e) (fun _ _ _ e => e) (fun _ e => e) (fun _ _ _ _ _ _ e => e) (fun _ _ _ e => e) (fun _ e => e) (fun _ _ e => e) (fun _ e => e) (fun _ _ _ _ _ _ e => e) (fun _ _ e => e) (fun _ _ _ _ e => e) (fun _ e => e) (fun _ _ _ _ e => e) (fun _ _ _ e => e) (fun _ _ _ e => e) (fun _ e => e) () (fun _ _ _ _ => ()) v
noncomputable def onInt (v : AV) : (IntKind → Int → X) → X → X :=
  AV.rec (motive_1 := fun _ => (IntKind → Int → X) → X → X) (motive_2 := fun _ => Unit) (fun _ e => e) (fun _ _ e => e) (fun a0 a1 k _ => k a0 a1) (fun _ _ _ e => e) (fun _ e => e) (fun _ _ _ e => e) (fun _ e => e) (fun _ _ _ _ _ _ e => e) (fun _ _ _ e => e) (fun _ e => e) (fun _ _ e => e) (fun _ e => e) (fun _ _ _ _ _ _ e => e) (fun _ _ e => e) (fun _ _ _ _ e => e) (fun _ e => e) (fun _ _ _ _ e => e) (fun _ _ _ e => e) (fun _ _ _ e => e) (fun _ e => e) () (fun _ _ _ _ => ()) v
noncomputable def onStr (v : AV) : (Nat → Nat → X) → X → X :=
  AV.rec (motive_1 := fun _ => (Nat → Nat → X) → X → X) (motive_2 := fun _ => Unit) (fun _ e => e) (fun _ _ e => e) (fun _ _ _ e => e) (fun a0 a1 k _ => k a0 a1) (fun _ e => e) (fun _ _ _ e => e) (fun _ e => e) (fun _ _ _ _ _ _ e => e) (fun _ _ _ e => e) (fun _ e => e) (fun _ _ e => e) (fun _ e => e) (fun _ _ _ _ _ _ e => e) (fun _ _ e => e) (fun _ _ _ _ e => e) (fun _ e => e) (fun _ _ _ _ e => e) (fun _ _ _ e => e) (fun _ _ _ e => e) (fun _ e => e) () (fun _ _ _ _ => ()) v
noncomputable def onPtr (v : AV) : (Nat → Nat → X) → X → X :=
  AV.rec (motive_1 := fun _ => (Nat → Nat → X) → X → X) (motive_2 := fun _ => Unit) (fun _ e => e) (fun _ _ e => e) (fun _ _ _ e => e) (fun _ _ _ e => e) (fun _ e => e) (fun a0 a1 k _ => k a0 a1) (fun _ e => e) (fun _ _ _ _ _ _ e => e) (fun _ _ _ e => e) (fun _ e => e) (fun _ _ e => e) (fun _ e => e) (fun _ _ _ _ _ _ e => e) (fun _ _ e => e) (fun _ _ _ _ e => e) (fun _ e => e) (fun _ _ _ _ e => e) (fun _ _ _ e => e) (fun _ _ _ e => e) (fun _ e => e) () (fun _ _ _ _ => ()) v
noncomputable def onSlice (v : AV) : (Nat → Nat → Nat → Nat → Bool → X) → X → X :=
  AV.rec (motive_1 := fun _ => (Nat → Nat → Nat → Nat → Bool → X) → X → X) (motive_2 := fun _ => Unit) (fun _ e => e) (fun _ _ e => e) (fun _ _ _ e => e) (fun _ _ _ e => e) (fun _ e => e) (fun _ _ _ e => e) (fun _ e => e) (fun a0 a1 a2 a3 a4 k _ => k a0 a1 a2 a3 a4) (fun _ _ _ e => e) (fun _ e => e) (fun _ _ e => e) (fun _ e => e) (fun _ _ _ _ _ _ e => e) (fun _ _ e => e) (fun _ _ _ _ e => e) (fun _ e => e) (fun _ _ _ _ e => e) (fun _ _ _ e => e) (fun _ _ _ e => e) (fun _ e => e) () (fun _ _ _ _ => ()) v
noncomputable def onAgg (v : AV) : (List AV → X) → X → X :=
  AV.rec (motive_1 := fun _ => (List AV → X) → X → X) (motive_2 := fun _ => Unit) (fun _ e => e) (fun _ _ e => e) (fun _ _ _ e => e) (fun _ _ _ e => e) (fun _ e => e) (fun _ _ _ e => e) (fun _ e => e) (fun _ _ _ _ _ _ e => e) (fun _ _ _ e => e) (fun _ e => e) (fun _ _ e => e) (fun _ e => e) (fun _ _ _ _ _ _ e => e) (fun _ _ e => e) (fun _ _ _ _ e => e) (fun _ e => e) (fun _ _ _ _ e => e) (fun a0 _ k _ => k a0) (fun _ _ _ e => e) (fun _ e => e) () (fun _ _ _ _ => ()) v
noncomputable def onJunk (v : AV) : (X) → X → X :=
  AV.rec (motive_1 := fun _ => (X) → X → X) (motive_2 := fun _ => Unit) (fun k _ => k ) (fun _ _ e => e) (fun _ _ _ e => e) (fun _ _ _ e => e) (fun _ e => e) (fun _ _ _ e => e) (fun _ e => e) (fun _ _ _ _ _ _ e => e) (fun _ _ _ e => e) (fun _ e => e) (fun _ _ e => e) (fun _ e => e) (fun _ _ _ _ _ _ e => e) (fun _ _ e => e) (fun _ _ _ _ e => e) (fun _ e => e) (fun _ _ _ _ e => e) (fun _ _ _ e => e) (fun _ _ _ e => e) (fun _ e => e) () (fun _ _ _ _ => ()) v
noncomputable def onON (o : Option Nat) : (Nat → X) → X → X := Option.rec (motive := fun _ => (Nat → X) → X → X) (fun _ e => e) (fun n k _ => k n) o
noncomputable def onOV (o : Option AV) : (AV → X) → X → X := Option.rec (motive := fun _ => (AV → X) → X → X) (fun _ e => e) (fun n k _ => k n) o
noncomputable def onOL (o : Option (List AV)) : (List AV → X) → X → X := Option.rec (motive := fun _ => (List AV → X) → X → X) (fun _ e => e) (fun n k _ => k n) o
noncomputable def onB (b : Bool) : (Unit → X) → (Unit → X) → X := Bool.rec (motive := fun _ => (Unit → X) → (Unit → X) → X) (fun _ e => e ()) (fun k _ => k ()) b
noncomputable def onNat (n : Int) : (Nat → X) → X → X := Int.rec (motive := fun _ => (Nat → X) → X → X) (fun m k _ => k m) (fun _ _ e => e) n
noncomputable def onOp (x : X) : (AV → AH → X) → (Nat → List AV → AH → X) → (Nat → List AV → AH → X) → (Nat → X) → X :=
  X.rec (motive := fun _ => (AV → AH → X) → (Nat → List AV → AH → X) → (Nat → List AV → AH → X) → (Nat → X) → X) (fun a0 a1 k _ _ _ => k a0 a1) (fun a0 a1 a2 _ k _ _ => k a0 a1 a2) (fun a0 a1 a2 _ _ k _ => k a0 a1 a2) (fun a0 _ _ _ k => k a0) (fun a0 a1 _ _ _ _ => .failAt a0 a1) (fun _ _ _ _ _ _ => .fail 5) (fun _ _ _ _ _ _ _ _ _ => .fail 5) (fun _ _ _ _ _ _ _ _ _ => .fail 5) (fun _ _ _ _ _ _ _ _ _ => .fail 5) (fun _ _ _ _ _ _ _ _ _ => .fail 5) (fun _ _ _ _ _ _ _ => .fail 5) (fun _ _ _ _ _ _ => .fail 5) (fun _ _ _ _ _ _ _ _ => .fail 5) x
noncomputable def onReg (x : X) : (TM → AH → X) → (Nat → List AV → List Oper → TM → AH → X) → (Nat → List AV → List Oper → TM → AH → X) → X :=
  X.rec (motive := fun _ => (TM → AH → X) → (Nat → List AV → List Oper → TM → AH → X) → (Nat → List AV → List Oper → TM → AH → X) → X) (fun a0 a1 _ _ _ => .val a0 a1) (fun a0 a1 a2 _ _ _ => .enter a0 a1 a2) (fun a0 a1 a2 _ _ _ => .round a0 a1 a2) (fun a0 _ _ _ => .fail a0) (fun a0 a1 _ _ _ => .failAt a0 a1) (fun a0 a1 k _ _ => k a0 a1) (fun a0 a1 a2 a3 a4 _ k _ => k a0 a1 a2 a3 a4) (fun a0 a1 a2 a3 a4 _ _ k => k a0 a1 a2 a3 a4) (fun a0 a1 a2 a3 a4 _ _ _ => .enterD a0 a1 a2 a3 a4) (fun a0 a1 a2 a3 a4 _ _ _ => .roundD a0 a1 a2 a3 a4) (fun a0 a1 a2 _ _ _ => .next a0 a1 a2) (fun a0 a1 _ _ _ => .done a0 a1) (fun _ _ iha ihb k1 k2 k3 => .fork (iha k1 k2 k3) (ihb k1 k2 k3)) x
noncomputable def onDreg (x : X) : (TM → AH → X) → (Nat → List AV → List PItem → TM → AH → X) → (Nat → List AV → List PItem → TM → AH → X) → X :=
  X.rec (motive := fun _ => (TM → AH → X) → (Nat → List AV → List PItem → TM → AH → X) → (Nat → List AV → List PItem → TM → AH → X) → X) (fun a0 a1 _ _ _ => .val a0 a1) (fun a0 a1 a2 _ _ _ => .enter a0 a1 a2) (fun a0 a1 a2 _ _ _ => .round a0 a1 a2) (fun a0 _ _ _ => .fail a0) (fun a0 a1 _ _ _ => .failAt a0 a1) (fun a0 a1 k _ _ => k a0 a1) (fun a0 a1 a2 a3 a4 _ _ _ => .enterR a0 a1 a2 a3 a4) (fun a0 a1 a2 a3 a4 _ _ _ => .roundR a0 a1 a2 a3 a4) (fun a0 a1 a2 a3 a4 _ k _ => k a0 a1 a2 a3 a4) (fun a0 a1 a2 a3 a4 _ _ k => k a0 a1 a2 a3 a4) (fun a0 a1 a2 _ _ _ => .next a0 a1 a2) (fun a0 a1 _ _ _ => .done a0 a1) (fun _ _ _ _ _ _ _ => .fail 5) x
noncomputable def onNext (x : X) : (AF → List AF → AH → X) → X :=
  X.rec (motive := fun _ => (AF → List AF → AH → X) → X) (fun a0 a1 _ => .val a0 a1) (fun a0 a1 a2 _ => .enter a0 a1 a2) (fun a0 a1 a2 _ => .round a0 a1 a2) (fun a0 _ => .fail a0) (fun a0 a1 _ => .failAt a0 a1) (fun a0 a1 _ => .fin a0 a1) (fun a0 a1 a2 a3 a4 _ => .enterR a0 a1 a2 a3 a4) (fun a0 a1 a2 a3 a4 _ => .roundR a0 a1 a2 a3 a4) (fun a0 a1 a2 a3 a4 _ => .enterD a0 a1 a2 a3 a4) (fun a0 a1 a2 a3 a4 _ => .roundD a0 a1 a2 a3 a4) (fun a0 a1 a2 k => k a0 a1 a2) (fun a0 a1 _ => .done a0 a1) (fun _ _ iha ihb k => .fork (iha k) (ihb k)) x

/-! ### constants, types -/
def ofConst0 : Value → AV
  | .bool b => .bool b
  | .int k n => .int k n
  | .string s => .str s.data.size (pack s.data.toList)
  | .pointer none => .nilp
  | .slice none 0 0 => .nils
  | .map none => .nilm
  | .nilFunc => .nilf
  | .nilIface => .nili
  | _ => .junk
def ofConst : Value → AV
  | .agg cs => .agg (cs.toList.map ofConst0)
  | .tuple vs => if vs.size = 0 then .tuple [] else .junk
  | v => ofConst0 v
def isAggA (P : Program) (t : TypeId) : Option Bool :=
  match P.underlying t with
  | some (.struct _) | some (.array _ _) => some true
  | some _ => some false
  | none => none
def sizeA (P : Program) (t : TypeId) : Option Nat := (P.info? t).map (·.size)
def zeroA (P : Program) (t : TypeId) : Option AV := (P.info? t).bind fun i => i.zero.map ofConst
def cellsOfA : AV → Option (List AV)
  | .agg l => some l
  | .junk => none
  | v => some [v]
/-- May the value lie in one cell? -/
def cellB : AV → Bool
  | .agg _ | .tuple _ | .junk => false
  | _ => true
/-- The cells of a type's zero value, where they are as many as the type has. -/
def zeroCellsA (P : Program) (t : TypeId) : Option (List AV) :=
  match (zeroA P t).bind cellsOfA, sizeA P t with
  | some l, some s => if l.length = s ∧ l.all cellB = true then some l else none
  | _, _ => none
def zByte : List AV → Bool
  | [.int .u8 (.ofNat 0)] => true
  | _ => false
/-- Is a row of this type a row of bytes? -/
def isByteA (P : Program) (t : TypeId) : Bool :=
  (match P.underlying t with | some (.int .u8) => true | _ => false) && (match zeroCellsA P t with | some z => zByte z | none => false)

/-! ### whole numbers -/
def ltI : Int → Int → Bool
  | .ofNat a, .ofNat b => Nat.blt a b
  | .ofNat _, .negSucc _ => false
  | .negSucc _, .ofNat _ => true
  | .negSucc a, .negSucc b => Nat.blt b a
def eqI : Int → Int → Bool
  | .ofNat a, .ofNat b => Nat.beq a b
  | .negSucc a, .negSucc b => Nat.beq a b
  | _, _ => false
def bitsN : IntKind → Nat
  | .i8 | .u8 => 8
  | .i16 | .u16 => 16
  | .i32 | .u32 => 32
  | .i64 | .u64 => 64
def wrapA (k : IntKind) (n : Int) : Int :=
  match n with
  | .ofNat m =>
    match k with
    | .u8 => .ofNat (Nat.mod m 256)
    | .u16 => .ofNat (Nat.mod m 65536)
    | .u32 => .ofNat (Nat.mod m 4294967296)
    | .u64 => .ofNat (Nat.mod m 18446744073709551616)
    | .i64 => bif Nat.blt m 9223372036854775808 then .ofNat m else IntKind.wrap .i64 (.ofNat m)
    | .i32 => bif Nat.blt m 2147483648 then .ofNat m else IntKind.wrap .i32 (.ofNat m)
    | k => IntKind.wrap k (.ofNat m)
  | .negSucc m =>
    match k with
    | .i64 => bif Nat.blt m 9223372036854775808 then .negSucc m else IntKind.wrap .i64 (.negSucc m)
    | k => IntKind.wrap k (.negSucc m)
/-! ### whole numbers: operations -/
noncomputable def addA (x y : Int) : Int := Int.rec (motive := fun _ => Int → Int) (fun a y => Int.rec (motive := fun _ => Nat → Int) (fun b a => .ofNat (Nat.add a b)) (fun b a => Int.add (.ofNat a) (.negSucc b)) y a) (fun a y => Int.add (.negSucc a) y) x y
noncomputable def subA (x y : Int) : Int := Int.rec (motive := fun _ => Int → Int) (fun a y => Int.rec (motive := fun _ => Nat → Int) (fun b a => cond (Nat.ble b a) (.ofNat (Nat.sub a b)) (Int.sub (.ofNat a) (.ofNat b))) (fun b a => Int.sub (.ofNat a) (.negSucc b)) y a) (fun a y => Int.sub (.negSucc a) y) x y
noncomputable def ltA (x y : Int) : Bool := Int.rec (motive := fun _ => Int → Bool) (fun a y => Int.rec (motive := fun _ => Nat → Bool) (fun b a => Nat.blt a b) (fun _ _ => false) y a) (fun a y => Int.rec (motive := fun _ => Nat → Bool) (fun _ _ => true) (fun b a => Nat.blt b a) y a) x y
noncomputable def eqI2 (x y : Int) : Bool := Int.rec (motive := fun _ => Int → Bool) (fun a y => Int.rec (motive := fun _ => Nat → Bool) (fun b a => Nat.beq a b) (fun _ _ => false) y a) (fun a y => Int.rec (motive := fun _ => Nat → Bool) (fun _ _ => false) (fun b a => Nat.beq b a) y a) x y
/-- m, where it is no negative number, into kind k. -/
noncomputable def wrapN (k : IntKind) (m : Nat) : Int :=
  IntKind.rec (motive := fun _ => Nat → Int) (fun m => IntKind.wrap .i8 (.ofNat m)) (fun m => IntKind.wrap .i16 (.ofNat m))
    (fun m => cond (Nat.blt m 2147483648) (.ofNat m) (IntKind.wrap .i32 (.ofNat m)))
    (fun m => cond (Nat.blt m 9223372036854775808) (.ofNat m) (IntKind.wrap .i64 (.ofNat m)))
    (fun m => .ofNat (Nat.mod m 256)) (fun m => .ofNat (Nat.mod m 65536)) (fun m => .ofNat (Nat.mod m 4294967296)) (fun m => .ofNat (Nat.mod m 18446744073709551616)) k m
noncomputable def wrapZ (k : IntKind) (n : Int) : Int := Int.rec (motive := fun _ => IntKind → Int) (fun m k => wrapN k m) (fun m k => wrapA k (.negSucc m)) n k
noncomputable def rWrap (k : IntKind) (n : Int) (H : AH) : X := rInt k (wrapZ k n) H
/-- A number's bits, as a number. -/
noncomputable def resI (k : IntKind) (x : Int) : Nat := Int.rec (fun m => m) (fun m => Nat.sub (Nat.sub (Nat.pow 2 (bitsN k)) 1) (Nat.mod m (Nat.pow 2 (bitsN k)))) x
/-- Two operands' bits. -/
noncomputable def on2 (k : IntKind) (x y : Int) (f : Nat → Nat → X) : X :=
  fNat (resI k x) fun a => fNat (resI k y) fun b => onB (and (Nat.blt a (Nat.pow 2 (bitsN k))) (Nat.blt b (Nat.pow 2 (bitsN k)))) (fun _ => f a b) (fun _ => .fail 102)
noncomputable def intOp (op : BinOp) : IntKind → Int → Int → AH → X :=
  BinOp.rec (motive := fun _ => IntKind → Int → Int → AH → X)
    (fun k x y H => rWrap k (addA x y) H) (fun k x y H => rWrap k (subA x y) H) (fun k x y H => rWrap k (Int.mul x y) H)
    (fun k x y H => onNat x (fun a => onNat y (fun b => onB (Nat.blt 0 b) (fun _ => rInt k (wrapN k (Nat.div a b)) H) (fun _ => .fail 104)) (.fail 104)) (.fail 104))
    (fun k x y H => onNat x (fun a => onNat y (fun b => onB (Nat.blt 0 b) (fun _ => rInt k (.ofNat (Nat.mod a b)) H) (fun _ => .fail 105)) (.fail 105)) (.fail 105))
    (fun k x y H => on2 k x y fun a b => rInt k (wrapN k (Nat.land a b)) H) (fun k x y H => on2 k x y fun a b => rInt k (wrapN k (Nat.lor a b)) H) (fun k x y H => on2 k x y fun a b => rInt k (wrapN k (Nat.xor a b)) H)
    (fun k x y H => onNat y (fun b => onB (Nat.ble b (bitsN k)) (fun _ => rWrap k (Int.mul x (.ofNat (Nat.pow 2 b))) H) (fun _ => .fail 107)) (.fail 108))
    (fun k x y H => onNat y (fun b => onNat x (fun a => onB (Nat.ble b (bitsN k)) (fun _ => rInt k (.ofNat (Nat.div a (Nat.pow 2 b))) H) (fun _ => .fail 107)) (.fail 107)) (.fail 108))
    (fun k x y H => on2 k x y fun a b => rInt k (wrapN k (Nat.xor a (Nat.land a b))) H)
    (fun _ x y H => rBool (eqI2 x y) H) (fun _ x y H => rBool (not (eqI2 x y)) H) (fun _ x y H => rBool (ltA x y) H) (fun _ x y H => rBool (not (ltA y x)) H) (fun _ x y H => rBool (ltA y x) H) (fun _ x y H => rBool (not (ltA x y)) H) op
/-- Are two kinds one? (a shift's right operand may be of any kind) -/
def kindCode : IntKind → Nat
  | .i8 => 0 | .i16 => 1 | .i32 => 2 | .i64 => 3 | .u8 => 4 | .u16 => 5 | .u32 => 6 | .u64 => 7
def isShift : BinOp → Bool
  | .shl | .shr => true
  | _ => false

/-! ### strings -/
noncomputable def strLtF (f : Nat) : Nat → Nat → Nat → Nat → Bool :=
  Nat.rec (motive := fun _ => Nat → Nat → Nat → Nat → Bool) (fun _ _ _ _ => false)
    (fun _ ih la A lb B =>
      bif Nat.beq lb 0 then false else bif Nat.beq la 0 then true else
      bif Nat.blt (Nat.mod A 256) (Nat.mod B 256) then true else
      bif Nat.blt (Nat.mod B 256) (Nat.mod A 256) then false else
      ih (Nat.sub la 1) (Nat.div A 256) (Nat.sub lb 1) (Nat.div B 256)) f
noncomputable def strLt (la A lb B : Nat) : Bool := strLtF (Nat.succ lb) la A lb B
noncomputable def strOp (op : BinOp) (la A lb B : Nat) (H : AH) : X :=
  match op with
  | .add => bif Nat.blt (Nat.add la lb) 1099511627776 then rStr (Nat.add la lb) (Nat.add A (Nat.mul (Nat.pow 256 la) B)) H else .fail 110
  | .eql => rBool (Nat.beq la lb && Nat.beq A B) H
  | .neq => rBool (!(Nat.beq la lb && Nat.beq A B)) H
  | .lss => rBool (strLt la A lb B) H
  | .leq => rBool (strLt la A lb B || (Nat.beq la lb && Nat.beq A B)) H
  | .gtr => rBool (!(strLt la A lb B || (Nat.beq la lb && Nat.beq A B))) H
  | .geq => rBool (!(strLt la A lb B)) H
  | _ => .fail 111

/-! ### parts, equality -/
def partA (P : Program) (t : TypeId) (cs : List AV) (off : Nat) : Option AV :=
  match isAggA P t with
  | some true => match sizeA P t with | some s => some (.agg ((cs.drop off).take s)) | none => none
  | some false => cs[off]?
  | none => none
def plainB : AObj → Bool
  | .bytes _ _ _ st => !st
  | .rows .. => true
  | _ => false
def eqFields (P : Program) (eq : TypeId → AV → AV → Option Bool) (xs ys : List AV) : List Field → Option Bool
  | [] => some true
  | f :: fs =>
    if f.name = "_" then eqFields P eq xs ys fs else
    match partA P f.type xs f.offset, partA P f.type ys f.offset with
    | some x, some y => match eq f.type x y with
      | some true => eqFields P eq xs ys fs
      | r => r
    | _, _ => none
def eqElems (P : Program) (eq : TypeId → AV → AV → Option Bool) (xs ys : List AV) (elem : TypeId) (n : Nat) : (left i : Nat) → Option Bool
  | 0, _ => some true
  | m + 1, i =>
    match partA P elem xs (i * n), partA P elem ys (i * n) with
    | some x, some y => match eq elem x y with
      | some true => eqElems P eq xs ys elem n m (i + 1)
      | r => r
    | _, _ => none
/-- Equality of two values of type t; none: it can't be told (or would panic). -/
noncomputable def eqA (P : Program) (H : AH) : Nat → TypeId → AV → AV → Option Bool
  | 0, _, _, _ => none
  | d + 1, t, x, y =>
    match P.underlying t with
    | none => none
    | some u =>
      match u, x, y with
      | .bool, .bool a, .bool b => some (a == b)
      | .int _, .int k a, .int k' b => if k = k' then some (eqI a b) else none
      | .string, .str la A, .str lb B => some (Nat.beq la lb && Nat.beq A B)
      | .pointer _, .nilp, .nilp => some true
      | .pointer _, .nilp, .ptr _ _ => some false
      | .pointer _, .ptr _ _, .nilp => some false
      | .pointer elem, .ptr a i, .ptr b j =>
        match sizeA P elem with
        | some (_ + 1) =>
          bif Nat.beq a b then some (Nat.beq i j)
          else bif plainB (H.get a) && plainB (H.get b) then some false else none
        | _ => none
      | .interface _, .nili, .nili => some true
      | .interface _, .nili, .iface _ _ => some false
      | .interface _, .iface _ _, .nili => some false
      | .interface _, .iface tx vx, .iface ty vy =>
        bif Nat.beq tx ty then
          match P.info? tx with
          | some i => if i.comparable then eqA P H d tx vx vy else none
          | none => none
        else some false
      | .struct fs, .agg xs, .agg ys => if P.stoodInHeld t then none else eqFields P (eqA P H d) xs ys fs.toList
      | .array len elem, .agg xs, .agg ys =>
        match sizeA P elem with
        | some n => eqElems P (eqA P H d) xs ys elem n len 0
        | none => none
      | .slice _, .nils, .nils => some true
      | .slice _, .nils, .slice .. => some false
      | .slice _, .nils, .sliceE .. => some false
      | .slice _, .slice .., .nils => some false
      | .slice _, .sliceE .., .nils => some false
      | .map _ _, .nilm, .nilm => some true
      | .map _ _, .nilm, .map _ => some false
      | .map _ _, .map _, .nilm => some false
      | .func _ _ _, .nilf, .nilf => some true
      | .func _ _ _, .nilf, .func _ _ _ => some false
      | .func _ _ _, .func _ _ _, .nilf => some false
      | _, _, _ => none
def isConstB : Operand → Bool
  | .const _ => true
  | _ => false
noncomputable def binSlow (P : Program) (op : BinOp) (t : TypeId) (x y : Operand) (a b : AV) (H : AH) : X :=
  match a, b with
  | .int _ _, .int _ _ => .fail 112
  | .str la A, .str lb B => strOp op la A lb B H
  | .nili, .nili =>
    bif isConstB x || isConstB y then
      match op with
      | .eql => rOptB (eqA P H 30 t a b) 113 H
      | .neq => rOptB ((eqA P H 30 t a b).map (!·)) 113 H
      | _ => .fail 114
    else .fail 115
  | .agg _, .agg _ =>
    bif P.eqGuardType P.depth t then .fail 116 else
    match op with
    | .eql => rOptB (eqA P H 30 t a b) 117 H
    | .neq => rOptB ((eqA P H 30 t a b).map (!·)) 117 H
    | _ => .fail 114
  | _, _ =>
    match op with
    | .eql => rOptB (eqA P H 30 t a b) 118 H
    | .neq => rOptB ((eqA P H 30 t a b).map (!·)) 118 H
    | _ => .fail 119
noncomputable def binA (P : Program) (op : BinOp) (t : TypeId) (x y : Operand) (a b : AV) (H : AH) : X :=
  onInt a (fun k m => onInt b (fun k' n => onB (or (Nat.beq (kindCode k) (kindCode k')) (isShift op)) (fun _ => intOp op k m n H) (fun _ => .fail 112)) (.fail 112)) (binSlow P op t x y a b H)
noncomputable def unA (op : UnOp) (x : AV) (H : AH) : X :=
  match op, x with
  | .neg, .int k n => rInt k (wrapA k (Int.neg n)) H
  | .xor, .int k (.ofNat n) => bif k.signed then .fail 120 else bif Nat.blt n (Nat.pow 2 (bitsN k)) then rInt k (.ofNat (Nat.sub (Nat.sub (Nat.pow 2 (bitsN k)) 1) n)) H else .fail 121
  | .not, .bool b => rBool (!b) H
  | _, _ => .fail 122

/-! ### memory -/
def obN (l : List AV) (i : Nat) : AV := (l[i]?).getD .junk
noncomputable def cellAt (o : AObj) (off : Nat) : AV :=
  match o with
  | .bytes n N _ _ => bif Nat.blt off n then .int .u8 (.ofNat (byteAt (coreB N) off)) else .junk
  | .rows n s c z _ => bif Nat.blt off (Nat.mul n s) then obN (getR c (path (Nat.div off s)) z) (Nat.mod off s) else .junk
  | _ => .junk
/-- k cells of an object, from off on, within one row. -/
noncomputable def cellsAt (o : AObj) (off k : Nat) : Option (List AV) :=
  match o with
  | .bytes n N _ _ => bif Nat.ble (Nat.add off k) n then some ((unpack k (cutB (coreB N) off k)).map fun b => .int .u8 (.ofNat b)) else none
  | .rows n s c z _ =>
    bif Nat.blt off (Nat.mul n s) && Nat.ble (Nat.add (Nat.mod off s) k) s then
      bif Nat.beq k s then some (getR c (path (Nat.div off s)) z) else some (((getR c (path (Nat.div off s)) z).drop (Nat.mod off s)).take k)
    else none
  | _ => none
noncomputable def loadA (P : Program) (t : TypeId) (b off : Nat) (H : AH) : Option AV :=
  match isAggA P t with
  | some false => match cellAt (H.get b) off with
    | .junk => none
    | v => some v
  | some true =>
    match sizeA P t with
    | some 0 => some (.agg [])
    | some k => (cellsAt (H.get b) off k).map .agg
    | none => none
  | none => none
def putAt (l : List AV) (i : Nat) (new : List AV) : List AV := l.take i ++ (new ++ l.drop (i + new.length))
def allCells : List AV → Bool
  | [] => true
  | v :: l => cellB v && allCells l
def byteOfA : AV → Option Nat
  | .int .u8 (.ofNat b) => bif Nat.blt b 256 then some b else none
  | _ => none
def packA : List AV → Option Nat
  | [] => some 0
  | v :: l => match byteOfA v, packA l with | some b, some N => some (b + 256 * N) | _, _ => none
/-- The object with the cells l from off on; handed on when it is built. none: they don't lie in one row. -/
noncomputable def putCellsK (o : AObj) (off : Nat) (l : List AV) (bad : X) (k : AObj → X) : X :=
  match o with
  | .bytes n N e st =>
    bif Nat.ble (Nat.add off l.length) n then
      match packA l with
      | some M => fNat (sealB (putB (coreB N) off l.length M)) fun N' => k (.bytes n N' e st)
      | none => bad
    else bad
  | .rows n s c z e =>
    bif Nat.blt off (Nat.mul n s) && Nat.ble (Nat.add (Nat.mod off s) l.length) s && allCells l then
      bif Nat.beq l.length s then setR (path (Nat.div off s)) c l z fun c' => k (.rows n s c' z e)
      else setR (path (Nat.div off s)) c (putAt (getR c (path (Nat.div off s)) z) (Nat.mod off s) l) z fun c' => k (.rows n s c' z e)
    else bad
  | _ => bad
noncomputable def storeA (P : Program) (G : Nat) (t : TypeId) (b off : Nat) (v : AV) (H : AH) : X :=
  match cellsOfA v, sizeA P t with
  | some l, some s =>
    bif Nat.beq l.length s && Nat.ble G b then
      bif Nat.beq s 0 then .val (.tuple []) H else
      putCellsK (H.get b) off l (.fail 130) fun o => H.setK b o fun H' => .val (.tuple []) H'
    else .fail 131
  | _, _ => .fail 132
/-- A block for one variable. -/
noncomputable def newVarK (P : Program) (t : TypeId) (v : AV) (H : AH) : X :=
  match cellsOfA v, sizeA P t with
  | some l, some s =>
    bif Nat.beq l.length s && allCells l then
      bif isByteA P t then
        match packA l with
        | some M => fNat (sealB M) fun M => H.pushK (.bytes 1 M t false) fun H' => .val (.ptr H.size 0) H'
        | none => .fail 133
      else H.pushK (.rows 1 s (.node l .nil .nil) l t) fun H' => .val (.ptr H.size 0) H'
    else .fail 134
  | _, _ => .fail 135

/-! ### rows of slices -/
inductive Seq where
  | pk (n N : Nat)
  | rs (l : List (List AV))
  | emp
noncomputable def rowsFrom (c : Tr (List AV)) (z : List AV) (k : Nat) : Nat → List (List AV) :=
  Nat.rec (fun _ => []) (fun _ ih i => getR c (path i) z :: ih (Nat.succ i)) k
/-- k pieces of s cells. -/
def chunkL (s : Nat) : Nat → List AV → List (List AV)
  | 0, _ => []
  | k + 1, l => l.take s :: chunkL s k (l.drop s)
noncomputable def bytesL (n N : Nat) : List AV := (unpack n N).map fun b => .int .u8 (.ofNat b)
/-- k elements of a slice (or string) value. -/
noncomputable def seqOf (H : AH) (s k : Nat) (x : AV) : Option Seq :=
  bif Nat.beq k 0 then some .emp else
  match x with
  | .slice b off _ _ _ =>
    match H.get b with
    | .bytes n N _ _ => bif Nat.ble (Nat.add off k) n && Nat.beq s 1 then some (.pk k (cutB (coreB N) off k)) else none
    | .rows n s' c z e => bif Nat.beq s s' && Nat.beq (Nat.mod off s) 0 && Nat.ble (Nat.add (Nat.div off s) k) n then some (.rs (rowsFrom c z k (Nat.div off s))) else
      match cellsAt (.rows n s' c z e) off (Nat.mul k s) with
      | some l => (match (bif Nat.beq s 1 then packA l else none) with | some N => some (.pk k N) | none => some (.rs (chunkL s k l)))
      | none => none
    | _ => none
  | .str len N => bif Nat.ble k len && Nat.beq s 1 then some (.pk k (cutB N 0 k)) else none
  | _ => none
noncomputable def setRowsK (z : List AV) (l : List (List AV)) : Tr (List AV) → Nat → (Tr (List AV) → X) → X :=
  List.rec (motive := fun _ => Tr (List AV) → Nat → (Tr (List AV) → X) → X) (fun c _ k => k c) (fun r _ ih c i k => setR (path i) c r z fun c' => fNat (Nat.succ i) fun j => ih c' j k) l
/-- The object with a sequence written from cell off on. -/
noncomputable def putSeqK (o : AObj) (s' off : Nat) (q : Seq) (bad : X) (k : AObj → X) : X :=
  match q, o with
  | .emp, o => k o
  | .pk m M, .bytes n N e st => bif Nat.ble (Nat.add off m) n then fNat (sealB (putB (coreB N) off m M)) fun N' => k (.bytes n N' e st) else bad
  | .rs l, .rows n s c z e =>
    bif Nat.beq s' s && (Nat.beq (Nat.mod off s) 0 && Nat.ble (Nat.add (Nat.div off s) l.length) n) then setRowsK z l c (Nat.div off s) fun c' => k (.rows n s c' z e) else
    bif Nat.blt off (Nat.mul n s) && Nat.ble (Nat.add (Nat.mod off s) l.flatten.length) s then setR (path (Nat.div off s)) c (putAt (getR c (path (Nat.div off s)) z) (Nat.mod off s) l.flatten) z fun c' => k (.rows n s c' z e) else bad
  | .pk m M, .rows n s c z e =>
    bif Nat.blt off (Nat.mul n s) && Nat.ble (Nat.add (Nat.mod off s) m) s then setR (path (Nat.div off s)) c (putAt (getR c (path (Nat.div off s)) z) (Nat.mod off s) (bytesL m M)) z fun c' => k (.rows n s c' z e) else bad
  | _, _ => bad
def lenOfA : AV → Option Nat
  | .nils | .sliceE .. => some 0
  | .slice _ _ n _ _ => some n
  | .str n _ => some n
  | _ => none
/-- Has the zero value of a type so many cells? -/
def zeroOk (P : Program) (t : TypeId) (s : Nat) : Bool := match zeroCellsA P t with | some z => Nat.beq z.length s | none => false
/-- A new object of 'total' elements: 'old', then 'new'. -/
noncomputable def grownK (P : Program) (elem : TypeId) (s total : Nat) (old new : Seq) (bad : X) (k : AObj → X) : X :=
  match old, new with
  | .emp, .pk m M => bif isByteA P elem && Nat.beq s 1 then fNat (sealB M) fun R => k (.bytes m R elem false) else bad
  | .pk n N, .pk m M => bif isByteA P elem && Nat.beq s 1 then fNat (sealB (Nat.add N (Nat.mul (Nat.pow 256 n) M))) fun R => fNat total fun total => k (.bytes total R elem false) else bad
  | .emp, .rs m => match zeroCellsA P elem with
    | some z => bif Nat.beq z.length s then fNat total fun total => setRowsK z m .nil 0 fun c => k (.rows total s c z elem) else bad
    | none => bad
  | .rs l, .rs m => match zeroCellsA P elem with
    | some z => bif Nat.beq z.length s then fNat total fun total => setRowsK z l .nil 0 fun c => setRowsK z m c l.length fun c => k (.rows total s c z elem) else bad
    | none => bad
  | _, _ => bad
noncomputable def appendTo (P : Program) (G : Nat) (elem : TypeId) (s : Nat) (sl x : AV) (k : Nat) (q : Seq) (H : AH) : X :=
  match sl with
  | .nils =>
    bif Nat.beq k 0 then .val .nils H else
    bif Nat.blt k 1048576 && zeroOk P elem s then grownK P elem s k .emp q (.fail 140) fun o => H.pushK o fun H' => rSlice H.size 0 k k true H' else .fail 151
  | .slice b off len cap g =>
    bif Nat.ble (Nat.add len k) cap then
      bif Nat.ble G b then putSeqK (H.get b) s (Nat.add off (Nat.mul len s)) q (.fail 141) fun o => H.setK b o fun H' => rSlice b off (Nat.add len k) cap g H'
      else .fail 142
    else
      bif Nat.blt (Nat.add len k) 1048576 && (Nat.ble len cap && zeroOk P elem s) then
        match seqOf H s len (.slice b off len cap g) with
        | none => .fail 143
        | some old =>
          bif g then
            -- the row may be written on where it lies, or lie elsewhere now: the old name is dead
            match H.get b with
            | .rows n s' c z e =>
              bif Nat.ble G b && (Nat.beq n cap && (Nat.beq off 0 && (Nat.beq s s' && Nat.beq e elem))) then
                match q with
                | .rs l => setRowsK z l c len fun c' => fNat (Nat.add len k) fun tot => H.setK b .dead fun H1 => H1.pushK (.rows tot s' c' z e) fun H' => .val (.slice H.size 0 tot tot true) H'
                | _ => .fail 144
              else
              bif Nat.ble G b && (Nat.beq (Nat.mul n s) (Nat.add off (Nat.mul cap s)) && (Nat.beq s s' && Nat.beq e elem)) then
                match old, q with
                | .rs l0, .rs l => setRowsK z l0 .nil 0 fun c0 => setRowsK z l c0 len fun c' => fNat (Nat.add len k) fun tot => H.setK b .dead fun H1 => H1.pushK (.rows tot s' c' z e) fun H' => .val (.slice H.size 0 tot tot true) H'
                | .emp, .rs l => setRowsK z l .nil 0 fun c' => fNat (Nat.add len k) fun tot => H.setK b .dead fun H1 => H1.pushK (.rows tot s' c' z e) fun H' => .val (.slice H.size 0 tot tot true) H'
                | _, _ => .fail 144
              else .fail 145
            | .bytes n N e st =>
              bif Nat.ble G b && (Nat.beq n (Nat.add off cap) && (Nat.beq s 1 && Nat.beq e elem)) then
                match q with
                | .pk m M => fNat (sealB (Nat.add (cutB (coreB N) off len) (Nat.mul (Nat.pow 256 len) M))) fun R => fNat (Nat.add len k) fun tot => H.setK b .dead fun H1 => H1.pushK (.bytes tot R e st) fun H' => .val (.slice H.size 0 tot tot true) H'
                | _ => .fail 146
              else .fail 147
            | _ => .fail 148
          else grownK P elem s (Nat.add len k) old q (.fail 149) fun o => H.pushK o fun H' => rSlice H.size 0 (Nat.add len k) (Nat.add len k) true H'
      else .fail 152
  | .sliceE b off =>
    bif Nat.blt k 1048576 && (Nat.blt 0 k && (zeroOk P elem s && Nat.ble G b)) then
      match H.get b, q with
      | .rows n s' c z e, .rs l =>
        bif Nat.beq (Nat.mul n s) off && (Nat.beq s s' && Nat.beq e elem) then
          setRowsK z l .nil 0 fun c' => H.setK b .dead fun H1 => H1.pushK (.rows k s' c' z e) fun H' => .val (.slice H.size 0 k k true) H'
        else .fail 153
      | _, _ => .fail 155
    else .fail 156
  | _ => .fail 150
end Go.Proofs.YtabllhhainepgaaGreatDoor.Ab
/-
  The abstract machine: operations.
-/
namespace Go.Proofs.YtabllhhainepgaaGreatDoor.Ab

noncomputable def ev (tm : TM) (x : Operand) : AV :=
  Operand.rec (motive := fun _ => TM → AV) (fun t tm => getT tm t) (fun v _ => ofConst v) (fun _ _ => .junk) (fun f _ => .func f [] []) x tm
noncomputable def evs (tm : TM) (l : List Operand) : List AV := List.rec (motive := fun _ => TM → List AV) (fun _ => []) (fun x _ ih tm => ev tm x :: ih tm) l tm
noncomputable def evsParts (tm : TM) (l : List (Nat × Operand)) : List (Nat × AV) := List.rec (motive := fun _ => TM → List (Nat × AV)) (fun _ => []) (fun x _ ih tm => (x.1, ev tm x.2) :: ih tm) l tm

/-! ### memory: cells -/
noncomputable def onCells (o : AObj) : (Nat → Nat → TypeId → Bool → X) → (Nat → Nat → Tr (List AV) → List AV → TypeId → X) → X → X :=
  AObj.rec (motive := fun _ => (Nat → Nat → TypeId → Bool → X) → (Nat → Nat → Tr (List AV) → List AV → TypeId → X) → X → X)
    (fun _ _ e => e) (fun n N t st k _ _ => k n N t st) (fun n s c z t _ k _ => k n s c z t) (fun _ _ _ _ e => e) (fun _ _ _ _ _ e => e) (fun _ _ _ _ _ _ e => e) (fun _ _ _ _ _ _ _ _ _ _ _ _ e => e) (fun _ _ _ e => e) o
/-- The value number i of a list, no junk. -/
noncomputable def nthX (l : List AV) : Nat → (AV → X) → X → X :=
  List.rec (motive := fun _ => Nat → (AV → X) → X → X) (fun _ _ e => e)
    (fun v _ ih i k e => Nat.rec (motive := fun _ => AV → (Nat → (AV → X) → X → X) → (AV → X) → X → X) (fun v _ k e => onJunk v e (k v)) (fun m _ _ ih k e => ih m k e) i v ih k e) l
noncomputable def cellX (o : AObj) (off : Nat) (H : AH) : X :=
  onCells o (fun n N _ _ => onB (Nat.blt off n) (fun _ => rInt .u8 (.ofNat (byteAt (coreB N) off)) H) (fun _ => .fail 303))
    (fun n s c z _ => onB (Nat.blt off (Nat.mul n s)) (fun _ => nthX (getR c (path (Nat.div off s)) z) (Nat.mod off s) (fun v => .val v H) (.fail 303)) (fun _ => .fail 304)) (.fail 305)
/-- How a variable of a type is read: 0: no such type; 1: one cell; k + 2: k cells. -/
def loadKind (P : Program) (t : TypeId) : Nat :=
  match isAggA P t, sizeA P t with
  | some false, some 1 => 1
  | some true, some k => k + 2
  | _, _ => 0
noncomputable def loadX (P : Program) (t : TypeId) (b off : Nat) (H : AH) : X :=
  Nat.rec (motive := fun _ => Nat → Nat → AH → X) (fun _ _ _ => .fail 306)
    (fun m _ b off H => Nat.rec (motive := fun _ => Nat → Nat → AH → X) (fun b off H => cellX (H.get b) off H)
      (fun k _ b off H => Nat.rec (motive := fun _ => Nat → Nat → Nat → AH → X) (fun _ _ _ H => .val (.agg []) H) (fun _ _ k b off H => onOL (cellsAt (H.get b) off k) (fun l => .val (.agg l) H) (.fail 307)) k k b off H) m b off H) (loadKind P t) b off H
/-- One cell written. -/
noncomputable def cellPut (o : AObj) (off b : Nat) (v : AV) (H : AH) : X :=
  onCells o (fun n N t st => onB (Nat.blt off n) (fun _ => onON (byteOfA v) (fun x => fNat (sealB (putB (coreB N) off 1 x)) fun N' => H.setK b (.bytes n N' t st) fun H' => .val (.tuple []) H') (.fail 131)) (fun _ => .fail 132))
    (fun n s c z t => onB (and (Nat.blt off (Nat.mul n s)) (cellB v))
      (fun _ => onB (Nat.beq s 1) (fun _ => setR (path off) c [v] z fun c' => H.setK b (.rows n s c' z t) fun H' => .val (.tuple []) H')
        (fun _ => setR (path (Nat.div off s)) c (putAt (getR c (path (Nat.div off s)) z) (Nat.mod off s) [v]) z fun c' => H.setK b (.rows n s c' z t) fun H' => .val (.tuple []) H')) (fun _ => .fail 133)) (.fail 134)
noncomputable def storeX (P : Program) (G : Nat) (t : TypeId) (b off : Nat) (v : AV) (H : AH) : X :=
  onB (Nat.ble G b) (fun _ =>
    Nat.rec (motive := fun _ => Program → Nat → Nat → Nat → Nat → AV → AH → X) (fun _ _ _ _ _ _ _ => .fail 135)
      (fun m _ P G t b off v H => Nat.rec (motive := fun _ => Program → Nat → Nat → Nat → Nat → AV → AH → X) (fun _ _ _ b off v H => cellPut (H.get b) off b v H) (fun _ _ P G t b off v H => storeA P G t b off v H) m P G t b off v H) (loadKind P t) P G t b off v H) (fun _ => .fail 136)
/-! ### building -/
def fillA (place : Nat → Option (Nat × Nat)) : List AV → List (Nat × AV) → Option (List AV)
  | cells, [] => some cells
  | cells, (i, v) :: rest =>
    match place i, cellsOfA v with
    | some (off, size), some l => bif Nat.beq l.length size && Nat.ble (off + size) cells.length then fillA place (putAt cells off l) rest else none
    | _, _ => none
/-- The same, where the parts come in order and name all. -/
def fastA (place : Nat → Option (Nat × Nat)) (tot : Nat) : (off : Nat) → List (Nat × AV) → Option (List AV)
  | off, [] => bif Nat.beq off tot then some [] else none
  | off, (i, v) :: rest =>
    match place i, cellsOfA v with
    | some (o, size), some l => bif Nat.beq o off && (Nat.beq l.length size && Nat.ble (Nat.add off size) tot) then (match fastA place tot (Nat.add off size) rest with | some r => some (l ++ r) | none => none) else none
    | _, _ => none
def fillQ (place : Nat → Option (Nat × Nat)) (z : List AV) (ps : List (Nat × AV)) : Option (List AV) :=
  match fastA place z.length 0 ps with
  | some l => some l
  | none => fillA place z ps
def fieldPlaces (P : Program) : List Field → Option (List (Nat × Nat))
  | [] => some []
  | f :: fs => match sizeA P f.type, fieldPlaces P fs with | some s, some l => some ((f.offset, s) :: l) | _, _ => none
def buildA (P : Program) (t : TypeId) (parts : List (Nat × AV)) : Option AV :=
  match zeroCellsA P t, P.underlying t with
  | some z, some (.struct fs) => match fieldPlaces P fs.toList with | some ps => (fillQ (ps[·]?) z parts).map .agg | none => none
  | some z, some (.array _ e) => match sizeA P e with | some s => (fillQ (fun i => some (Nat.mul i s, s)) z parts).map .agg | none => none
  | _, _ => none
/-- The rows of a slice literal, its parts in order; what is not named is z. -/
def seqRows (z : List AV) : List (Nat × AV) → (left i : Nat) → Option (List (List AV))
  | [], 0, _ => some []
  | _ :: _, 0, _ => none
  | [], m + 1, i => (seqRows z [] m (i + 1)).map (z :: ·)
  | (j, v) :: ps, m + 1, i =>
    bif Nat.beq j i then
      match cellsOfA v with
      | some l => bif Nat.beq l.length z.length && allCells l then (seqRows z ps m (i + 1)).map (l :: ·) else none
      | none => none
    else (seqRows z ((j, v) :: ps) m (i + 1)).map (z :: ·)
def packRows : List (List AV) → Option Nat
  | [] => some 0
  | [v] :: l => match byteOfA v, packRows l with | some b, some N => some (b + 256 * N) | _, _ => none
  | _ => none
noncomputable def buildSliceA (P : Program) (t : TypeId) (len : Nat) (parts : List (Nat × AV)) (H : AH) : X :=
  match P.underlying t with
  | some (.slice e) =>
    match zeroCellsA P e with
    | some z =>
      bif Nat.blt 0 z.length && Nat.ble (Nat.mul len z.length) 16777216 then
        match seqRows z parts len 0 with
        | some rs =>
          bif isByteA P e then
            match packRows rs with
            | some M => fNat (sealB M) fun M => H.pushK (.bytes len M e false) fun H' => .val (.slice H.size 0 len len false) H'
            | none => .fail 160
          else setRowsK z rs .nil 0 fun c => H.pushK (.rows len z.length c z e) fun H' => .val (.slice H.size 0 len len false) H'
        | none => .fail 161
      else .fail 162
    | none => .fail 163
  | _ => .fail 164
noncomputable def makeSliceA (P : Program) (t : TypeId) (len cap : AV) (H : AH) : X :=
  match P.underlying t, len, cap with
  | some (.slice e), .int _ (.ofNat l), .int _ (.ofNat c) =>
    match zeroCellsA P e with
    | some z =>
      bif Nat.ble l c && Nat.ble (Nat.mul c (P.bytesOf e)) 1099511627776 && Nat.blt 0 z.length && Nat.ble c 1099511627776 then
        bif isByteA P e then H.pushK (.bytes c 0 e false) fun H' => rSlice H.size 0 l c false H'
        else H.pushK (.rows c z.length .nil z e) fun H' => rSlice H.size 0 l c false H'
      else .fail 165
    | none => .fail 166
  | _, _, _ => .fail 167

/-! ### slices, indexes -/
def natOf : AV → Option Nat
  | .int _ (.ofNat n) => some n
  | _ => none
/-- low, high under a bound. -/
def boundsA (len cap : Nat) (lo hi : Option AV) : Option (Nat × Nat) :=
  match (match hi with | none => some len | some v => natOf v), (match lo with | none => some 0 | some v => natOf v) with
  | some h, some l => bif Nat.ble h cap && Nat.ble l h then some (l, h) else none
  | _, _ => none
noncomputable def sliceA (P : Program) (t : TypeId) (x : AV) (lo hi mx : Option AV) (H : AH) : X :=
  match mx with
  | some m =>
    match P.underlying t, x, natOf m, hi with
    | some (.slice e), .slice b off len cap _, some m, some _ =>
      bif Nat.ble m cap then
        match boundsA len m lo hi, sizeA P e with
        | some (l, h), some s => rSlice b (bif Nat.beq m l then off else Nat.add off (Nat.mul l s)) (Nat.sub h l) (Nat.sub m l) false H
        | _, _ => .fail 170
      else .fail 169
    | _, _, _, _ => .fail 168
  | none =>
    match P.underlying t, x with
    | some (.array n e), .ptr b off =>
      match boundsA n n lo hi, sizeA P e with
      | some (l, h), some s => rSlice b (bif Nat.beq n l then off else Nat.add off (Nat.mul l s)) (Nat.sub h l) (Nat.sub n l) false H
      | _, _ => .fail 171
    | some (.pointer arr), .ptr b off =>
      match P.underlying arr with
      | some (.array n e) =>
        match boundsA n n lo hi, sizeA P e with
        | some (l, h), some s => rSlice b (bif Nat.beq n l then off else Nat.add off (Nat.mul l s)) (Nat.sub h l) (Nat.sub n l) false H
        | _, _ => .fail 171
      | _ => .fail 172
    | some .string, .str n N =>
      match boundsA n n lo hi with
      | some (l, h) => rStr (Nat.sub h l) (cutB N l (Nat.sub h l)) H
      | none => .fail 173
    | some (.slice e), .nils =>
      match boundsA 0 0 lo hi, sizeA P e with
      | some _, some _ => .val .nils H
      | _, _ => .fail 174
    | some (.slice e), .sliceE b off =>
      match boundsA 0 0 lo hi, sizeA P e with
      | some _, some _ => .val (.sliceE b off) H
      | _, _ => .fail 174
    | some (.slice e), .slice b off len cap g =>
      match boundsA len cap lo hi, sizeA P e with
      | some (l, h), some s =>
        bif Nat.beq l cap then (bif g then fNat (Nat.add off (Nat.mul l s)) fun o => .val (.sliceE b o) H else rSlice b off (Nat.sub h l) (Nat.sub cap l) g H)
        else rSlice b (Nat.add off (Nat.mul l s)) (Nat.sub h l) (Nat.sub cap l) g H
      | _, _ => .fail 175
    | _, _ => .fail 176
/-- What is indexed: an array's place (length, size) or a slice (size). -/
def idxKind (P : Program) (t : TypeId) : Option (Nat × Nat) :=
  match P.underlying t with
  | some (.array n e) => (sizeA P e).map fun s => (n, s)
  | _ => none
def idxSlice (P : Program) (t : TypeId) : Option Nat :=
  match P.underlying t with
  | some (.slice e) => sizeA P e
  | _ => none
noncomputable def indexAddrA (P : Program) (t : TypeId) (x i : AV) (H : AH) : X :=
  onInt i (fun _ i => onNat i (fun i =>
    onSlice x (fun b off len _ _ => onON (idxSlice P t) (fun s => onB (Nat.blt i len) (fun _ => rPtr b (Nat.add off (Nat.mul i s)) H) (fun _ => .fail 182)) (.fail 183))
      (onPtr x (fun b off => onON ((idxKind P t).map (·.1)) (fun n => onON ((idxKind P t).map (·.2)) (fun s => onB (Nat.blt i n) (fun _ => rPtr b (Nat.add off (Nat.mul i s)) H) (fun _ => .fail 180)) (.fail 181)) (.fail 181)) (.fail 184))) (.fail 184)) (.fail 184)
noncomputable def indexA (P : Program) (t : TypeId) (x i : AV) (H : AH) : X :=
  match P.underlying t, x, natOf i with
  | some (.array n e), .agg cs, some i =>
    match sizeA P e with
    | some s => bif Nat.blt i n then rOpt (partA P e cs (Nat.mul i s)) 185 H else .fail 186
    | none => .fail 187
  | some .string, .str n N, some i => bif Nat.blt i n then rInt .u8 (.ofNat (byteAt N i)) H else .fail 188
  | _, _, _ => .fail 189
def fieldOff (P : Program) (s : TypeId) (f : Nat) : Option Nat :=
  match P.underlying s with
  | some (.struct fs) => match fs[f]? with
    | some f => match sizeA P f.type with
      | some (_ + 1) => some f.offset
      | _ => none
    | none => none
  | _ => none
noncomputable def fieldAddrA (P : Program) (s : TypeId) (x : AV) (f : Nat) (H : AH) : X :=
  onPtr x (fun b off => onON (fieldOff P s f) (fun o => rPtr b (Nat.add off o) H) (.fail 190)) (.fail 191)
def fieldA (P : Program) (t : TypeId) (x : AV) (f : Nat) : Option AV :=
  match P.underlying t, x with
  | some (.struct fs), .agg cs => match fs[f]? with | some f => partA P f.type cs f.offset | none => none
  | _, _ => none

/-! ### conversions -/
noncomputable def convA (P : Program) (G : Nat) (src dst : TypeId) (x : AV) (H : AH) : X :=
  match P.underlying src, P.underlying dst with
  | some s, some d =>
    match s, d, x with
    | _, .int k, .int _ n => rInt k (wrapA k n) H
    | _, .string, .str l N => .val (.str l N) H
    | _, .slice e, .str l N => bif isByteA P e then fNat (sealB N) fun M => H.pushK (.bytes l M e true) fun H' => .val (.slice H.size 0 l l true) H' else .fail 200
    | .slice e, .string, .nils => bif isByteA P e then .val (.str 0 0) H else .fail 201
    | .slice e, .string, .sliceE .. => bif isByteA P e then .val (.str 0 0) H else .fail 201
    | .slice e, .string, .slice b off len _ _ =>
      bif isByteA P e then
        match seqOf H 1 len (.slice b off len 0 false) with
        | some .emp => .val (.str 0 0) H
        | some (.pk n N) => .val (.str n N) H
        | _ => .fail 202
      else .fail 203
    | .slice _, .slice e, .slice b off len cap g =>
      bif Nat.beq src dst && (isByteA P e && Nat.ble G b) then
        match H.get b with
        | .bytes n N e' _ => H.setK b (.bytes n N e' true) fun H' => .val (.slice b off len cap g) H'
        | _ => .fail 207
      else .fail 208
    | _, _, _ => .fail 205
  | _, _ => .fail 206

/-! ### maps -/
def findA (P : Program) (H : AH) (key : TypeId) (eq : TypeId → AV → AV → Option Bool) (k : AV) : List (AV × AV × Nat) → Nat → Option (Option (Nat × AV))
  | [], _ => some none
  | e :: es, i => match eq key k e.1 with
    | some true => some (some (i, e.2.1))
    | some false => findA P H key eq k es (i + 1)
    | none => none
/-- Is a key of this type and value without a panic? -/
def keyFields (chk : TypeId → AV → Bool) (P : Program) (cs : List AV) : List Field → Bool
  | [] => true
  | f :: fs => (if f.name = "_" then true else match partA P f.type cs f.offset with | some x => chk f.type x | none => false) && keyFields chk P cs fs
def keyElems (chk : TypeId → AV → Bool) (P : Program) (cs : List AV) (e : TypeId) (n : Nat) : (left i : Nat) → Bool
  | 0, _ => true
  | m + 1, i => (match partA P e cs (i * n) with | some x => chk e x | none => false) && keyElems chk P cs e n m (i + 1)
def keyA (P : Program) : Nat → TypeId → AV → Bool
  | 0, _, _ => false
  | d + 1, t, v =>
    match P.underlying t, v with
    | some (.int _), .int _ _ => true
    | some (.int _), .any => true
    | some .string, .str _ _ => true
    | some .bool, .bool _ => true
    | some (.pointer _), .ptr _ _ => true
    | some (.array len e), .agg cs => match sizeA P e with | some n => keyElems (keyA P d) P cs e n len 0 | none => false
    | some (.struct fs), .agg cs => keyFields (keyA P d) P cs fs.toList
    | _, _ => false
def setNth (es : List (AV × AV × Nat)) (i : Nat) (e : AV × AV × Nat) : List (AV × AV × Nat) := es.set i e
noncomputable def lookupA (P : Program) (t : TypeId) (x k : AV) (ok : Bool) (H : AH) : X :=
  match P.underlying t with
  | some (.map key elem) =>
    bif keyA P 20 key k then
      match (match x with
        | .nilm => some (some [])
        | .map r => match H.get r with | .map es _ => some (some es) | _ => none
        | _ => (none : Option (Option (List (AV × AV × Nat))))) with
      | some (some es) =>
        match findA P H key (eqA P H 30) k es 0 with
        | some (some (_, v)) => bif ok then .val (.tuple [v, .bool true]) H else .val v H
        | some none => match zeroA P elem with
          | some z => bif ok then .val (.tuple [z, .bool false]) H else .val z H
          | none => .fail 210
        | none => .fail 211
      | _ => .fail 212
    else .fail 213
  | _ => .fail 214
def sameC : AV → AV → Bool
  | .bool a, .bool b => a == b
  | .int k m, .int k' n => decide (k = k') && eqI m n
  | .str a A, .str b B => Nat.beq a b && Nat.beq A B
  | .ptr a i, .ptr b j => Nat.beq a b && Nat.beq i j
  | .nilp, .nilp => true
  | _, _ => false
def sameCs : List AV → List AV → Bool
  | [], [] => true
  | a :: l, b :: m => sameC a b && sameCs l m
  | _, _ => false
def sameK : AV → AV → Bool
  | .agg l, .agg m => sameCs l m
  | a, b => sameC a b
noncomputable def mapUpdateA (P : Program) (G : Nat) (t : TypeId) (m k v : AV) (H : AH) : X :=
  match P.underlying t, m with
  | some (.map key _), .map r =>
    bif keyA P 20 key k && Nat.ble G r then
      match H.get r with
      | .map es clock =>
        match findA P H key (eqA P H 30) k es 0 with
        | some (some (i, _)) => match es[i]? with
          | some e => bif sameK e.1 k then H.setK r (.map (es.set i (k, v, e.2.2)) clock) fun H' => .val (.tuple []) H' else .fail 219
          | none => .fail 220
        | some none => fNat (Nat.succ clock) fun c => H.setK r (.map (es ++ [(k, v, clock)]) c) fun H' => .val (.tuple []) H'
        | none => .fail 221
      | _ => .fail 222
    else .fail 223
  | _, _ => .fail 224
noncomputable def mapEntryA (P : Program) (G : Nat) (t : TypeId) (m k : AV) (H : AH) : X :=
  match P.underlying t, m with
  | some (.map key elem), .map r =>
    bif keyA P 20 key k && Nat.ble G r then
      match H.get r with
      | .map es clock =>
        match findA P H key (eqA P H 30) k es 0 with
        | some (some (i, v)) => match es[i]? with
          | some e => bif sameK e.1 k then H.setK r (.map (es.set i (k, e.2)) clock) fun H' => .val (.tuple [v, .int .i64 (.ofNat e.2.2)]) H' else .fail 218
          | none => .fail 225
        | some none => match zeroA P elem with
          | some z => fNat (Nat.succ clock) fun c => H.setK r (.map (es ++ [(k, z, clock)]) c) fun H' => .val (.tuple [z, .int .i64 (.ofNat clock)]) H'
          | none => .fail 226
        | none => .fail 227
      | _ => .fail 228
    else .fail 229
  | _, _ => .fail 230
def findBorn (n : Nat) : List (AV × AV × Nat) → Nat → Option (Nat × (AV × AV × Nat))
  | [], _ => none
  | e :: es, i => bif Nat.beq e.2.2 n then some (i, e) else findBorn n es (i + 1)
noncomputable def entryStoreA (G : Nat) (m s v : AV) (H : AH) : X :=
  match m, s with
  | .map r, .int _ (.ofNat n) =>
    bif Nat.ble G r then
      match H.get r with
      | .map es clock => match findBorn n es 0 with
        | some (i, e) => H.setK r (.map (es.set i (e.1, v, e.2.2)) clock) fun H' => .val (.tuple []) H'
        | none => .fail 231
      | _ => .fail 232
    else .fail 233
  | _, _ => .fail 234
noncomputable def deleteA (P : Program) (G : Nat) (t : TypeId) (m k : AV) (H : AH) : X :=
  match P.underlying t, m with
  | some (.map key _), .nilm => bif keyA P 20 key k then .val (.tuple []) H else .fail 235
  | some (.map key _), .map r =>
    bif keyA P 20 key k && Nat.ble G r then
      match H.get r with
      | .map es clock => match findA P H key (eqA P H 30) k es 0 with
        | some (some (i, _)) => H.setK r (.map (es.eraseIdx i) clock) fun H' => .val (.tuple []) H'
        | some none => .val (.tuple []) H
        | none => .fail 236
      | _ => .fail 237
    else .fail 238
  | _, _ => .fail 239
noncomputable def clearA (P : Program) (G : Nat) (t : TypeId) (m : AV) (H : AH) : X :=
  match P.underlying t, m with
  | some _, .nilm => .val (.tuple []) H
  | some _, .map r =>
    bif Nat.ble G r then
      match H.get r with
      | .map _ clock => H.setK r (.map [] clock) fun H' => .val (.tuple []) H'
      | _ => .fail 248
    else .fail 249
  | some _, .nils => .val (.tuple []) H
  | some _, .sliceE .. => .val (.tuple []) H
  | some (.slice e), .slice b off (n + 1) _ _ =>
    bif Nat.ble G b then
      match zeroCellsA P e with
      | some z => putSeqK (H.get b) z.length off (bif isByteA P e then .pk (n + 1) 0 else .rs (List.replicate (n + 1) z)) (.fail 246) fun o => H.setK b o fun H' => .val (.tuple []) H'
      | none => .fail 247
    else .fail 245
  | _, _ => .fail 249
noncomputable def rangeA (P : Program) (t : TypeId) (x : AV) (H : AH) : X :=
  match P.underlying t, x with
  | some .string, .str n N => H.pushK (.strIter n N 0) fun H' => .val (.ptr H.size 0) H'
  | some (.map _ _), .nilm => H.pushK (.mapIter none 0 [] 0) fun H' => .val (.ptr H.size 0) H'
  | some (.map _ _), .map m => match H.get m with
    | .map _ clock => H.pushK (.mapIter (some m) clock [] clock) fun H' => .val (.ptr H.size 0) H'
    | _ => .fail 240
  | _, _ => .fail 241
/-- One of several ways, which one nobody knows. -/
def forkL {α : Type} (f : α → X) : α → List α → X
  | e, [] => f e
  | e, e' :: l => .fork (f e) (forkL f e' l)
noncomputable def nextA (G : Nat) (it : AV) (isString : Bool) (H : AH) : X :=
  match it with
  | .ptr r 0 =>
    bif Nat.ble G r then
    match H.get r, isString with
    | .strIter n N pos, true =>
      bif Nat.blt pos n then
        let b := byteAt N pos
        bif Nat.blt b 128 then fNat b fun b => fNat (Nat.succ pos) fun p' => H.setK r (.strIter n N p') fun H' => .val (.tuple [.bool true, .int .i64 (.ofNat pos), .int .i32 (.ofNat b)]) H' else .fail 242
      else .val (.tuple [.bool false]) H
    | .mapIter none _ _ _, false => .val (.tuple [.bool false]) H
    | .mapIter (some m) since seen last, false =>
      match H.get m with
      | .map es clock =>
        bif (!seen.isEmpty) && (!es.isEmpty) && es.all (fun e => Nat.ble last e.2.2) then .fail 243 else
        let left := es.filter fun e => !(seen.contains e.2.2)
        let old := left.filter fun e => Nat.blt e.2.2 since
        let new := left.filter fun e => !(Nat.blt e.2.2 since)
        match old, new with
        | [], [] => .val (.tuple [.bool false]) H
        | e :: l, [] => forkL (fun e => H.setK r (.mapIter (some m) since (seen ++ [e.2.2]) clock) fun H' => .val (.tuple [.bool true, e.1, e.2.1]) H') e l
        | _, _ => .fail 244
      | _ => .fail 245
    | _, _ => .fail 246
    else .fail 248
  | _ => .fail 247
/-- The entry that an iterator saw last. -/
noncomputable def entryA (it : AV) (H : AH) : X :=
  match it with
  | .ptr r 0 =>
    match H.get r with
    | .mapIter (some m) _ seen stepped =>
      match seen.getLast?, H.get m with
      | some stamp, .map es clock =>
        bif Nat.beq clock stepped then
          match es.find? (fun e => Nat.beq e.2.2 stamp) with
          | some e => .val (.tuple [e.1, e.2.1]) H
          | none => .fail 336
        else .fail 337
      | _, _ => .fail 338
    | _ => .fail 339
  | _ => .fail 324

/-! ### interfaces, calls -/
def missA (want : Array (String × TypeId)) (got : Array Method) : Bool :=
  (Instr.missingMethod want got).isSome
noncomputable def typeAssertA (P : Program) (x : AV) (asserted : TypeId) (ok : Bool) (H : AH) : X :=
  match P.underlying asserted with
  | none => .fail 250
  | some u =>
    match (match u, x with
      | .interface _, .nili => some none
      | .interface want, .iface t v => match P.info? t with
        | some i => bif missA want i.methods then some none else some (some (AV.iface t v))
        | none => none
      | _, .nili => some none
      | _, .iface t v => bif Nat.beq t asserted then some (some v) else some none
      | _, _ => (none : Option (Option AV))) with
    | some (some v) => bif ok then .val (.tuple [v, .bool true]) H else .val v H
    | some none => bif ok then match zeroA P asserted with | some z => .val (.tuple [z, .bool false]) H | none => .fail 251 else .fail 252
    | none => .fail 253
def extractA (x : AV) (i : Nat) : Option AV :=
  match x with
  | .tuple l => l[i]?
  | _ => none
/-- May a function be entered? -/
def callOk (P : Program) (f : Nat) : Bool :=
  match P.funcs[f]? with
  | some fn => !(fn.name == "runtime.NumGoroutine") && fn.body.isSome
  | none => false
/-- The first place of a byte in a row of bytes. -/
noncomputable def indexB (n N c : Nat) : Int := match (List.range n).find? fun i => Nat.beq (byteAt N i) c with | some i => .ofNat i | none => -1
/-- Is it this function, which has no text? -/
def isExt (P : Program) (f : Nat) (name : String) : Bool :=
  match P.funcs[f]? with
  | some fn => fn.body.isNone && (decide (fn.name = name) && decide (fn.origin = ""))
  | none => false
/-- The bytes of a slice, packed. -/
noncomputable def packOf (H : AH) (x : AV) : Option (Nat × Nat) :=
  match x with
  | .slice b off len cap g => match seqOf H 1 len (.slice b off len cap g) with
    | some .emp => some (0, 0)
    | some (.pk n N) => some (n, N)
    | _ => none
  | .nils => some (0, 0)
  | .sliceE .. => some (0, 0)
  | _ => none
/-- Which of two rows of bytes comes first. -/
noncomputable def cmpB (n N m M : Nat) : Int :=
  match (List.range (bif Nat.ble n m then n else m)).find? (fun i => !(Nat.beq (byteAt N i) (byteAt M i))) with
  | some i => bif Nat.blt (byteAt N i) (byteAt M i) then -1 else 1
  | none => bif Nat.blt n m then -1 else bif Nat.blt m n then 1 else 0
/-- A function without a text. -/
noncomputable def externA (P : Program) (f : Nat) (args : List AV) (H : AH) : X :=
  match args with
  | [.str n N, .int .u8 (.ofNat c)] => bif Nat.blt c 256 && isExt P f "internal/bytealg.IndexByteString" then rInt .i64 (indexB n N c) H else .fail (Nat.add 10000 f)
  | [.iface t (.map r)] =>
    bif isExt P f "maps.clone" then
      match H.get r with
      | .map es clock => H.pushK (.map es clock) fun H' => .val (.iface t (.map H.size)) H'
      | _ => .fail (Nat.add 20000 f)
    else .fail (Nat.add 10000 f)
  | [a, b] =>
    bif isExt P f "internal/bytealg.Compare" then
      match packOf H a, packOf H b with
      | some (n, N), some (m, M) => rInt .i64 (cmpB n N m M) H
      | _, _ => .fail (Nat.add 20000 f)
    else .fail (Nat.add 10000 f)
  | _ => .fail (Nat.add 10000 f)
noncomputable def callA (P : Program) (f : Nat) (args : List AV) (H : AH) : X := onB (callOk P f) (fun _ => .enter f args H) (fun _ => externA P f args H)
/-- The receiver of a method on an interface's value. -/
noncomputable def methodA (P : Program) (H : AH) (t : TypeId) (v : AV) (name : String) : Option (Nat × AV) :=
  match P.info? t with
  | none => none
  | some i =>
    match i.methods.find? (·.name == name) with
    | none => none
    | some m =>
      match m.path.toList, m.func with
      | [], some (f, ptr) =>
        match P.underlying t, ptr with
        | some (.pointer _), true => some (f, v)
        | some (.pointer e), false => match v with
          | .ptr b off => (loadA P e b off H).map fun x => (f, x)
          | _ => none
        | some _, false => some (f, v)
        | _, _ => none
      | _, _ => none
/-- Is the receiver behind an interface's value no nil pointer? -/
def aheadB (P : Program) (t : TypeId) (v : AV) (name : String) : Bool :=
  match P.info? t with
  | none => false
  | some i =>
    match i.methods.find? (·.name == name) with
    | none => false
    | some m =>
      match m.path.toList, m.func with
      | [], some (_, true) => true
      | [], some (_, false) => match P.underlying t, v with
        | some (.pointer _), .ptr _ _ => true
        | some (.pointer _), _ => false
        | some _, _ => true
        | none, _ => false
      | _, _ => false
def minI (max : Bool) (k : IntKind) : Int → List AV → Option AV
  | x, [] => some (.int k x)
  | x, .int k' y :: l => if k = k' then minI max k (bif max then (bif ltI x y then y else x) else (bif ltI y x then y else x)) l else none
  | _, _ => none
def minsA (max : Bool) : List AV → Option AV
  | .int k x :: l => minI max k x l
  | _ => none
/-- The length of a type: an array's. -/
noncomputable def lenA (P : Program) (t : TypeId) (x : AV) (H : AH) : X :=
  match P.underlying t, x with
  | some .string, .str n _ => .val (.int .i64 (.ofNat n)) H
  | some (.array n _), _ => .val (.int .i64 (.ofNat n)) H
  | some (.pointer arr), _ => match P.underlying arr with | some (.array n _) => .val (.int .i64 (.ofNat n)) H | _ => .fail 270
  | some (.slice _), .nils => .val (.int .i64 0) H
  | some (.slice _), .sliceE .. => .val (.int .i64 0) H
  | some (.slice _), .slice _ _ n _ _ => .val (.int .i64 (.ofNat n)) H
  | some (.map _ _), .nilm => .val (.int .i64 0) H
  | some (.map _ _), .map r => match H.get r with | .map es _ => rInt .i64 (.ofNat es.length) H | _ => .fail 272
  | _, _ => .fail 273
noncomputable def builtinA (P : Program) (G : Nat) (b : Builtin) (types : List TypeId) (args : List AV) (H : AH) : X :=
  match b, types, args with
  | .append, t :: t2 :: _, [s, x] =>
    match P.underlying t, P.underlying t2 with
    | some (.slice e), some u =>
      match sizeA P e with
      | some (sz + 1) =>
        match u, x with
        | .int _, .int _ (.ofNat k) =>
          match lenOfA s with
          | some len =>
            -- zeros
            bif Nat.blt k 1048576 && Nat.blt len 1048576 && Nat.blt (P.bytesOf e) 1048576 then
              (bif isByteA P e then appendTo P G e (sz + 1) s x k (.pk k 0) H else
                match zeroCellsA P e with
                | some z => appendTo P G e (sz + 1) s x k (.rs (List.replicate k z)) H
                | none => .fail 280)
            else .fail 281
          | none => .fail 282
        | .int _, _ => .fail 288
        | _, _ =>
          match lenOfA x with
          | some k =>
            match seqOf H (sz + 1) k x with
            | some q => bif Nat.blt k 1048576 && Nat.blt (P.bytesOf e) 1048576 then appendTo P G e (sz + 1) s x k q H else .fail 283
            | none => .fail 284
          | none => .fail 285
      | _ => .fail 286
    | _, _ => .fail 287
  | .copy, t :: _, [d, s] =>
    match P.underlying t with
    | some (.slice e) =>
      match sizeA P e, lenOfA d, lenOfA s with
      | some (sz + 1), some m, some n =>
        let k := bif Nat.ble n m then n else m
        match seqOf H (sz + 1) k s with
        | some q =>
          match q, d with
          | .emp, .nils => .val (.int .i64 0) H
          | .emp, .sliceE .. => .val (.int .i64 0) H
          | q, .slice b off _ _ _ =>
            bif Nat.ble G b then putSeqK (H.get b) (sz + 1) off q (.fail 290) fun o => H.setK b o fun H' => rInt .i64 (.ofNat k) H' else .fail 291
          | _, _ => .fail 292
        | none => .fail 293
      | _, _, _ => .fail 294
    | _ => .fail 295
  | .len, t :: _, [x] => lenA P t x H
  | .cap, t :: _, [x] =>
    match P.underlying t, x with
    | some (.slice _), .nils => .val (.int .i64 0) H
    | some (.slice _), .slice _ _ _ c false => .val (.int .i64 (.ofNat c)) H
    | some (.array n _), _ => .val (.int .i64 (.ofNat n)) H
    | _, _ => .fail 296
  | .min, _, l => rOpt (minsA false l) 297 H
  | .max, _, l => rOpt (minsA true l) 298 H
  | .delete, t :: _, [m, k] => deleteA P G t m k H
  | .clear, t :: _, [m] => clearA P G t m H
  | _, _, _ => .fail 299

noncomputable def moveX (v : AV) (H : AH) : X := onJunk v (.val .junk H) (.val v H)
noncomputable def nilSlow (P : Program) (x : AV) (H : AH) : X :=
  match x with
  | .func f a b => .val (.func f a b) H
  | .yield l => .val (.yield l) H
  | .iface t v => .val (.iface t v) H
  | .meth name (.iface t v) => bif aheadB P t v name then .val (.meth name (.iface t v)) H else .fail 331
  | _ => .fail 332
/-- The kind of whole numbers that a conversion leads to, coded. -/
def convKind (P : Program) (s d : TypeId) : Option IntKind := match P.underlying s, P.underlying d with | some _, some (.int k) => some k | _, _ => none
noncomputable def onK (o : Option IntKind) : (IntKind → X) → X → X := Option.rec (motive := fun _ => (IntKind → X) → X → X) (fun _ e => e) (fun n k _ => k n) o
noncomputable def ifaceX (P : Program) (t : TypeId) (v : AV) (H : AH) : X :=
  match P.underlying t, v with
  | some (.interface _), _ => .fail 333
  | _, .junk => .fail 333
  | some _, v => .val (.iface t v) H
  | none, _ => .fail 333
noncomputable def makeFuncX (fn : Fn) (a b : List AV) (H : AH) : X :=
  match fn, a with
  | .func f, a => .val (.func f a b) H
  | .method name, [x] => .val (.meth name x) H
  | _, _ => .fail 334
noncomputable def makeMapX (P : Program) (t : TypeId) (r : Option AV) (H : AH) : X :=
  match r with
  | none => H.pushK (.map [] 0) fun H' => .val (.map H.size) H'
  | some v => match P.underlying t, v with
    | some (.map _ _), .int _ _ => H.pushK (.map [] 0) fun H' => .val (.map H.size) H'
    | _, _ => .fail 335
noncomputable def extractX (x : AV) (i : Nat) (H : AH) : X := rOpt (extractA x i) 311 H
noncomputable def callV (P : Program) (f : AV) (args : List AV) (H : AH) : X :=
  match f with
  | .func f first cap => callA P f (first ++ (args ++ cap)) H
  | .yield l => .round l args H
  | _ => .fail 312
noncomputable def invokeV (P : Program) (r : AV) (name : String) (args : List AV) (H : AH) : X :=
  match r with
  | .iface t v => match methodA P H t v name with
    | some (f, recv) => callA P f (recv :: args) H
    | none => .fail 313
  | _ => .fail 314
noncomputable def callX (c : Call) (P : Program) (G : Nat) (tm : TM) (H : AH) : X :=
  Callee.rec (motive := fun _ => Call → Program → Nat → TM → AH → X) (fun f c P _ tm H => callV P (ev tm f) (evs tm c.args.toList) H)
    (fun r name c P _ tm H => invokeV P (ev tm r) name (evs tm c.args.toList) H) (fun b c P G tm H => builtinA P G b c.argTypes.toList (evs tm c.args.toList) H) c.callee c P G tm H
noncomputable def opA (P : Program) (G : Nat) (o : Oper) (tm : TM) (H : AH) : X :=
  Op.rec (motive := fun _ => Program → Nat → TM → AH → X)
    (fun x P G tm H => moveX (ev tm x) H)
    (fun x P G tm H => moveX (ev tm x) H)
    (fun c a b P G tm H => onBool (ev tm c) (fun c => Bool.rec (motive := fun _ => TM → Operand → Operand → AH → X) (fun tm _ b H => moveX (ev tm b) H) (fun tm a _ H => moveX (ev tm a) H) c tm a b H) (.fail 300))
    (fun t P G tm H => onOV (zeroA P t) (fun z => newVarK P t z H) (.fail 301))
    (fun t x P G tm H => newVarK P t (ev tm x) H)
    (fun t ps P G tm H => rOpt (buildA P t (evsParts tm ps.toList)) 302 H)
    (fun t n ps P G tm H => buildSliceA P t n (evsParts tm ps.toList) H)
    (fun t m k v P G tm H => mapUpdateA P G t (ev tm m) (ev tm k) (ev tm v) H)
    (fun t a P G tm H => onPtr (ev tm a) (fun b off => loadX P t b off H) (.fail 308))
    (fun t a x P G tm H => onPtr (ev tm a) (fun b off => storeX P G t b off (ev tm x) H) (.fail 309))
    (fun _ P G tm H => .fail 320)
    (fun _ P G tm H => .fail 321)
    (fun x P G tm H => onPtr (ev tm x) (fun b off => .val (.ptr b off) H) (nilSlow P (ev tm x) H))
    (fun op t x y _ P G tm H => binA P op t x y (ev tm x) (ev tm y) H)
    (fun op _ x P G tm H => unA op (ev tm x) H)
    (fun s d x P G tm H => onInt (ev tm x) (fun k n => onK (convKind P s d) (fun k => rWrap k n H) (convA P G s d (.int k n) H)) (convA P G s d (ev tm x) H))
    (fun _ _ P G tm H => .fail 322)
    (fun t x P G tm H => ifaceX P t (ev tm x) H)
    (fun fn a b P G tm H => makeFuncX fn (evs tm a.toList) (evs tm b.toList) H)
    (fun t r P G tm H => makeMapX P t (r.map (ev tm)) H)
    (fun _ _ P G tm H => .fail 323)
    (fun t l c P G tm H => makeSliceA P t (ev tm l) (ev tm c) H)
    (fun t x lo hi mx P G tm H => sliceA P t (ev tm x) (lo.map (ev tm)) (hi.map (ev tm)) (mx.map (ev tm)) H)
    (fun s x f P G tm H => fieldAddrA P s (ev tm x) f H)
    (fun t x f P G tm H => rOpt (fieldA P t (ev tm x) f) 310 H)
    (fun t x i P G tm H => indexAddrA P t (ev tm x) (ev tm i) H)
    (fun t x i P G tm H => indexA P t (ev tm x) (ev tm i) H)
    (fun t x k ok P G tm H => lookupA P t (ev tm x) (ev tm k) ok H)
    (fun t m k v P G tm H => mapUpdateA P G t (ev tm m) (ev tm k) (ev tm v) H)
    (fun t m k P G tm H => mapEntryA P G t (ev tm m) (ev tm k) H)
    (fun _ m s v P G tm H => entryStoreA G (ev tm m) (ev tm s) (ev tm v) H)
    (fun t x P G tm H => rangeA P t (ev tm x) H)
    (fun it s P G tm H => nextA G (ev tm it) s H)
    (fun it P G tm H => entryA (ev tm it) H)
    (fun x _ t ok P G tm H => typeAssertA P (ev tm x) t ok H)
    (fun x i P G tm H => extractX (ev tm x) i H)
    (fun c P G tm H => callX c P G tm H)
    (fun _ P G tm H => .fail 325)
    (fun _ P G tm H => .fail 326)
    (fun _ P G tm H => .fail 327)
    (fun _ _ P G tm H => .fail 328)
    (fun _ _ _ P G tm H => .fail 329)
    (fun _ _ P G tm H => .fail 330)
    o.op P G tm H

/-! ### regions that draw their order: a plan -/
def isFloat : Op → Bool
  | .move _ | .assign _ | .pick .. | .alloc _ | .box .. | .build .. | .buildSlice .. | .load .. | .nilCheck _ | .binOp .. | .unOp .. | .convert ..
  | .makeInterface .. | .makeFunc .. | .makeMap .. | .makeSlice .. | .slice .. | .fieldAddr .. | .field .. | .indexAddr .. | .index .. | .lookup .. | .typeAssert .. | .extract .. => true
  | .call { callee := .builtin .len, .. } | .call { callee := .builtin .cap, .. } | .call { callee := .builtin .min, .. } | .call { callee := .builtin .max, .. } => true
  | _ => false
/-- Does the operation make memory? -/
def isAlloc : Op → Bool
  | .alloc _ | .box .. | .buildSlice .. | .convert .. | .makeMap .. | .makeSlice .. => true
  | _ => false
/-- Does a conversion lead from rows to rows? -/
def rowConv (P : Program) (s d : TypeId) : Bool := match P.underlying s, P.underlying d with | some (.slice _), some (.slice _) => true | _, _ => false
/-- Does what floats hang on the heap? -/
def heapOp : Op → Bool
  | .load .. | .lookup .. | .alloc _ | .box .. | .buildSlice .. | .convert .. | .makeMap .. | .makeSlice .. => true
  | .binOp .eql .. | .binOp .neq .. => true
  | .call _ => true
  | _ => false
/-- Does it float, in this program? (A conversion of a row to a row marks the row.) -/
def isFloatP (P : Program) : Op → Bool
  | .convert s d _ => !rowConv P s d
  | op => isFloat op
/-- The edges that bind whichever order is drawn. -/
def edgesB (o : Oper) : List Edge := o.after.toList.filter fun e => Region.binds .any e
def readyB (done : Nat) (o : Oper) : Bool := (edgesB o).all fun e => Nat.testBit done e.on
def enumFrom (n : Nat) : List Oper → List (Nat × Oper)
  | [] => []
  | o :: l => (n, o) :: enumFrom (n + 1) l
/-- Does each that looks at the slot wait for this operation? -/
def flowB (ops : Array Oper) (i : Nat) (o : Oper) : Bool :=
  match o.dst with
  | none => true
  | some d => (enumFrom 0 ops.toList).all fun y => !((y.2.looksAt ops).any fun t => Nat.beq t d) || ((edgesB y.2).any fun e => Nat.beq e.on i)
def floatB (P : Program) (ops : Array Oper) (i : Nat) (o : Oper) : Bool := isFloatP P o.op && flowB ops i o
/-- In which order the operations are taken here: what floats comes as soon as it is ready. (Nothing hangs on its being right.) -/
def orderFrom (P : Program) (ops : Array Oper) : (fuel : Nat) → (left : List (Nat × Oper)) → (done : Nat) → List Nat
  | 0, _, _ => []
  | fuel + 1, left, done =>
    match left.filter fun x => readyB done x.2 with
    | [] => []
    | r :: rs =>
      match (r :: rs).find? fun x => floatB P ops x.1 x.2 with
      | some x => x.1 :: orderFrom P ops fuel (left.filter fun y => y.1 != x.1) (done ||| 2 ^ x.1)
      | none => r.1 :: orderFrom P ops fuel (left.filter fun y => y.1 != r.1) (done ||| 2 ^ r.1)
/-- Each slot has one writer, and who looks at it waits for that, or that for it; each edge that binds leads back. -/
def slotsOk (ops : Array Oper) : Bool :=
  (enumFrom 0 ops.toList).all fun x =>
    ((edgesB x.2).all fun e => Nat.blt e.on x.1) &&
    match x.2.dst with
    | none => true
    | some d => (enumFrom 0 ops.toList).all fun y => (Nat.beq y.1 x.1 || (match y.2.dst with | some d' => !Nat.beq d' d | none => true)) && (!((y.2.looksAt ops).any fun t => Nat.beq t d) || (((edgesB y.2).any fun e => Nat.beq e.on x.1) || ((edgesB x.2).any fun e => Nat.beq e.on y.1)))
def lookN (c : List (Nat × Nat)) (i : Nat) : Nat :=
  match c with
  | [] => 0
  | (j, m) :: c => bif Nat.beq j i then m else lookN c i
def closeN (c : List (Nat × Nat)) (o : Oper) : Nat := (edgesB o).foldr (fun e m => Nat.lor (Nat.lor (2 ^ e.on) (lookN c e.on)) m) 0
/-- The items of an order, checked: what is behind an operation that acts can't have come up ahead of it. 'fl': what floats and need not have come up; 'sure': what has come up; 'c': what comes up ahead of each. -/
def build (P : Program) (ops : Array Oper) : List Nat → (A : Nat) → (fl : List (Nat × Oper)) → (sure : Nat) → (c : List (Nat × Nat)) → Option (List PItem)
  | [], A, _, _, _ => if (enumFrom 0 ops.toList).all (fun x => Nat.testBit A x.1) then some [] else none
  | i :: is, A, fl, sure, c =>
    match ops[i]? with
    | none => none
    | some o =>
      if Nat.testBit A i || !readyB A o then none else
      if floatB P ops i o then
        if o.dst.isNone then none else
        (build P ops is (A ||| 2 ^ i) (fl ++ [(i, o)]) sure ((i, closeN c o) :: c)).map ({ ix := i, op := o, fl := true, chk := if isAlloc o.op then ((fl ++ [(i, o)]).map (·.2)).filter fun y => heapOp y.op else [] } :: ·)
      else if (enumFrom 0 ops.toList).all (fun y => Nat.testBit A y.1 || Nat.beq y.1 i || !readyB A y.2) then
        (build P ops is (A ||| 2 ^ i) (fl.filter fun y => !Nat.testBit (sure ||| 2 ^ i ||| closeN c o) y.1) (sure ||| 2 ^ i ||| closeN c o) ((i, closeN c o) :: c)).map
          ({ ix := i, op := o, fl := false, chk := ((fl.filter fun y => !Nat.testBit (sure ||| 2 ^ i ||| closeN c o) y.1).map (·.2)).filter fun y => heapOp y.op } :: ·)
      else none
def plan (P : Program) (ops : Array Oper) : Option (List PItem) :=
  if P.follows .mixedOrders && slotsOk ops then build P ops (orderFrom P ops ops.size (enumFrom 0 ops.toList) 0) 0 [] 0 [] else none
end Go.Proofs.YtabllhhainepgaaGreatDoor.Ab
/-
  The abstract machine: regions, frames, steps, the run.
-/
namespace Go.Proofs.YtabllhhainepgaaGreatDoor.Ab

mutual
def AV.beq : AV → AV → Bool
  | .bool a, .bool b => a == b
  | .int k m, .int k' n => decide (k = k') && eqI m n
  | .str a A, .str b B => Nat.beq a b && Nat.beq A B
  | .nilp, .nilp | .nils, .nils | .nilm, .nilm | .nilf, .nilf | .nili, .nili | .junk, .junk | .any, .any => true
  | .sliceE a i, .sliceE b j => Nat.beq a b && Nat.beq i j
  | .ptr a i, .ptr b j => Nat.beq a b && Nat.beq i j
  | .slice a i l c g, .slice b j l' c' g' => Nat.beq a b && Nat.beq i j && Nat.beq l l' && Nat.beq c c' && g == g'
  | .map a, .map b => Nat.beq a b
  | .func f a b, .func f' a' b' => Nat.beq f f' && beqL a a' && beqL b b'
  | .yield l, .yield l' => Nat.beq l l'
  | .meth n v, .meth n' v' => n == n' && AV.beq v v'
  | .iface t v, .iface t' v' => Nat.beq t t' && AV.beq v v'
  | .agg l, .agg l' => beqL l l'
  | .tuple l, .tuple l' => beqL l l'
  | _, _ => false
def beqL : List AV → List AV → Bool
  | [], [] => true
  | a :: l, b :: l' => AV.beq a b && beqL l l'
  | _, _ => false
end

mutual
/-- Are all blocks that it names below n? -/
def AV.under (n : Nat) : AV → Bool
  | .ptr a _ => Nat.blt a n
  | .slice a _ _ _ _ => Nat.blt a n
  | .sliceE a _ => Nat.blt a n
  | .map a => Nat.blt a n
  | .yield l => Nat.blt l n
  | .func _ a b => underL n a && underL n b
  | .meth _ v => AV.under n v
  | .iface _ v => AV.under n v
  | .agg l => underL n l
  | .tuple l => underL n l
  | _ => true
def underL (n : Nat) : List AV → Bool
  | [] => true
  | a :: l => AV.under n a && underL n l
end
noncomputable def onIntB (v : AV) : (IntKind → Int → Bool) → Bool → Bool :=
  AV.rec (motive_1 := fun _ => (IntKind → Int → Bool) → Bool → Bool) (motive_2 := fun _ => Unit) (fun _ e => e) (fun _ _ e => e) (fun a0 a1 k _ => k a0 a1) (fun _ _ _ e => e) (fun _ e => e) (fun _ _ _ e => e) (fun _ e => e) (fun _ _ _ _ _ _ e => e) (fun _ _ _ e => e) (fun _ e => e) (fun _ _ e => e) (fun _ e => e) (fun _ _ _ _ _ _ e => e) (fun _ _ e => e) (fun _ _ _ _ e => e) (fun _ e => e) (fun _ _ _ _ e => e) (fun _ _ _ e => e) (fun _ _ _ e => e) (fun _ e => e) () (fun _ _ _ _ => ()) v
/-- The same, whole numbers first. -/
noncomputable def beqQ (a b : AV) : Bool := onIntB a (fun k m => onIntB b (fun k' n => and (Nat.beq (kindCode k) (kindCode k')) (eqI2 m n)) false) (AV.beq a b)
noncomputable def rowsBeq (new n : Nat) (c : Tr (List AV)) (z : List AV) (c' : Tr (List AV)) (z' : List AV) : Bool :=
  (List.range n).all fun i => beqL (getR c (path i) z) (getR c' (path i) z') && underL new (getR c (path i) z)
noncomputable def objBeq (new : Nat) : AObj → AObj → Bool
  | .bytes n N e st, .bytes n' N' e' st' => Nat.beq n n' && Nat.beq N N' && Nat.beq e e' && (st' || !st)
  | .rows n s c z e, .rows n' s' c' z' e' => Nat.beq n n' && Nat.beq s s' && Nat.beq e e' && rowsBeq new n c z c' z'
  | .map [] a, .map [] b => Nat.beq a b
  | _, _ => false
/-- A value that names a block just made, against one that names block b. -/
def sameNew (new : Nat) : AV → AV → Option Nat
  | .ptr a i, .ptr b j => bif Nat.beq a new && Nat.beq i j then some b else none
  | .slice a i l c g, .slice b j l' c' g' => bif Nat.beq a new && Nat.beq i j && Nat.beq l l' && Nat.beq c c' && g == g' then some b else none
  | .map a, .map b => bif Nat.beq a new then some b else none
  | _, _ => none
/-- Would the operation, carried out now, yield what it yielded? -/
noncomputable def chkV (P : Program) (G : Nat) (o : Oper) (tm : TM) (H : AH) : Bool :=
  match o.dst with
  | none => false
  | some d =>
    match opA P G o tm H with
    | .val v H' =>
      bif Nat.beq H'.size H.size then beqQ v (getT tm d)
      else match sameNew H.size v (getT tm d) with
        | some b => Nat.blt b H.size && objBeq H.size (H'.get H.size) (H.get b)
        | none => false
    | _ => false
/-- Is the operation wanted? none: it can't be told. -/
noncomputable def wantA (ops : Array Oper) (tm : TM) (o : Oper) : Option Bool :=
  match o.guard with
  | none => some true
  | some (j, want) =>
    match (ops[j]?).bind (·.dst) with
    | none => some false
    | some d => match getT tm d with
      | .bool b => some (b == want)
      | .junk => none
      | .any => none
      | _ => some false
noncomputable def chkB (P : Program) (G : Nat) (ops : Array Oper) (o : Oper) (tm : TM) (H : AH) : Bool :=
  match wantA ops tm o with
  | some true => chkV P G o tm H
  | some false => true
  | none => false
noncomputable def chksB (P : Program) (G : Nat) (ops : Array Oper) (tm : TM) (H : AH) (l : List Oper) : Bool := List.rec (motive := fun _ => Program → Nat → Array Oper → TM → AH → Bool) (fun _ _ _ _ _ => true) (fun o _ ih P G ops tm H => and (chkB P G ops o tm H) (ih P G ops tm H)) l P G ops tm H
/-- Carry it out, pass it by, or say that it can't be told. -/
noncomputable def onWant (ops : Array Oper) (tm : TM) (o : Oper) (yes no : Unit → X) : X :=
  match wantA ops tm o with | some true => yes () | some false => no () | none => .fail 3
noncomputable def putK (n : Nat) (tm : TM) (d : Option Tmp) (v : AV) (k : TM → X) : X :=
  Option.rec (motive := fun _ => Nat → TM → AV → (TM → X) → X) (fun _ tm _ k => k tm)
    (fun d n tm v k => Bool.rec (motive := fun _ => Nat → TM → AV → (TM → X) → X) (fun _ _ _ _ => .fail 1) (fun d tm v k => putT tm d v k) (Nat.blt d n) d tm v k) d n tm v k
abbrev RCont := Program → Nat → Nat → Array Oper → TM → AH → X
/-- What an operation of a region came to, then the rest. -/
noncomputable def regX (x : X) (o : Oper) (rest : List Oper) (ih : RCont) (P : Program) (G n : Nat) (ops : Array Oper) (tm : TM) : X :=
  X.rec (motive := fun _ => Oper → List Oper → RCont → Program → Nat → Nat → Array Oper → TM → X)
    (fun v H' o _ ih P G n ops tm => putK n tm o.dst v fun tm' => ih P G n ops tm' H')
    (fun f args H' o rest _ _ _ _ _ tm => .enterR f args (o :: rest) tm H') (fun l args H' o rest _ _ _ _ _ tm => .roundR l args (o :: rest) tm H') (fun c o _ _ _ _ _ _ _ => .failAt c o.pos)
    (fun c p _ _ _ _ _ _ _ _ => .failAt c p) (fun _ _ _ _ _ _ _ _ _ _ => .fail 5) (fun _ _ _ _ _ _ _ _ _ _ _ _ _ => .fail 5) (fun _ _ _ _ _ _ _ _ _ _ _ _ _ => .fail 5) (fun _ _ _ _ _ _ _ _ _ _ _ _ _ => .fail 5) (fun _ _ _ _ _ _ _ _ _ _ _ _ _ => .fail 5) (fun _ _ _ _ _ _ _ _ _ _ _ => .fail 5) (fun _ _ _ _ _ _ _ _ _ _ => .fail 5) (fun _ _ iha ihb o rest ih P G n ops tm => .fork (iha o rest ih P G n ops tm) (ihb o rest ih P G n ops tm))
    x o rest ih P G n ops tm
/-- One operation of a region, then the rest. -/
noncomputable def regOp (o : Oper) (rest : List Oper) (ih : RCont) (P : Program) (G n : Nat) (ops : Array Oper) (tm : TM) (H : AH) : X := regX (opA P G o tm H) o rest ih P G n ops tm
noncomputable def regRun (P : Program) (G n : Nat) (ops : Array Oper) (l : List Oper) (tm : TM) (H : AH) : X :=
  List.rec (motive := fun _ => RCont) (fun _ _ _ _ tm H => clearT tm fun tm => .fin tm H)
    (fun o rest ih P G n ops tm H =>
      Option.rec (motive := fun _ => Oper → List Oper → RCont → RCont) (fun o rest ih P G n ops tm H => regOp o rest ih P G n ops tm H)
        (fun _ o rest ih P G n ops tm H => onWant ops tm o (fun _ => regOp o rest ih P G n ops tm H) (fun _ => putK n tm o.dst (.tuple []) fun tm' => ih P G n ops tm' H))
        o.guard o rest ih P G n ops tm H) l P G n ops tm H
/-- A value of an operation in a region that draws: laid, then what may come up later is asked again. -/
noncomputable def dregVal (chk : List Oper) (pos : String) (dst : Option Tmp) (ih : RCont) (P : Program) (G n : Nat) (ops : Array Oper) (tm : TM) (v : AV) (H : AH) : X :=
  putK n tm dst v fun tm' => onB (chksB P G ops tm' H chk) (fun _ => ih P G n ops tm' H) (fun _ => .failAt 4 pos)
noncomputable def dregRun (P : Program) (G n : Nat) (ops : Array Oper) (l : List PItem) (tm : TM) (H : AH) : X :=
  List.rec (motive := fun _ => RCont) (fun _ _ _ _ tm H => clearT tm fun tm => .fin tm H)
    (fun p rest ih P G n ops tm H =>
      onWant ops tm p.op
        (fun _ => onOp (opA P G p.op tm H) (fun v H' => dregVal p.chk p.op.pos p.op.dst ih P G n ops tm v H')
          (fun f args H' => onB p.fl (fun _ => .fail 7) (fun _ => .enterD f args (p :: rest) tm H')) (fun l args H' => onB p.fl (fun _ => .fail 7) (fun _ => .roundD l args (p :: rest) tm H')) (fun c => .failAt c p.op.pos))
        (fun _ => putK n tm p.op.dst (.tuple []) fun tm' => ih P G n ops tm' H)) l P G n ops tm H
def exitA (id : Nat) : List AItem → Option (List AItem)
  | .inBlock id' :: k => bif Nat.beq id' id then some k else exitA id k
  | _ :: k => exitA id k
  | [] => none
def gotoA (l : Nat) : List AItem → Option (List AItem)
  | .inScope body :: k => match findLabel body l with
    | some rest => some (.code rest :: .inScope body :: k)
    | none => gotoA l k
  | _ :: k => gotoA l k
  | [] => none
noncomputable def argsK (l : List AV) (t : Tr AV) (i : Nat) (k : Tr AV → X) : X :=
  List.rec (motive := fun _ => Tr AV → Nat → (Tr AV → X) → X) (fun t _ k => k t) (fun a _ ih t i k => setV (path i) t a .junk fun t' => fNat (Nat.succ i) fun j => ih t' j k) l t i k
/-- A function's body and the number of its slots. -/
def bodyOf (P : Program) (f : Nat) : Option Code := (P.funcs[f]?).bind (·.body)
def slotsOf (P : Program) (f : Nat) : Nat := ((P.funcs[f]?).map (·.ntmps)).getD 0
/-- Which slots are named in several places: the others may be forgotten behind their region. (Nothing hangs on its being right.) -/
def bitOf : Operand → Nat
  | .tmp t => Nat.pow 2 t
  | _ => 0
def bitsOps : List Oper → Nat
  | [] => 0
  | o :: l => Nat.lor (match o.dst with | some d => Nat.pow 2 d | none => 0) (Nat.lor (o.op.operands.toList.foldr (fun x m => Nat.lor (bitOf x) m) 0) (bitsOps l))
def scan : Code → Nat → Nat → Nat × Nat
  | .region _ ops _, o, m => (Nat.lor o (bitsOps ops.toList), Nat.lor m (Nat.land o (bitsOps ops.toList)))
  | .seq a b, o, m => scan b (scan a o m).1 (scan a o m).2
  | .cond c a b, o, m => scan b (scan a o (Nat.lor m (bitOf c))).1 (scan a o (Nat.lor m (bitOf c))).2
  | .block _ b, o, m => scan b o m
  | .loop b, o, m => scan b o m
  | .scope b, o, m => scan b o m
  | .rangeFunc f ps a b, o, m => scan b (scan a o (Nat.lor m (Nat.lor (bitOf f) (ps.toList.foldr (fun t m => Nat.lor (Nat.pow 2 t) m) 0)))).1 (scan a o (Nat.lor m (Nat.lor (bitOf f) (ps.toList.foldr (fun t m => Nat.lor (Nat.pow 2 t) m) 0)))).2
  | _, o, m => (o, m)
def maskOf (P : Program) (f : Nat) : Nat :=
  match P.funcs[f]? with
  | some fn => match fn.body with
    | some c => Nat.lor (Nat.sub (Nat.pow 2 (Nat.add fn.params.size fn.nfree)) 1) (Nat.lor (fn.results.toList.foldr (fun r m => Nat.lor (match r with | .tmp t => Nat.pow 2 t | .cell t _ => Nat.pow 2 t) m) 0) (scan c 0 0).2)
    | none => 0
  | none => 0
noncomputable def onC (o : Option Code) : (Code → X) → X → X := Option.rec (motive := fun _ => (Code → X) → X → X) (fun _ e => e) (fun n k _ => k n) o
/-- What goes on: a frame in its parts (function, slots' number, slots, items, 'it returns', loops' blocks, the round that it is), its callers, the heap. -/
abbrev Cont := Nat → Nat → TM → List AItem → Bool → List Nat → Option Nat → List AF → AH → X
/-- A call that is answered by a law of its own. -/
abbrev Hook := List AV → AH → Option (AV × AH)
abbrev Hooks := Nat → Option Hook
noncomputable def enterA (P : Program) (ih : Cont) (f : Nat) (args : List AV) (cs : List AF) (H : AH) : X :=
  onC (bodyOf P f) (fun c => argsK args .nil 0 fun tr => fNat (slotsOf P f) fun n => fNat (maskOf P f) fun mask => ih f n (.mk mask .nil tr) [.code c] false [] none cs H) (.fail 400)
/-- A frame goes on with a value: its first item waited for it. -/
noncomputable def finI (P : Program) (G : Nat) (ih : Cont) (v : AV) (cs : List AF) (H : AH) (fn n : Nat) (tm : TM) (i : AItem) (k : List AItem) (ret : Bool) (d : List Nat) (r : Option Nat) : X :=
  match i with
  | .reg ops (o :: rest) => putK n tm o.dst v fun tm => ih fn n tm (.reg ops rest :: k) ret d r cs H
  | .dwait ops (p :: rest) => putK n tm p.op.dst v fun tm => ih fn n tm (.dreg ops p.chk rest :: k) ret d r cs H
  | .inRF l => ih fn n tm (.endRF l :: k) ret d r cs H
  | _ => .fail 413
noncomputable def finA (P : Program) (G : Nat) (ih : Cont) (fr : AF) (v : AV) (cs : List AF) (H : AH) : X :=
  AF.rec (motive := fun _ => Program → Nat → Cont → AV → List AF → AH → X) (fun fn n tm todo ret d r P G ih v cs H =>
    match todo with
    | i :: k => finI P G ih v cs H fn n tm i k ret d r
    | [] => .fail 414) fr P G ih v cs H
noncomputable def roundTm (l : List (Tmp × AV)) (n : Nat) (t : TM) (k : TM → X) : X :=
  List.rec (motive := fun _ => Nat → TM → (TM → X) → X) (fun _ t k => k t) (fun p _ ih n t k => onB (Nat.blt p.1 n) (fun _ => putT t p.1 p.2 fun t' => ih n t' k) (fun _ => .fail 420)) l n t k
/-- A round of a loop over a function: a frame of its own, on the loop's slots. -/
noncomputable def roundA (ih : Cont) (l : Nat) (args : List AV) (cs : List AF) (H : AH) : X :=
  match H.get l with
  | .loop _ _ fn mask tr n ps asg body _ => onB (Nat.beq args.length ps.size) (fun _ => roundTm (ps.toList.zip args) n (.mk mask .nil tr) fun tm => ih fn n tm [.code asg, .beginRound, .code body] false [] (some l) cs H) (fun _ => .fail 421)
  | _ => .fail 422
/-- The frame ends, by a jump or at its end. -/
noncomputable def leaveA (P : Program) (G : Nat) (ih : Cont) (jump : Option Code) (isRet : Bool) (fn n : Nat) (tm : TM) (d : List Nat) (r : Option Nat) (cs : List AF) (H : AH) : X :=
  match r with
  | none => onB isRet (fun _ => ih fn n tm [] true d none cs H) (fun _ => .fail 430)
  | some l =>
    match H.get l, cs with
    | .loop _ _ fn mask tr n ps asg body d, c :: cs =>
      onB (Nat.ble G l) (fun _ => Option.rec (motive := fun _ => Nat → Nat → Nat → Tr AV → Nat → Array Tmp → Code → Code → Nat → AF → List AF → AH → X)
        (fun l fn mask tr n ps asg body d c cs H => H.setK l (.loop .ready none fn mask tr n ps asg body d) fun H' => finA P G ih c (.bool true) cs H')
        (fun j l fn mask tr n ps asg body d c cs H => H.setK l (.loop .done (some j) fn mask tr n ps asg body d) fun H' => finA P G ih c (.bool false) cs H') jump l fn mask tr n ps asg body d c cs H) (fun _ => .fail 432)
    | _, _ => .fail 431
noncomputable def resA (P : Program) (tm : TM) (H : AH) : List ResultVar → Option (List AV)
  | [] => some []
  | .tmp t :: l => match resA P tm H l with | some r => some (getT tm t :: r) | none => none
  | .cell a t :: l => match getT tm a with
    | .ptr b off => match loadA P t b off H, resA P tm H l with | some v, some r => some (v :: r) | _, _ => none
    | _ => none
def resultsOf (P : Program) (f : Nat) : List ResultVar := ((P.funcs[f]?).map (·.results.toList)).getD []
def oneOf : List AV → AV
  | [v] => v
  | vs => .tuple vs
noncomputable def retA (ih : Cont) (P : Program) (G fn n : Nat) (tm : TM) (todo : List AItem) (d : List Nat) (r : Option Nat) (cs : List AF) (H : AH) : X :=
  match d with
  | b :: ds => match H.get b with
    | .deferred true => onB (Nat.ble G b) (fun _ => H.setK b (.deferred false) fun H' => ih fn n tm todo true ds r cs H') (fun _ => .fail 443)
    | _ => .fail 440
  | [] =>
    match P.funcs[fn]? with
    | none => .fail 441
    | some _ =>
      onOL (resA P tm H (resultsOf P fn)) (fun vs =>
        match cs with
        | [] => .done (oneOf vs) H
        | c :: cs => finA P G ih c (oneOf vs) cs H) (.fail 442)
noncomputable def onPlan (o : Option (List PItem)) : (List PItem → X) → X → X := Option.rec (motive := fun _ => (List PItem → X) → X → X) (fun _ e => e) (fun n k _ => k n) o
noncomputable def onItems (o : Option (List AItem)) : (List AItem → X) → (Unit → X) → X := Option.rec (motive := fun _ => (List AItem → X) → (Unit → X) → X) (fun _ e => e ()) (fun n k _ => k n) o
noncomputable def onHook (o : Option Hook) : (Hook → X) → (Unit → X) → X := Option.rec (motive := fun _ => (Hook → X) → (Unit → X) → X) (fun _ e => e ()) (fun n k _ => k n) o
noncomputable def onVH (o : Option (AV × AH)) : (AV → AH → X) → (Unit → X) → X := Option.rec (motive := fun _ => (AV → AH → X) → (Unit → X) → X) (fun _ e => e ()) (fun p k _ => k p.1 p.2) o
noncomputable def callF (ih : Cont) (P : Program) (K : Hooks) (G f : Nat) (args : List AV) (c : AF) (cs : List AF) (H : AH) : X :=
  onHook (K f) (fun h => onVH (h args H) (fun v H' => finA P G ih c v cs H') (fun _ => enterA P ih f args (c :: cs) H)) (fun _ => enterA P ih f args (c :: cs) H)
/-- A loop over a function: its record is laid, the function is called with what begins a round. -/
noncomputable def rangeFn (ih : Cont) (P : Program) (K : Hooks) (G : Nat) (f : Operand) (ps : Array Tmp) (asg body : Code) (k : List AItem) (fn n : Nat) (tm : TM) (d : List Nat) (r : Option Nat) (cs : List AF) (H : AH) : X :=
  match r with
  | none => H.pushK (.deferred true) fun H1 => fNat H.size fun D => fNat (Nat.succ D) fun L => H1.pushK (.loop .ready none fn tm.mask tm.tr n ps asg body D) fun H2 =>
      onOp (callV P (ev tm f) [.yield L] H2) (fun _ _ => .fail 470) (fun g args H3 => callF ih P K G g args (.mk fn n tm (.inRF L :: k) false (D :: d) none) cs H3) (fun _ _ _ => .fail 471) (fun c => .fail c)
  | some l => match H.get l with
    | .loop _ _ _ _ _ _ _ _ _ D => H.pushK (.loop .ready none fn tm.mask tm.tr n ps asg body D) fun H1 => fNat H.size fun L =>
      onOp (callV P (ev tm f) [.yield L] H1) (fun _ _ => .fail 470) (fun g args H3 => callF ih P K G g args (.mk fn n tm (.inRF L :: k) false d (some l)) cs H3) (fun _ _ _ => .fail 471) (fun c => .fail c)
    | _ => .fail 472
/-- What an item does: the rest of the items, the frame's parts, callers, heap. -/
abbrev ItemT := Cont → Program → Hooks → Nat → List AItem → Nat → Nat → TM → List Nat → Option Nat → List AF → AH → X
noncomputable def regA (ops : Array Oper) (rest : List Oper) (ih : Cont) (P : Program) (K : Hooks) (G : Nat) (k : List AItem) (fn n : Nat) (tm : TM) (d : List Nat) (r : Option Nat) (cs : List AF) (H : AH) : X :=
  onReg (regRun P G n ops rest tm H) (fun tm H' => ih fn n tm k false d r cs H')
    (fun f args rest tm H' => callF ih P K G f args (.mk fn n tm (.reg ops rest :: k) false d r) cs H')
    (fun l args rest tm H' => roundA ih l args (.mk fn n tm (.reg ops rest :: k) false d r :: cs) H')
noncomputable def dregA (ops : Array Oper) (rest : List PItem) (ih : Cont) (P : Program) (K : Hooks) (G : Nat) (k : List AItem) (fn n : Nat) (tm : TM) (d : List Nat) (r : Option Nat) (cs : List AF) (H : AH) : X :=
  onDreg (dregRun P G n ops rest tm H) (fun tm H' => ih fn n tm k false d r cs H')
    (fun f args rest tm H' => callF ih P K G f args (.mk fn n tm (.dwait ops rest :: k) false d r) cs H')
    (fun l args rest tm H' => roundA ih l args (.mk fn n tm (.dwait ops rest :: k) false d r :: cs) H')
/-- A piece of code stands next: down to its first region, call or jump. -/
noncomputable def codeA (c : Code) : ItemT :=
  Code.rec (motive := fun _ => ItemT)
    (fun ih _ _ _ k fn n tm d r cs H => ih fn n tm k false d r cs H)
    (fun _ ops draw ih P K G k fn n tm d r cs H => Bool.rec (motive := fun _ => Array Oper → ItemT) (fun ops ih P K G k fn n tm d r cs H => regA ops ops.toList ih P K G k fn n tm d r cs H)
      (fun ops ih P K G k fn n tm d r cs H => onPlan (plan P ops) (fun l => dregA ops l ih P K G k fn n tm d r cs H) (.failAt 451 ((ops.getD 0 default).pos))) draw ops ih P K G k fn n tm d r cs H)
    (fun _ b iha _ ih P K G k fn n tm d r cs H => iha ih P K G (.code b :: k) fn n tm d r cs H)
    (fun c _ _ iha ihb ih P K G k fn n tm d r cs H => onBool (ev tm c) (fun t => Bool.rec (motive := fun _ => ItemT → ItemT → ItemT) (fun _ ihb ih P K G k fn n tm d r cs H => ihb ih P K G k fn n tm d r cs H) (fun iha _ ih P K G k fn n tm d r cs H => iha ih P K G k fn n tm d r cs H) t iha ihb ih P K G k fn n tm d r cs H) (.fail 450))
    (fun id _ ihb ih P K G k fn n tm d r cs H => ihb ih P K G (.inBlock id :: k) fn n tm d r cs H)
    (fun b ihb ih P K G k fn n tm d r cs H => ihb ih P K G (.inLoop b :: k) fn n tm d r cs H)
    (fun f ps asg body _ _ ih P K G k fn n tm d r cs H => rangeFn ih P K G f ps asg body k fn n tm d r cs H)
    (fun id ih P _ G k fn n tm d r cs H => onItems (exitA id k) (fun k' => ih fn n tm k' false d r cs H) (fun _ => leaveA P G ih (some (.exit id)) false fn n tm d r cs H))
    (fun b ihb ih P K G k fn n tm d r cs H => ihb ih P K G (.inScope b :: k) fn n tm d r cs H)
    (fun _ ih _ _ _ k fn n tm d r cs H => ih fn n tm k false d r cs H)
    (fun l ih P _ G k fn n tm d r cs H => onItems (gotoA l k) (fun k' => ih fn n tm k' false d r cs H) (fun _ => leaveA P G ih (some (.goto l)) false fn n tm d r cs H))
    (fun ih P _ G _ fn n tm d r cs H => leaveA P G ih (some .ret) true fn n tm d r cs H)
    (fun w _ _ _ _ _ _ _ _ _ _ _ _ => .failAt 455 w) c
noncomputable def beginA (l : Option Nat) (ih : Cont) (G : Nat) (k : List AItem) (fn n : Nat) (tm : TM) (d : List Nat) (cs : List AF) (H : AH) : X :=
  match l with
  | none => .fail 457
  | some l => match H.get l with
    | .loop .ready p f' mask tr n' ps asg body D => onB (Nat.ble G l) (fun _ => H.setK l (.loop .busy p f' mask tr n' ps asg body D) fun H' => ih fn n tm k false d (some l) cs H') (fun _ => .fail 458)
    | _ => .fail 460
noncomputable def endRFA (l : Nat) (ih : Cont) (G : Nat) (k : List AItem) (fn n : Nat) (tm : TM) (d : List Nat) (r : Option Nat) (cs : List AF) (H : AH) : X :=
  match H.get l with
  | .loop st p f' mask tr n' ps asg body D => onB (Nat.ble G l) (fun _ =>
      match st with
      | .busy => .fail 461
      | _ => H.setK l (.loop .exhausted p f' mask tr n' ps asg body D) fun H' => onC p (fun c => ih fn n tm (.code c :: k) false d r cs H') (ih fn n tm k false d r cs H')) (fun _ => .fail 459)
  | _ => .fail 462
/-- An item stands next. -/
noncomputable def itemA (i : AItem) : ItemT :=
  AItem.rec (motive := fun _ => ItemT)
    (fun c ih P K G k fn n tm d r cs H => codeA c ih P K G k fn n tm d r cs H)
    (fun _ ih _ _ _ k fn n tm d r cs H => ih fn n tm k false d r cs H)
    (fun b ih P K G k fn n tm d r cs H => codeA b ih P K G (.inLoop b :: k) fn n tm d r cs H)
    (fun _ ih _ _ _ k fn n tm d r cs H => ih fn n tm k false d r cs H)
    (fun ops rest ih P K G k fn n tm d r cs H => regA ops rest ih P K G k fn n tm d r cs H)
    (fun ops chk rest ih P K G k fn n tm d r cs H => onB (chksB P G ops tm H chk) (fun _ => dregA ops rest ih P K G k fn n tm d r cs H) (fun _ => .failAt 412 ((ops.getD 0 default).pos)))
    (fun _ _ _ _ _ _ _ _ _ _ _ _ _ _ => .fail 411)
    (fun _ _ _ _ _ _ _ _ _ _ _ _ _ => .fail 456)
    (fun l ih _ _ G k fn n tm d r cs H => endRFA l ih G k fn n tm d r cs H)
    (fun ih _ _ G k fn n tm d r cs H => beginA r ih G k fn n tm d cs H) i
noncomputable def stepA (ih : Cont) (P : Program) (K : Hooks) (G fn n : Nat) (tm : TM) (todo : List AItem) (ret : Bool) (d : List Nat) (r : Option Nat) (cs : List AF) (H : AH) : X :=
  Bool.rec (motive := fun _ => Cont → Program → Hooks → Nat → Nat → Nat → TM → List AItem → List Nat → Option Nat → List AF → AH → X)
    (fun ih P K G fn n tm todo d r cs H => List.rec (motive := fun _ => Cont → Program → Hooks → Nat → Nat → Nat → TM → List Nat → Option Nat → List AF → AH → X)
      (fun ih P _ G fn n tm d r cs H => leaveA P G ih none true fn n tm d r cs H)
      (fun i k _ ih P K G fn n tm d r cs H => itemA i ih P K G k fn n tm d r cs H) todo ih P K G fn n tm d r cs H)
    (fun ih P _ G fn n tm todo d r cs H => retA ih P G fn n tm todo d r cs H) ret ih P K G fn n tm todo d r cs H
noncomputable def runA (s : Nat) (P : Program) (K : Hooks) (G : Nat) : Cont := fun fn n tm todo ret d r cs H =>
  Nat.rec (motive := fun _ => Program → Hooks → Nat → Cont) (fun _ _ _ fn n tm todo ret d r cs H => .next (.mk fn n tm todo ret d r) cs H)
    (fun _ ih P K G fn n tm todo ret d r cs H => stepA (ih P K G) P K G fn n tm todo ret d r cs H) s P K G fn n tm todo ret d r cs H
noncomputable def callRun (P : Program) (K : Hooks) (G s f : Nat) (args : List AV) (H : AH) : X := enterA P (runA s P K G) f args [] H
end Go.Proofs.YtabllhhainepgaaGreatDoor.Ab
