/-
  An abstract machine that Lean's kernel can run: data. This text speaks of no program.
-/
import Derived.WalkKit
import Derived.Orders
namespace Go.Proofs.YtmapmbfohilklaaGreat.Ab

/-! ### trees indexed by numbers: the place of n is a path -/
inductive Tr (α : Type) where
  | nil
  | node (v : α) (l r : Tr α)
def pathF : Nat → Nat → List Bool
  | 0, _ => []
  | f + 1, n => bif Nat.beq n 0 then [] else (Nat.beq (Nat.mod n 2) 1) :: pathF f (bif Nat.beq (Nat.mod n 2) 1 then Nat.div n 2 else Nat.sub (Nat.div n 2) 1)
def path (n : Nat) : List Bool := pathF n n

/-! ### bytes in one number -/
noncomputable def byteAt (N i : Nat) : Nat := Nat.mod (Nat.div N (Nat.pow 256 i)) 256
noncomputable def cutB (N i k : Nat) : Nat := Nat.mod (Nat.div N (Nat.pow 256 i)) (Nat.pow 256 k)
/-- k bytes M at place i of N. -/
noncomputable def putB (N i k M : Nat) : Nat :=
  Nat.add (Nat.mod N (Nat.pow 256 i)) (Nat.mul (Nat.pow 256 i) (Nat.add M (Nat.mul (Nat.pow 256 k) (Nat.div N (Nat.pow 256 (Nat.add i k))))))
/-- A row of bytes is kept with four bytes ahead of it that hang on all of it (so that the kernel's table tells rows apart that begin alike). -/
noncomputable def coreB (M : Nat) : Nat := Nat.div M 4294967296
noncomputable def sealB (N : Nat) : Nat := Nat.add (Nat.mul N 4294967296) (Nat.mod N 4294967291)
def pack : List UInt8 → Nat
  | [] => 0
  | b :: l => b.toNat + 256 * pack l
/-- n bytes of a number, as a list. -/
noncomputable def unpack (n : Nat) : Nat → List Nat := Nat.rec (fun _ => []) (fun _ ih N => Nat.mod N 256 :: ih (Nat.div N 256)) n

/-! ### values -/
inductive AV where
  | junk
  | bool (b : Bool)
  | int (k : IntKind) (n : Int)
  | str (len N : Nat)
  | nilp
  | ptr (b off : Nat)
  | nils
  | slice (b off len cap : Nat) (grown : Bool)
  | sliceE (b off : Nat)
  | nilm
  | map (b : Nat)
  | nilf
  | func (f : Nat) (first captured : List AV)
  | yield (l : Nat)
  | meth (name : String) (recv : AV)
  | nili
  | iface (t : Nat) (v : AV)
  | agg (l : List AV)
  | tuple (l : List AV)
  | any

/-- What lies in a block. 'rows': n rows of s cells each; a row that is not set is z. -/
inductive AObj where
  | dead
  | bytes (n N : Nat) (elem : TypeId) (st : Bool)
  | rows (n s : Nat) (c : Tr (List AV)) (z : List AV) (elem : TypeId)
  | map (es : List (AV × AV × Nat)) (clock : Nat)
  | strIter (len N pos : Nat)
  | mapIter (m : Option Nat) (since : Nat) (seen : List Nat) (stepped : Nat)
  | loop (st : LoopState) (pending : Option Code) (fn : Nat) (mask : Nat) (tmps : Tr AV) (ntmps : Nat) (params : Array Tmp) (assign body : Code) (defers : Nat)
  | deferred (there : Bool)

structure AH where
  size : Nat
  tr : Tr AObj
/-- The slots that one region alone names, while it runs. -/
inductive Lo where
  | nil
  | cons (t : Nat) (v : AV) (r : Lo)
/-- A frame's slots. A bit of 'mask': the slot is named in several places. -/
structure TM where
  mask : Nat
  lo : Lo
  tr : Tr AV
structure PItem where
  ix : Nat
  op : Oper
  fl : Bool
  chk : List Oper
inductive AItem where
  | code (c : Code)
  | inBlock (id : Nat)
  | inLoop (c : Code)
  | inScope (c : Code)
  | reg (ops : Array Oper) (rest : List Oper)
  | dreg (ops : Array Oper) (chk : List Oper) (rest : List PItem)
  | dwait (ops : Array Oper) (rest : List PItem)
  | inRF (l : Nat)
  | endRF (l : Nat)
  | beginRound
structure AF where
  fn : Nat
  n : Nat
  tm : TM
  todo : List AItem
  ret : Bool
  defers : List Nat
  round : Option Nat
/-- What an operation, a region or a step comes to. -/
inductive X where
  | val (v : AV) (H : AH)
  | enter (f : Nat) (args : List AV) (H : AH)
  | round (l : Nat) (args : List AV) (H : AH)
  | fail (n : Nat)
  | failAt (n : Nat) (pos : String)
  | fin (tm : TM) (H : AH)
  | enterR (f : Nat) (args : List AV) (rest : List Oper) (tm : TM) (H : AH)
  | roundR (l : Nat) (args : List AV) (rest : List Oper) (tm : TM) (H : AH)
  | enterD (f : Nat) (args : List AV) (rest : List PItem) (tm : TM) (H : AH)
  | roundD (l : Nat) (args : List AV) (rest : List PItem) (tm : TM) (H : AH)
  | next (f : AF) (cs : List AF) (H : AH)
  | done (v : AV) (H : AH)

/-! ### reading and writing trees -/
noncomputable def getV (t : Tr AV) : List Bool → AV → AV :=
  Tr.rec (motive := fun _ => List Bool → AV → AV) (fun _ d => d)
    (fun v _ _ gl gr p d => List.rec (motive := fun _ => (List Bool → AV → AV) → (List Bool → AV → AV) → AV → AV → AV) (fun _ _ v _ => v)
      (fun b p' _ gl gr _ d => Bool.rec (motive := fun _ => (List Bool → AV → AV) → (List Bool → AV → AV) → List Bool → AV → AV) (fun _ gr p' d => gr p' d) (fun gl _ p' d => gl p' d) b gl gr p' d) p gl gr v d) t
noncomputable def setV (p : List Bool) : Tr AV → AV → AV → (Tr AV → X) → X :=
  List.rec (motive := fun _ => Tr AV → AV → AV → (Tr AV → X) → X)
    (fun t x _ k => Tr.rec (motive := fun _ => AV → (Tr AV → X) → X) (fun x k => k (.node x .nil .nil)) (fun _ l r _ _ x k => k (.node x l r)) t x k)
    (fun b _ ih t x d k => Tr.rec (motive := fun _ => Bool → (Tr AV → AV → AV → (Tr AV → X) → X) → AV → AV → (Tr AV → X) → X)
      (fun b ih x d k => Bool.rec (motive := fun _ => (Tr AV → AV → AV → (Tr AV → X) → X) → AV → AV → (Tr AV → X) → X) (fun ih x d k => ih .nil x d fun r => k (.node d .nil r)) (fun ih x d k => ih .nil x d fun l => k (.node d l .nil)) b ih x d k)
      (fun v l r _ _ b ih x d k => Bool.rec (motive := fun _ => AV → Tr AV → Tr AV → (Tr AV → AV → AV → (Tr AV → X) → X) → AV → AV → (Tr AV → X) → X) (fun v l r ih x d k => ih r x d fun r' => k (.node v l r')) (fun v l r ih x d k => ih l x d fun l' => k (.node v l' r)) b v l r ih x d k)
      t b ih x d k) p
noncomputable def getO (t : Tr AObj) : List Bool → AObj → AObj :=
  Tr.rec (motive := fun _ => List Bool → AObj → AObj) (fun _ d => d)
    (fun v _ _ gl gr p d => List.rec (motive := fun _ => (List Bool → AObj → AObj) → (List Bool → AObj → AObj) → AObj → AObj → AObj) (fun _ _ v _ => v)
      (fun b p' _ gl gr _ d => Bool.rec (motive := fun _ => (List Bool → AObj → AObj) → (List Bool → AObj → AObj) → List Bool → AObj → AObj) (fun _ gr p' d => gr p' d) (fun gl _ p' d => gl p' d) b gl gr p' d) p gl gr v d) t
noncomputable def setO (p : List Bool) : Tr AObj → AObj → AObj → (Tr AObj → X) → X :=
  List.rec (motive := fun _ => Tr AObj → AObj → AObj → (Tr AObj → X) → X)
    (fun t x _ k => Tr.rec (motive := fun _ => AObj → (Tr AObj → X) → X) (fun x k => k (.node x .nil .nil)) (fun _ l r _ _ x k => k (.node x l r)) t x k)
    (fun b _ ih t x d k => Tr.rec (motive := fun _ => Bool → (Tr AObj → AObj → AObj → (Tr AObj → X) → X) → AObj → AObj → (Tr AObj → X) → X)
      (fun b ih x d k => Bool.rec (motive := fun _ => (Tr AObj → AObj → AObj → (Tr AObj → X) → X) → AObj → AObj → (Tr AObj → X) → X) (fun ih x d k => ih .nil x d fun r => k (.node d .nil r)) (fun ih x d k => ih .nil x d fun l => k (.node d l .nil)) b ih x d k)
      (fun v l r _ _ b ih x d k => Bool.rec (motive := fun _ => AObj → Tr AObj → Tr AObj → (Tr AObj → AObj → AObj → (Tr AObj → X) → X) → AObj → AObj → (Tr AObj → X) → X) (fun v l r ih x d k => ih r x d fun r' => k (.node v l r')) (fun v l r ih x d k => ih l x d fun l' => k (.node v l' r)) b v l r ih x d k)
      t b ih x d k) p
noncomputable def getR (t : Tr (List AV)) : List Bool → (List AV) → (List AV) :=
  Tr.rec (motive := fun _ => List Bool → (List AV) → (List AV)) (fun _ d => d)
    (fun v _ _ gl gr p d => List.rec (motive := fun _ => (List Bool → (List AV) → (List AV)) → (List Bool → (List AV) → (List AV)) → (List AV) → (List AV) → (List AV)) (fun _ _ v _ => v)
      (fun b p' _ gl gr _ d => Bool.rec (motive := fun _ => (List Bool → (List AV) → (List AV)) → (List Bool → (List AV) → (List AV)) → List Bool → (List AV) → (List AV)) (fun _ gr p' d => gr p' d) (fun gl _ p' d => gl p' d) b gl gr p' d) p gl gr v d) t
noncomputable def setR (p : List Bool) : Tr (List AV) → (List AV) → (List AV) → (Tr (List AV) → X) → X :=
  List.rec (motive := fun _ => Tr (List AV) → (List AV) → (List AV) → (Tr (List AV) → X) → X)
    (fun t x _ k => Tr.rec (motive := fun _ => (List AV) → (Tr (List AV) → X) → X) (fun x k => k (.node x .nil .nil)) (fun _ l r _ _ x k => k (.node x l r)) t x k)
    (fun b _ ih t x d k => Tr.rec (motive := fun _ => Bool → (Tr (List AV) → (List AV) → (List AV) → (Tr (List AV) → X) → X) → (List AV) → (List AV) → (Tr (List AV) → X) → X)
      (fun b ih x d k => Bool.rec (motive := fun _ => (Tr (List AV) → (List AV) → (List AV) → (Tr (List AV) → X) → X) → (List AV) → (List AV) → (Tr (List AV) → X) → X) (fun ih x d k => ih .nil x d fun r => k (.node d .nil r)) (fun ih x d k => ih .nil x d fun l => k (.node d l .nil)) b ih x d k)
      (fun v l r _ _ b ih x d k => Bool.rec (motive := fun _ => (List AV) → Tr (List AV) → Tr (List AV) → (Tr (List AV) → (List AV) → (List AV) → (Tr (List AV) → X) → X) → (List AV) → (List AV) → (Tr (List AV) → X) → X) (fun v l r ih x d k => ih r x d fun r' => k (.node v l r')) (fun v l r ih x d k => ih l x d fun l' => k (.node v l' r)) b v l r ih x d k)
      t b ih x d k) p

noncomputable def getL (l : Lo) : Nat → AV :=
  Lo.rec (motive := fun _ => Nat → AV) (fun _ => .junk) (fun t v _ ih n => Bool.rec (motive := fun _ => (Nat → AV) → Nat → AV → AV) (fun ih n _ => ih n) (fun _ _ v => v) (Nat.beq t n) ih n v) l
noncomputable def isLocal (mask t : Nat) : Bool := Nat.beq (Nat.land (Nat.shiftRight mask t) 1) 0
noncomputable def getT (m : TM) (t : Nat) : AV :=
  TM.rec (motive := fun _ => Nat → AV) (fun mask lo tr t => Bool.rec (motive := fun _ => Lo → Tr AV → Nat → AV) (fun _ tr t => getV tr (path t) .junk) (fun lo _ t => getL lo t) (isLocal mask t) lo tr t) m t
noncomputable def putT (m : TM) (d : Nat) (v : AV) (k : TM → X) : X :=
  TM.rec (motive := fun _ => Nat → AV → (TM → X) → X) (fun mask lo tr d v k =>
    Bool.rec (motive := fun _ => Nat → Lo → Tr AV → Nat → AV → (TM → X) → X) (fun mask lo tr d v k => setV (path d) tr v .junk fun tr' => k (.mk mask lo tr')) (fun mask lo tr d v k => k (.mk mask (.cons d v lo) tr)) (isLocal mask d) mask lo tr d v k) m d v k
noncomputable def clearT (m : TM) (k : TM → X) : X := TM.rec (motive := fun _ => (TM → X) → X) (fun mask _ tr k => k (.mk mask .nil tr)) m k
noncomputable def fNat (n : Nat) : (Nat → X) → X := Nat.rec (motive := fun _ => (Nat → X) → X) (fun k => k 0) (fun m _ k => k (Nat.succ m)) n
noncomputable def fInt (n : Int) : (Int → X) → X :=
  Int.rec (motive := fun _ => (Int → X) → X) (fun m k => fNat m fun m => k (Int.ofNat m)) (fun m k => fNat m fun m => k (Int.negSucc m)) n
noncomputable def AH.get (H : AH) (b : Nat) : AObj := getO H.tr (path b) .dead
noncomputable def AH.setK (H : AH) (b : Nat) (o : AObj) (k : AH → X) : X :=
  AH.rec (motive := fun _ => Nat → AObj → (AH → X) → X) (fun n t b o k => setO (path b) t o .dead fun t' => k (.mk n t')) H b o k
noncomputable def AH.pushK (H : AH) (o : AObj) (k : AH → X) : X :=
  AH.rec (motive := fun _ => AObj → (AH → X) → X) (fun n t o k => fNat (Nat.succ n) fun n' => setO (path n) t o .dead fun t' => k (.mk n' t')) H o k
noncomputable def rInt (k : IntKind) (n : Int) (H : AH) : X := fInt n fun m => .val (.int k m) H
noncomputable def rBool (b : Bool) (H : AH) : X := Bool.rec (motive := fun _ => AH → X) (fun H => .val (.bool false) H) (fun H => .val (.bool true) H) b H
noncomputable def rStr (len N : Nat) (H : AH) : X := fNat len fun len => fNat N fun N => .val (.str len N) H
noncomputable def rPtr (b off : Nat) (H : AH) : X := fNat b fun b => fNat off fun off => .val (.ptr b off) H
noncomputable def rSlice (b off len cap : Nat) (g : Bool) (H : AH) : X :=
  fNat b fun b => fNat off fun off => fNat len fun len => fNat cap fun cap => .val (.slice b off len cap g) H
def rOpt (o : Option AV) (n : Nat) (H : AH) : X := match o with | some v => .val v H | none => .fail n
noncomputable def rOptB (o : Option Bool) (n : Nat) (H : AH) : X := match o with | some v => rBool v H | none => .fail n

/-! ### a value of one kind, or else -/
noncomputable def onBool (v : AV) : (Bool → X) → X → X :=
  AV.rec (motive_1 := fun _ => (Bool → X) → X → X) (motive_2 := fun _ => Unit) (fun _ e => e) (fun a0 k _ => k a0) (fun _ _ _ e => e) (fun _ _ _ e => e) (fun _ e => e) (fun _ _ _ e => e) (fun _ e => e) (fun _ _ _ _ _ _ e => e) (fun _ _ _ e => e) (fun _ e => e) (fun _ _ e => e) (fun _ e => e) (fun _ _ _ _ _ _ e => e) (fun _ _ e => e) (fun _ _ _ _ e => e) (fun _ e => e) (fun _ _ _ _ e => e) (fun _ _ _ e => e) (fun _ _ _ e => e) (fun _ e => e) () (fun _ _ _ _ => ()) v
noncomputable def onInt (v : AV) : (IntKind → Int → X) → X → X :=
  AV.rec (motive_1 := fun _ => (IntKind → Int → X) → X → X) (motive_2 := fun _ => Unit) (fun _ e => e) (fun _ _ e => e) (fun a0 a1 k _ => k a0 a1) (fun _ _ _ e => e) (fun _ e => e) (fun _ _ _ e => e) (fun _ e => e) (fun _ _ _ _ _ _ e => e) (fun _ _ _ e => e) (fun _ e => e) (fun _ _ e => e) (fun _ e => e) (fun _ _ _ _ _ _ e => e) (fun _ _ e => e) (fun _ _ _ _ e => e) (fun _ e => e) (fun _ _ _ _ e => e) (fun _ _ _ e => e) (fun _ _ _ e => e) (fun _ e => e) () (fun _ _ _ _ => ()) v
noncomputable def onStr (v : AV) : (Nat → Nat → X) → X → X :=
  AV.rec (motive_1 := fun _ => (Nat → Nat → X) → X → X) (motive_2 := fun _ => Unit) (fun _ e => e) (fun _ _ e => e) (fun _ _ _ e => e) (fun a0 a1 k _ => k a0 a1) (fun _ e => e) (fun _ _ _ e => e) (fun _ e => e) (fun _ _ _ _ _ _ e => e) (fun _ _ _ e => e) (fun _ e => e) (fun _ _ e => e) (fun _ e => e) (fun _ _ _ _ _ _ e => e) (fun _ _ e => e) (fun _ _ _ _ e => e) (fun _ e => e) (fun _ _ _ _ e => e) (fun _ _ _ e => e) (fun _ _ _ e => e) (fun _ e => e) () (fun _ _ _ _ => ()) v
noncomputable def onPtr (v : AV) : (Nat → Nat → X) → X → X :=
  AV.rec (motive_1 := fun _ => (Nat → Nat → X) → X → X) (motive_2 := fun _ => Unit) (fun _ e => e) (fun _ _ e => e) (fun _ _ _ e => e) (fun _ _ _ e => e) (fun _ e => e) (fun a0 a1 k _ => k a0 a1) (fun _ e => e) (fun _ _ _ _ _ _ e => e) (fun _ _ _ e => e) (fun _ e => e) (fun _ _ e => e) (fun _ e => e) (fun _ _ _ _ _ _ e => e) (fun _ _ e => e) (fun _ _ _ _ e => e) (fun _ e => e) (fun _ _ _ _ e => e) (fun _ _ _ e => e) (fun _ _ _ e => e) (fun _ e => e) () (fun _ _ _ _ => ()) v
noncomputable def onSlice (v : AV) : (Nat → Nat → Nat → Nat → Bool → X) → X → X :=
  AV.rec (motive_1 := fun _ => (Nat → Nat → Nat → Nat → Bool → X) → X → X) (motive_2 := fun _ => Unit) (fun _ e => e) (fun _ _ e => e) (fun _ _ _ e => e) (fun _ _ _ e => e) (fun _ e => e) (fun _ _ _ e => e) (fun _ e => e) (fun a0 a1 a2 a3 a4 k _ => k a0 a1 a2 a3 a4) (fun _ _ _ e => e) (fun _ e => e) (fun _ _ e => e) (fun _ e => e) (fun _ _ _ _ _ _ e => e) (fun _ _ e => e) (fun _ _ _ _ e => e) (fun _ e => e) (fun _ _ _ _ e => e) (fun _ _ _ e => e) (fun _ _ _ e => e) (fun _ e => e) () (fun _ _ _ _ => ()) v
noncomputable def onAgg (v : AV) : (List AV → X) → X → X :=
  AV.rec (motive_1 := fun _ => (List AV → X) → X → X) (motive_2 := fun _ => Unit) (fun _ e => e) (fun _ _ e => e) (fun _ _ _ e => e) (fun _ _ _ e => e) (fun _ e => e) (fun _ _ _ e => e) (fun _ e => e) (fun _ _ _ _ _ _ e => e) (fun _ _ _ e => e) (fun _ e => e) (fun _ _ e => e) (fun _ e => e) (fun _ _ _ _ _ _ e => e) (fun _ _ e => e) (fun _ _ _ _ e => e) (fun _ e => e) (fun _ _ _ _ e => e) (fun a0 _ k _ => k a0) (fun _ _ _ e => e) (fun _ e => e) () (fun _ _ _ _ => ()) v
noncomputable def onJunk (v : AV) : (X) → X → X :=
  AV.rec (motive_1 := fun _ => (X) → X → X) (motive_2 := fun _ => Unit) (fun k _ => k ) (fun _ _ e => e) (fun _ _ _ e => e) (fun _ _ _ e => e) (fun _ e => e) (fun _ _ _ e => e) (fun _ e => e) (fun _ _ _ _ _ _ e => e) (fun _ _ _ e => e) (fun _ e => e) (fun _ _ e => e) (fun _ e => e) (fun _ _ _ _ _ _ e => e) (fun _ _ e => e) (fun _ _ _ _ e => e) (fun _ e => e) (fun _ _ _ _ e => e) (fun _ _ _ e => e) (fun _ _ _ e => e) (fun _ e => e) () (fun _ _ _ _ => ()) v
noncomputable def onON (o : Option Nat) : (Nat → X) → X → X := Option.rec (motive := fun _ => (Nat → X) → X → X) (fun _ e => e) (fun n k _ => k n) o
noncomputable def onOV (o : Option AV) : (AV → X) → X → X := Option.rec (motive := fun _ => (AV → X) → X → X) (fun _ e => e) (fun n k _ => k n) o
noncomputable def onOL (o : Option (List AV)) : (List AV → X) → X → X := Option.rec (motive := fun _ => (List AV → X) → X → X) (fun _ e => e) (fun n k _ => k n) o
noncomputable def onB (b : Bool) : (Unit → X) → (Unit → X) → X := Bool.rec (motive := fun _ => (Unit → X) → (Unit → X) → X) (fun _ e => e ()) (fun k _ => k ()) b
noncomputable def onNat (n : Int) : (Nat → X) → X → X := Int.rec (motive := fun _ => (Nat → X) → X → X) (fun m k _ => k m) (fun _ _ e => e) n
noncomputable def onOp (x : X) : (AV → AH → X) → (Nat → List AV → AH → X) → (Nat → List AV → AH → X) → (Nat → X) → X :=
  X.rec (motive := fun _ => (AV → AH → X) → (Nat → List AV → AH → X) → (Nat → List AV → AH → X) → (Nat → X) → X) (fun a0 a1 k _ _ _ => k a0 a1) (fun a0 a1 a2 _ k _ _ => k a0 a1 a2) (fun a0 a1 a2 _ _ k _ => k a0 a1 a2) (fun a0 _ _ _ k => k a0) (fun a0 a1 _ _ _ _ => .failAt a0 a1) (fun _ _ _ _ _ _ => .fail 5) (fun _ _ _ _ _ _ _ _ _ => .fail 5) (fun _ _ _ _ _ _ _ _ _ => .fail 5) (fun _ _ _ _ _ _ _ _ _ => .fail 5) (fun _ _ _ _ _ _ _ _ _ => .fail 5) (fun _ _ _ _ _ _ _ => .fail 5) (fun _ _ _ _ _ _ => .fail 5) x
noncomputable def onReg (x : X) : (TM → AH → X) → (Nat → List AV → List Oper → TM → AH → X) → (Nat → List AV → List Oper → TM → AH → X) → X :=
  X.rec (motive := fun _ => (TM → AH → X) → (Nat → List AV → List Oper → TM → AH → X) → (Nat → List AV → List Oper → TM → AH → X) → X) (fun a0 a1 _ _ _ => .val a0 a1) (fun a0 a1 a2 _ _ _ => .enter a0 a1 a2) (fun a0 a1 a2 _ _ _ => .round a0 a1 a2) (fun a0 _ _ _ => .fail a0) (fun a0 a1 _ _ _ => .failAt a0 a1) (fun a0 a1 k _ _ => k a0 a1) (fun a0 a1 a2 a3 a4 _ k _ => k a0 a1 a2 a3 a4) (fun a0 a1 a2 a3 a4 _ _ k => k a0 a1 a2 a3 a4) (fun a0 a1 a2 a3 a4 _ _ _ => .enterD a0 a1 a2 a3 a4) (fun a0 a1 a2 a3 a4 _ _ _ => .roundD a0 a1 a2 a3 a4) (fun a0 a1 a2 _ _ _ => .next a0 a1 a2) (fun a0 a1 _ _ _ => .done a0 a1) x
noncomputable def onDreg (x : X) : (TM → AH → X) → (Nat → List AV → List PItem → TM → AH → X) → (Nat → List AV → List PItem → TM → AH → X) → X :=
  X.rec (motive := fun _ => (TM → AH → X) → (Nat → List AV → List PItem → TM → AH → X) → (Nat → List AV → List PItem → TM → AH → X) → X) (fun a0 a1 _ _ _ => .val a0 a1) (fun a0 a1 a2 _ _ _ => .enter a0 a1 a2) (fun a0 a1 a2 _ _ _ => .round a0 a1 a2) (fun a0 _ _ _ => .fail a0) (fun a0 a1 _ _ _ => .failAt a0 a1) (fun a0 a1 k _ _ => k a0 a1) (fun a0 a1 a2 a3 a4 _ _ _ => .enterR a0 a1 a2 a3 a4) (fun a0 a1 a2 a3 a4 _ _ _ => .roundR a0 a1 a2 a3 a4) (fun a0 a1 a2 a3 a4 _ k _ => k a0 a1 a2 a3 a4) (fun a0 a1 a2 a3 a4 _ _ k => k a0 a1 a2 a3 a4) (fun a0 a1 a2 _ _ _ => .next a0 a1 a2) (fun a0 a1 _ _ _ => .done a0 a1) x
noncomputable def onNext (x : X) : (AF → List AF → AH → X) → X :=
  X.rec (motive := fun _ => (AF → List AF → AH → X) → X) (fun a0 a1 _ => .val a0 a1) (fun a0 a1 a2 _ => .enter a0 a1 a2) (fun a0 a1 a2 _ => .round a0 a1 a2) (fun a0 _ => .fail a0) (fun a0 a1 _ => .failAt a0 a1) (fun a0 a1 _ => .fin a0 a1) (fun a0 a1 a2 a3 a4 _ => .enterR a0 a1 a2 a3 a4) (fun a0 a1 a2 a3 a4 _ => .roundR a0 a1 a2 a3 a4) (fun a0 a1 a2 a3 a4 _ => .enterD a0 a1 a2 a3 a4) (fun a0 a1 a2 a3 a4 _ => .roundD a0 a1 a2 a3 a4) (fun a0 a1 a2 k => k a0 a1 a2) (fun a0 a1 _ => .done a0 a1) x

/-! ### constants, types -/
def ofConst0 : Value → AV
  | .bool b => .bool b
  | .int k n => .int k n
  | .string s => .str s.data.size (pack s.data.toList)
  | .pointer none => .nilp
  | .slice none 0 0 => .nils
  | .map none => .nilm
  | .nilFunc => .nilf
  | .nilIface => .nili
  | _ => .junk
def ofConst : Value → AV
  | .agg cs => .agg (cs.toList.map ofConst0)
  | .tuple vs => if vs.size = 0 then .tuple [] else .junk
  | v => ofConst0 v
def isAggA (P : Program) (t : TypeId) : Option Bool :=
  match P.underlying t with
  | some (.struct _) | some (.array _ _) => some true
  | some _ => some false
  | none => none
def sizeA (P : Program) (t : TypeId) : Option Nat := (P.info? t).map (·.size)
def zeroA (P : Program) (t : TypeId) : Option AV := (P.info? t).bind fun i => i.zero.map ofConst
def cellsOfA : AV → Option (List AV)
  | .agg l => some l
  | .junk => none
  | v => some [v]
/-- May the value lie in one cell? -/
def cellB : AV → Bool
  | .agg _ | .tuple _ | .junk => false
  | _ => true
/-- The cells of a type's zero value, where they are as many as the type has. -/
def zeroCellsA (P : Program) (t : TypeId) : Option (List AV) :=
  match (zeroA P t).bind cellsOfA, sizeA P t with
  | some l, some s => if l.length = s ∧ l.all cellB = true then some l else none
  | _, _ => none
def zByte : List AV → Bool
  | [.int .u8 (.ofNat 0)] => true
  | _ => false
/-- Is a row of this type a row of bytes? -/
def isByteA (P : Program) (t : TypeId) : Bool :=
  (match P.underlying t with | some (.int .u8) => true | _ => false) && (match zeroCellsA P t with | some z => zByte z | none => false)

/-! ### whole numbers -/
def ltI : Int → Int → Bool
  | .ofNat a, .ofNat b => Nat.blt a b
  | .ofNat _, .negSucc _ => false
  | .negSucc _, .ofNat _ => true
  | .negSucc a, .negSucc b => Nat.blt b a
def eqI : Int → Int → Bool
  | .ofNat a, .ofNat b => Nat.beq a b
  | .negSucc a, .negSucc b => Nat.beq a b
  | _, _ => false
def bitsN : IntKind → Nat
  | .i8 | .u8 => 8
  | .i16 | .u16 => 16
  | .i32 | .u32 => 32
  | .i64 | .u64 => 64
def wrapA (k : IntKind) (n : Int) : Int :=
  match n with
  | .ofNat m =>
    match k with
    | .u8 => .ofNat (Nat.mod m 256)
    | .u16 => .ofNat (Nat.mod m 65536)
    | .u32 => .ofNat (Nat.mod m 4294967296)
    | .u64 => .ofNat (Nat.mod m 18446744073709551616)
    | .i64 => bif Nat.blt m 9223372036854775808 then .ofNat m else IntKind.wrap .i64 (.ofNat m)
    | .i32 => bif Nat.blt m 2147483648 then .ofNat m else IntKind.wrap .i32 (.ofNat m)
    | k => IntKind.wrap k (.ofNat m)
  | .negSucc m =>
    match k with
    | .i64 => bif Nat.blt m 9223372036854775808 then .negSucc m else IntKind.wrap .i64 (.negSucc m)
    | k => IntKind.wrap k (.negSucc m)
/-! ### whole numbers: operations -/
noncomputable def addA (x y : Int) : Int := Int.rec (motive := fun _ => Int → Int) (fun a y => Int.rec (motive := fun _ => Nat → Int) (fun b a => .ofNat (Nat.add a b)) (fun b a => Int.add (.ofNat a) (.negSucc b)) y a) (fun a y => Int.add (.negSucc a) y) x y
noncomputable def subA (x y : Int) : Int := Int.rec (motive := fun _ => Int → Int) (fun a y => Int.rec (motive := fun _ => Nat → Int) (fun b a => cond (Nat.ble b a) (.ofNat (Nat.sub a b)) (Int.sub (.ofNat a) (.ofNat b))) (fun b a => Int.sub (.ofNat a) (.negSucc b)) y a) (fun a y => Int.sub (.negSucc a) y) x y
noncomputable def ltA (x y : Int) : Bool := Int.rec (motive := fun _ => Int → Bool) (fun a y => Int.rec (motive := fun _ => Nat → Bool) (fun b a => Nat.blt a b) (fun _ _ => false) y a) (fun a y => Int.rec (motive := fun _ => Nat → Bool) (fun _ _ => true) (fun b a => Nat.blt b a) y a) x y
noncomputable def eqI2 (x y : Int) : Bool := Int.rec (motive := fun _ => Int → Bool) (fun a y => Int.rec (motive := fun _ => Nat → Bool) (fun b a => Nat.beq a b) (fun _ _ => false) y a) (fun a y => Int.rec (motive := fun _ => Nat → Bool) (fun _ _ => false) (fun b a => Nat.beq b a) y a) x y
/-- m, where it is no negative number, into kind k. -/
noncomputable def wrapN (k : IntKind) (m : Nat) : Int :=
  IntKind.rec (motive := fun _ => Nat → Int) (fun m => IntKind.wrap .i8 (.ofNat m)) (fun m => IntKind.wrap .i16 (.ofNat m))
    (fun m => cond (Nat.blt m 2147483648) (.ofNat m) (IntKind.wrap .i32 (.ofNat m)))
    (fun m => cond (Nat.blt m 9223372036854775808) (.ofNat m) (IntKind.wrap .i64 (.ofNat m)))
    (fun m => .ofNat (Nat.mod m 256)) (fun m => .ofNat (Nat.mod m 65536)) (fun m => .ofNat (Nat.mod m 4294967296)) (fun m => .ofNat (Nat.mod m 18446744073709551616)) k m
noncomputable def wrapZ (k : IntKind) (n : Int) : Int := Int.rec (motive := fun _ => IntKind → Int) (fun m k => wrapN k m) (fun m k => wrapA k (.negSucc m)) n k
noncomputable def rWrap (k : IntKind) (n : Int) (H : AH) : X := rInt k (wrapZ k n) H
/-- Two operands that are no negative numbers and fit their kind. -/
noncomputable def on2 (k : IntKind) (x y : Int) (f : Nat → Nat → X) : X :=
  onNat x (fun a => onNat y (fun b => onB (and (Nat.blt a (Nat.pow 2 (bitsN k))) (Nat.blt b (Nat.pow 2 (bitsN k)))) (fun _ => f a b) (fun _ => .fail 102)) (.fail 103)) (.fail 103)
noncomputable def intOp (op : BinOp) : IntKind → Int → Int → AH → X :=
  BinOp.rec (motive := fun _ => IntKind → Int → Int → AH → X)
    (fun k x y H => rWrap k (addA x y) H) (fun k x y H => rWrap k (subA x y) H) (fun k x y H => rWrap k (Int.mul x y) H)
    (fun k x y H => onNat x (fun a => onNat y (fun b => onB (Nat.blt 0 b) (fun _ => rInt k (wrapN k (Nat.div a b)) H) (fun _ => .fail 104)) (.fail 104)) (.fail 104))
    (fun k x y H => onNat x (fun a => onNat y (fun b => onB (Nat.blt 0 b) (fun _ => rInt k (.ofNat (Nat.mod a b)) H) (fun _ => .fail 105)) (.fail 105)) (.fail 105))
    (fun k x y H => on2 k x y fun a b => rInt k (wrapN k (Nat.land a b)) H) (fun k x y H => on2 k x y fun a b => rInt k (wrapN k (Nat.lor a b)) H) (fun k x y H => on2 k x y fun a b => rInt k (wrapN k (Nat.xor a b)) H)
    (fun k x y H => onNat y (fun b => onB (Nat.ble b (bitsN k)) (fun _ => rWrap k (Int.mul x (.ofNat (Nat.pow 2 b))) H) (fun _ => .fail 107)) (.fail 108))
    (fun k x y H => onNat y (fun b => onNat x (fun a => onB (Nat.ble b (bitsN k)) (fun _ => rInt k (.ofNat (Nat.div a (Nat.pow 2 b))) H) (fun _ => .fail 107)) (.fail 107)) (.fail 108))
    (fun k x y H => on2 k x y fun a b => rInt k (wrapN k (Nat.xor a (Nat.land a b))) H)
    (fun _ x y H => rBool (eqI2 x y) H) (fun _ x y H => rBool (not (eqI2 x y)) H) (fun _ x y H => rBool (ltA x y) H) (fun _ x y H => rBool (not (ltA y x)) H) (fun _ x y H => rBool (ltA y x) H) (fun _ x y H => rBool (not (ltA x y)) H) op
/-- Are two kinds one? (a shift's right operand may be of any kind) -/
def kindCode : IntKind → Nat
  | .i8 => 0 | .i16 => 1 | .i32 => 2 | .i64 => 3 | .u8 => 4 | .u16 => 5 | .u32 => 6 | .u64 => 7
def isShift : BinOp → Bool
  | .shl | .shr => true
  | _ => false

/-! ### strings -/
noncomputable def strLtF (f : Nat) : Nat → Nat → Nat → Nat → Bool :=
  Nat.rec (motive := fun _ => Nat → Nat → Nat → Nat → Bool) (fun _ _ _ _ => false)
    (fun _ ih la A lb B =>
      bif Nat.beq lb 0 then false else bif Nat.beq la 0 then true else
      bif Nat.blt (Nat.mod A 256) (Nat.mod B 256) then true else
      bif Nat.blt (Nat.mod B 256) (Nat.mod A 256) then false else
      ih (Nat.sub la 1) (Nat.div A 256) (Nat.sub lb 1) (Nat.div B 256)) f
noncomputable def strLt (la A lb B : Nat) : Bool := strLtF (Nat.succ lb) la A lb B
noncomputable def strOp (op : BinOp) (la A lb B : Nat) (H : AH) : X :=
  match op with
  | .add => bif Nat.blt (Nat.add la lb) 1099511627776 then rStr (Nat.add la lb) (Nat.add A (Nat.mul (Nat.pow 256 la) B)) H else .fail 110
  | .eql => rBool (Nat.beq la lb && Nat.beq A B) H
  | .neq => rBool (!(Nat.beq la lb && Nat.beq A B)) H
  | .lss => rBool (strLt la A lb B) H
  | .leq => rBool (strLt la A lb B || (Nat.beq la lb && Nat.beq A B)) H
  | .gtr => rBool (!(strLt la A lb B || (Nat.beq la lb && Nat.beq A B))) H
  | .geq => rBool (!(strLt la A lb B)) H
  | _ => .fail 111

/-! ### parts, equality -/
def partA (P : Program) (t : TypeId) (cs : List AV) (off : Nat) : Option AV :=
  match isAggA P t with
  | some true => match sizeA P t with | some s => some (.agg ((cs.drop off).take s)) | none => none
  | some false => cs[off]?
  | none => none
def plainB : AObj → Bool
  | .bytes _ _ _ st => !st
  | .rows .. => true
  | _ => false
def eqFields (P : Program) (eq : TypeId → AV → AV → Option Bool) (xs ys : List AV) : List Field → Option Bool
  | [] => some true
  | f :: fs =>
    if f.name = "_" then eqFields P eq xs ys fs else
    match partA P f.type xs f.offset, partA P f.type ys f.offset with
    | some x, some y => match eq f.type x y with
      | some true => eqFields P eq xs ys fs
      | r => r
    | _, _ => none
def eqElems (P : Program) (eq : TypeId → AV → AV → Option Bool) (xs ys : List AV) (elem : TypeId) (n : Nat) : (left i : Nat) → Option Bool
  | 0, _ => some true
  | m + 1, i =>
    match partA P elem xs (i * n), partA P elem ys (i * n) with
    | some x, some y => match eq elem x y with
      | some true => eqElems P eq xs ys elem n m (i + 1)
      | r => r
    | _, _ => none
/-- Equality of two values of type t; none: it can't be told (or would panic). -/
noncomputable def eqA (P : Program) (H : AH) : Nat → TypeId → AV → AV → Option Bool
  | 0, _, _, _ => none
  | d + 1, t, x, y =>
    match P.underlying t with
    | none => none
    | some u =>
      match u, x, y with
      | .bool, .bool a, .bool b => some (a == b)
      | .int _, .int k a, .int k' b => if k = k' then some (eqI a b) else none
      | .string, .str la A, .str lb B => some (Nat.beq la lb && Nat.beq A B)
      | .pointer _, .nilp, .nilp => some true
      | .pointer _, .nilp, .ptr _ _ => some false
      | .pointer _, .ptr _ _, .nilp => some false
      | .pointer elem, .ptr a i, .ptr b j =>
        match sizeA P elem with
        | some (_ + 1) =>
          bif Nat.beq a b then some (Nat.beq i j)
          else bif plainB (H.get a) && plainB (H.get b) then some false else none
        | _ => none
      | .interface _, .nili, .nili => some true
      | .interface _, .nili, .iface _ _ => some false
      | .interface _, .iface _ _, .nili => some false
      | .interface _, .iface tx vx, .iface ty vy =>
        bif Nat.beq tx ty then
          match P.info? tx with
          | some i => if i.comparable then eqA P H d tx vx vy else none
          | none => none
        else some false
      | .struct fs, .agg xs, .agg ys => if P.stoodInHeld t then none else eqFields P (eqA P H d) xs ys fs.toList
      | .array len elem, .agg xs, .agg ys =>
        match sizeA P elem with
        | some n => eqElems P (eqA P H d) xs ys elem n len 0
        | none => none
      | .slice _, .nils, .nils => some true
      | .slice _, .nils, .slice .. => some false
      | .slice _, .nils, .sliceE .. => some false
      | .slice _, .slice .., .nils => some false
      | .slice _, .sliceE .., .nils => some false
      | .map _ _, .nilm, .nilm => some true
      | .map _ _, .nilm, .map _ => some false
      | .map _ _, .map _, .nilm => some false
      | .func _ _ _, .nilf, .nilf => some true
      | .func _ _ _, .nilf, .func _ _ _ => some false
      | .func _ _ _, .func _ _ _, .nilf => some false
      | _, _, _ => none
def isConstB : Operand → Bool
  | .const _ => true
  | _ => false
noncomputable def binSlow (P : Program) (op : BinOp) (t : TypeId) (x y : Operand) (a b : AV) (H : AH) : X :=
  match a, b with
  | .int _ _, .int _ _ => .fail 112
  | .str la A, .str lb B => strOp op la A lb B H
  | .nili, .nili =>
    bif isConstB x || isConstB y then
      match op with
      | .eql => rOptB (eqA P H 30 t a b) 113 H
      | .neq => rOptB ((eqA P H 30 t a b).map (!·)) 113 H
      | _ => .fail 114
    else .fail 115
  | .agg _, .agg _ =>
    bif P.eqGuardType P.depth t then .fail 116 else
    match op with
    | .eql => rOptB (eqA P H 30 t a b) 117 H
    | .neq => rOptB ((eqA P H 30 t a b).map (!·)) 117 H
    | _ => .fail 114
  | _, _ =>
    match op with
    | .eql => rOptB (eqA P H 30 t a b) 118 H
    | .neq => rOptB ((eqA P H 30 t a b).map (!·)) 118 H
    | _ => .fail 119
noncomputable def binA (P : Program) (op : BinOp) (t : TypeId) (x y : Operand) (a b : AV) (H : AH) : X :=
  onInt a (fun k m => onInt b (fun k' n => onB (or (Nat.beq (kindCode k) (kindCode k')) (isShift op)) (fun _ => intOp op k m n H) (fun _ => .fail 112)) (.fail 112)) (binSlow P op t x y a b H)
noncomputable def unA (op : UnOp) (x : AV) (H : AH) : X :=
  match op, x with
  | .neg, .int k n => rInt k (wrapA k (Int.neg n)) H
  | .xor, .int k (.ofNat n) => bif k.signed then .fail 120 else bif Nat.blt n (Nat.pow 2 (bitsN k)) then rInt k (.ofNat (Nat.sub (Nat.sub (Nat.pow 2 (bitsN k)) 1) n)) H else .fail 121
  | .not, .bool b => rBool (!b) H
  | _, _ => .fail 122

/-! ### memory -/
def obN (l : List AV) (i : Nat) : AV := (l[i]?).getD .junk
noncomputable def cellAt (o : AObj) (off : Nat) : AV :=
  match o with
  | .bytes n N _ _ => bif Nat.blt off n then .int .u8 (.ofNat (byteAt (coreB N) off)) else .junk
  | .rows n s c z _ => bif Nat.blt off (Nat.mul n s) then obN (getR c (path (Nat.div off s)) z) (Nat.mod off s) else .junk
  | _ => .junk
/-- k cells of an object, from off on, within one row. -/
noncomputable def cellsAt (o : AObj) (off k : Nat) : Option (List AV) :=
  match o with
  | .bytes n N _ _ => bif Nat.ble (Nat.add off k) n then some ((unpack k (cutB (coreB N) off k)).map fun b => .int .u8 (.ofNat b)) else none
  | .rows n s c z _ =>
    bif Nat.blt off (Nat.mul n s) && Nat.ble (Nat.add (Nat.mod off s) k) s then
      bif Nat.beq k s then some (getR c (path (Nat.div off s)) z) else some (((getR c (path (Nat.div off s)) z).drop (Nat.mod off s)).take k)
    else none
  | _ => none
noncomputable def loadA (P : Program) (t : TypeId) (b off : Nat) (H : AH) : Option AV :=
  match isAggA P t with
  | some false => match cellAt (H.get b) off with
    | .junk => none
    | v => some v
  | some true =>
    match sizeA P t with
    | some 0 => some (.agg [])
    | some k => (cellsAt (H.get b) off k).map .agg
    | none => none
  | none => none
def putAt (l : List AV) (i : Nat) (new : List AV) : List AV := l.take i ++ (new ++ l.drop (i + new.length))
def allCells : List AV → Bool
  | [] => true
  | v :: l => cellB v && allCells l
def byteOfA : AV → Option Nat
  | .int .u8 (.ofNat b) => bif Nat.blt b 256 then some b else none
  | _ => none
def packA : List AV → Option Nat
  | [] => some 0
  | v :: l => match byteOfA v, packA l with | some b, some N => some (b + 256 * N) | _, _ => none
/-- The object with the cells l from off on; handed on when it is built. none: they don't lie in one row. -/
noncomputable def putCellsK (o : AObj) (off : Nat) (l : List AV) (bad : X) (k : AObj → X) : X :=
  match o with
  | .bytes n N e st =>
    bif Nat.ble (Nat.add off l.length) n then
      match packA l with
      | some M => fNat (sealB (putB (coreB N) off l.length M)) fun N' => k (.bytes n N' e st)
      | none => bad
    else bad
  | .rows n s c z e =>
    bif Nat.blt off (Nat.mul n s) && Nat.ble (Nat.add (Nat.mod off s) l.length) s && allCells l then
      bif Nat.beq l.length s then setR (path (Nat.div off s)) c l z fun c' => k (.rows n s c' z e)
      else setR (path (Nat.div off s)) c (putAt (getR c (path (Nat.div off s)) z) (Nat.mod off s) l) z fun c' => k (.rows n s c' z e)
    else bad
  | _ => bad
noncomputable def storeA (P : Program) (G : Nat) (t : TypeId) (b off : Nat) (v : AV) (H : AH) : X :=
  match cellsOfA v, sizeA P t with
  | some l, some s =>
    bif Nat.beq l.length s && Nat.ble G b then
      bif Nat.beq s 0 then .val (.tuple []) H else
      putCellsK (H.get b) off l (.fail 130) fun o => H.setK b o fun H' => .val (.tuple []) H'
    else .fail 131
  | _, _ => .fail 132
/-- A block for one variable. -/
noncomputable def newVarK (P : Program) (t : TypeId) (v : AV) (H : AH) : X :=
  match cellsOfA v, sizeA P t with
  | some l, some s =>
    bif Nat.beq l.length s && allCells l then
      bif isByteA P t then
        match packA l with
        | some M => fNat (sealB M) fun M => H.pushK (.bytes 1 M t false) fun H' => .val (.ptr H.size 0) H'
        | none => .fail 133
      else H.pushK (.rows 1 s (.node l .nil .nil) l t) fun H' => .val (.ptr H.size 0) H'
    else .fail 134
  | _, _ => .fail 135

/-! ### rows of slices -/
inductive Seq where
  | pk (n N : Nat)
  | rs (l : List (List AV))
  | emp
noncomputable def rowsFrom (c : Tr (List AV)) (z : List AV) (k : Nat) : Nat → List (List AV) :=
  Nat.rec (fun _ => []) (fun _ ih i => getR c (path i) z :: ih (Nat.succ i)) k
/-- k pieces of s cells. -/
def chunkL (s : Nat) : Nat → List AV → List (List AV)
  | 0, _ => []
  | k + 1, l => l.take s :: chunkL s k (l.drop s)
noncomputable def bytesL (n N : Nat) : List AV := (unpack n N).map fun b => .int .u8 (.ofNat b)
/-- k elements of a slice (or string) value. -/
noncomputable def seqOf (H : AH) (s k : Nat) (x : AV) : Option Seq :=
  bif Nat.beq k 0 then some .emp else
  match x with
  | .slice b off _ _ _ =>
    match H.get b with
    | .bytes n N _ _ => bif Nat.ble (Nat.add off k) n && Nat.beq s 1 then some (.pk k (cutB (coreB N) off k)) else none
    | .rows n s' c z e => bif Nat.beq s s' && Nat.beq (Nat.mod off s) 0 && Nat.ble (Nat.add (Nat.div off s) k) n then some (.rs (rowsFrom c z k (Nat.div off s))) else
      match cellsAt (.rows n s' c z e) off (Nat.mul k s) with
      | some l => (match (bif Nat.beq s 1 then packA l else none) with | some N => some (.pk k N) | none => some (.rs (chunkL s k l)))
      | none => none
    | _ => none
  | .str len N => bif Nat.ble k len && Nat.beq s 1 then some (.pk k (cutB N 0 k)) else none
  | _ => none
noncomputable def setRowsK (z : List AV) (l : List (List AV)) : Tr (List AV) → Nat → (Tr (List AV) → X) → X :=
  List.rec (motive := fun _ => Tr (List AV) → Nat → (Tr (List AV) → X) → X) (fun c _ k => k c) (fun r _ ih c i k => setR (path i) c r z fun c' => fNat (Nat.succ i) fun j => ih c' j k) l
/-- The object with a sequence written from cell off on. -/
noncomputable def putSeqK (o : AObj) (s' off : Nat) (q : Seq) (bad : X) (k : AObj → X) : X :=
  match q, o with
  | .emp, o => k o
  | .pk m M, .bytes n N e st => bif Nat.ble (Nat.add off m) n then fNat (sealB (putB (coreB N) off m M)) fun N' => k (.bytes n N' e st) else bad
  | .rs l, .rows n s c z e =>
    bif Nat.beq s' s && (Nat.beq (Nat.mod off s) 0 && Nat.ble (Nat.add (Nat.div off s) l.length) n) then setRowsK z l c (Nat.div off s) fun c' => k (.rows n s c' z e) else
    bif Nat.blt off (Nat.mul n s) && Nat.ble (Nat.add (Nat.mod off s) l.flatten.length) s then setR (path (Nat.div off s)) c (putAt (getR c (path (Nat.div off s)) z) (Nat.mod off s) l.flatten) z fun c' => k (.rows n s c' z e) else bad
  | .pk m M, .rows n s c z e =>
    bif Nat.blt off (Nat.mul n s) && Nat.ble (Nat.add (Nat.mod off s) m) s then setR (path (Nat.div off s)) c (putAt (getR c (path (Nat.div off s)) z) (Nat.mod off s) (bytesL m M)) z fun c' => k (.rows n s c' z e) else bad
  | _, _ => bad
def lenOfA : AV → Option Nat
  | .nils | .sliceE .. => some 0
  | .slice _ _ n _ _ => some n
  | .str n _ => some n
  | _ => none
/-- Has the zero value of a type so many cells? -/
def zeroOk (P : Program) (t : TypeId) (s : Nat) : Bool := match zeroCellsA P t with | some z => Nat.beq z.length s | none => false
/-- A new object of 'total' elements: 'old', then 'new'. -/
noncomputable def grownK (P : Program) (elem : TypeId) (s total : Nat) (old new : Seq) (bad : X) (k : AObj → X) : X :=
  match old, new with
  | .emp, .pk m M => bif isByteA P elem && Nat.beq s 1 then fNat (sealB M) fun R => k (.bytes m R elem false) else bad
  | .pk n N, .pk m M => bif isByteA P elem && Nat.beq s 1 then fNat (sealB (Nat.add N (Nat.mul (Nat.pow 256 n) M))) fun R => fNat total fun total => k (.bytes total R elem false) else bad
  | .emp, .rs m => match zeroCellsA P elem with
    | some z => bif Nat.beq z.length s then fNat total fun total => setRowsK z m .nil 0 fun c => k (.rows total s c z elem) else bad
    | none => bad
  | .rs l, .rs m => match zeroCellsA P elem with
    | some z => bif Nat.beq z.length s then fNat total fun total => setRowsK z l .nil 0 fun c => setRowsK z m c l.length fun c => k (.rows total s c z elem) else bad
    | none => bad
  | _, _ => bad
noncomputable def appendTo (P : Program) (G : Nat) (elem : TypeId) (s : Nat) (sl x : AV) (k : Nat) (q : Seq) (H : AH) : X :=
  match sl with
  | .nils =>
    bif Nat.beq k 0 then .val .nils H else
    bif Nat.blt k 1048576 && zeroOk P elem s then grownK P elem s k .emp q (.fail 140) fun o => H.pushK o fun H' => rSlice H.size 0 k k true H' else .fail 151
  | .slice b off len cap g =>
    bif Nat.ble (Nat.add len k) cap then
      bif Nat.ble G b then putSeqK (H.get b) s (Nat.add off (Nat.mul len s)) q (.fail 141) fun o => H.setK b o fun H' => rSlice b off (Nat.add len k) cap g H'
      else .fail 142
    else
      bif Nat.blt (Nat.add len k) 1048576 && (Nat.ble len cap && zeroOk P elem s) then
        match seqOf H s len (.slice b off len cap g) with
        | none => .fail 143
        | some old =>
          bif g then
            -- the row may be written on where it lies, or lie elsewhere now: the old name is dead
            match H.get b with
            | .rows n s' c z e =>
              bif Nat.ble G b && (Nat.beq n cap && (Nat.beq off 0 && (Nat.beq s s' && Nat.beq e elem))) then
                match q with
                | .rs l => setRowsK z l c len fun c' => fNat (Nat.add len k) fun tot => H.setK b .dead fun H1 => H1.pushK (.rows tot s' c' z e) fun H' => .val (.slice H.size 0 tot tot true) H'
                | _ => .fail 144
              else
              bif Nat.ble G b && (Nat.beq (Nat.mul n s) (Nat.add off (Nat.mul cap s)) && (Nat.beq s s' && Nat.beq e elem)) then
                match old, q with
                | .rs l0, .rs l => setRowsK z l0 .nil 0 fun c0 => setRowsK z l c0 len fun c' => fNat (Nat.add len k) fun tot => H.setK b .dead fun H1 => H1.pushK (.rows tot s' c' z e) fun H' => .val (.slice H.size 0 tot tot true) H'
                | .emp, .rs l => setRowsK z l .nil 0 fun c' => fNat (Nat.add len k) fun tot => H.setK b .dead fun H1 => H1.pushK (.rows tot s' c' z e) fun H' => .val (.slice H.size 0 tot tot true) H'
                | _, _ => .fail 144
              else .fail 145
            | .bytes n N e st =>
              bif Nat.ble G b && (Nat.beq n (Nat.add off cap) && (Nat.beq s 1 && Nat.beq e elem)) then
                match q with
                | .pk m M => fNat (sealB (Nat.add (cutB (coreB N) off len) (Nat.mul (Nat.pow 256 len) M))) fun R => fNat (Nat.add len k) fun tot => H.setK b .dead fun H1 => H1.pushK (.bytes tot R e st) fun H' => .val (.slice H.size 0 tot tot true) H'
                | _ => .fail 146
              else .fail 147
            | _ => .fail 148
          else grownK P elem s (Nat.add len k) old q (.fail 149) fun o => H.pushK o fun H' => rSlice H.size 0 (Nat.add len k) (Nat.add len k) true H'
      else .fail 152
  | .sliceE b off =>
    bif Nat.blt k 1048576 && (Nat.blt 0 k && (zeroOk P elem s && Nat.ble G b)) then
      match H.get b, q with
      | .rows n s' c z e, .rs l =>
        bif Nat.beq (Nat.mul n s) off && (Nat.beq s s' && Nat.beq e elem) then
          setRowsK z l .nil 0 fun c' => H.setK b .dead fun H1 => H1.pushK (.rows k s' c' z e) fun H' => .val (.slice H.size 0 k k true) H'
        else .fail 153
      | _, _ => .fail 155
    else .fail 156
  | _ => .fail 150
end Go.Proofs.YtmapmbfohilklaaGreat.Ab
