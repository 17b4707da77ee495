/-
  The abstract machine: regions, frames, steps, the run.
-/
import Derived.Test.YtmapmbfohilklaaGreatAbB
namespace Go.Proofs.YtmapmbfohilklaaGreat.Ab

mutual
def AV.beq : AV → AV → Bool
  | .bool a, .bool b => a == b
  | .int k m, .int k' n => decide (k = k') && eqI m n
  | .str a A, .str b B => Nat.beq a b && Nat.beq A B
  | .nilp, .nilp | .nils, .nils | .nilm, .nilm | .nilf, .nilf | .nili, .nili | .junk, .junk | .any, .any => true
  | .sliceE a i, .sliceE b j => Nat.beq a b && Nat.beq i j
  | .ptr a i, .ptr b j => Nat.beq a b && Nat.beq i j
  | .slice a i l c g, .slice b j l' c' g' => Nat.beq a b && Nat.beq i j && Nat.beq l l' && Nat.beq c c' && g == g'
  | .map a, .map b => Nat.beq a b
  | .func f a b, .func f' a' b' => Nat.beq f f' && beqL a a' && beqL b b'
  | .yield l, .yield l' => Nat.beq l l'
  | .meth n v, .meth n' v' => n == n' && AV.beq v v'
  | .iface t v, .iface t' v' => Nat.beq t t' && AV.beq v v'
  | .agg l, .agg l' => beqL l l'
  | .tuple l, .tuple l' => beqL l l'
  | _, _ => false
def beqL : List AV → List AV → Bool
  | [], [] => true
  | a :: l, b :: l' => AV.beq a b && beqL l l'
  | _, _ => false
end

mutual
/-- Are all blocks that it names below n? -/
def AV.under (n : Nat) : AV → Bool
  | .ptr a _ => Nat.blt a n
  | .slice a _ _ _ _ => Nat.blt a n
  | .sliceE a _ => Nat.blt a n
  | .map a => Nat.blt a n
  | .yield l => Nat.blt l n
  | .func _ a b => underL n a && underL n b
  | .meth _ v => AV.under n v
  | .iface _ v => AV.under n v
  | .agg l => underL n l
  | .tuple l => underL n l
  | _ => true
def underL (n : Nat) : List AV → Bool
  | [] => true
  | a :: l => AV.under n a && underL n l
end
noncomputable def onIntB (v : AV) : (IntKind → Int → Bool) → Bool → Bool :=
  AV.rec (motive_1 := fun _ => (IntKind → Int → Bool) → Bool → Bool) (motive_2 := fun _ => Unit) (fun _ e => e) (fun _ _ e => e) (fun a0 a1 k _ => k a0 a1) (fun _ _ _ e => e) (fun _ e => e) (fun _ _ _ e => e) (fun _ e => e) (fun _ _ _ _ _ _ e => e) (fun _ _ _ e => e) (fun _ e => e) (fun _ _ e => e) (fun _ e => e) (fun _ _ _ _ _ _ e => e) (fun _ _ e => e) (fun _ _ _ _ e => e) (fun _ e => e) (fun _ _ _ _ e => e) (fun _ _ _ e => e) (fun _ _ _ e => e) (fun _ e => e) () (fun _ _ _ _ => ()) v
/-- The same, whole numbers first. -/
noncomputable def beqQ (a b : AV) : Bool := onIntB a (fun k m => onIntB b (fun k' n => and (Nat.beq (kindCode k) (kindCode k')) (eqI2 m n)) false) (AV.beq a b)
noncomputable def rowsBeq (new n : Nat) (c : Tr (List AV)) (z : List AV) (c' : Tr (List AV)) (z' : List AV) : Bool :=
  (List.range n).all fun i => beqL (getR c (path i) z) (getR c' (path i) z') && underL new (getR c (path i) z)
noncomputable def objBeq (new : Nat) : AObj → AObj → Bool
  | .bytes n N e st, .bytes n' N' e' st' => Nat.beq n n' && Nat.beq N N' && Nat.beq e e' && (st' || !st)
  | .rows n s c z e, .rows n' s' c' z' e' => Nat.beq n n' && Nat.beq s s' && Nat.beq e e' && rowsBeq new n c z c' z'
  | .map [] a, .map [] b => Nat.beq a b
  | _, _ => false
/-- A value that names a block just made, against one that names block b. -/
def sameNew (new : Nat) : AV → AV → Option Nat
  | .ptr a i, .ptr b j => bif Nat.beq a new && Nat.beq i j then some b else none
  | .slice a i l c g, .slice b j l' c' g' => bif Nat.beq a new && Nat.beq i j && Nat.beq l l' && Nat.beq c c' && g == g' then some b else none
  | .map a, .map b => bif Nat.beq a new then some b else none
  | _, _ => none
/-- Would the operation, carried out now, yield what it yielded? -/
noncomputable def chkV (P : Program) (G : Nat) (o : Oper) (tm : TM) (H : AH) : Bool :=
  match o.dst with
  | none => false
  | some d =>
    match opA P G o tm H with
    | .val v H' =>
      bif Nat.beq H'.size H.size then beqQ v (getT tm d)
      else match sameNew H.size v (getT tm d) with
        | some b => Nat.blt b H.size && objBeq H.size (H'.get H.size) (H.get b)
        | none => false
    | _ => false
/-- Is the operation wanted? none: it can't be told. -/
noncomputable def wantA (ops : Array Oper) (tm : TM) (o : Oper) : Option Bool :=
  match o.guard with
  | none => some true
  | some (j, want) =>
    match (ops[j]?).bind (·.dst) with
    | none => some false
    | some d => match getT tm d with
      | .bool b => some (b == want)
      | .junk => none
      | .any => none
      | _ => some false
noncomputable def chkB (P : Program) (G : Nat) (ops : Array Oper) (o : Oper) (tm : TM) (H : AH) : Bool :=
  match wantA ops tm o with
  | some true => chkV P G o tm H
  | some false => true
  | none => false
noncomputable def chksB (P : Program) (G : Nat) (ops : Array Oper) (tm : TM) (H : AH) (l : List Oper) : Bool := List.rec (motive := fun _ => Program → Nat → Array Oper → TM → AH → Bool) (fun _ _ _ _ _ => true) (fun o _ ih P G ops tm H => and (chkB P G ops o tm H) (ih P G ops tm H)) l P G ops tm H
/-- Carry it out, pass it by, or say that it can't be told. -/
noncomputable def onWant (ops : Array Oper) (tm : TM) (o : Oper) (yes no : Unit → X) : X :=
  match wantA ops tm o with | some true => yes () | some false => no () | none => .fail 3
noncomputable def putK (n : Nat) (tm : TM) (d : Option Tmp) (v : AV) (k : TM → X) : X :=
  Option.rec (motive := fun _ => Nat → TM → AV → (TM → X) → X) (fun _ tm _ k => k tm)
    (fun d n tm v k => Bool.rec (motive := fun _ => Nat → TM → AV → (TM → X) → X) (fun _ _ _ _ => .fail 1) (fun d tm v k => putT tm d v k) (Nat.blt d n) d tm v k) d n tm v k
abbrev RCont := Program → Nat → Nat → Array Oper → TM → AH → X
/-- One operation of a region, then the rest. -/
noncomputable def regOp (o : Oper) (rest : List Oper) (ih : RCont) (P : Program) (G n : Nat) (ops : Array Oper) (tm : TM) (H : AH) : X :=
  X.rec (motive := fun _ => Oper → List Oper → RCont → Program → Nat → Nat → Array Oper → TM → X)
    (fun v H' o _ ih P G n ops tm => putK n tm o.dst v fun tm' => ih P G n ops tm' H')
    (fun f args H' o rest _ _ _ _ _ tm => .enterR f args (o :: rest) tm H') (fun l args H' o rest _ _ _ _ _ tm => .roundR l args (o :: rest) tm H') (fun c o _ _ _ _ _ _ _ => .failAt c o.pos)
    (fun c p _ _ _ _ _ _ _ _ => .failAt c p) (fun _ _ _ _ _ _ _ _ _ _ => .fail 5) (fun _ _ _ _ _ _ _ _ _ _ _ _ _ => .fail 5) (fun _ _ _ _ _ _ _ _ _ _ _ _ _ => .fail 5) (fun _ _ _ _ _ _ _ _ _ _ _ _ _ => .fail 5) (fun _ _ _ _ _ _ _ _ _ _ _ _ _ => .fail 5) (fun _ _ _ _ _ _ _ _ _ _ _ => .fail 5) (fun _ _ _ _ _ _ _ _ _ _ => .fail 5)
    (opA P G o tm H) o rest ih P G n ops tm
noncomputable def regRun (P : Program) (G n : Nat) (ops : Array Oper) (l : List Oper) (tm : TM) (H : AH) : X :=
  List.rec (motive := fun _ => RCont) (fun _ _ _ _ tm H => clearT tm fun tm => .fin tm H)
    (fun o rest ih P G n ops tm H =>
      Option.rec (motive := fun _ => Oper → List Oper → RCont → RCont) (fun o rest ih P G n ops tm H => regOp o rest ih P G n ops tm H)
        (fun _ o rest ih P G n ops tm H => onWant ops tm o (fun _ => regOp o rest ih P G n ops tm H) (fun _ => putK n tm o.dst (.tuple []) fun tm' => ih P G n ops tm' H))
        o.guard o rest ih P G n ops tm H) l P G n ops tm H
/-- A value of an operation in a region that draws: laid, then what may come up later is asked again. -/
noncomputable def dregVal (chk : List Oper) (pos : String) (dst : Option Tmp) (ih : RCont) (P : Program) (G n : Nat) (ops : Array Oper) (tm : TM) (v : AV) (H : AH) : X :=
  putK n tm dst v fun tm' => onB (chksB P G ops tm' H chk) (fun _ => ih P G n ops tm' H) (fun _ => .failAt 4 pos)
noncomputable def dregRun (P : Program) (G n : Nat) (ops : Array Oper) (l : List PItem) (tm : TM) (H : AH) : X :=
  List.rec (motive := fun _ => RCont) (fun _ _ _ _ tm H => clearT tm fun tm => .fin tm H)
    (fun p rest ih P G n ops tm H =>
      onWant ops tm p.op
        (fun _ => onOp (opA P G p.op tm H) (fun v H' => dregVal p.chk p.op.pos p.op.dst ih P G n ops tm v H')
          (fun f args H' => onB p.fl (fun _ => .fail 7) (fun _ => .enterD f args (p :: rest) tm H')) (fun l args H' => onB p.fl (fun _ => .fail 7) (fun _ => .roundD l args (p :: rest) tm H')) (fun c => .failAt c p.op.pos))
        (fun _ => putK n tm p.op.dst (.tuple []) fun tm' => ih P G n ops tm' H)) l P G n ops tm H
def exitA (id : Nat) : List AItem → Option (List AItem)
  | .inBlock id' :: k => bif Nat.beq id' id then some k else exitA id k
  | _ :: k => exitA id k
  | [] => none
def gotoA (l : Nat) : List AItem → Option (List AItem)
  | .inScope body :: k => match findLabel body l with
    | some rest => some (.code rest :: .inScope body :: k)
    | none => gotoA l k
  | _ :: k => gotoA l k
  | [] => none
noncomputable def argsK (l : List AV) (t : Tr AV) (i : Nat) (k : Tr AV → X) : X :=
  List.rec (motive := fun _ => Tr AV → Nat → (Tr AV → X) → X) (fun t _ k => k t) (fun a _ ih t i k => setV (path i) t a .junk fun t' => fNat (Nat.succ i) fun j => ih t' j k) l t i k
/-- A function's body and the number of its slots. -/
def bodyOf (P : Program) (f : Nat) : Option Code := (P.funcs[f]?).bind (·.body)
def slotsOf (P : Program) (f : Nat) : Nat := ((P.funcs[f]?).map (·.ntmps)).getD 0
/-- Which slots are named in several places: the others may be forgotten behind their region. (Nothing hangs on its being right.) -/
def bitOf : Operand → Nat
  | .tmp t => Nat.pow 2 t
  | _ => 0
def bitsOps : List Oper → Nat
  | [] => 0
  | o :: l => Nat.lor (match o.dst with | some d => Nat.pow 2 d | none => 0) (Nat.lor (o.op.operands.toList.foldr (fun x m => Nat.lor (bitOf x) m) 0) (bitsOps l))
def scan : Code → Nat → Nat → Nat × Nat
  | .region _ ops _, o, m => (Nat.lor o (bitsOps ops.toList), Nat.lor m (Nat.land o (bitsOps ops.toList)))
  | .seq a b, o, m => scan b (scan a o m).1 (scan a o m).2
  | .cond c a b, o, m => scan b (scan a o (Nat.lor m (bitOf c))).1 (scan a o (Nat.lor m (bitOf c))).2
  | .block _ b, o, m => scan b o m
  | .loop b, o, m => scan b o m
  | .scope b, o, m => scan b o m
  | .rangeFunc f ps a b, o, m => scan b (scan a o (Nat.lor m (Nat.lor (bitOf f) (ps.toList.foldr (fun t m => Nat.lor (Nat.pow 2 t) m) 0)))).1 (scan a o (Nat.lor m (Nat.lor (bitOf f) (ps.toList.foldr (fun t m => Nat.lor (Nat.pow 2 t) m) 0)))).2
  | _, o, m => (o, m)
def maskOf (P : Program) (f : Nat) : Nat :=
  match P.funcs[f]? with
  | some fn => match fn.body with
    | some c => Nat.lor (Nat.sub (Nat.pow 2 (Nat.add fn.params.size fn.nfree)) 1) (Nat.lor (fn.results.toList.foldr (fun r m => Nat.lor (match r with | .tmp t => Nat.pow 2 t | .cell t _ => Nat.pow 2 t) m) 0) (scan c 0 0).2)
    | none => 0
  | none => 0
noncomputable def onC (o : Option Code) : (Code → X) → X → X := Option.rec (motive := fun _ => (Code → X) → X → X) (fun _ e => e) (fun n k _ => k n) o
/-- What goes on: a frame in its parts (function, slots' number, slots, items, 'it returns', loops' blocks, the round that it is), its callers, the heap. -/
abbrev Cont := Nat → Nat → TM → List AItem → Bool → List Nat → Option Nat → List AF → AH → X
/-- A call that is answered by a law of its own. -/
abbrev Hook := List AV → AH → Option (AV × AH)
abbrev Hooks := Nat → Option Hook
noncomputable def enterA (P : Program) (ih : Cont) (f : Nat) (args : List AV) (cs : List AF) (H : AH) : X :=
  onC (bodyOf P f) (fun c => argsK args .nil 0 fun tr => fNat (slotsOf P f) fun n => fNat (maskOf P f) fun mask => ih f n (.mk mask .nil tr) [.code c] false [] none cs H) (.fail 400)
/-- A frame goes on with a value: its first item waited for it. -/
noncomputable def finI (P : Program) (G : Nat) (ih : Cont) (v : AV) (cs : List AF) (H : AH) (fn n : Nat) (tm : TM) (i : AItem) (k : List AItem) (ret : Bool) (d : List Nat) (r : Option Nat) : X :=
  match i with
  | .reg ops (o :: rest) => putK n tm o.dst v fun tm => ih fn n tm (.reg ops rest :: k) ret d r cs H
  | .dwait ops (p :: rest) => putK n tm p.op.dst v fun tm => ih fn n tm (.dreg ops p.chk rest :: k) ret d r cs H
  | .inRF l => ih fn n tm (.endRF l :: k) ret d r cs H
  | _ => .fail 413
noncomputable def finA (P : Program) (G : Nat) (ih : Cont) (fr : AF) (v : AV) (cs : List AF) (H : AH) : X :=
  AF.rec (motive := fun _ => Program → Nat → Cont → AV → List AF → AH → X) (fun fn n tm todo ret d r P G ih v cs H =>
    match todo with
    | i :: k => finI P G ih v cs H fn n tm i k ret d r
    | [] => .fail 414) fr P G ih v cs H
noncomputable def roundTm (l : List (Tmp × AV)) (n : Nat) (t : TM) (k : TM → X) : X :=
  List.rec (motive := fun _ => Nat → TM → (TM → X) → X) (fun _ t k => k t) (fun p _ ih n t k => onB (Nat.blt p.1 n) (fun _ => putT t p.1 p.2 fun t' => ih n t' k) (fun _ => .fail 420)) l n t k
/-- A round of a loop over a function: a frame of its own, on the loop's slots. -/
noncomputable def roundA (ih : Cont) (l : Nat) (args : List AV) (cs : List AF) (H : AH) : X :=
  match H.get l with
  | .loop _ _ fn mask tr n ps asg body _ => onB (Nat.beq args.length ps.size) (fun _ => roundTm (ps.toList.zip args) n (.mk mask .nil tr) fun tm => ih fn n tm [.code asg, .beginRound, .code body] false [] (some l) cs H) (fun _ => .fail 421)
  | _ => .fail 422
/-- The frame ends, by a jump or at its end. -/
noncomputable def leaveA (P : Program) (G : Nat) (ih : Cont) (jump : Option Code) (isRet : Bool) (fn n : Nat) (tm : TM) (d : List Nat) (r : Option Nat) (cs : List AF) (H : AH) : X :=
  match r with
  | none => onB isRet (fun _ => ih fn n tm [] true d none cs H) (fun _ => .fail 430)
  | some l =>
    match H.get l, cs with
    | .loop _ _ fn mask tr n ps asg body d, c :: cs =>
      onB (Nat.ble G l) (fun _ => Option.rec (motive := fun _ => Nat → Nat → Nat → Tr AV → Nat → Array Tmp → Code → Code → Nat → AF → List AF → AH → X)
        (fun l fn mask tr n ps asg body d c cs H => H.setK l (.loop .ready none fn mask tr n ps asg body d) fun H' => finA P G ih c (.bool true) cs H')
        (fun j l fn mask tr n ps asg body d c cs H => H.setK l (.loop .done (some j) fn mask tr n ps asg body d) fun H' => finA P G ih c (.bool false) cs H') jump l fn mask tr n ps asg body d c cs H) (fun _ => .fail 432)
    | _, _ => .fail 431
noncomputable def resA (P : Program) (tm : TM) (H : AH) : List ResultVar → Option (List AV)
  | [] => some []
  | .tmp t :: l => match resA P tm H l with | some r => some (getT tm t :: r) | none => none
  | .cell a t :: l => match getT tm a with
    | .ptr b off => match loadA P t b off H, resA P tm H l with | some v, some r => some (v :: r) | _, _ => none
    | _ => none
def resultsOf (P : Program) (f : Nat) : List ResultVar := ((P.funcs[f]?).map (·.results.toList)).getD []
def oneOf : List AV → AV
  | [v] => v
  | vs => .tuple vs
noncomputable def retA (ih : Cont) (P : Program) (G fn n : Nat) (tm : TM) (todo : List AItem) (d : List Nat) (r : Option Nat) (cs : List AF) (H : AH) : X :=
  match d with
  | b :: ds => match H.get b with
    | .deferred true => onB (Nat.ble G b) (fun _ => H.setK b (.deferred false) fun H' => ih fn n tm todo true ds r cs H') (fun _ => .fail 443)
    | _ => .fail 440
  | [] =>
    match P.funcs[fn]? with
    | none => .fail 441
    | some _ =>
      onOL (resA P tm H (resultsOf P fn)) (fun vs =>
        match cs with
        | [] => .done (oneOf vs) H
        | c :: cs => finA P G ih c (oneOf vs) cs H) (.fail 442)
noncomputable def onPlan (o : Option (List PItem)) : (List PItem → X) → X → X := Option.rec (motive := fun _ => (List PItem → X) → X → X) (fun _ e => e) (fun n k _ => k n) o
noncomputable def onItems (o : Option (List AItem)) : (List AItem → X) → (Unit → X) → X := Option.rec (motive := fun _ => (List AItem → X) → (Unit → X) → X) (fun _ e => e ()) (fun n k _ => k n) o
noncomputable def onHook (o : Option Hook) : (Hook → X) → (Unit → X) → X := Option.rec (motive := fun _ => (Hook → X) → (Unit → X) → X) (fun _ e => e ()) (fun n k _ => k n) o
noncomputable def onVH (o : Option (AV × AH)) : (AV → AH → X) → X := Option.rec (motive := fun _ => (AV → AH → X) → X) (fun _ => .fail 480) (fun p k => k p.1 p.2) o
noncomputable def callF (ih : Cont) (P : Program) (K : Hooks) (G f : Nat) (args : List AV) (c : AF) (cs : List AF) (H : AH) : X :=
  onHook (K f) (fun h => onVH (h args H) fun v H' => finA P G ih c v cs H') (fun _ => enterA P ih f args (c :: cs) H)
/-- A loop over a function: its record is laid, the function is called with what begins a round. -/
noncomputable def rangeFn (ih : Cont) (P : Program) (K : Hooks) (G : Nat) (f : Operand) (ps : Array Tmp) (asg body : Code) (k : List AItem) (fn n : Nat) (tm : TM) (d : List Nat) (r : Option Nat) (cs : List AF) (H : AH) : X :=
  match r with
  | none => H.pushK (.deferred true) fun H1 => fNat H.size fun D => fNat (Nat.succ D) fun L => H1.pushK (.loop .ready none fn tm.mask tm.tr n ps asg body D) fun H2 =>
      onOp (callV P (ev tm f) [.yield L] H2) (fun _ _ => .fail 470) (fun g args H3 => callF ih P K G g args (.mk fn n tm (.inRF L :: k) false (D :: d) none) cs H3) (fun _ _ _ => .fail 471) (fun c => .fail c)
  | some l => match H.get l with
    | .loop _ _ _ _ _ _ _ _ _ D => H.pushK (.loop .ready none fn tm.mask tm.tr n ps asg body D) fun H1 => fNat H.size fun L =>
      onOp (callV P (ev tm f) [.yield L] H1) (fun _ _ => .fail 470) (fun g args H3 => callF ih P K G g args (.mk fn n tm (.inRF L :: k) false d (some l)) cs H3) (fun _ _ _ => .fail 471) (fun c => .fail c)
    | _ => .fail 472
/-- What an item does: the rest of the items, the frame's parts, callers, heap. -/
abbrev ItemT := Cont → Program → Hooks → Nat → List AItem → Nat → Nat → TM → List Nat → Option Nat → List AF → AH → X
noncomputable def regA (ops : Array Oper) (rest : List Oper) (ih : Cont) (P : Program) (K : Hooks) (G : Nat) (k : List AItem) (fn n : Nat) (tm : TM) (d : List Nat) (r : Option Nat) (cs : List AF) (H : AH) : X :=
  onReg (regRun P G n ops rest tm H) (fun tm H' => ih fn n tm k false d r cs H')
    (fun f args rest tm H' => callF ih P K G f args (.mk fn n tm (.reg ops rest :: k) false d r) cs H')
    (fun l args rest tm H' => roundA ih l args (.mk fn n tm (.reg ops rest :: k) false d r :: cs) H')
noncomputable def dregA (ops : Array Oper) (rest : List PItem) (ih : Cont) (P : Program) (K : Hooks) (G : Nat) (k : List AItem) (fn n : Nat) (tm : TM) (d : List Nat) (r : Option Nat) (cs : List AF) (H : AH) : X :=
  onDreg (dregRun P G n ops rest tm H) (fun tm H' => ih fn n tm k false d r cs H')
    (fun f args rest tm H' => callF ih P K G f args (.mk fn n tm (.dwait ops rest :: k) false d r) cs H')
    (fun l args rest tm H' => roundA ih l args (.mk fn n tm (.dwait ops rest :: k) false d r :: cs) H')
/-- A piece of code stands next: down to its first region, call or jump. -/
noncomputable def codeA (c : Code) : ItemT :=
  Code.rec (motive := fun _ => ItemT)
    (fun ih _ _ _ k fn n tm d r cs H => ih fn n tm k false d r cs H)
    (fun _ ops draw ih P K G k fn n tm d r cs H => Bool.rec (motive := fun _ => Array Oper → ItemT) (fun ops ih P K G k fn n tm d r cs H => regA ops ops.toList ih P K G k fn n tm d r cs H)
      (fun ops ih P K G k fn n tm d r cs H => onPlan (plan P ops) (fun l => dregA ops l ih P K G k fn n tm d r cs H) (.failAt 451 ((ops.getD 0 default).pos))) draw ops ih P K G k fn n tm d r cs H)
    (fun _ b iha _ ih P K G k fn n tm d r cs H => iha ih P K G (.code b :: k) fn n tm d r cs H)
    (fun c _ _ iha ihb ih P K G k fn n tm d r cs H => onBool (ev tm c) (fun t => Bool.rec (motive := fun _ => ItemT → ItemT → ItemT) (fun _ ihb ih P K G k fn n tm d r cs H => ihb ih P K G k fn n tm d r cs H) (fun iha _ ih P K G k fn n tm d r cs H => iha ih P K G k fn n tm d r cs H) t iha ihb ih P K G k fn n tm d r cs H) (.fail 450))
    (fun id _ ihb ih P K G k fn n tm d r cs H => ihb ih P K G (.inBlock id :: k) fn n tm d r cs H)
    (fun b ihb ih P K G k fn n tm d r cs H => ihb ih P K G (.inLoop b :: k) fn n tm d r cs H)
    (fun f ps asg body _ _ ih P K G k fn n tm d r cs H => rangeFn ih P K G f ps asg body k fn n tm d r cs H)
    (fun id ih P _ G k fn n tm d r cs H => onItems (exitA id k) (fun k' => ih fn n tm k' false d r cs H) (fun _ => leaveA P G ih (some (.exit id)) false fn n tm d r cs H))
    (fun b ihb ih P K G k fn n tm d r cs H => ihb ih P K G (.inScope b :: k) fn n tm d r cs H)
    (fun _ ih _ _ _ k fn n tm d r cs H => ih fn n tm k false d r cs H)
    (fun l ih P _ G k fn n tm d r cs H => onItems (gotoA l k) (fun k' => ih fn n tm k' false d r cs H) (fun _ => leaveA P G ih (some (.goto l)) false fn n tm d r cs H))
    (fun ih P _ G _ fn n tm d r cs H => leaveA P G ih (some .ret) true fn n tm d r cs H)
    (fun w _ _ _ _ _ _ _ _ _ _ _ _ => .failAt 455 w) c
noncomputable def beginA (l : Option Nat) (ih : Cont) (G : Nat) (k : List AItem) (fn n : Nat) (tm : TM) (d : List Nat) (cs : List AF) (H : AH) : X :=
  match l with
  | none => .fail 457
  | some l => match H.get l with
    | .loop .ready p f' mask tr n' ps asg body D => onB (Nat.ble G l) (fun _ => H.setK l (.loop .busy p f' mask tr n' ps asg body D) fun H' => ih fn n tm k false d (some l) cs H') (fun _ => .fail 458)
    | _ => .fail 460
noncomputable def endRFA (l : Nat) (ih : Cont) (G : Nat) (k : List AItem) (fn n : Nat) (tm : TM) (d : List Nat) (r : Option Nat) (cs : List AF) (H : AH) : X :=
  match H.get l with
  | .loop st p f' mask tr n' ps asg body D => onB (Nat.ble G l) (fun _ =>
      match st with
      | .busy => .fail 461
      | _ => H.setK l (.loop .exhausted p f' mask tr n' ps asg body D) fun H' => onC p (fun c => ih fn n tm (.code c :: k) false d r cs H') (ih fn n tm k false d r cs H')) (fun _ => .fail 459)
  | _ => .fail 462
/-- An item stands next. -/
noncomputable def itemA (i : AItem) : ItemT :=
  AItem.rec (motive := fun _ => ItemT)
    (fun c ih P K G k fn n tm d r cs H => codeA c ih P K G k fn n tm d r cs H)
    (fun _ ih _ _ _ k fn n tm d r cs H => ih fn n tm k false d r cs H)
    (fun b ih P K G k fn n tm d r cs H => codeA b ih P K G (.inLoop b :: k) fn n tm d r cs H)
    (fun _ ih _ _ _ k fn n tm d r cs H => ih fn n tm k false d r cs H)
    (fun ops rest ih P K G k fn n tm d r cs H => regA ops rest ih P K G k fn n tm d r cs H)
    (fun ops chk rest ih P K G k fn n tm d r cs H => onB (chksB P G ops tm H chk) (fun _ => dregA ops rest ih P K G k fn n tm d r cs H) (fun _ => .failAt 412 ((ops.getD 0 default).pos)))
    (fun _ _ _ _ _ _ _ _ _ _ _ _ _ _ => .fail 411)
    (fun _ _ _ _ _ _ _ _ _ _ _ _ _ => .fail 456)
    (fun l ih _ _ G k fn n tm d r cs H => endRFA l ih G k fn n tm d r cs H)
    (fun ih _ _ G k fn n tm d r cs H => beginA r ih G k fn n tm d cs H) i
noncomputable def stepA (ih : Cont) (P : Program) (K : Hooks) (G fn n : Nat) (tm : TM) (todo : List AItem) (ret : Bool) (d : List Nat) (r : Option Nat) (cs : List AF) (H : AH) : X :=
  Bool.rec (motive := fun _ => Cont → Program → Hooks → Nat → Nat → Nat → TM → List AItem → List Nat → Option Nat → List AF → AH → X)
    (fun ih P K G fn n tm todo d r cs H => List.rec (motive := fun _ => Cont → Program → Hooks → Nat → Nat → Nat → TM → List Nat → Option Nat → List AF → AH → X)
      (fun ih P _ G fn n tm d r cs H => leaveA P G ih none true fn n tm d r cs H)
      (fun i k _ ih P K G fn n tm d r cs H => itemA i ih P K G k fn n tm d r cs H) todo ih P K G fn n tm d r cs H)
    (fun ih P _ G fn n tm todo d r cs H => retA ih P G fn n tm todo d r cs H) ret ih P K G fn n tm todo d r cs H
noncomputable def runA (s : Nat) (P : Program) (K : Hooks) (G : Nat) : Cont := fun fn n tm todo ret d r cs H =>
  Nat.rec (motive := fun _ => Program → Hooks → Nat → Cont) (fun _ _ _ fn n tm todo ret d r cs H => .next (.mk fn n tm todo ret d r) cs H)
    (fun _ ih P K G fn n tm todo ret d r cs H => stepA (ih P K G) P K G fn n tm todo ret d r cs H) s P K G fn n tm todo ret d r cs H
noncomputable def callRun (P : Program) (K : Hooks) (G s f : Nat) (args : List AV) (H : AH) : X := enterA P (runA s P K G) f args [] H
end Go.Proofs.YtmapmbfohilklaaGreat.Ab
