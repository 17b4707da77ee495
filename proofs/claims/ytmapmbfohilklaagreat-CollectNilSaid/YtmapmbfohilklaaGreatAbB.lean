/-
  The abstract machine: operations.
-/
import Derived.Test.YtmapmbfohilklaaGreatAbA
namespace Go.Proofs.YtmapmbfohilklaaGreat.Ab

noncomputable def ev (tm : TM) (x : Operand) : AV :=
  Operand.rec (motive := fun _ => TM → AV) (fun t tm => getT tm t) (fun v _ => ofConst v) (fun _ _ => .junk) (fun f _ => .func f [] []) x tm
noncomputable def evs (tm : TM) (l : List Operand) : List AV := List.rec (motive := fun _ => TM → List AV) (fun _ => []) (fun x _ ih tm => ev tm x :: ih tm) l tm
noncomputable def evsParts (tm : TM) (l : List (Nat × Operand)) : List (Nat × AV) := List.rec (motive := fun _ => TM → List (Nat × AV)) (fun _ => []) (fun x _ ih tm => (x.1, ev tm x.2) :: ih tm) l tm

/-! ### memory: cells -/
noncomputable def onCells (o : AObj) : (Nat → Nat → TypeId → Bool → X) → (Nat → Nat → Tr (List AV) → List AV → TypeId → X) → X → X :=
  AObj.rec (motive := fun _ => (Nat → Nat → TypeId → Bool → X) → (Nat → Nat → Tr (List AV) → List AV → TypeId → X) → X → X)
    (fun _ _ e => e) (fun n N t st k _ _ => k n N t st) (fun n s c z t _ k _ => k n s c z t) (fun _ _ _ _ e => e) (fun _ _ _ _ _ e => e) (fun _ _ _ _ _ _ e => e) (fun _ _ _ _ _ _ _ _ _ _ _ _ e => e) (fun _ _ _ e => e) o
/-- The value number i of a list, no junk. -/
noncomputable def nthX (l : List AV) : Nat → (AV → X) → X → X :=
  List.rec (motive := fun _ => Nat → (AV → X) → X → X) (fun _ _ e => e)
    (fun v _ ih i k e => Nat.rec (motive := fun _ => AV → (Nat → (AV → X) → X → X) → (AV → X) → X → X) (fun v _ k e => onJunk v e (k v)) (fun m _ _ ih k e => ih m k e) i v ih k e) l
noncomputable def cellX (o : AObj) (off : Nat) (H : AH) : X :=
  onCells o (fun n N _ _ => onB (Nat.blt off n) (fun _ => rInt .u8 (.ofNat (byteAt (coreB N) off)) H) (fun _ => .fail 303))
    (fun n s c z _ => onB (Nat.blt off (Nat.mul n s)) (fun _ => nthX (getR c (path (Nat.div off s)) z) (Nat.mod off s) (fun v => .val v H) (.fail 303)) (fun _ => .fail 304)) (.fail 305)
/-- How a variable of a type is read: 0: no such type; 1: one cell; k + 2: k cells. -/
def loadKind (P : Program) (t : TypeId) : Nat :=
  match isAggA P t, sizeA P t with
  | some false, some 1 => 1
  | some true, some k => k + 2
  | _, _ => 0
noncomputable def loadX (P : Program) (t : TypeId) (b off : Nat) (H : AH) : X :=
  Nat.rec (motive := fun _ => Nat → Nat → AH → X) (fun _ _ _ => .fail 306)
    (fun m _ b off H => Nat.rec (motive := fun _ => Nat → Nat → AH → X) (fun b off H => cellX (H.get b) off H)
      (fun k _ b off H => Nat.rec (motive := fun _ => Nat → Nat → Nat → AH → X) (fun _ _ _ H => .val (.agg []) H) (fun _ _ k b off H => onOL (cellsAt (H.get b) off k) (fun l => .val (.agg l) H) (.fail 307)) k k b off H) m b off H) (loadKind P t) b off H
/-- One cell written. -/
noncomputable def cellPut (o : AObj) (off b : Nat) (v : AV) (H : AH) : X :=
  onCells o (fun n N t st => onB (Nat.blt off n) (fun _ => onON (byteOfA v) (fun x => fNat (sealB (putB (coreB N) off 1 x)) fun N' => H.setK b (.bytes n N' t st) fun H' => .val (.tuple []) H') (.fail 131)) (fun _ => .fail 132))
    (fun n s c z t => onB (and (Nat.blt off (Nat.mul n s)) (cellB v))
      (fun _ => onB (Nat.beq s 1) (fun _ => setR (path off) c [v] z fun c' => H.setK b (.rows n s c' z t) fun H' => .val (.tuple []) H')
        (fun _ => setR (path (Nat.div off s)) c (putAt (getR c (path (Nat.div off s)) z) (Nat.mod off s) [v]) z fun c' => H.setK b (.rows n s c' z t) fun H' => .val (.tuple []) H')) (fun _ => .fail 133)) (.fail 134)
noncomputable def storeX (P : Program) (G : Nat) (t : TypeId) (b off : Nat) (v : AV) (H : AH) : X :=
  onB (Nat.ble G b) (fun _ =>
    Nat.rec (motive := fun _ => Program → Nat → Nat → Nat → Nat → AV → AH → X) (fun _ _ _ _ _ _ _ => .fail 135)
      (fun m _ P G t b off v H => Nat.rec (motive := fun _ => Program → Nat → Nat → Nat → Nat → AV → AH → X) (fun _ _ _ b off v H => cellPut (H.get b) off b v H) (fun _ _ P G t b off v H => storeA P G t b off v H) m P G t b off v H) (loadKind P t) P G t b off v H) (fun _ => .fail 136)
/-! ### building -/
def fillA (place : Nat → Option (Nat × Nat)) : List AV → List (Nat × AV) → Option (List AV)
  | cells, [] => some cells
  | cells, (i, v) :: rest =>
    match place i, cellsOfA v with
    | some (off, size), some l => bif Nat.beq l.length size && Nat.ble (off + size) cells.length then fillA place (putAt cells off l) rest else none
    | _, _ => none
/-- The same, where the parts come in order and name all. -/
def fastA (place : Nat → Option (Nat × Nat)) (tot : Nat) : (off : Nat) → List (Nat × AV) → Option (List AV)
  | off, [] => bif Nat.beq off tot then some [] else none
  | off, (i, v) :: rest =>
    match place i, cellsOfA v with
    | some (o, size), some l => bif Nat.beq o off && (Nat.beq l.length size && Nat.ble (Nat.add off size) tot) then (match fastA place tot (Nat.add off size) rest with | some r => some (l ++ r) | none => none) else none
    | _, _ => none
def fillQ (place : Nat → Option (Nat × Nat)) (z : List AV) (ps : List (Nat × AV)) : Option (List AV) :=
  match fastA place z.length 0 ps with
  | some l => some l
  | none => fillA place z ps
def fieldPlaces (P : Program) : List Field → Option (List (Nat × Nat))
  | [] => some []
  | f :: fs => match sizeA P f.type, fieldPlaces P fs with | some s, some l => some ((f.offset, s) :: l) | _, _ => none
def buildA (P : Program) (t : TypeId) (parts : List (Nat × AV)) : Option AV :=
  match zeroCellsA P t, P.underlying t with
  | some z, some (.struct fs) => match fieldPlaces P fs.toList with | some ps => (fillQ (ps[·]?) z parts).map .agg | none => none
  | some z, some (.array _ e) => match sizeA P e with | some s => (fillQ (fun i => some (Nat.mul i s, s)) z parts).map .agg | none => none
  | _, _ => none
/-- The rows of a slice literal, its parts in order; what is not named is z. -/
def seqRows (z : List AV) : List (Nat × AV) → (left i : Nat) → Option (List (List AV))
  | [], 0, _ => some []
  | _ :: _, 0, _ => none
  | [], m + 1, i => (seqRows z [] m (i + 1)).map (z :: ·)
  | (j, v) :: ps, m + 1, i =>
    bif Nat.beq j i then
      match cellsOfA v with
      | some l => bif Nat.beq l.length z.length && allCells l then (seqRows z ps m (i + 1)).map (l :: ·) else none
      | none => none
    else (seqRows z ((j, v) :: ps) m (i + 1)).map (z :: ·)
def packRows : List (List AV) → Option Nat
  | [] => some 0
  | [v] :: l => match byteOfA v, packRows l with | some b, some N => some (b + 256 * N) | _, _ => none
  | _ => none
noncomputable def buildSliceA (P : Program) (t : TypeId) (len : Nat) (parts : List (Nat × AV)) (H : AH) : X :=
  match P.underlying t with
  | some (.slice e) =>
    match zeroCellsA P e with
    | some z =>
      bif Nat.blt 0 z.length && Nat.ble (Nat.mul len z.length) 16777216 then
        match seqRows z parts len 0 with
        | some rs =>
          bif isByteA P e then
            match packRows rs with
            | some M => fNat (sealB M) fun M => H.pushK (.bytes len M e false) fun H' => .val (.slice H.size 0 len len false) H'
            | none => .fail 160
          else setRowsK z rs .nil 0 fun c => H.pushK (.rows len z.length c z e) fun H' => .val (.slice H.size 0 len len false) H'
        | none => .fail 161
      else .fail 162
    | none => .fail 163
  | _ => .fail 164
noncomputable def makeSliceA (P : Program) (t : TypeId) (len cap : AV) (H : AH) : X :=
  match P.underlying t, len, cap with
  | some (.slice e), .int _ (.ofNat l), .int _ (.ofNat c) =>
    match zeroCellsA P e with
    | some z =>
      bif Nat.ble l c && Nat.ble (Nat.mul c (P.bytesOf e)) 1099511627776 && Nat.blt 0 z.length && Nat.ble c 1099511627776 then
        bif isByteA P e then H.pushK (.bytes c 0 e false) fun H' => rSlice H.size 0 l c false H'
        else H.pushK (.rows c z.length .nil z e) fun H' => rSlice H.size 0 l c false H'
      else .fail 165
    | none => .fail 166
  | _, _, _ => .fail 167

/-! ### slices, indexes -/
def natOf : AV → Option Nat
  | .int _ (.ofNat n) => some n
  | _ => none
/-- low, high under a bound. -/
def boundsA (len cap : Nat) (lo hi : Option AV) : Option (Nat × Nat) :=
  match (match hi with | none => some len | some v => natOf v), (match lo with | none => some 0 | some v => natOf v) with
  | some h, some l => bif Nat.ble h cap && Nat.ble l h then some (l, h) else none
  | _, _ => none
noncomputable def sliceA (P : Program) (t : TypeId) (x : AV) (lo hi mx : Option AV) (H : AH) : X :=
  match mx with
  | some m =>
    match P.underlying t, x, natOf m, hi with
    | some (.slice e), .slice b off len cap _, some m, some _ =>
      bif Nat.ble m cap then
        match boundsA len m lo hi, sizeA P e with
        | some (l, h), some s => rSlice b (bif Nat.beq m l then off else Nat.add off (Nat.mul l s)) (Nat.sub h l) (Nat.sub m l) false H
        | _, _ => .fail 170
      else .fail 169
    | _, _, _, _ => .fail 168
  | none =>
    match P.underlying t, x with
    | some (.array n e), .ptr b off =>
      match boundsA n n lo hi, sizeA P e with
      | some (l, h), some s => rSlice b (bif Nat.beq n l then off else Nat.add off (Nat.mul l s)) (Nat.sub h l) (Nat.sub n l) false H
      | _, _ => .fail 171
    | some (.pointer arr), .ptr b off =>
      match P.underlying arr with
      | some (.array n e) =>
        match boundsA n n lo hi, sizeA P e with
        | some (l, h), some s => rSlice b (bif Nat.beq n l then off else Nat.add off (Nat.mul l s)) (Nat.sub h l) (Nat.sub n l) false H
        | _, _ => .fail 171
      | _ => .fail 172
    | some .string, .str n N =>
      match boundsA n n lo hi with
      | some (l, h) => rStr (Nat.sub h l) (cutB N l (Nat.sub h l)) H
      | none => .fail 173
    | some (.slice e), .nils =>
      match boundsA 0 0 lo hi, sizeA P e with
      | some _, some _ => .val .nils H
      | _, _ => .fail 174
    | some (.slice e), .sliceE b off =>
      match boundsA 0 0 lo hi, sizeA P e with
      | some _, some _ => .val (.sliceE b off) H
      | _, _ => .fail 174
    | some (.slice e), .slice b off len cap g =>
      match boundsA len cap lo hi, sizeA P e with
      | some (l, h), some s =>
        bif Nat.beq l cap then (bif g then fNat (Nat.add off (Nat.mul l s)) fun o => .val (.sliceE b o) H else rSlice b off (Nat.sub h l) (Nat.sub cap l) g H)
        else rSlice b (Nat.add off (Nat.mul l s)) (Nat.sub h l) (Nat.sub cap l) g H
      | _, _ => .fail 175
    | _, _ => .fail 176
/-- What is indexed: an array's place (length, size) or a slice (size). -/
def idxKind (P : Program) (t : TypeId) : Option (Nat × Nat) :=
  match P.underlying t with
  | some (.array n e) => (sizeA P e).map fun s => (n, s)
  | _ => none
def idxSlice (P : Program) (t : TypeId) : Option Nat :=
  match P.underlying t with
  | some (.slice e) => sizeA P e
  | _ => none
noncomputable def indexAddrA (P : Program) (t : TypeId) (x i : AV) (H : AH) : X :=
  onInt i (fun _ i => onNat i (fun i =>
    onSlice x (fun b off len _ _ => onON (idxSlice P t) (fun s => onB (Nat.blt i len) (fun _ => rPtr b (Nat.add off (Nat.mul i s)) H) (fun _ => .fail 182)) (.fail 183))
      (onPtr x (fun b off => onON ((idxKind P t).map (·.1)) (fun n => onON ((idxKind P t).map (·.2)) (fun s => onB (Nat.blt i n) (fun _ => rPtr b (Nat.add off (Nat.mul i s)) H) (fun _ => .fail 180)) (.fail 181)) (.fail 181)) (.fail 184))) (.fail 184)) (.fail 184)
noncomputable def indexA (P : Program) (t : TypeId) (x i : AV) (H : AH) : X :=
  match P.underlying t, x, natOf i with
  | some (.array n e), .agg cs, some i =>
    match sizeA P e with
    | some s => bif Nat.blt i n then rOpt (partA P e cs (Nat.mul i s)) 185 H else .fail 186
    | none => .fail 187
  | some .string, .str n N, some i => bif Nat.blt i n then rInt .u8 (.ofNat (byteAt N i)) H else .fail 188
  | _, _, _ => .fail 189
def fieldOff (P : Program) (s : TypeId) (f : Nat) : Option Nat :=
  match P.underlying s with
  | some (.struct fs) => match fs[f]? with
    | some f => match sizeA P f.type with
      | some (_ + 1) => some f.offset
      | _ => none
    | none => none
  | _ => none
noncomputable def fieldAddrA (P : Program) (s : TypeId) (x : AV) (f : Nat) (H : AH) : X :=
  onPtr x (fun b off => onON (fieldOff P s f) (fun o => rPtr b (Nat.add off o) H) (.fail 190)) (.fail 191)
def fieldA (P : Program) (t : TypeId) (x : AV) (f : Nat) : Option AV :=
  match P.underlying t, x with
  | some (.struct fs), .agg cs => match fs[f]? with | some f => partA P f.type cs f.offset | none => none
  | _, _ => none

/-! ### conversions -/
noncomputable def convA (P : Program) (G : Nat) (src dst : TypeId) (x : AV) (H : AH) : X :=
  match P.underlying src, P.underlying dst with
  | some s, some d =>
    match s, d, x with
    | _, .int k, .int _ n => rInt k (wrapA k n) H
    | _, .string, .str l N => .val (.str l N) H
    | _, .slice e, .str l N => bif isByteA P e then fNat (sealB N) fun M => H.pushK (.bytes l M e true) fun H' => .val (.slice H.size 0 l l true) H' else .fail 200
    | .slice e, .string, .nils => bif isByteA P e then .val (.str 0 0) H else .fail 201
    | .slice e, .string, .sliceE .. => bif isByteA P e then .val (.str 0 0) H else .fail 201
    | .slice e, .string, .slice b off len _ _ =>
      bif isByteA P e then
        match seqOf H 1 len (.slice b off len 0 false) with
        | some .emp => .val (.str 0 0) H
        | some (.pk n N) => .val (.str n N) H
        | _ => .fail 202
      else .fail 203
    | .slice _, .slice e, .slice b off len cap g =>
      bif Nat.beq src dst && (isByteA P e && Nat.ble G b) then
        match H.get b with
        | .bytes n N e' _ => H.setK b (.bytes n N e' true) fun H' => .val (.slice b off len cap g) H'
        | _ => .fail 207
      else .fail 208
    | _, _, _ => .fail 205
  | _, _ => .fail 206

/-! ### maps -/
def findA (P : Program) (H : AH) (key : TypeId) (eq : TypeId → AV → AV → Option Bool) (k : AV) : List (AV × AV × Nat) → Nat → Option (Option (Nat × AV))
  | [], _ => some none
  | e :: es, i => match eq key k e.1 with
    | some true => some (some (i, e.2.1))
    | some false => findA P H key eq k es (i + 1)
    | none => none
/-- Is a key of this type and value without a panic? -/
def keyFields (chk : TypeId → AV → Bool) (P : Program) (cs : List AV) : List Field → Bool
  | [] => true
  | f :: fs => (if f.name = "_" then true else match partA P f.type cs f.offset with | some x => chk f.type x | none => false) && keyFields chk P cs fs
def keyElems (chk : TypeId → AV → Bool) (P : Program) (cs : List AV) (e : TypeId) (n : Nat) : (left i : Nat) → Bool
  | 0, _ => true
  | m + 1, i => (match partA P e cs (i * n) with | some x => chk e x | none => false) && keyElems chk P cs e n m (i + 1)
def keyA (P : Program) : Nat → TypeId → AV → Bool
  | 0, _, _ => false
  | d + 1, t, v =>
    match P.underlying t, v with
    | some (.int _), .int _ _ => true
    | some (.int _), .any => true
    | some .string, .str _ _ => true
    | some .bool, .bool _ => true
    | some (.pointer _), .ptr _ _ => true
    | some (.array len e), .agg cs => match sizeA P e with | some n => keyElems (keyA P d) P cs e n len 0 | none => false
    | some (.struct fs), .agg cs => keyFields (keyA P d) P cs fs.toList
    | _, _ => false
def setNth (es : List (AV × AV × Nat)) (i : Nat) (e : AV × AV × Nat) : List (AV × AV × Nat) := es.set i e
noncomputable def lookupA (P : Program) (t : TypeId) (x k : AV) (ok : Bool) (H : AH) : X :=
  match P.underlying t with
  | some (.map key elem) =>
    bif keyA P 20 key k then
      match (match x with
        | .nilm => some (some [])
        | .map r => match H.get r with | .map es _ => some (some es) | _ => none
        | _ => (none : Option (Option (List (AV × AV × Nat))))) with
      | some (some es) =>
        match findA P H key (eqA P H 30) k es 0 with
        | some (some (_, v)) => bif ok then .val (.tuple [v, .bool true]) H else .val v H
        | some none => match zeroA P elem with
          | some z => bif ok then .val (.tuple [z, .bool false]) H else .val z H
          | none => .fail 210
        | none => .fail 211
      | _ => .fail 212
    else .fail 213
  | _ => .fail 214
def sameC : AV → AV → Bool
  | .bool a, .bool b => a == b
  | .int k m, .int k' n => decide (k = k') && eqI m n
  | .str a A, .str b B => Nat.beq a b && Nat.beq A B
  | .ptr a i, .ptr b j => Nat.beq a b && Nat.beq i j
  | .nilp, .nilp => true
  | _, _ => false
def sameCs : List AV → List AV → Bool
  | [], [] => true
  | a :: l, b :: m => sameC a b && sameCs l m
  | _, _ => false
def sameK : AV → AV → Bool
  | .agg l, .agg m => sameCs l m
  | a, b => sameC a b
noncomputable def mapUpdateA (P : Program) (G : Nat) (t : TypeId) (m k v : AV) (H : AH) : X :=
  match P.underlying t, m with
  | some (.map key _), .map r =>
    bif keyA P 20 key k && Nat.ble G r then
      match H.get r with
      | .map es clock =>
        match findA P H key (eqA P H 30) k es 0 with
        | some (some (i, _)) => match es[i]? with
          | some e => bif sameK e.1 k then H.setK r (.map (es.set i (k, v, e.2.2)) clock) fun H' => .val (.tuple []) H' else .fail 219
          | none => .fail 220
        | some none => fNat (Nat.succ clock) fun c => H.setK r (.map (es ++ [(k, v, clock)]) c) fun H' => .val (.tuple []) H'
        | none => .fail 221
      | _ => .fail 222
    else .fail 223
  | _, _ => .fail 224
noncomputable def mapEntryA (P : Program) (G : Nat) (t : TypeId) (m k : AV) (H : AH) : X :=
  match P.underlying t, m with
  | some (.map key elem), .map r =>
    bif keyA P 20 key k && Nat.ble G r then
      match H.get r with
      | .map es clock =>
        match findA P H key (eqA P H 30) k es 0 with
        | some (some (i, v)) => match es[i]? with
          | some e => bif sameK e.1 k then H.setK r (.map (es.set i (k, e.2)) clock) fun H' => .val (.tuple [v, .int .i64 (.ofNat e.2.2)]) H' else .fail 218
          | none => .fail 225
        | some none => match zeroA P elem with
          | some z => fNat (Nat.succ clock) fun c => H.setK r (.map (es ++ [(k, z, clock)]) c) fun H' => .val (.tuple [z, .int .i64 (.ofNat clock)]) H'
          | none => .fail 226
        | none => .fail 227
      | _ => .fail 228
    else .fail 229
  | _, _ => .fail 230
def findBorn (n : Nat) : List (AV × AV × Nat) → Nat → Option (Nat × (AV × AV × Nat))
  | [], _ => none
  | e :: es, i => bif Nat.beq e.2.2 n then some (i, e) else findBorn n es (i + 1)
noncomputable def entryStoreA (G : Nat) (m s v : AV) (H : AH) : X :=
  match m, s with
  | .map r, .int _ (.ofNat n) =>
    bif Nat.ble G r then
      match H.get r with
      | .map es clock => match findBorn n es 0 with
        | some (i, e) => H.setK r (.map (es.set i (e.1, v, e.2.2)) clock) fun H' => .val (.tuple []) H'
        | none => .fail 231
      | _ => .fail 232
    else .fail 233
  | _, _ => .fail 234
noncomputable def deleteA (P : Program) (G : Nat) (t : TypeId) (m k : AV) (H : AH) : X :=
  match P.underlying t, m with
  | some (.map key _), .nilm => bif keyA P 20 key k then .val (.tuple []) H else .fail 235
  | some (.map key _), .map r =>
    bif keyA P 20 key k && Nat.ble G r then
      match H.get r with
      | .map es clock => match findA P H key (eqA P H 30) k es 0 with
        | some (some (i, _)) => H.setK r (.map (es.eraseIdx i) clock) fun H' => .val (.tuple []) H'
        | some none => .val (.tuple []) H
        | none => .fail 236
      | _ => .fail 237
    else .fail 238
  | _, _ => .fail 239
noncomputable def clearA (P : Program) (G : Nat) (t : TypeId) (m : AV) (H : AH) : X :=
  match P.underlying t, m with
  | some _, .nilm => .val (.tuple []) H
  | some _, .map r =>
    bif Nat.ble G r then
      match H.get r with
      | .map _ clock => H.setK r (.map [] clock) fun H' => .val (.tuple []) H'
      | _ => .fail 248
    else .fail 249
  | some _, .nils => .val (.tuple []) H
  | some _, .sliceE .. => .val (.tuple []) H
  | some (.slice e), .slice b off (n + 1) _ _ =>
    bif Nat.ble G b then
      match zeroCellsA P e with
      | some z => putSeqK (H.get b) z.length off (bif isByteA P e then .pk (n + 1) 0 else .rs (List.replicate (n + 1) z)) (.fail 246) fun o => H.setK b o fun H' => .val (.tuple []) H'
      | none => .fail 247
    else .fail 245
  | _, _ => .fail 249
noncomputable def rangeA (P : Program) (t : TypeId) (x : AV) (H : AH) : X :=
  match P.underlying t, x with
  | some .string, .str n N => H.pushK (.strIter n N 0) fun H' => .val (.ptr H.size 0) H'
  | some (.map _ _), .nilm => H.pushK (.mapIter none 0 [] 0) fun H' => .val (.ptr H.size 0) H'
  | some (.map _ _), .map m => match H.get m with
    | .map _ clock => H.pushK (.mapIter (some m) clock [] clock) fun H' => .val (.ptr H.size 0) H'
    | _ => .fail 240
  | _, _ => .fail 241
noncomputable def nextA (G : Nat) (it : AV) (isString : Bool) (H : AH) : X :=
  match it with
  | .ptr r 0 =>
    bif Nat.ble G r then
    match H.get r, isString with
    | .strIter n N pos, true =>
      bif Nat.blt pos n then
        let b := byteAt N pos
        bif Nat.blt b 128 then fNat b fun b => fNat (Nat.succ pos) fun p' => H.setK r (.strIter n N p') fun H' => .val (.tuple [.bool true, .int .i64 (.ofNat pos), .int .i32 (.ofNat b)]) H' else .fail 242
      else .val (.tuple [.bool false]) H
    | .mapIter none _ _ _, false => .val (.tuple [.bool false]) H
    | .mapIter (some m) since seen last, false =>
      match H.get m with
      | .map es clock =>
        bif (!seen.isEmpty) && (!es.isEmpty) && es.all (fun e => Nat.ble last e.2.2) then .fail 243 else
        let left := es.filter fun e => !(seen.contains e.2.2)
        let old := left.filter fun e => Nat.blt e.2.2 since
        let new := left.filter fun e => !(Nat.blt e.2.2 since)
        match old, new with
        | [], [] => .val (.tuple [.bool false]) H
        | [e], [] => H.setK r (.mapIter (some m) since (seen ++ [e.2.2]) clock) fun H' => .val (.tuple [.bool true, e.1, e.2.1]) H'
        | _, _ => .fail 244
      | _ => .fail 245
    | _, _ => .fail 246
    else .fail 248
  | _ => .fail 247

/-! ### interfaces, calls -/
def missA (want : Array (String × TypeId)) (got : Array Method) : Bool :=
  (Instr.missingMethod want got).isSome
noncomputable def typeAssertA (P : Program) (x : AV) (asserted : TypeId) (ok : Bool) (H : AH) : X :=
  match P.underlying asserted with
  | none => .fail 250
  | some u =>
    match (match u, x with
      | .interface _, .nili => some none
      | .interface want, .iface t v => match P.info? t with
        | some i => bif missA want i.methods then some none else some (some (AV.iface t v))
        | none => none
      | _, .nili => some none
      | _, .iface t v => bif Nat.beq t asserted then some (some v) else some none
      | _, _ => (none : Option (Option AV))) with
    | some (some v) => bif ok then .val (.tuple [v, .bool true]) H else .val v H
    | some none => bif ok then match zeroA P asserted with | some z => .val (.tuple [z, .bool false]) H | none => .fail 251 else .fail 252
    | none => .fail 253
def extractA (x : AV) (i : Nat) : Option AV :=
  match x with
  | .tuple l => l[i]?
  | _ => none
/-- May a function be entered? -/
def callOk (P : Program) (f : Nat) : Bool :=
  match P.funcs[f]? with
  | some fn => !(fn.name == "runtime.NumGoroutine") && fn.body.isSome
  | none => false
noncomputable def callA (P : Program) (f : Nat) (args : List AV) (H : AH) : X := onB (callOk P f) (fun _ => .enter f args H) (fun _ => .fail (Nat.add 10000 f))
/-- The receiver of a method on an interface's value. -/
noncomputable def methodA (P : Program) (H : AH) (t : TypeId) (v : AV) (name : String) : Option (Nat × AV) :=
  match P.info? t with
  | none => none
  | some i =>
    match i.methods.find? (·.name == name) with
    | none => none
    | some m =>
      match m.path.toList, m.func with
      | [], some (f, ptr) =>
        match P.underlying t, ptr with
        | some (.pointer _), true => some (f, v)
        | some (.pointer e), false => match v with
          | .ptr b off => (loadA P e b off H).map fun x => (f, x)
          | _ => none
        | some _, false => some (f, v)
        | _, _ => none
      | _, _ => none
/-- Is the receiver behind an interface's value no nil pointer? -/
def aheadB (P : Program) (t : TypeId) (v : AV) (name : String) : Bool :=
  match P.info? t with
  | none => false
  | some i =>
    match i.methods.find? (·.name == name) with
    | none => false
    | some m =>
      match m.path.toList, m.func with
      | [], some (_, true) => true
      | [], some (_, false) => match P.underlying t, v with
        | some (.pointer _), .ptr _ _ => true
        | some (.pointer _), _ => false
        | some _, _ => true
        | none, _ => false
      | _, _ => false
def minI (max : Bool) (k : IntKind) : Int → List AV → Option AV
  | x, [] => some (.int k x)
  | x, .int k' y :: l => if k = k' then minI max k (bif max then (bif ltI x y then y else x) else (bif ltI y x then y else x)) l else none
  | _, _ => none
def minsA (max : Bool) : List AV → Option AV
  | .int k x :: l => minI max k x l
  | _ => none
/-- The length of a type: an array's. -/
noncomputable def lenA (P : Program) (t : TypeId) (x : AV) (H : AH) : X :=
  match P.underlying t, x with
  | some .string, .str n _ => .val (.int .i64 (.ofNat n)) H
  | some (.array n _), _ => .val (.int .i64 (.ofNat n)) H
  | some (.pointer arr), _ => match P.underlying arr with | some (.array n _) => .val (.int .i64 (.ofNat n)) H | _ => .fail 270
  | some (.slice _), .nils => .val (.int .i64 0) H
  | some (.slice _), .sliceE .. => .val (.int .i64 0) H
  | some (.slice _), .slice _ _ n _ _ => .val (.int .i64 (.ofNat n)) H
  | some (.map _ _), .nilm => .val (.int .i64 0) H
  | some (.map _ _), .map r => match H.get r with | .map es _ => rInt .i64 (.ofNat es.length) H | _ => .fail 272
  | _, _ => .fail 273
noncomputable def builtinA (P : Program) (G : Nat) (b : Builtin) (types : List TypeId) (args : List AV) (H : AH) : X :=
  match b, types, args with
  | .append, t :: t2 :: _, [s, x] =>
    match P.underlying t, P.underlying t2 with
    | some (.slice e), some u =>
      match sizeA P e with
      | some (sz + 1) =>
        match u, x with
        | .int _, .int _ (.ofNat k) =>
          match lenOfA s with
          | some len =>
            -- zeros
            bif Nat.blt k 1048576 && Nat.blt len 1048576 && Nat.blt (P.bytesOf e) 1048576 then
              (bif isByteA P e then appendTo P G e (sz + 1) s x k (.pk k 0) H else
                match zeroCellsA P e with
                | some z => appendTo P G e (sz + 1) s x k (.rs (List.replicate k z)) H
                | none => .fail 280)
            else .fail 281
          | none => .fail 282
        | .int _, _ => .fail 288
        | _, _ =>
          match lenOfA x with
          | some k =>
            match seqOf H (sz + 1) k x with
            | some q => bif Nat.blt k 1048576 && Nat.blt (P.bytesOf e) 1048576 then appendTo P G e (sz + 1) s x k q H else .fail 283
            | none => .fail 284
          | none => .fail 285
      | _ => .fail 286
    | _, _ => .fail 287
  | .copy, t :: _, [d, s] =>
    match P.underlying t with
    | some (.slice e) =>
      match sizeA P e, lenOfA d, lenOfA s with
      | some (sz + 1), some m, some n =>
        let k := bif Nat.ble n m then n else m
        match seqOf H (sz + 1) k s with
        | some q =>
          match q, d with
          | .emp, .nils => .val (.int .i64 0) H
          | .emp, .sliceE .. => .val (.int .i64 0) H
          | q, .slice b off _ _ _ =>
            bif Nat.ble G b then putSeqK (H.get b) (sz + 1) off q (.fail 290) fun o => H.setK b o fun H' => rInt .i64 (.ofNat k) H' else .fail 291
          | _, _ => .fail 292
        | none => .fail 293
      | _, _, _ => .fail 294
    | _ => .fail 295
  | .len, t :: _, [x] => lenA P t x H
  | .cap, t :: _, [x] =>
    match P.underlying t, x with
    | some (.slice _), .nils => .val (.int .i64 0) H
    | some (.slice _), .slice _ _ _ c false => .val (.int .i64 (.ofNat c)) H
    | some (.array n _), _ => .val (.int .i64 (.ofNat n)) H
    | _, _ => .fail 296
  | .min, _, l => rOpt (minsA false l) 297 H
  | .max, _, l => rOpt (minsA true l) 298 H
  | .delete, t :: _, [m, k] => deleteA P G t m k H
  | .clear, t :: _, [m] => clearA P G t m H
  | _, _, _ => .fail 299

noncomputable def moveX (v : AV) (H : AH) : X := onJunk v (.val .junk H) (.val v H)
noncomputable def nilSlow (P : Program) (x : AV) (H : AH) : X :=
  match x with
  | .func f a b => .val (.func f a b) H
  | .yield l => .val (.yield l) H
  | .iface t v => .val (.iface t v) H
  | .meth name (.iface t v) => bif aheadB P t v name then .val (.meth name (.iface t v)) H else .fail 331
  | _ => .fail 332
/-- The kind of whole numbers that a conversion leads to, coded. -/
def convKind (P : Program) (s d : TypeId) : Option IntKind := match P.underlying s, P.underlying d with | some _, some (.int k) => some k | _, _ => none
noncomputable def onK (o : Option IntKind) : (IntKind → X) → X → X := Option.rec (motive := fun _ => (IntKind → X) → X → X) (fun _ e => e) (fun n k _ => k n) o
noncomputable def ifaceX (P : Program) (t : TypeId) (v : AV) (H : AH) : X :=
  match P.underlying t, v with
  | some (.interface _), _ => .fail 333
  | _, .junk => .fail 333
  | some _, v => .val (.iface t v) H
  | none, _ => .fail 333
noncomputable def makeFuncX (fn : Fn) (a b : List AV) (H : AH) : X :=
  match fn, a with
  | .func f, a => .val (.func f a b) H
  | .method name, [x] => .val (.meth name x) H
  | _, _ => .fail 334
noncomputable def makeMapX (P : Program) (t : TypeId) (r : Option AV) (H : AH) : X :=
  match r with
  | none => H.pushK (.map [] 0) fun H' => .val (.map H.size) H'
  | some v => match P.underlying t, v with
    | some (.map _ _), .int _ _ => H.pushK (.map [] 0) fun H' => .val (.map H.size) H'
    | _, _ => .fail 335
noncomputable def extractX (x : AV) (i : Nat) (H : AH) : X := rOpt (extractA x i) 311 H
noncomputable def callV (P : Program) (f : AV) (args : List AV) (H : AH) : X :=
  match f with
  | .func f first cap => callA P f (first ++ (args ++ cap)) H
  | .yield l => .round l args H
  | _ => .fail 312
noncomputable def invokeV (P : Program) (r : AV) (name : String) (args : List AV) (H : AH) : X :=
  match r with
  | .iface t v => match methodA P H t v name with
    | some (f, recv) => callA P f (recv :: args) H
    | none => .fail 313
  | _ => .fail 314
noncomputable def callX (c : Call) (P : Program) (G : Nat) (tm : TM) (H : AH) : X :=
  Callee.rec (motive := fun _ => Call → Program → Nat → TM → AH → X) (fun f c P _ tm H => callV P (ev tm f) (evs tm c.args.toList) H)
    (fun r name c P _ tm H => invokeV P (ev tm r) name (evs tm c.args.toList) H) (fun b c P G tm H => builtinA P G b c.argTypes.toList (evs tm c.args.toList) H) c.callee c P G tm H
noncomputable def opA (P : Program) (G : Nat) (o : Oper) (tm : TM) (H : AH) : X :=
  Op.rec (motive := fun _ => Program → Nat → TM → AH → X)
    (fun x P G tm H => moveX (ev tm x) H)
    (fun x P G tm H => moveX (ev tm x) H)
    (fun c a b P G tm H => onBool (ev tm c) (fun c => Bool.rec (motive := fun _ => TM → Operand → Operand → AH → X) (fun tm _ b H => moveX (ev tm b) H) (fun tm a _ H => moveX (ev tm a) H) c tm a b H) (.fail 300))
    (fun t P G tm H => onOV (zeroA P t) (fun z => newVarK P t z H) (.fail 301))
    (fun t x P G tm H => newVarK P t (ev tm x) H)
    (fun t ps P G tm H => rOpt (buildA P t (evsParts tm ps.toList)) 302 H)
    (fun t n ps P G tm H => buildSliceA P t n (evsParts tm ps.toList) H)
    (fun t m k v P G tm H => mapUpdateA P G t (ev tm m) (ev tm k) (ev tm v) H)
    (fun t a P G tm H => onPtr (ev tm a) (fun b off => loadX P t b off H) (.fail 308))
    (fun t a x P G tm H => onPtr (ev tm a) (fun b off => storeX P G t b off (ev tm x) H) (.fail 309))
    (fun _ P G tm H => .fail 320)
    (fun _ P G tm H => .fail 321)
    (fun x P G tm H => onPtr (ev tm x) (fun b off => .val (.ptr b off) H) (nilSlow P (ev tm x) H))
    (fun op t x y _ P G tm H => binA P op t x y (ev tm x) (ev tm y) H)
    (fun op _ x P G tm H => unA op (ev tm x) H)
    (fun s d x P G tm H => onInt (ev tm x) (fun k n => onK (convKind P s d) (fun k => rWrap k n H) (convA P G s d (.int k n) H)) (convA P G s d (ev tm x) H))
    (fun _ _ P G tm H => .fail 322)
    (fun t x P G tm H => ifaceX P t (ev tm x) H)
    (fun fn a b P G tm H => makeFuncX fn (evs tm a.toList) (evs tm b.toList) H)
    (fun t r P G tm H => makeMapX P t (r.map (ev tm)) H)
    (fun _ _ P G tm H => .fail 323)
    (fun t l c P G tm H => makeSliceA P t (ev tm l) (ev tm c) H)
    (fun t x lo hi mx P G tm H => sliceA P t (ev tm x) (lo.map (ev tm)) (hi.map (ev tm)) (mx.map (ev tm)) H)
    (fun s x f P G tm H => fieldAddrA P s (ev tm x) f H)
    (fun t x f P G tm H => rOpt (fieldA P t (ev tm x) f) 310 H)
    (fun t x i P G tm H => indexAddrA P t (ev tm x) (ev tm i) H)
    (fun t x i P G tm H => indexA P t (ev tm x) (ev tm i) H)
    (fun t x k ok P G tm H => lookupA P t (ev tm x) (ev tm k) ok H)
    (fun t m k v P G tm H => mapUpdateA P G t (ev tm m) (ev tm k) (ev tm v) H)
    (fun t m k P G tm H => mapEntryA P G t (ev tm m) (ev tm k) H)
    (fun _ m s v P G tm H => entryStoreA G (ev tm m) (ev tm s) (ev tm v) H)
    (fun t x P G tm H => rangeA P t (ev tm x) H)
    (fun it s P G tm H => nextA G (ev tm it) s H)
    (fun _ P G tm H => .fail 324)
    (fun x _ t ok P G tm H => typeAssertA P (ev tm x) t ok H)
    (fun x i P G tm H => extractX (ev tm x) i H)
    (fun c P G tm H => callX c P G tm H)
    (fun _ P G tm H => .fail 325)
    (fun _ P G tm H => .fail 326)
    (fun _ P G tm H => .fail 327)
    (fun _ _ P G tm H => .fail 328)
    (fun _ _ _ P G tm H => .fail 329)
    (fun _ _ P G tm H => .fail 330)
    o.op P G tm H

/-! ### regions that draw their order: a plan -/
def isFloat : Op → Bool
  | .move _ | .assign _ | .pick .. | .alloc _ | .box .. | .build .. | .buildSlice .. | .load .. | .nilCheck _ | .binOp .. | .unOp .. | .convert ..
  | .makeInterface .. | .makeFunc .. | .makeMap .. | .makeSlice .. | .slice .. | .fieldAddr .. | .field .. | .indexAddr .. | .index .. | .lookup .. | .typeAssert .. | .extract .. => true
  | .call { callee := .builtin .len, .. } | .call { callee := .builtin .cap, .. } | .call { callee := .builtin .min, .. } | .call { callee := .builtin .max, .. } => true
  | _ => false
/-- Does the operation make memory? -/
def isAlloc : Op → Bool
  | .alloc _ | .box .. | .buildSlice .. | .convert .. | .makeMap .. | .makeSlice .. => true
  | _ => false
/-- Does a conversion lead from rows to rows? -/
def rowConv (P : Program) (s d : TypeId) : Bool := match P.underlying s, P.underlying d with | some (.slice _), some (.slice _) => true | _, _ => false
/-- Does what floats hang on the heap? -/
def heapOp : Op → Bool
  | .load .. | .lookup .. | .alloc _ | .box .. | .buildSlice .. | .convert .. | .makeMap .. | .makeSlice .. => true
  | .binOp .eql .. | .binOp .neq .. => true
  | .call _ => true
  | _ => false
/-- Does it float, in this program? (A conversion of a row to a row marks the row.) -/
def isFloatP (P : Program) : Op → Bool
  | .convert s d _ => !rowConv P s d
  | op => isFloat op
/-- The edges that bind whichever order is drawn. -/
def edgesB (o : Oper) : List Edge := o.after.toList.filter fun e => Region.binds .any e
def readyB (done : Nat) (o : Oper) : Bool := (edgesB o).all fun e => Nat.testBit done e.on
def enumFrom (n : Nat) : List Oper → List (Nat × Oper)
  | [] => []
  | o :: l => (n, o) :: enumFrom (n + 1) l
/-- Does each that looks at the slot wait for this operation? -/
def flowB (ops : Array Oper) (i : Nat) (o : Oper) : Bool :=
  match o.dst with
  | none => true
  | some d => (enumFrom 0 ops.toList).all fun y => !((y.2.looksAt ops).any fun t => Nat.beq t d) || ((edgesB y.2).any fun e => Nat.beq e.on i)
def floatB (P : Program) (ops : Array Oper) (i : Nat) (o : Oper) : Bool := isFloatP P o.op && flowB ops i o
/-- In which order the operations are taken here: what floats comes as soon as it is ready. (Nothing hangs on its being right.) -/
def orderFrom (P : Program) (ops : Array Oper) : (fuel : Nat) → (left : List (Nat × Oper)) → (done : Nat) → List Nat
  | 0, _, _ => []
  | fuel + 1, left, done =>
    match left.filter fun x => readyB done x.2 with
    | [] => []
    | r :: rs =>
      match (r :: rs).find? fun x => floatB P ops x.1 x.2 with
      | some x => x.1 :: orderFrom P ops fuel (left.filter fun y => y.1 != x.1) (done ||| 2 ^ x.1)
      | none => r.1 :: orderFrom P ops fuel (left.filter fun y => y.1 != r.1) (done ||| 2 ^ r.1)
/-- Each slot has one writer, and who looks at it waits for that, or that for it; each edge that binds leads back. -/
def slotsOk (ops : Array Oper) : Bool :=
  (enumFrom 0 ops.toList).all fun x =>
    ((edgesB x.2).all fun e => Nat.blt e.on x.1) &&
    match x.2.dst with
    | none => true
    | some d => (enumFrom 0 ops.toList).all fun y => (Nat.beq y.1 x.1 || (match y.2.dst with | some d' => !Nat.beq d' d | none => true)) && (!((y.2.looksAt ops).any fun t => Nat.beq t d) || (((edgesB y.2).any fun e => Nat.beq e.on x.1) || ((edgesB x.2).any fun e => Nat.beq e.on y.1)))
def lookN (c : List (Nat × Nat)) (i : Nat) : Nat :=
  match c with
  | [] => 0
  | (j, m) :: c => bif Nat.beq j i then m else lookN c i
def closeN (c : List (Nat × Nat)) (o : Oper) : Nat := (edgesB o).foldr (fun e m => Nat.lor (Nat.lor (2 ^ e.on) (lookN c e.on)) m) 0
/-- The items of an order, checked: what is behind an operation that acts can't have come up ahead of it. 'fl': what floats and need not have come up; 'sure': what has come up; 'c': what comes up ahead of each. -/
def build (P : Program) (ops : Array Oper) : List Nat → (A : Nat) → (fl : List (Nat × Oper)) → (sure : Nat) → (c : List (Nat × Nat)) → Option (List PItem)
  | [], A, _, _, _ => if (enumFrom 0 ops.toList).all (fun x => Nat.testBit A x.1) then some [] else none
  | i :: is, A, fl, sure, c =>
    match ops[i]? with
    | none => none
    | some o =>
      if Nat.testBit A i || !readyB A o then none else
      if floatB P ops i o then
        if o.dst.isNone then none else
        (build P ops is (A ||| 2 ^ i) (fl ++ [(i, o)]) sure ((i, closeN c o) :: c)).map ({ ix := i, op := o, fl := true, chk := if isAlloc o.op then ((fl ++ [(i, o)]).map (·.2)).filter fun y => heapOp y.op else [] } :: ·)
      else if (enumFrom 0 ops.toList).all (fun y => Nat.testBit A y.1 || Nat.beq y.1 i || !readyB A y.2) then
        (build P ops is (A ||| 2 ^ i) (fl.filter fun y => !Nat.testBit (sure ||| 2 ^ i ||| closeN c o) y.1) (sure ||| 2 ^ i ||| closeN c o) ((i, closeN c o) :: c)).map
          ({ ix := i, op := o, fl := false, chk := ((fl.filter fun y => !Nat.testBit (sure ||| 2 ^ i ||| closeN c o) y.1).map (·.2)).filter fun y => heapOp y.op } :: ·)
      else none
def plan (P : Program) (ops : Array Oper) : Option (List PItem) :=
  if P.follows .mixedOrders && slotsOk ops then build P ops (orderFrom P ops ops.size (enumFrom 0 ops.toList) 0) 0 [] 0 [] else none
end Go.Proofs.YtmapmbfohilklaaGreat.Ab
