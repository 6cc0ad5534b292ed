/-
  The evaluator: what a function's body comes to, step by step, over abstract values.
-/
import Derived.Test.YtggfjjacafgkkaaEv1
namespace Go.Ev

abbrev Ups := List (Nat × Option Cells)

def upd : Ups → Get → Get
  | [], g, id => g id
  | (k, c) :: r, g, id => bif Nat.beq k id then c else upd r g id

def noGet : Get := fun _ => none

def ofLeaf : Value → V
  | .bool b => .bool b
  | .int k n => .int k n
  | .float k b => .flt k (canon k b)
  | .string s => .str s
  | .pointer none => .np
  | .slice none 0 0 => .nil
  | _ => .und

def ofVal : Value → V
  | .agg cs => bif cs.toList.all Value.oneCell' then .agg (cs.toList.map ofLeaf) else .und
  | .tuple _ => .und
  | v => ofLeaf v

/-- The cells that a value takes; of what is not known, none. -/
def cellsOf : V → Option Cells
  | .agg cs => some cs
  | .und => none
  | .tup _ => none
  | v => some [v]

def over : Cells → Cells → Cells
  | _ :: cs, v :: vs => v :: over cs vs
  | cs, _ => cs

def setCells : Cells → Nat → Cells → Cells
  | c :: cs, n + 1, vs => c :: setCells cs n vs
  | cs, _, vs => over cs vs

def getAt {α : Type} : List α → Nat → Option α
  | [], _ => none
  | a :: _, 0 => some a
  | _ :: l, n + 1 => getAt l n

/-- An element by an index that can be too small. -/
def idx {α : Type} (l : List α) (i : Int) : Option α :=
  match i with
  | .ofNat n => getAt l n
  | .negSucc _ => none

section
variable (P : Program)

def sizeT (t : TypeId) : Option Nat :=
  match P.info? t with
  | some i => some i.size
  | none => none

def isAggT (t : TypeId) : Option Bool :=
  match P.underlying t with
  | some (.struct _) => some true
  | some (.array _ _) => some true
  | some _ => some false
  | none => none

def loadFrom (t : TypeId) (cs : Cells) (off : Nat) : Option V :=
  match isAggT P t with
  | some true =>
    match sizeT P t with
    | some n => bif Nat.ble (off + n) cs.length then some (.agg ((cs.drop off).take n)) else none
    | none => none
  | some false => getAt cs off
  | none => none

def zeroCellsT (t : TypeId) : Option Cells :=
  match P.info? t with
  | some i =>
    match i.zero with
    | some z => cellsOf (ofVal z)
    | none => none
  | none => none

def fillE (place : Nat → Option (Nat × Nat)) (cells : Cells) : List (Nat × V) → Option Cells
  | [] => some cells
  | (i, v) :: rest =>
    match place i with
    | none => none
    | some (off, size) =>
      match cellsOf v with
      | none => none
      | some vs => bif Nat.beq vs.length size && Nat.ble (off + size) cells.length then fillE place (setCells cells off vs) rest else none

def placeS (fs : Array Go.Field) (i : Nat) : Option (Nat × Nat) :=
  match fs[i]? with
  | some f =>
    match sizeT P f.type with
    | some n => some (f.offset, n)
    | none => none
  | none => none

def buildE (t : TypeId) (parts : List (Nat × V)) : Option V :=
  match zeroCellsT P t with
  | none => none
  | some z =>
    match P.underlying t with
    | some (.struct fs) =>
      bif fs.all fun f => (sizeT P f.type).isSome then
        match fillE (placeS P fs) z parts with
        | some cs => some (.agg cs)
        | none => none
      else none
    | some (.array _ e) =>
      match sizeT P e with
      | some n =>
        match fillE (fun i => some (i * n, n)) z parts with
        | some cs => some (.agg cs)
        | none => none
      | none => none
    | _ => none

/-- n times the cells, one behind the other. -/
def repCells : Nat → Cells → Cells
  | 0, _ => []
  | n + 1, z => z ++ repCells n z

abbrev Res := Option (V × Ups × Nat)

def buildSliceE (nid : Nat) (t : TypeId) (len : Nat) (parts : List (Nat × V)) : Res :=
  match P.underlying t with
  | some (.slice e) =>
    match P.info? e, zeroCellsT P e with
    | some i, some z =>
      bif Nat.beq z.length i.size && Nat.ble (len * i.size) 16777216 then
        match len with
        | 0 =>
          match parts with
          | [] => some (.nil, [], 0)
          | _ => none
        | _ + 1 =>
          match fillE (fun j => some (j * i.size, i.size)) (repCells (len * i.size) [.und]) parts with
          | some cs => some (.ms nid 0 len i.size, [(nid, some cs)], 1)
          | none => none
      else none
    | _, _ => none
  | _ => none

def loadE (get : Get) (t : TypeId) (a : V) : Option V :=
  match a with
  | .mp id off =>
    match get id with
    | some cs => loadFrom P t cs off
    | none => none
  | .ip e off => loadFrom P t e off
  | _ => none

def storeE (get : Get) (t : TypeId) (a v : V) : Option Ups :=
  match a with
  | .mp id off =>
    match get id with
    | some cs =>
      match cellsOf v, sizeT P t with
      | some vs, some n => bif Nat.beq vs.length n && Nat.ble (off + n) cs.length then some [(id, some (setCells cs off vs))] else none
      | _, _ => none
    | none => none
  | _ => none

def fieldAddrE (s : TypeId) (a : V) (f : Nat) : Option V :=
  match P.underlying s with
  | some (.struct fs) =>
    match fs[f]? with
    | some fl =>
      match sizeT P fl.type with
      | some (_ + 1) =>
        match a with
        | .mp id off => some (.mp id (off + fl.offset))
        | .ip e off => some (.ip e (off + fl.offset))
        | _ => none
      | _ => none
    | none => none
  | _ => none

def natBelow (i : Int) (n : Nat) : Option Nat :=
  match i with
  | .ofNat k => bif Nat.blt k n then some k else none
  | .negSucc _ => none

def indexAddrE (t : TypeId) (a i : V) : Option V :=
  match i with
  | .int _ i =>
    match P.underlying t with
    | some (.slice e) =>
      match sizeT P e with
      | some n =>
        match a with
        | .sl sz es =>
          match idx es i with
          | some c => bif Nat.beq sz n then some (.ip c 0) else none
          | none => none
        | .ms id off len sz =>
          match natBelow i len with
          | some k => bif Nat.beq sz n then some (.mp id (off + k * sz)) else none
          | none => none
        | _ => none
      | none => none
    | some (.array len e) =>
      match sizeT P e with
      | some n =>
        match natBelow i len with
        | some k =>
          match a with
          | .mp id off => some (.mp id (off + k * n))
          | .ip c off => some (.ip c (off + k * n))
          | _ => none
        | none => none
      | none => none
    | _ => none
  | _ => none

def indexE (t : TypeId) (a i : V) : Option V :=
  match i with
  | .int _ i =>
    match P.underlying t with
    | some (.array len e) =>
      match sizeT P e, natBelow i len with
      | some n, some k =>
        match a with
        | .agg cs => loadFrom P e cs (k * n)
        | _ => none
      | _, _ => none
    | some .string =>
      match a with
      | .str s =>
        match idx s.data.toList i with
        | some b => some (.int .u8 b.toNat)
        | none => none
      | _ => none
    | _ => none
  | _ => none

/-- A bound of a slice expression: at most n. -/
def bound (x : V) (n : Nat) : Option Nat :=
  match x with
  | .int _ i => natBelow i (n + 1)
  | _ => none

def boundHi (hi : Option V) (n : Nat) : Option Nat :=
  match hi with
  | none => some n
  | some h => bound h n

def boundLo (lo : Option V) (h : Nat) : Option Nat :=
  match lo with
  | none => some 0
  | some l => bound l h

def sliceE (t : TypeId) (a : V) (lo hi mx : Option V) : Option V :=
  match P.underlying t with
  | some (.slice e) =>
    match sizeT P e with
    | some n =>
      match mx with
      | none =>
        match a with
        | .sl sz es =>
          match boundHi hi es.length with
          | some h =>
            match boundLo lo h with
            | some l => bif Nat.beq sz n then some (.sl sz ((es.take h).drop l)) else none
            | none => none
          | none => none
        | .ms id off len sz =>
          match boundHi hi len with
          | some h =>
            match boundLo lo h with
            | some l => bif Nat.beq sz n then (bif Nat.blt l h then some (.ms id (off + l * sz) (h - l) sz) else some (.sl sz [])) else none
            | none => none
          | none => none
        | _ => none
      | some (.int _ 0) =>
        match hi, lo with
        | some (.int _ 0), none =>
          match a with
          | .sl _ _ => some .nil
          | .ms _ _ _ _ => some .nil
          | .nil => some .nil
          | _ => none
        | _, _ => none
      | _ => none
    | none => none
  | some .string =>
    match mx with
    | none =>
      match a with
      | .str s =>
        match boundHi hi s.size with
        | some h =>
          match boundLo lo h with
          | some l => some (.str (s.extract l h))
          | none => none
        | none => none
      | _ => none
    | some _ => none
  | _ => none
end

/-- An operation on two floats, rounded. -/
def fop (op : BinOp) (k : FloatKind) (x y : Nat) : Nat :=
  match floatBits op k x y with
  | some r => r
  | none => qnan k

def fneg (k : FloatKind) (x : Nat) : Nat := bif isNan k x then qnan k else Op.negFloat k x

def fcmp (op : BinOp) (k : FloatKind) (x y : Nat) : Bool :=
  match op with
  | .eql => k.format.order x y == some .eq
  | .neq => k.format.order x y != some .eq
  | .lss => k.format.order x y == some .lt
  | .leq => k.format.order x y == some .lt || k.format.order x y == some .eq
  | .gtr => k.format.order x y == some .gt
  | .geq => k.format.order x y == some .gt || k.format.order x y == some .eq
  | _ => false

/-- From one kind of floats to the other; not where a finite number is too great. -/
def fconv (s k : FloatKind) (x : Nat) : Option Nat :=
  match s, k with
  | .f32, .f32 => some x
  | .f64, .f64 => some x
  | _, _ =>
    match s.decode x with
    | .nan _ _ => some (qnan k)
    | .infinity g => some (k.encode (.infinity g))
    | .number g m e => bif (k.decode (k.encode (.number g m e))).isInfinity then none else some (k.encode (.number g m e))

def icmp (op : BinOp) (x y : Int) : Bool :=
  match op with
  | .eql => x == y
  | .neq => x != y
  | .lss => decide (x < y)
  | .leq => decide (x ≤ y)
  | .gtr => decide (x > y)
  | .geq => decide (x ≥ y)
  | _ => false

def isCmp : BinOp → Bool
  | .eql | .neq | .lss | .leq | .gtr | .geq => true
  | _ => false

def ibits (op : BinOp) (k : IntKind) (x y : Int) : Int :=
  match op with
  | .and => k.wrap (BitVec.ofInt k.bits x &&& BitVec.ofInt k.bits y).toNat
  | .or => k.wrap (BitVec.ofInt k.bits x ||| BitVec.ofInt k.bits y).toNat
  | .xor => k.wrap (BitVec.ofInt k.bits x ^^^ BitVec.ofInt k.bits y).toNat
  | _ => k.wrap (BitVec.ofInt k.bits x &&& ~~~BitVec.ofInt k.bits y).toNat

def sameI (a b : IntKind) : Bool := decide (a = b)
def sameF (a b : FloatKind) : Bool := decide (a = b)

def ibin (op : BinOp) (k : IntKind) (x y : Int) : Option V :=
  match op with
  | .add => some (.int k (k.wrap (x + y)))
  | .sub => some (.int k (k.wrap (x - y)))
  | .mul => some (.int k (k.wrap (x * y)))
  | .quo => bif y == 0 then none else some (.int k (k.wrap (x.tdiv y)))
  | .rem => bif y == 0 then none else some (.int k (x.tmod y))
  | .and => some (.int k (ibits .and k x y))
  | .or => some (.int k (ibits .or k x y))
  | .xor => some (.int k (ibits .xor k x y))
  | .andNot => some (.int k (ibits .andNot k x y))
  | .shl => none
  | .shr => none
  | op => some (.bool (icmp op x y))

def fbin (op : BinOp) (k : FloatKind) (x y : Nat) : Option V :=
  match op with
  | .add => some (.flt k (fop .add k x y))
  | .sub => some (.flt k (fop .sub k x y))
  | .mul => some (.flt k (fop .mul k x y))
  | .quo => some (.flt k (fop .quo k x y))
  | op => bif isCmp op then some (.bool (fcmp op k x y)) else none

def sbin (op : BinOp) (x y : ByteArray) : Option V :=
  match op with
  | .add => bif Nat.ble (x.size + y.size) 9223372036854775807 then some (.str (x ++ y)) else none
  | .eql => some (.bool (x.toList == y.toList))
  | .neq => some (.bool (!(x.toList == y.toList)))
  | _ => none

def binE (op : BinOp) (x y : V) : Option V :=
  match x, y with
  | .int k a, .int k' b =>
    match op with
    | .shl =>
      match b with
      | .ofNat n => some (.int k (k.wrap (a * 2 ^ (min n k.bits))))
      | .negSucc _ => none
    | .shr =>
      match b with
      | .ofNat n => some (.int k (a.fdiv (2 ^ (min n k.bits))))
      | .negSucc _ => none
    | op => bif sameI k k' then ibin op k a b else none
  | .flt k a, .flt k' b => bif sameF k k' then fbin op k a b else none
  | .str a, .str b => sbin op a b
  | _, _ => none

/-- With the operands' type, by which truth values are compared. -/
def binB (P : Program) (op : BinOp) (t : TypeId) (x y : V) : Option V :=
  match op, x, y with
  | .eql, .bool a, .bool b =>
    match P.underlying t with
    | some .bool => some (.bool (a == b))
    | _ => none
  | .neq, .bool a, .bool b =>
    match P.underlying t with
    | some .bool => some (.bool (!(a == b)))
    | _ => none
  | op, x, y => binE op x y

def unE (op : UnOp) (x : V) : Option V :=
  match op, x with
  | .neg, .int k n => some (.int k (k.wrap (0 - n)))
  | .neg, .flt k b => some (.flt k (fneg k b))
  | .not, .bool b => some (.bool (!b))
  | _, _ => none

/-- The bytes of cells that hold bytes. -/
def bytesOf : Cells → Option (List UInt8)
  | [] => some []
  | .int .u8 n :: r =>
    match bytesOf r with
    | some l => some (UInt8.ofNat n.toNat :: l)
    | none => none
  | _ => none

def convE (P : Program) (get : Get) (src dst : TypeId) (x : V) : Option V :=
  match P.underlying src, P.underlying dst with
  | some _, some (.int k) =>
    match x with
    | .int _ n => some (.int k (k.wrap n))
    | .flt f b =>
      match floatToIntVal f b k with
      | some n => some (.int k n)
      | none => none
    | _ => none
  | some _, some (.float k) =>
    match x with
    | .int _ n => some (.flt k (k.nearest n))
    | .flt f b =>
      match fconv f k b with
      | some r => some (.flt k r)
      | none => none
    | _ => none
  | some (.slice e), some .string =>
    match P.underlying e with
    | some (.int .u8) =>
      match x with
      | .ms id off len sz =>
        match get id with
        | some cs =>
          bif Nat.beq sz 1 && Nat.ble (off + len) cs.length then
            match bytesOf ((cs.drop off).take len) with
            | some l => some (.str ⟨l.toArray⟩)
            | none => none
          else none
        | none => none
      | _ => none
    | _ => none
  | some .string, some .string =>
    match x with
    | .str s => some (.str s)
    | _ => none
  | _, _ => none

def lenE (P : Program) (t : TypeId) (x : V) : Option V :=
  match P.underlying t with
  | some (.slice _) =>
    match x with
    | .sl _ es => some (.int .i64 es.length)
    | .ms _ _ len _ => some (.int .i64 len)
    | .nil => some (.int .i64 0)
    | _ => none
  | some .string =>
    match x with
    | .str s => some (.int .i64 s.size)
    | _ => none
  | some (.array n _) =>
    match x with
    | .und => none
    | _ => some (.int .i64 n)
  | _ => none

/-- The cells of what is appended, and how many elements they are. -/
def srcE (get : Get) (x : V) (n : Nat) : Option (Cells × Nat) :=
  match x with
  | .sl sz es => bif Nat.beq sz n then some (es.flatten, es.length) else none
  | .ms id off len sz =>
    match get id with
    | some cs => bif Nat.beq sz n && Nat.ble (off + len * sz) cs.length then some ((cs.drop off).take (len * sz), len) else none
    | none => none
  | .nil => some ([], 0)
  | _ => none

/-- The most elements that an appended slice may have here. -/
def most : Nat := 4294967296

def appendE (P : Program) (get : Get) (nid : Nat) (t : TypeId) (d x : V) : Res :=
  match P.underlying t with
  | some (.slice e) =>
    match P.info? e, zeroCellsT P e with
    | some i, some z =>
      bif Nat.ble i.bytes 256 && Nat.beq z.length i.size then
        match srcE get x i.size with
        | some (cs, n) =>
          match d with
          | .nil =>
            match n with
            | 0 => some (.nil, [], 0)
            | m + 1 => bif Nat.ble (m + 1) most then some (.ms nid 0 (m + 1) i.size, [(nid, some cs)], 1) else none
          | .ms id off len sz =>
            match get id with
            | some ds =>
              bif Nat.beq sz i.size && Nat.ble (off + len * sz) ds.length && Nat.ble (len + n) most then
                some (.ms nid 0 (len + n) sz, [(nid, some ((ds.drop off).take (len * sz) ++ cs)), (id, none)], 1)
              else none
            | none => none
          | _ => none
        | none => none
      else none
    | _, _ => none
  | _ => none

def max2E (x y : V) : Option V :=
  match x, y with
  | .int k a, .int k' b => bif sameI k k' then some (.int k (bif decide (b > a) then b else a)) else none
  | .flt k a, .flt k' b =>
    bif sameF k k' then
      some (.flt k (match k.format.order a b with
        | none => qnan k
        | some .lt => b
        | some .gt => a
        | some .eq => bif (k.decode a).neg then b else a))
    else none
  | _, _ => none

def min2E (x y : V) : Option V :=
  match x, y with
  | .int k a, .int k' b => bif sameI k k' then some (.int k (bif decide (b < a) then b else a)) else none
  | _, _ => none

def builtinE (P : Program) (get : Get) (nid : Nat) (b : Builtin) (ts : List TypeId) (args : List V) : Res :=
  match b with
  | .len =>
    match ts, args with
    | t :: _, x :: _ =>
      match lenE P t x with
      | some v => some (v, [], 0)
      | none => none
    | _, _ => none
  | .append =>
    match ts, args with
    | t :: u :: _, d :: x :: _ =>
      match P.underlying u with
      | some (.slice _) => appendE P get nid t d x
      | _ => none
    | _, _ => none
  | .max =>
    match args with
    | [x, y] =>
      match max2E x y with
      | some v => some (v, [], 0)
      | none => none
    | _ => none
  | .min =>
    match args with
    | [x, y] =>
      match min2E x y with
      | some v => some (v, [], 0)
      | none => none
    | _ => none
  | _ => none

def makeSliceE (P : Program) (nid : Nat) (t : TypeId) (l c : V) : Res :=
  match P.underlying t with
  | some (.slice e) =>
    match P.info? e, zeroCellsT P e with
    | some i, some z =>
      match l, c with
      | .int .i64 (.ofNat n), .int .i64 (.ofNat m) =>
        bif Nat.beq n m && Nat.ble n most && Nat.ble i.bytes 256 && Nat.beq z.length i.size then some (.ms nid 0 n i.size, [(nid, some (repCells n z))], 1) else none
      | _, _ => none
    | _, _ => none
  | _ => none

end Go.Ev
