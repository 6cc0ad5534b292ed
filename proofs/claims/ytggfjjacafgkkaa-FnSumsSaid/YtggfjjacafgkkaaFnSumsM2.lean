/-
  FnSums: proved of the given program for each two slices of bytes, without a condition. Part 2 of 4 of its proof.
-/
import Derived.Test.YtggfjjacafgkkaaFnSumsM1
import Derived.Test.YtggfjjacafgkkaaChecked
import Derived.KernelRfl
import Derived.Test.YtggfjjacafgkkaaRows
import Derived.ProofKit
import Derived.Carry
/-
  The evaluator: regions, calls, control.
-/
namespace Go.Ev

/-- What is told of a function that is called: 'prim': it has no body ('loose': its answer's kind is not asked); 'pure': it only looks at what it is handed; 'obj': it works on the one flat object that its first argument points to. -/
inductive Summ where
  | prim (g : List V → Option V)
  | loose (g : List V → Option V)
  | pure (g : List V → Option V)
  | obj (g : Cells → List V → Option (V × Cells))
  | pureC (c : List V → Bool) (g : List V → Option V)
  | objC (c : Cells → List V → Bool) (g : Cells → List V → Option (V × Cells))

/-- Where the condition does not hold, nothing is told. -/
def Summ.base : Summ → Summ
  | .loose g => .prim g
  | .pureC c g => .pure fun vs => bif c vs then g vs else none
  | .objC c g => .obj fun cs rest => bif c cs rest then g cs rest else none
  | s => s

abbrev Regs := List (Nat × V)

def look : Regs → Nat → V
  | [], _ => .und
  | (k, v) :: r, t => bif Nat.beq k t then v else look r t

def memB (n : Nat) : List Nat → Bool
  | [] => false
  | k :: l => bif Nat.beq k n then true else memB n l

structure St where
  r : Regs
  o : Ups
  nx : Nat
  fl : List Nat

def St.get (s : St) : Get := upd s.o noGet

inductive Ex where
  | normal
  | exit (id : Nat)
  | ret

abbrev Cont (α : Type) := Ex → St → Option α

/-- What a loop comes to: its ends, by conditions. -/
inductive LT where
  | leaf (e : Ex) (s : St)
  | br (c : Bool) (x y : LT)
  | chk (c : Bool) (x : LT)

def LT.app {α : Type} (K : Cont α) : LT → Option α
  | .leaf e s => K e s
  | .br c x y => bif c then x.app K else y.app K
  | .chk c x => bif c then x.app K else none

/-- 'keep', 'kept': the slots that count at a loop's head, and behind it; 'move': the slots whose objects are numbered anew when it is come to; 'loops': what is told of a loop, from its head's state (by function and enclosing block's number). -/
structure Env where
  P : Program
  S : FuncId → Option Summ
  keep : FuncId → Nat → List Nat
  kept : FuncId → Nat → List Nat
  move : FuncId → Nat → List Nat
  fuel : Nat
  loops : FuncId → Nat → Option (Nat → St → Option LT)


def evalF (R : Nat → V) : Operand → V
  | .tmp t => R t
  | .const v => ofVal v
  | .func f => .fn f [] []
  | .global _ => .und

def evalO (r : Regs) : Operand → V := evalF (look r)

/-! Values as they are handed to a function that only looks -/

def takePad : Nat → List V → List V
  | 0, _ => []
  | n + 1, [] => .und :: takePad n []
  | n + 1, v :: l => v :: takePad n l

def chunk : Nat → Nat → List V → List (List V)
  | 0, _, _ => []
  | n + 1, sz, l => takePad sz l :: chunk n sz (l.drop sz)

/-- What one cell holds, with what it leads to. -/
def deepL (get : Get) (fl : List Nat) : Nat → V → V
  | 0, .mp _ _ => .und
  | 0, .ms _ _ _ _ => .und
  | n + 1, .mp id off =>
    match get id with
    | some cs => .ip (bif memB id fl then cs else cs.map (deepL get fl n)) off
    | none => .und
  | n + 1, .ms id off len sz =>
    match get id with
    | some cs => .sl sz (chunk len sz ((bif memB id fl then cs else cs.map (deepL get fl n)).drop off))
    | none => .und
  | _, .agg _ => .und
  | _, .tup _ => .und
  | _, .fn f [] [] => .fn f [] []
  | _, .fn _ _ _ => .und
  | _, v => v

def deepV (get : Get) (fl : List Nat) : V → V
  | .agg cs => .agg (cs.map (deepL get fl 4))
  | v => deepL get fl 4 v

def deepT (get : Get) (fl : List Nat) : V → V
  | .tup vs => .tup (vs.map (deepV get fl))
  | v => deepV get fl v

def noRefV : V → Bool
  | .agg cs => cs.all noRefB
  | .tup _ => false
  | v => noRefB v

/-- Nothing that leads anywhere. -/
def plainB : V → Bool
  | .bool _ | .int _ _ | .flt _ _ | .str _ | .np | .und => true
  | .fn _ [] [] => true
  | _ => false

def plainV : V → Bool
  | .agg cs => cs.all plainB
  | v => plainB v

def plainT : V → Bool
  | .tup vs => vs.all plainV
  | v => plainV v

/-! One operation -/

section
variable (E : Env)

def callS (get : Get) (fl : List Nat) (s : Summ) (args : List V) : Res :=
  match s.base with
  | .prim g =>
    match g args with
    | some v => some (v, [], 0)
    | none => none
  | .pure g =>
    bif args.all noRefV then
      match g args with
      | some v => some (v, [], 0)
      | none => none
    else
      match g (args.map (deepV get fl)) with
      | some v => bif plainT v then some (v, [], 0) else none
      | none => none
  | .obj g =>
    match args with
    | .mp id 0 :: rest =>
      bif memB id fl && rest.all noRefV then
        match get id with
        | some cs =>
          match g cs rest with
          | some (v, cs') => some (v, [(id, some cs')], 0)
          | none => none
        | none => none
      else none
    | _ => none
  | _ => none

def partsE (ev : Operand → V) (ps : List (Nat × Operand)) : List (Nat × V) := ps.map fun p => (p.1, ev p.2)

def optE (ev : Operand → V) : Option Operand → Option V
  | none => none
  | some x => some (ev x)

def one (v : Option V) : Res :=
  match v with
  | some v => some (v, [], 0)
  | none => none

/-- An operation that neither chooses nor calls by text. -/
def opE (get : Get) (fl : List Nat) (nid : Nat) (ev : Operand → V) (o : Oper) : Res :=
  match o.op with
  | .move x => some (ev x, [], 0)
  | .assign x => some (ev x, [], 0)
  | .alloc t =>
    match zeroCellsT E.P t with
    | some z => some (.mp nid 0, [(nid, some z)], 1)
    | none => none
  | .box _ x =>
    match cellsOf (ev x) with
    | some cs => some (.mp nid 0, [(nid, some cs)], 1)
    | none => none
  | .build t ps => one (buildE E.P t (partsE ev ps.toList))
  | .buildSlice t len ps => buildSliceE E.P nid t len (partsE ev ps.toList)
  | .load t a => one (loadE E.P get t (ev a))
  | .store t a x =>
    match storeE E.P get t (ev a) (ev x) with
    | some ups => some (.und, ups, 0)
    | none => none
  | .nilCheck x =>
    match ev x with
    | .mp id off => some (.mp id off, [], 0)
    | .ip e off => some (.ip e off, [], 0)
    | .fn f a b => some (.fn f a b, [], 0)
    | _ => none
  | .binOp op t x y _ => one (binB E.P op t (ev x) (ev y))
  | .unOp op _ x => one (unE op (ev x))
  | .convert s d x => one (convE E.P get s d (ev x))
  | .makeFunc (.func f) first cap => some (.fn f (first.toList.map ev) (cap.toList.map ev), [], 0)
  | .slice t x lo hi mx => one (sliceE E.P t (ev x) (optE ev lo) (optE ev hi) (optE ev mx))
  | .fieldAddr s x f => one (fieldAddrE E.P s (ev x) f)
  | .indexAddr t x i => one (indexAddrE E.P t (ev x) (ev i))
  | .index t x i => one (indexE E.P t (ev x) (ev i))
  | .extract x i =>
    match ev x with
    | .tup vs => one (getAt vs i)
    | _ => none
  | .call c =>
    match c.callee with
    | .builtin b => builtinE E.P get nid b c.argTypes.toList (c.args.toList.map ev)
    | .value f =>
      match ev f with
      | .fn f first cap =>
        match E.S f with
        | some s => callS get fl s (first ++ c.args.toList.map ev ++ cap)
        | none => none
      | _ => none
    | _ => none
  | _ => none

/-! Conditions ahead: an operation's answer by a condition and a value, each by itself -/

def isI (k : IntKind) : V → Bool
  | .int k' _ => sameI k k'
  | _ => false
def isFl (k : FloatKind) : V → Bool
  | .flt k' _ => sameF k k'
  | _ => false
def isBo : V → Bool
  | .bool _ => true
  | _ => false
def isSt : V → Bool
  | .str _ => true
  | _ => false
def asI : V → Int
  | .int _ n => n
  | _ => 0
def asF : V → Nat
  | .flt _ x => x
  | _ => 0
def asB : V → Bool
  | .bool b => b
  | _ => false
def asS : V → ByteArray
  | .str s => s
  | _ => ByteArray.empty
def asAgg : V → List V
  | .agg cs => cs
  | _ => []
def asTup : V → List V
  | .tup cs => cs
  | _ => []
def isAg : V → Bool
  | .agg _ => true
  | _ => false
def isTu : V → Bool
  | .tup _ => true
  | _ => false

def chkL (z v : V) : Bool :=
  match z with
  | .bool _ => isBo v
  | .int k _ => isI k v
  | .flt k _ => isFl k v
  | .str _ => isSt v
  | _ => true

def fixL (z v : V) : V :=
  match z with
  | .bool _ => .bool (asB v)
  | .int k _ => .int k (asI v)
  | .flt k _ => .flt k (asF v)
  | .str _ => .str (asS v)
  | _ => v

def cellAt (cs : List V) (i : Nat) : V := (getAt cs i).getD .und

def chkCs : List V → Nat → List V → Bool
  | [], i, cs => Nat.beq cs.length i
  | z :: zs, i, cs => chkL z (cellAt cs i) && chkCs zs (i + 1) cs

def fixCs : List V → Nat → List V → List V
  | [], _, _ => []
  | z :: zs, i, cs => fixL z (cellAt cs i) :: fixCs zs (i + 1) cs

def chkV (P : Program) (t : TypeId) (v : V) : Bool :=
  match isAggT P t with
  | some true =>
    match zeroCellsT P t with
    | some zs => isAg v && chkCs zs 0 (asAgg v)
    | none => true
  | some false =>
    match zeroCellsT P t with
    | some [z] => chkL z v
    | _ => true
  | none => true

def fixV (P : Program) (t : TypeId) (v : V) : V :=
  match isAggT P t with
  | some true =>
    match zeroCellsT P t with
    | some zs => .agg (fixCs zs 0 (asAgg v))
    | none => v
  | some false =>
    match zeroCellsT P t with
    | some [z] => fixL z v
    | _ => v
  | none => v

def chkTs (P : Program) : List TypeId → Nat → List V → Bool
  | [], i, vs => Nat.beq vs.length i
  | t :: ts, i, vs => chkV P t (cellAt vs i) && chkTs P ts (i + 1) vs

def fixTs (P : Program) : List TypeId → Nat → List V → List V
  | [], _, _ => []
  | t :: ts, i, vs => fixV P t (cellAt vs i) :: fixTs P ts (i + 1) vs

def chkT (P : Program) (t : TypeId) (v : V) : Bool :=
  match P.underlying t with
  | some (.tuple ts) =>
    match ts.toList with
    | [] => true
    | _ => isTu v && chkTs P ts.toList 0 (asTup v)
  | _ => chkV P t v

def fixT (P : Program) (t : TypeId) (v : V) : V :=
  match P.underlying t with
  | some (.tuple ts) =>
    match ts.toList with
    | [] => v
    | _ => .tup (fixTs P ts.toList 0 (asTup v))
  | _ => fixV P t v

abbrev ResH := Option (Bool × V × Ups × Nat)

/-- A value that may not be there, by its type. -/
def hoist (P : Program) (t : TypeId) (r : Option V) : ResH := some (r.isSome && chkT P t (r.getD .und), fixT P t (r.getD .und), [], 0)

def inB (i : Int) (n : Nat) : Bool := decide (0 ≤ i) && decide (i < n)

def oneH (c : Bool) (v : V) : ResH := some (c, v, [], 0)

def indexAddrH (P : Program) (t : TypeId) (a i : V) : ResH :=
  match i with
  | .int _ i =>
    match P.underlying t with
    | some (.slice e) =>
      match sizeT P e with
      | some n =>
        match a with
        | .sl sz es => oneH (Nat.beq sz n && inB i es.length) (.ip ((getAt es i.toNat).getD []) 0)
        | .ms id off len sz => oneH (Nat.beq sz n && inB i len) (.mp id (off + i.toNat * sz))
        | _ => none
      | none => none
    | some (.array len e) =>
      match sizeT P e with
      | some n =>
        match a with
        | .mp id off => oneH (inB i len) (.mp id (off + i.toNat * n))
        | .ip c off => oneH (inB i len) (.ip c (off + i.toNat * n))
        | _ => none
      | none => none
    | _ => none
  | _ => none

def bndC (x : Option V) (n : Nat) : Bool :=
  match x with
  | none => true
  | some (.int _ i) => inB i (n + 1)
  | _ => false

def bndV (x : Option V) (n : Nat) : Nat :=
  match x with
  | some (.int _ i) => i.toNat
  | _ => n

def sliceH (P : Program) (t : TypeId) (a : V) (lo hi mx : Option V) : ResH :=
  match mx, P.underlying t, a with
  | none, some (.slice e), .sl sz es =>
    match sizeT P e with
    | some n => oneH (Nat.beq sz n && (bndC hi es.length && bndC lo (bndV hi es.length))) (.sl sz ((es.take (bndV hi es.length)).drop (bndV lo 0)))
    | none => none
  | _, _, _ => 
    match sliceE P t a lo hi mx with
    | some v => some (true, v, [], 0)
    | none => none

def binH (P : Program) (op : BinOp) (t : TypeId) (x y : V) : ResH :=
  match op, x, y with
  | .quo, .int k a, .int k' b => oneH (sameI k k' && !(b == 0)) (.int k (k.wrap (a.tdiv b)))
  | .rem, .int k a, .int k' b => oneH (sameI k k' && !(b == 0)) (.int k (a.tmod b))
  | .shl, .int k a, .int _ b => oneH (decide (0 ≤ b)) (.int k (k.wrap (a * 2 ^ (min b.toNat k.bits))))
  | .shr, .int k a, .int _ b => oneH (decide (0 ≤ b)) (.int k (a.fdiv (2 ^ (min b.toNat k.bits))))
  | op, x, y =>
    match binB P op t x y with
    | some v => some (true, v, [], 0)
    | none => none

def convH (P : Program) (get : Get) (s d : TypeId) (x : V) : ResH :=
  match P.underlying s, P.underlying d, x with
  | some _, some (.int k), .flt f b => oneH (floatToIntVal f b k).isSome (.int k ((floatToIntVal f b k).getD 0))
  | some _, some (.float k), .flt f b => oneH (fconv f k b).isSome (.flt k ((fconv f k b).getD 0))
  | _, _, _ =>
    match convE P get s d x with
    | some v => some (true, v, [], 0)
    | none => none

def storeH (P : Program) (get : Get) (t : TypeId) (a v : V) : ResH :=
  match a with
  | .mp id off =>
    match get id with
    | some cs =>
      match cellsOf v, sizeT P t with
      | some vs, some n => some (Nat.beq vs.length n && Nat.ble (off + n) cs.length, .und, [(id, some (setCells cs off vs))], 0)
      | _, _ => none
    | none => none
  | _ => none

def appendH (P : Program) (get : Get) (nid : Nat) (t : TypeId) (d x : V) : ResH :=
  match d, x with
  | .ms id off len sz, .ms id' off' len' sz' =>
    match P.underlying t with
    | some (.slice e) =>
      match P.info? e, zeroCellsT P e with
      | some i, some z =>
        match get id, get id' with
        | some ds, some cs =>
          some (Nat.ble i.bytes 256 && Nat.beq z.length i.size && (Nat.beq sz' i.size && Nat.ble (off' + len' * sz') cs.length) && (Nat.beq sz i.size && Nat.ble (off + len * sz) ds.length && Nat.ble (len + len') most),
            .ms nid 0 (len + len') sz, [(nid, some ((ds.drop off).take (len * sz) ++ (cs.drop off').take (len' * sz'))), (id, none)], 1)
        | _, _ => none
      | _, _ => none
    | _ => none
  | .ms id off len sz, .sl sz' es =>
    match P.underlying t with
    | some (.slice e) =>
      match P.info? e, zeroCellsT P e with
      | some i, some z =>
        match get id with
        | some ds =>
          some (Nat.ble i.bytes 256 && Nat.beq z.length i.size && Nat.beq sz' i.size && (Nat.beq sz i.size && Nat.ble (off + len * sz) ds.length && Nat.ble (len + es.length) most),
            .ms nid 0 (len + es.length) sz, [(nid, some ((ds.drop off).take (len * sz) ++ es.flatten)), (id, none)], 1)
        | none => none
      | _, _ => none
    | _ => none
  | .nil, .sl sz' es =>
    match P.underlying t with
    | some (.slice e) =>
      match P.info? e, zeroCellsT P e with
      | some i, some z =>
        some (Nat.ble i.bytes 256 && Nat.beq z.length i.size && (Nat.beq sz' i.size && (Nat.blt 0 es.length && Nat.ble es.length most)), .ms nid 0 es.length i.size, [(nid, some es.flatten)], 1)
      | _, _ => none
    | _ => none
  | .nil, .ms id' off' len' sz' =>
    match P.underlying t with
    | some (.slice e) =>
      match P.info? e, zeroCellsT P e with
      | some i, some z =>
        match get id' with
        | some cs =>
          some (Nat.ble i.bytes 256 && Nat.beq z.length i.size && (Nat.beq sz' i.size && Nat.ble (off' + len' * sz') cs.length) && (Nat.blt 0 len' && Nat.ble len' most),
            .ms nid 0 len' i.size, [(nid, some ((cs.drop off').take (len' * sz')))], 1)
        | none => none
      | _, _ => none
    | _ => none
  | d, x =>
    match appendE P get nid t d x with
    | some (v, ups, m) => some (true, v, ups, m)
    | none => none

def resH (r : Res) : ResH :=
  match r with
  | some (v, ups, m) => some (true, v, ups, m)
  | none => none

def callH (P : Program) (t : TypeId) (get : Get) (fl : List Nat) (s : Summ) (args : List V) : ResH :=
  match s with
  | .prim g => hoist P t (g args)
  | .pure g =>
    bif args.all noRefV then hoist P t (g args)
    else
      match hoist P t (g (args.map (deepV get fl))) with
      | some (c, v, ups, m) => bif plainT v then some (c, v, ups, m) else none
      | none => none
  | .pureC q g =>
    bif args.all noRefV then
      match hoist P t (g args) with
      | some (c, v, ups, m) => some (c && q args, v, ups, m)
      | none => none
    else
      match hoist P t (g (args.map (deepV get fl))) with
      | some (c, v, ups, m) => bif plainT v then some (c && q (args.map (deepV get fl)), v, ups, m) else none
      | none => none
  | .objC q g =>
    match args with
    | .mp id 0 :: rest =>
      bif memB id fl && rest.all noRefV then
        match get id with
        | some cs =>
          match g cs rest with
          | some (v, cs') => some (q cs rest, v, [(id, some cs')], 0)
          | none => none
        | none => none
      else none
    | _ => none
  | s => resH (callS get fl s args)

/-- The same, the conditions ahead. -/
def opH (get : Get) (fl : List Nat) (nid : Nat) (ev : Operand → V) (o : Oper) : ResH :=
  match o.op with
  | .load t a => hoist E.P t (loadE E.P get t (ev a))
  | .index t x i => hoist E.P o.type (indexE E.P t (ev x) (ev i))
  | .indexAddr t x i => indexAddrH E.P t (ev x) (ev i)
  | .slice t x lo hi mx => sliceH E.P t (ev x) (optE ev lo) (optE ev hi) (optE ev mx)
  | .binOp op t x y _ => binH E.P op t (ev x) (ev y)
  | .convert s d x => convH E.P get s d (ev x)
  | .store t a x => storeH E.P get t (ev a) (ev x)
  | .call c =>
    match c.callee with
    | .builtin .append =>
      match c.argTypes.toList, c.args.toList.map ev with
      | t :: u :: _, d :: x :: _ =>
        match E.P.underlying u with
        | some (.slice _) => appendH E.P get nid t d x
        | _ => none
      | _, _ => none
    | .builtin b => resH (builtinE E.P get nid b c.argTypes.toList (c.args.toList.map ev))
    | .value f =>
      match ev f with
      | .fn f first cap =>
        match E.S f with
        | some s => callH E.P o.type get fl s (first ++ c.args.toList.map ev ++ cap)
        | none => none
      | _ => none
    | _ => none
  | _ => resH (opE E get fl nid ev o)

def anyUps (u : Ups) : Bool :=
  match u with
  | _ :: _ => true
  | [] => false

def flagD (fl : List Nat) (d : V) : Bool :=
  match d with
  | .nil => true
  | .ms id _ _ _ => memB id fl
  | _ => false

def flagX (fl : List Nat) (x : V) : Bool :=
  match x with
  | .nil => true
  | .sl _ _ => true
  | .ms id _ _ _ => memB id fl
  | _ => false

/-- Whether the object that an operation has made or written is flat behind it. -/
def flagE (fl : List Nat) (ev : Operand → V) (o : Oper) (ups : Ups) : Bool :=
  match o.op with
  | .alloc _ | .box _ _ | .buildSlice _ _ _ =>
    match ups with
    | (_, some cs) :: _ => cs.all noRefB
    | _ => false
  | .store _ a x =>
    match ev a with
    | .mp id _ => memB id fl && noRefV (ev x)
    | _ => false
  | .call c =>
    match c.callee with
    | .builtin .append =>
      match c.args.toList.map ev with
      | d :: x :: _ => flagD fl d && flagX fl x
      | _ => false
    | .value _ => anyUps ups
    | _ => false
  | _ => false

def flatUps (fl : List Nat) (flag : Bool) (ups : Ups) : List Nat :=
  match ups with
  | [] => fl
  | (id, _) :: _ => bif flag then (bif memB id fl then fl else id :: fl) else fl.filter fun k => !Nat.beq k id

variable {α : Type}

def putK (n : Nat) (dst : Option Nat) (v : V) (r : Regs) (K : Regs → Option α) : Option α :=
  match dst with
  | none => K r
  | some d => bif Nat.blt d n then K ((d, v) :: r) else none

abbrev Call (α : Type) := FuncId → List V → Ups → Nat → List Nat → (V → Ups → Nat → List Nat → Option α) → Option α

/-- One operation of a region whose order is the text's. -/
def stepK (call : Call α) (n : Nat) (o : Oper) (s : St) (K : St → Option α) : Option α :=
  match s with
  | ⟨r, os, nx, fl⟩ =>
    match o.op with
    | .pick c a b =>
      match evalO r c with
      | .bool t => bif t then putK n o.dst (evalO r a) r fun r => K ⟨r, os, nx, fl⟩ else putK n o.dst (evalO r b) r fun r => K ⟨r, os, nx, fl⟩
      | _ => none
    | .call ⟨.value f, args, _⟩ =>
      match evalO r f with
      | .fn f first cap =>
        match E.S f with
        | some su =>
          match callH E.P o.type (upd os noGet) fl su (first ++ args.toList.map (evalO r) ++ cap) with
          | some (c, v, ups, m) => bif c then putK n o.dst v r fun r => K ⟨r, ups ++ os, nx + m, flatUps fl (anyUps ups) ups⟩ else none
          | none => none
        | none => call f (first ++ args.toList.map (evalO r) ++ cap) os nx fl fun v os nx fl => putK n o.dst v r fun r => K ⟨r, os, nx, fl⟩
      | _ => none
    | _ =>
      match opH E (upd os noGet) fl nx (evalO r) o with
      | some (c, v, ups, m) => bif c then putK n o.dst v r fun r' => K ⟨r', ups ++ os, nx + m, flatUps fl (flagE fl (evalO r) o ups) ups⟩ else none
      | none => none

/-- The temporary of the operation that guards. -/
def guardT (all : List Oper) (j : Nat) : Option Nat :=
  match getAt all j with
  | some o => o.dst
  | none => none

def opsK (call : Call α) (n : Nat) (all : List Oper) : List Oper → St → (St → Option α) → Option α
  | [], s, K => K s
  | o :: rest, s, K =>
    match o.guard with
    | none => stepK E call n o s fun s => opsK call n all rest s K
    | some (j, want) =>
      match guardT all j with
      | none => none
      | some t =>
        match s with
        | ⟨r, os, nx, fl⟩ =>
          match look r t with
          | .bool b =>
            bif b then
              bif want then stepK E call n o ⟨(t, .bool true) :: r, os, nx, fl⟩ fun s => opsK call n all rest s K
              else putK n o.dst (.tup []) ((t, .bool true) :: r) fun r => opsK call n all rest ⟨r, os, nx, fl⟩ K
            else
              bif want then putK n o.dst (.tup []) ((t, .bool false) :: r) fun r => opsK call n all rest ⟨r, os, nx, fl⟩ K
              else stepK E call n o ⟨(t, .bool false) :: r, os, nx, fl⟩ fun s => opsK call n all rest s K
          | .tup [] => putK n o.dst (.tup []) r fun r => opsK call n all rest ⟨r, os, nx, fl⟩ K
          | _ => none

/-! A region whose order is open: the text's order, where it makes no difference -/

structure DRec where
  anc : List Nat
  foot : List Nat
  wr : List Nat

def refsL : V → List Nat
  | .mp id _ => [id]
  | .ms id _ _ _ => [id]
  | _ => []

def refsV : V → List Nat
  | .agg cs => cs.flatMap refsL
  | .fn _ a b => (a ++ b).flatMap refsL
  | v => refsL v

def innerOf (get : Get) (fl : List Nat) (id : Nat) : List Nat :=
  bif memB id fl then []
  else
    match get id with
    | some cs => cs.flatMap refsL
    | none => []

/-- The objects that values lead to, three levels deep. -/
def reach (get : Get) (fl : List Nat) (ids : List Nat) : List Nat :=
  let a := ids.flatMap (innerOf get fl)
  let b := a.flatMap (innerOf get fl)
  ids ++ a ++ b ++ b.flatMap (innerOf get fl)

def footE (get : Get) (fl : List Nat) (ev : Operand → V) (o : Oper) : List Nat :=
  match o.op with
  | .load _ a => refsV (ev a)
  | .store _ a _ => refsV (ev a)
  | .convert _ _ x => refsV (ev x)
  | .call c =>
    match c.callee with
    | .builtin .append => (c.args.toList.map ev).flatMap refsV
    | .builtin _ => []
    | .value f =>
      match ev f with
      | .fn _ first cap => reach get fl ((first ++ c.args.toList.map ev ++ cap).flatMap refsV)
      | _ => []
    | _ => []
  | _ => []

def restr (ids : List Nat) (get : Get) : Get := fun id => bif memB id ids then get id else none

def disj (a b : List Nat) : Bool := a.all fun x => !memB x b

def ancOf (ds : List DRec) (i : Nat) : List Edge → Option (List Nat)
  | [] => some []
  | e :: es =>
    match ancOf ds i es with
    | none => none
    | some l =>
      bif Region.binds .any e then
        bif Nat.blt e.on i then
          match getAt ds e.on with
          | some d => some (e.on :: (d.anc ++ l))
          | none => none
        else none
      else some l

/-- No operation of before that is not ordered touches what this one touches, and has no temporary in common with it. -/
def quietAll (all : Array Oper) (o : Oper) (d : DRec) : Nat → List DRec → Bool
  | _, [] => true
  | i, e :: es =>
    (memB i d.anc ||
      (disj e.wr d.foot && disj d.wr e.foot && disj d.wr e.wr &&
        (match all[i]? with
        | some p => p.apart all o
        | none => false))) && quietAll all o d (i + 1) es

/-- An object that was flat when the region began stays flat. -/
def keepsFlat (fl0 : List Nat) (flag : Bool) (ups : Ups) : Bool :=
  match ups with
  | [] => true
  | (id, _) :: r => (!memB id fl0 || flag) && r.all fun p => p.2.isNone

def drawK (n : Nat) (all : Array Oper) (nx : Nat) (fl0 : List Nat) : List Oper → Nat → List DRec → Regs → Ups → List Nat → (St → Option α) → Option α
  | [], i, _, r, os, fl, K => K ⟨r, os, nx + i, fl⟩
  | o :: rest, i, ds, r, os, fl, K =>
    match ancOf ds i o.after.toList with
    | none => none
    | some anc =>
      let run (r : Regs) : Option α :=
        match o.op with
        | .pick c a b =>
          bif quietAll all o ⟨anc, [], []⟩ 0 ds then
            match evalO r c with
            | .bool t =>
              bif t then putK n o.dst (evalO r a) r fun r => drawK n all nx fl0 rest (i + 1) (ds ++ [⟨anc, [], []⟩]) r os fl K
              else putK n o.dst (evalO r b) r fun r => drawK n all nx fl0 rest (i + 1) (ds ++ [⟨anc, [], []⟩]) r os fl K
            | _ => none
          else none
        | _ =>
          match opH E (restr (footE (upd os noGet) fl0 (evalO r) o) (upd os noGet)) fl0 (nx + i) (evalO r) o with
          | some (c, v, ups, m) =>
            bif c then
             (bif Nat.ble m 1 && keepsFlat fl0 (flagE fl0 (evalO r) o ups) ups && quietAll all o ⟨anc, footE (upd os noGet) fl0 (evalO r) o, ups.map (·.1)⟩ 0 ds then
              putK n o.dst v r fun r' => drawK n all nx fl0 rest (i + 1) (ds ++ [⟨anc, footE (upd os noGet) fl0 (evalO r) o, ups.map (·.1)⟩]) r' (ups ++ os) (flatUps fl (flagE fl0 (evalO r) o ups) ups) K
             else none)
            else none
          | none => none
      match o.guard with
      | none => run r
      | some (j, want) =>
        match guardT all.toList j with
        | none => none
        | some t =>
          match look r t with
          | .bool b =>
            bif b then
              bif want then run ((t, .bool true) :: r)
              else
                bif quietAll all o ⟨anc, [], []⟩ 0 ds then putK n o.dst (.tup []) ((t, .bool true) :: r) fun r => drawK n all nx fl0 rest (i + 1) (ds ++ [⟨anc, [], []⟩]) r os fl K
                else none
            else
              bif want then
                bif quietAll all o ⟨anc, [], []⟩ 0 ds then putK n o.dst (.tup []) ((t, .bool false) :: r) fun r => drawK n all nx fl0 rest (i + 1) (ds ++ [⟨anc, [], []⟩]) r os fl K
                else none
              else run ((t, .bool false) :: r)
          | .tup [] =>
            bif quietAll all o ⟨anc, [], []⟩ 0 ds then putK n o.dst (.tup []) r fun r => drawK n all nx fl0 rest (i + 1) (ds ++ [⟨anc, [], []⟩]) r os fl K
            else none
          | _ => none

/-! Loops -/

def dedup : List Nat → List Nat
  | [] => []
  | a :: l => a :: (dedup l).filter fun b => !Nat.beq b a

def posOf (id : Nat) : List Nat → Nat → Option Nat
  | [], _ => none
  | k :: l, i => bif Nat.beq k id then some i else posOf id l (i + 1)

def rnId (base : Nat) (ids : List Nat) (id : Nat) : Option Nat :=
  match posOf id ids base with
  | some k => some k
  | none => bif Nat.blt id base then some id else none

def rnL (base : Nat) (ids : List Nat) : V → V
  | .mp id off =>
    match rnId base ids id with
    | some k => .mp k off
    | none => .und
  | .ms id off len sz =>
    match rnId base ids id with
    | some k => .ms k off len sz
    | none => .und
  | .agg _ => .und
  | .tup _ => .und
  | .fn f [] [] => .fn f [] []
  | .fn _ _ _ => .und
  | v => v

def rnV (base : Nat) (ids : List Nat) : V → V
  | .agg cs => .agg (cs.map (rnL base ids))
  | .fn f a b => .fn f (a.map (rnL base ids)) (b.map (rnL base ids))
  | .tup _ => .und
  | v => rnL base ids v

def rnCells (base : Nat) (ids : List Nat) (fl : List Nat) (id : Nat) (cs : Cells) : Cells := bif memB id fl then cs else cs.map (rnL base ids)

/-- The objects below a number, and those of a list behind them, anew. -/
def rnObjs (get : Get) (fl : List Nat) (base : Nat) (ids : List Nat) : List (Nat × Nat) → Ups
  | [] => []
  | (k, id) :: l =>
    match get id with
    | some cs => (k, some (rnCells base ids fl id cs)) :: rnObjs get fl base ids l
    | none => rnObjs get fl base ids l

/-- At a loop's head: the slots that count, and of the objects that have been made since 'base' those that are reached from them, numbered anew; so are those below that the slots 'mv' lead to. -/
def normM (base : Nat) (mv ks : List Nat) (s : St) : St :=
  match s with
  | ⟨r, os, _, fl⟩ =>
    let get := upd os noGet
    let own := (mv.flatMap fun t => refsV (look r t)).filter fun id => Nat.blt id base
    let old := (List.range base).filter fun k => !memB k own
    let roots := (ks.flatMap fun t => refsV (look r t)) ++ old.flatMap (innerOf get fl)
    let ids := dedup ((own ++ (reach get fl roots).filter fun id => Nat.ble base id).filter fun id => (get id).isSome)
    let pairs := (old.map fun k => (k, k)) ++ (ids.zipIdx base).map fun x => (x.2, x.1)
    ⟨ks.map fun t => (t, rnV base ids (look r t)), rnObjs get fl base ids pairs, base + ids.length, (pairs.filter fun p => memB p.2 fl && (get p.2).isSome).map (·.1)⟩

def norm (base : Nat) (ks : List Nat) (s : St) : St := normM base [] ks s

/-- What is behind a loop's body: the next turn, or the loop's end. -/
def loopK (base : Nat) (ks kx : List Nat) (Kn : St → Option α) (Ke : Cont α) : Cont α
  | .normal, s => Kn (norm base ks s)
  | .exit id, s => Ke (.exit id) (norm base kx s)
  | .ret, s => Ke .ret (norm base kx s)

def loopN (body : St → Cont α → Option α) (base : Nat) (ks kx : List Nat) : Nat → St → Cont α → Option α
  | 0, _, _ => none
  | m + 1, s, K => body s (loopK base ks kx (fun s => loopN body base ks kx m s K) K)

def seqK (f : St → Cont α → Option α) (K : Cont α) : Cont α := fun e s =>
  match e with
  | .normal => f s K
  | e => K e s

def blockK (id : Nat) (K : Cont α) : Cont α := fun e s =>
  match e with
  | .exit id' => bif Nat.beq id' id then K .normal s else K (.exit id') s
  | e => K e s

def St.nx' (s : St) : Nat := s.nx

def exec (call : Call α) (f : FuncId) (n : Nat) : Code → Nat → St → Cont α → Option α
  | .skip, _, s, K => K .normal s
  | .region _ ops draw, _, s, K =>
    match draw with
    | false => opsK E call n ops.toList ops.toList s fun s => K .normal s
    | true =>
      match s with
      | ⟨r, os, nx, fl⟩ => drawK E n ops nx fl ops.toList 0 [] r os fl fun s => K .normal s
  | .seq a b, c, s, K => exec call f n a c s (seqK (exec call f n b c) K)
  | .cond o x y, c, s, K =>
    match evalO s.r o with
    | .bool b => bif b then exec call f n x c s K else exec call f n y c s K
    | _ => none
  | .block id b, _, s, K => exec call f n b id s (blockK id K)
  | .loop b, c, s, K =>
    match E.loops f c with
    | some g =>
      match g s.nx (normM s.nx (E.move f c) (E.keep f c) s) with
      | some t => t.app K
      | none => none
    | none => loopN (exec call f n b c) s.nx (E.keep f c) (E.kept f c) E.fuel (normM s.nx (E.move f c) (E.keep f c) s) K
  | .exit id, _, s, K => K (.exit id) s
  | .ret, _, s, K => K .ret s
  | _, _, _, _ => none

def args0 : List V → Nat → Regs
  | [], _ => []
  | v :: l, i => (i, v) :: args0 l (i + 1)

def resE (P : Program) (get : Get) (r : Regs) : List ResultVar → Option (List V)
  | [] => some []
  | .tmp t :: l =>
    match resE P get r l with
    | some vs => some (look r t :: vs)
    | none => none
  | .cell a t :: l =>
    match loadE P get t (look r a), resE P get r l with
    | some v, some vs => some (v :: vs)
    | _, _ => none

def oneOr (vs : List V) : V :=
  match vs with
  | [v] => v
  | vs => .tup vs

/-- A function that is walked into. -/
def callN : Nat → Call α
  | 0, _, _, _, _, _, _ => none
  | d + 1, f, args, os, nx, fl, K =>
    match E.P.funcs[f]? with
    | some fn =>
      match fn.body with
      | some c =>
        bif Nat.ble args.length fn.ntmps then
          exec E (callN d) f fn.ntmps c 0 ⟨args0 args 0, os, nx, fl⟩ fun e s =>
            match e with
            | .exit _ => none
            | _ =>
              match s with
              | ⟨r, os, nx, fl⟩ =>
                match resE E.P (upd os noGet) r fn.results.toList with
                | some vs => K (oneOr vs) os nx fl
                | none => none
        else none
      | none => none
    | none => none

/-- What a function comes to that only looks at what it is handed: all that it has made is immutable from then on. -/
def runPure (d : Nat) (f : FuncId) (args : List V) : Option V := callN E (α := V) d f args [] 0 [] fun v os _ fl => some (deepT (upd os noGet) fl v)

/-- All objects but the first. -/
def hide0 (get : Get) : Get := fun id => bif Nat.beq id 0 then none else get id

/-- The same, of one that works on one flat object. -/
def runObj (d : Nat) (f : FuncId) (cs : Cells) (rest : List V) : Option (V × Cells) :=
  callN E (α := V × Cells) d f (.mp 0 0 :: rest) [(0, some cs)] 1 [0] fun v os _ fl =>
    match upd os noGet 0 with
    | some cs' => bif memB 0 fl then some (deepT (hide0 (upd os noGet)) fl v, cs') else none
    | none => none
end
end Go.Ev

/-
  What is handed to functions that only look; what is told of called functions.
-/
namespace Go.Ev

def FlatInv (fl : List Nat) (get : Get) : Prop := ∀ id, memB id fl = true → ∀ cs, get id = some cs → ∀ v ∈ cs, noRefB v = true

/-- Immutable memory is as it is told. -/
def ImOK (J : Im) (w : World) : Prop := ∀ b c, J b = some c → ∃ elem fz, w.heap[b]? = some (.cells c elem fz)

theorem noRef_any {J : Im} {μ μ' : Mu} {v : V} {g : Value} (h : Rv J μ v g) (hn : noRefB v = true) : Rv J μ' v g := by
  cases h with
  | bool => exact .bool
  | int => exact .int
  | flt h => exact .flt h
  | str => exact .str
  | agg _ _ _ => simp [noRefB] at hn
  | tup _ _ => simp [noRefB] at hn
  | sl0 => exact .sl0
  | sl a b c d e f => exact .sl a b c d e f
  | nil => exact .nil
  | ip a b c d => exact .ip a b c d
  | mp _ => simp [noRefB] at hn
  | ms _ _ _ => simp [noRefB] at hn
  | np => exact .np
  | fn h1 h2 h3 h4 =>
    rename_i f first cap g1 g2
    cases first <;> cases cap <;> simp [noRefB] at hn
    exact .fn h1 h2 (fun j v g hv => by simp at hv) (fun j v g hv => by simp at hv)
  | und => exact .und

theorem noRefV_any {J : Im} {μ μ' : Mu} {v : V} {g : Value} (h : Rv J μ v g) (hn : noRefV v = true) : Rv J μ' v g := by
  cases v with
  | agg cs =>
    cases h with
    | agg hs ho hp => exact .agg hs ho fun j v g hv hg => noRef_any (hp j v g hv hg) (List.all_eq_true.1 hn v (List.mem_of_getElem? hv))
  | _ => exact noRef_any h hn

theorem plainB_any {J J' : Im} {μ μ' : Mu} {v : V} {g : Value} (h : Rv J μ v g) (hn : plainB v = true) : Rv J' μ' v g := by
  cases h with
  | bool => exact .bool
  | int => exact .int
  | flt h => exact .flt h
  | str => exact .str
  | np => exact .np
  | und => exact .und
  | fn h1 h2 h3 h4 =>
    rename_i f first cap g1 g2
    cases first <;> cases cap <;> simp [plainB] at hn
    exact .fn h1 h2 (fun j v g hv => by simp at hv) (fun j v g hv => by simp at hv)
  | _ => simp [plainB] at hn

theorem plainV_any {J J' : Im} {μ μ' : Mu} {v : V} {g : Value} (h : Rv J μ v g) (hn : plainV v = true) : Rv J' μ' v g := by
  cases v with
  | agg cs =>
    cases h with
    | agg hs ho hp => exact .agg hs ho fun j v g hv hg => plainB_any (hp j v g hv hg) (List.all_eq_true.1 hn v (List.mem_of_getElem? hv))
  | _ => exact plainB_any h hn

theorem plainT_any {J J' : Im} {μ μ' : Mu} {v : V} {g : Value} (h : Rv J μ v g) (hn : plainT v = true) : Rv J' μ' v g := by
  cases v with
  | tup cs =>
    cases h with
    | tup hs hp => exact .tup hs fun j v g hv hg => plainV_any (hp j v g hv hg) (List.all_eq_true.1 hn v (List.mem_of_getElem? hv))
  | _ => exact plainV_any h hn

section
variable {get : Get} {J : Im} {μ : Mu} {w : World}

open Classical in
/-- The objects of one's own, for the while of a call, taken as immutable. -/
noncomputable def liveIm (get : Get) (J : Im) (μ : Mu) (w : World) : Im := fun b =>
  match J b with
  | some c => some c
  | none =>
    if Own get μ b then
      match w.heap[b]? with
      | some (.cells c _ _) => some c
      | _ => none
    else none

theorem live_le (get : Get) (J : Im) (μ : Mu) (w : World) : Im.le J (liveIm get J μ w) := fun b c h => by simp [liveIm, h]

theorem live_ok (hI : Inv get J μ w) : ImOK (liveIm get J μ w) w := by
  intro b c h
  unfold liveIm at h
  cases hj : J b with
  | some c' =>
    rw [hj] at h
    simp only [Option.some.injEq] at h
    subst h
    exact hI.im b _ hj
  | none =>
    rw [hj] at h
    simp only at h
    split at h
    · split at h
      · rename_i c' elem fz hh
        cases h
        exact ⟨elem, fz, hh⟩
      · cases h
    · cases h

theorem live_at {id : Nat} {cs : Cells} {l : Loc} {gc : Array Value} {elem : TypeId} (hg : get id = some cs) (hl : μ id = some l) (hJ : J l.blk = none) (hh : w.heap[l.blk]? = some (.cells gc elem (0, 0))) :
    liveIm get J μ w l.blk = some gc := by
  unfold liveIm
  rw [hJ]
  simp only
  rw [if_pos ⟨id, l, by rw [hg]; simp, hl, rfl⟩, hh]

theorem takePad_len (n : Nat) (l : List V) : (takePad n l).length = n := by
  induction n generalizing l with
  | zero => rfl
  | succ n ih => cases l <;> simp [takePad, ih]

theorem takePad_get (n : Nat) (l : List V) (j : Nat) (v : V) (h : (takePad n l)[j]? = some v) : j < n ∧ (l[j]? = some v ∨ v = .und) := by
  induction n generalizing l j with
  | zero => simp [takePad] at h
  | succ n ih =>
    cases l with
    | nil =>
      simp only [takePad] at h
      cases j with
      | zero => simp at h; exact ⟨by omega, .inr h.symm⟩
      | succ j => obtain ⟨h1, h2⟩ := ih [] j (by simpa using h); exact ⟨by omega, by simpa using h2⟩
    | cons a l =>
      simp only [takePad] at h
      cases j with
      | zero => simp at h; exact ⟨by omega, .inl (by simp [h])⟩
      | succ j => obtain ⟨h1, h2⟩ := ih l j (by simpa using h); exact ⟨by omega, by simpa using h2⟩

theorem chunk_len (n sz : Nat) (l : List V) : (chunk n sz l).length = n := by
  induction n generalizing l with
  | zero => rfl
  | succ n ih => simp [chunk, ih]

theorem chunk_size (n sz : Nat) (l : List V) : ∀ e ∈ chunk n sz l, e.length = sz := by
  induction n generalizing l with
  | zero => intro e he; simp [chunk] at he
  | succ n ih =>
    intro e he
    simp only [chunk, List.mem_cons] at he
    rcases he with rfl | he
    · exact takePad_len _ _
    · exact ih _ e he

theorem chunk_get (n sz : Nat) (l : List V) (i j : Nat) (e : List V) (v : V) (h : (chunk n sz l)[i]? = some e) (hv : e[j]? = some v) : i < n ∧ j < sz ∧ (l[i * sz + j]? = some v ∨ v = .und) := by
  induction n generalizing l i with
  | zero => simp [chunk] at h
  | succ n ih =>
    simp only [chunk] at h
    cases i with
    | zero =>
      simp at h
      subst h
      obtain ⟨h1, h2⟩ := takePad_get _ _ _ _ hv
      exact ⟨by omega, h1, by simpa using h2⟩
    | succ i =>
      obtain ⟨h1, h2, h3⟩ := ih (l.drop sz) i (by simpa using h)
      refine ⟨by omega, h2, ?_⟩
      rw [List.getElem?_drop] at h3
      have e : (i + 1) * sz + j = sz + (i * sz + j) := by rw [Nat.add_mul]; omega
      rw [e]
      exact h3

theorem deepL_sound (fl : List Nat) (hI : Inv get J μ w) (hfl : FlatInv fl get) : ∀ (n : Nat) (v : V) (g : Value), Rv J μ v g → Rv (liveIm get J μ w) noMu (deepL get fl n v) g ∧ noRefB (deepL get fl n v) = true := by
  intro n
  induction n with
  | zero =>
    intro v g h
    have hle := live_le get J μ w
    cases h with
    | mp _ => exact ⟨.und, rfl⟩
    | ms _ _ _ => exact ⟨.und, rfl⟩
    | agg _ _ _ => exact ⟨.und, rfl⟩
    | tup _ _ => exact ⟨.und, rfl⟩
    | fn h1 h2 h3 h4 =>
      rename_i f first cap g1 g2
      cases first with
      | nil =>
        cases cap with
        | nil => exact ⟨.fn h1 h2 (fun j v g hv => by simp at hv) (fun j v g hv => by simp at hv), rfl⟩
        | cons _ _ => exact ⟨.und, rfl⟩
      | cons _ _ => exact ⟨.und, rfl⟩
    | bool => exact ⟨.bool, rfl⟩
    | int => exact ⟨.int, rfl⟩
    | flt h => exact ⟨.flt h, rfl⟩
    | str => exact ⟨.str, rfl⟩
    | sl0 => exact ⟨.sl0, rfl⟩
    | sl a b c d e f => exact ⟨(Rv.sl (μ := noMu) a b c d e f).mono hle (Mu.le_refl _), rfl⟩
    | nil => exact ⟨.nil, rfl⟩
    | ip a b c d => exact ⟨(Rv.ip (μ := noMu) a b c d).mono hle (Mu.le_refl _), rfl⟩
    | np => exact ⟨.np, rfl⟩
    | und => exact ⟨.und, rfl⟩
  | succ n ih =>
    intro v g h
    have hle := live_le get J μ w
    -- what an object's cells become
    have cells : ∀ (id : Nat) (cs : Cells) (l : Loc) (gc : Array Value), get id = some cs → (∀ (j : Nat) v, cs[j]? = some v → ∃ g, gc[l.base + j]? = some g ∧ Rv J μ v g) →
        ∀ (j : Nat) v, (bif memB id fl then cs else cs.map (deepL get fl n))[j]? = some v → ∃ g, gc[l.base + j]? = some g ∧ Rv (liveIm get J μ w) noMu v g ∧ noRefB v = true := by
      intro id cs l gc hg hc j v hv
      cases hm : memB id fl
      · rw [hm] at hv
        simp only [cond_false, List.getElem?_map] at hv
        cases hu : cs[j]? with
        | none => rw [hu] at hv; cases hv
        | some u =>
          rw [hu] at hv
          simp only [Option.map_some, Option.some.injEq] at hv
          subst hv
          obtain ⟨g, h1, h2⟩ := hc j u hu
          obtain ⟨h3, h4⟩ := ih u g h2
          exact ⟨g, h1, h3, h4⟩
      · rw [hm] at hv
        simp only [cond_true] at hv
        obtain ⟨g, h1, h2⟩ := hc j v hv
        have hn := hfl id hm cs hg v (List.mem_of_getElem? hv)
        exact ⟨g, h1, (noRef_any (μ' := noMu) h2 hn).mono hle (Mu.le_refl _), hn⟩
    cases h with
    | mp hl =>
      rename_i id off l
      simp only [deepL]
      cases hg : get id with
      | none => exact ⟨.und, rfl⟩
      | some cs =>
        obtain ⟨gc, elem, hJ, hh, hs, hlen, ho, hc⟩ := hI.at hg hl
        have hcell := cells id cs l gc hg hc
        refine ⟨.ip (c := gc) (o := l.base) (gs := fun j => gc.getD (l.base + j) undef) (live_at hg hl hJ hh) (fun j v hv => ?_) (fun j v hv => ?_) (fun j v hv => ?_), rfl⟩
        · obtain ⟨g, h1, _⟩ := hcell j v hv
          simp [h1]
        · obtain ⟨g, h1, h2, _⟩ := hcell j v hv
          simpa [h1] using h2
        · obtain ⟨g, h1, _, h3⟩ := hcell j v hv
          exact ⟨by simpa [h1] using ho _ _ h1, h3⟩
    | ms hl hc hle' =>
      rename_i id off len sz l cap
      simp only [deepL]
      cases hg : get id with
      | none => exact ⟨.und, rfl⟩
      | some cs =>
        obtain ⟨gc, elem, hJ, hh, hs, hlen, ho, hcs⟩ := hI.at hg hl
        have hcell := cells id cs l gc hg hcs
        have hex : ∀ i j, i < len → j < sz → ∃ g, gc[l.base + off + i * sz + j]? = some g := by
          intro i j hi hj
          refine some_of_size hs ?_
          have h1 : (i + 1) * sz ≤ cap * sz := Nat.mul_le_mul_right _ (by omega)
          rw [Nat.add_mul] at h1
          omega
        have key : ∀ (i j : Nat) e v, (chunk len sz ((bif memB id fl then cs else cs.map (deepL get fl n)).drop off))[i]? = some e → e[j]? = some v →
            ∃ g, gc[l.base + off + i * sz + j]? = some g ∧ Rv (liveIm get J μ w) noMu v g ∧ noRefB v = true := by
          intro i j e v he hv
          obtain ⟨h1, h2, h3⟩ := chunk_get _ _ _ _ _ _ _ he hv
          rcases h3 with h3 | rfl
          · rw [List.getElem?_drop] at h3
            obtain ⟨g, k1, k2, k3⟩ := hcell _ _ h3
            refine ⟨g, ?_, k2, k3⟩
            rw [← k1]
            congr 1
            omega
          · obtain ⟨g, hg'⟩ := hex i j h1 h2
            exact ⟨g, hg', .und, rfl⟩
        have := Rv.sl (J := liveIm get J μ w) (μ := noMu) (es := chunk len sz ((bif memB id fl then cs else cs.map (deepL get fl n)).drop off)) (cap := cap) (c := gc) (blk := l.blk) (off := l.base + off) (sz := sz)
          (gs := fun i j => gc.getD (l.base + off + i * sz + j) undef) (by rw [chunk_len]; exact hc) (live_at hg hl hJ hh) (chunk_size _ _ _)
          (fun i j e v he hv => by obtain ⟨g, h1, _⟩ := key i j e v he hv; simp [h1])
          (fun i j e v he hv => by obtain ⟨g, h1, h2, _⟩ := key i j e v he hv; simpa [h1] using h2)
          (fun i j e v he hv => by obtain ⟨g, h1, _, h3⟩ := key i j e v he hv; exact ⟨by simpa [h1] using ho _ _ h1, h3⟩)
        rw [chunk_len] at this
        exact ⟨this, rfl⟩
    | agg _ _ _ => exact ⟨.und, rfl⟩
    | tup _ _ => exact ⟨.und, rfl⟩
    | fn h1 h2 h3 h4 =>
      rename_i f first cap g1 g2
      cases first with
      | nil =>
        cases cap with
        | nil => exact ⟨.fn h1 h2 (fun j v g hv => by simp at hv) (fun j v g hv => by simp at hv), rfl⟩
        | cons _ _ => exact ⟨.und, rfl⟩
      | cons _ _ => exact ⟨.und, rfl⟩
    | bool => exact ⟨.bool, rfl⟩
    | int => exact ⟨.int, rfl⟩
    | flt h => exact ⟨.flt h, rfl⟩
    | str => exact ⟨.str, rfl⟩
    | sl0 => exact ⟨.sl0, rfl⟩
    | sl a b c d e f => exact ⟨(Rv.sl (μ := noMu) a b c d e f).mono hle (Mu.le_refl _), rfl⟩
    | nil => exact ⟨.nil, rfl⟩
    | ip a b c d => exact ⟨(Rv.ip (μ := noMu) a b c d).mono hle (Mu.le_refl _), rfl⟩
    | np => exact ⟨.np, rfl⟩
    | und => exact ⟨.und, rfl⟩

theorem deepV_sound (fl : List Nat) (hI : Inv get J μ w) (hfl : FlatInv fl get) {v : V} {g : Value} (h : Rv J μ v g) : Rv (liveIm get J μ w) noMu (deepV get fl v) g := by
  cases v with
  | agg cs =>
    cases h with
    | agg hs ho hp =>
      simp only [deepV]
      refine .agg (by simpa using hs) ho fun j v g hv hg => ?_
      rw [List.getElem?_map] at hv
      cases hu : cs[j]? with
      | none => rw [hu] at hv; cases hv
      | some u =>
        rw [hu] at hv
        simp only [Option.map_some, Option.some.injEq] at hv
        subst hv
        exact (deepL_sound fl hI hfl 4 u g (hp j u g hu hg)).1
  | _ => exact (deepL_sound fl hI hfl 4 _ g h).1

theorem deepT_sound (fl : List Nat) (hI : Inv get J μ w) (hfl : FlatInv fl get) {v : V} {g : Value} (h : Rv J μ v g) : Rv (liveIm get J μ w) noMu (deepT get fl v) g := by
  cases v with
  | tup cs =>
    cases h with
    | tup hs hp =>
      simp only [deepT]
      refine .tup (by simpa using hs) fun j v g hv hg => ?_
      rw [List.getElem?_map] at hv
      cases hu : cs[j]? with
      | none => rw [hu] at hv; cases hv
      | some u =>
        rw [hu] at hv
        simp only [Option.map_some, Option.some.injEq] at hv
        subst hv
        exact deepV_sound fl hI hfl (hp j u g hu hg)
  | _ => exact deepV_sound fl hI hfl h
end

/-! What is told of called functions -/

/-- A function with a body, by that it can be entered. -/
def Bodied (P : Program) (f : FuncId) : Prop := ∃ fn, P.funcs[f]? = some fn ∧ (fn.name == "runtime.NumGoroutine") = false ∧ fn.body.isNone = false

def PureOK (P : Program) (f : FuncId) (g : List V → Option V) : Prop :=
  ∀ (J : Im) (vs : List V) (gs : Array Value) (w : World) (v : V), ImOK J w → Rvs J noMu vs gs → g vs = some v →
    Calls P f gs w fun e w' => ∃ gv J', e = .returned gv ∧ Rv J' noMu v gv ∧ ImOK J' w' ∧ Im.le J J' ∧ (∀ b c, J' b = some c → J b = none → w.heap.size ≤ b) ∧ w.heap.size ≤ w'.heap.size ∧ (∀ b, b < w.heap.size → w'.heap[b]? = w.heap[b]?) ∧ w'.os = w.os ∧ (w'.output, w'.tape) = (w.output, w.tape)

def only (cs : Cells) : Get := fun id => if id = 0 then some cs else none

def ObjOK (P : Program) (f : FuncId) (g : Cells → List V → Option (V × Cells)) : Prop :=
  ∀ (J : Im) (μ : Mu) (cs : Cells) (rest : List V) (gs : Array Value) (w : World) (v : V) (cs' : Cells), Inv (only cs) J μ w → (∀ i, 1 ≤ i → μ i = none) → (∀ v ∈ cs, noRefB v = true) → Rvs J μ (.mp 0 0 :: rest) gs → rest.all noRefV = true → g cs rest = some (v, cs') →
    Calls P f gs w fun e w' => ∃ gv J' μ', e = .returned gv ∧ Rv J' noMu v gv ∧ Inv (only cs') J' μ' w' ∧ Ext (only cs) J μ w (only cs') J' μ' w' ∧ (∀ v ∈ cs', noRefB v = true)

def SummOK (P : Program) (f : FuncId) (s : Summ) : Prop :=
  match s.base with
  | .prim g => PrimOK P f g
  | .pure g => PureOK P f g ∧ Bodied P f
  | .obj g => ObjOK P f g ∧ Bodied P f
  | _ => True

def SOK (E : Env) : Prop := ∀ f s, E.S f = some s → SummOK E.P f s

theorem run_enter {P : Program} {f : FuncId} (h : Bodied P f) (gs : Array Value) (w : World) : (callFunc f gs).run P w = .ok (.enter f gs) w := by
  obtain ⟨fn, h1, h2, h3⟩ := h
  have h2' : fn.name ≠ "runtime.NumGoroutine" := by simpa using h2
  simp [callFunc, h1, h2']
  intro hb
  rw [hb] at h3
  cases h3

/-- What a call that is told of does, whatever is behind it. -/
def CallRes (P : Program) (r : Result Next) (Φ : Value → World → Prop) : Prop :=
  (∃ g w', r = .ok (.value g) w' ∧ Φ g w') ∨ (∃ f args w', r = .ok (.enter f args) w' ∧ Calls P f args w' fun e w'' => ∃ g, e = .returned g ∧ Φ g w'')

section
variable {get : Get} {J : Im} {μ : Mu} {w : World}

theorem callS_sound {P : Program} {f : FuncId} {s : Summ} {fl : List Nat} {args : List V} {gs : Array Value} {nid : Nat} {r : V × Ups × Nat} (hS : SummOK P f s) (hI : Inv get J μ w) (hfl : FlatInv fl get) (hr : Rvs J μ args gs)
    (h : callS get fl s args = some r) : CallRes P ((callFunc f gs).run P w) fun g w' => Good get J μ w nid r g w' ∧ FlatInv (flatUps fl (anyUps r.2.1) r.2.1) (upd r.2.1 get) := by
  have flat0 : ∀ v : V, FlatInv (flatUps fl (anyUps (v, ([] : Ups), 0).2.1) (v, ([] : Ups), 0).2.1) (upd (v, ([] : Ups), 0).2.1 get) := fun v => by
    simpa [flatUps, upd_nil] using hfl
  unfold callS at h
  unfold SummOK at hS
  generalize s.base = b at h hS
  split at h
  · rename_i g
    split at h
    · rename_i v hv
      cases h
      obtain ⟨gv, w', h1, h2, h3⟩ := hS J μ args gs w v hr hv
      exact .inl ⟨gv, w', h1, Good.same hI h3 h2, flat0 v⟩
    · cases h
  · rename_i g
    obtain ⟨hP, hB⟩ := hS
    refine .inr ⟨f, gs, w, run_enter hB gs w, ?_⟩
    cases ha : args.all noRefV
    · rw [ha] at h
      simp only [cond_false] at h
      split at h
      · rename_i v hv
        cases hp : plainT v
        · rw [hp] at h; cases h
        · rw [hp] at h
          cases h
          have hr' : Rvs (liveIm get J μ w) noMu (args.map (deepV get fl)) gs := by
            refine ⟨by simpa using hr.1, fun j v g hv hg => ?_⟩
            rw [List.getElem?_map] at hv
            cases hu : args[j]? with
            | none => rw [hu] at hv; cases hv
            | some u =>
              rw [hu] at hv
              simp only [Option.map_some, Option.some.injEq] at hv
              subst hv
              exact deepV_sound fl hI hfl (hr.2 j u g hu hg)
          refine (hP _ _ gs w v (live_ok hI) hr' hv).mono fun e w' ⟨gv, J', e1, e2, e3, e4, e5, e6, e7, e8, e9⟩ => ⟨gv, e1, ?_, flat0 v⟩
          refine ⟨J, μ, plainT_any e2 hp, ?_, ?_, fun _ _ => rfl⟩
          · rw [upd_nil]
            refine ⟨fun b c hj => by rw [e7 b (hI.im_lt hj)]; exact hI.im b c hj, fun id cs hg => ?_, hI.sep⟩
            obtain ⟨l, gc, elem, k1, k2, k3, k4⟩ := hI.ob id cs hg
            exact ⟨l, gc, elem, k1, k2, by rw [e7 _ (hI.lt hg k1)]; exact k3, k4⟩
          · rw [upd_nil]
            exact ⟨e6, Mu.le_refl _, Im.le_refl _, fun _ _ h h' => (by rw [h] at h'; cases h'), fun b hb _ => e7 b hb, fun b hb => Or.inl hb, e8, e9⟩
      · cases h
    · rw [ha] at h
      simp only [cond_true] at h
      split at h
      · rename_i v hv
        cases h
        have hr' : Rvs J noMu args gs := ⟨hr.1, fun j v g hv hg => noRefV_any (hr.2 j v g hv hg) (List.all_eq_true.1 ha v (List.mem_of_getElem? hv))⟩
        refine (hP _ _ gs w v hI.im hr' hv).mono fun e w' ⟨gv, J', e1, e2, e3, e4, e5, e6, e7, e8, e9⟩ => ⟨gv, e1, ?_, flat0 v⟩
        refine ⟨J', μ, e2.mono (Im.le_refl _) (noMu_le _), ?_, ?_, fun _ _ => rfl⟩
        · rw [upd_nil]
          refine ⟨e3, fun id cs hg => ?_, hI.sep⟩
          obtain ⟨l, gc, elem, k1, k2, k3, k4, k5, k6, k7⟩ := hI.ob id cs hg
          refine ⟨l, gc, elem, k1, ?_, by rw [e7 _ (hI.lt hg k1)]; exact k3, k4, k5, k6, fun j v hv => ?_⟩
          · cases hj : J' l.blk with
            | none => rfl
            | some c =>
              have := e5 _ _ hj k2
              have := hI.lt hg k1
              omega
          · obtain ⟨g, q1, q2⟩ := k7 j v hv
            exact ⟨g, q1, q2.mono e4 (Mu.le_refl _)⟩
        · rw [upd_nil]
          exact ⟨e6, Mu.le_refl _, e4, e5, fun b hb _ => e7 b hb, fun b hb => Or.inl hb, e8, e9⟩
      · cases h
  · rename_i g
    obtain ⟨hO, hB⟩ := hS
    refine .inr ⟨f, gs, w, run_enter hB gs w, ?_⟩
    split at h
    · rename_i id rest
      cases hb : (memB id fl && rest.all noRefV)
      · rw [hb] at h; cases h
      · rw [hb] at h
        simp only [cond_true] at h
        rw [Bool.and_eq_true] at hb
        split at h
        · rename_i cs hg
          split at h
          · rename_i v cs' hv
            cases h
            obtain ⟨l, gc, elem, k1, k2, k3, k4, k5, k6, k7⟩ := hI.ob id cs hg
            have hflat := hfl id hb.1 cs hg
            -- the one object, by the number 0
            let μ0 : Mu := fun i => if i = 0 then some l else none
            have hI0 : Inv (only cs) J μ0 w := by
              refine ⟨hI.im, fun i ds hi => ?_, fun i i' m m' h1 h2 h3 h4 h5 => ?_⟩
              · unfold only at hi
                split at hi
                · rename_i e
                  subst e
                  cases hi
                  refine ⟨l, gc, elem, by simp [μ0], k2, k3, k4, k5, k6, fun j u hu => ?_⟩
                  obtain ⟨q, q1, q2⟩ := k7 j u hu
                  exact ⟨q, q1, noRef_any q2 (hflat u (List.mem_of_getElem? hu))⟩
                · cases hi
              · have a1 : i = 0 := by
                  rcases Nat.eq_zero_or_pos i with e | e
                  · exact e
                  · exact absurd (by simp [only]; omega) h1
                have a2 : i' = 0 := by
                  rcases Nat.eq_zero_or_pos i' with e | e
                  · exact e
                  · exact absurd (by simp [only]; omega) h2
                rw [a1, a2]
            have hr0 : Rvs J μ0 (.mp 0 0 :: rest) gs := by
              refine ⟨by simpa using hr.1, fun j u q hu hq => ?_⟩
              cases j with
              | zero =>
                simp at hu
                subst hu
                have := hr.2 0 _ q rfl hq
                cases this with
                | mp hl =>
                  rename_i l'
                  rw [k1] at hl
                  cases hl
                  exact .mp (by simp [μ0])
              | succ j => exact noRefV_any (hr.2 (j + 1) u q (by simpa using hu) hq) (List.all_eq_true.1 hb.2 u (List.mem_of_getElem? (by simpa using hu)))
            refine (hO J μ0 cs rest gs w v cs' hI0 (fun i hi => by simp [μ0]; omega) hflat hr0 hb.2 hv).mono fun e w' ⟨gv, J', μ', e1, e2, e3, e4, e5⟩ => ⟨gv, e1, ?_, ?_⟩
            · obtain ⟨l', gc', elem', q1, q2, q3, q4, q5, q6, q7⟩ := e3.ob 0 cs' (by simp [only])
              have hl' : l' = l := by
                have := e4.mu 0 l (by simp [μ0])
                rw [q1] at this
                cases this
                rfl
              subst hl'
              have hown : ∀ b, Own (only cs) μ0 b → b = l'.blk := by
                rintro b ⟨i, m, h1, h2, h3⟩
                have a1 : i = 0 := by
                  rcases Nat.eq_zero_or_pos i with e | e
                  · exact e
                  · exact absurd (by simp [only]; omega) h1
                subst a1
                simp [μ0] at h2
                rw [← h3, h2]
              have hfr : ∀ b, b < w.heap.size → b ≠ l'.blk → w'.heap[b]? = w.heap[b]? := fun b hb hne => e4.frame b hb fun ho => hne (hown b ho)
              refine ⟨J', μ, e2.mono (Im.le_refl _) (noMu_le _), ⟨e3.im, fun i ds hi => ?_, fun i i' m m' h1 h2 h3 h4 h5 => ?_⟩, ⟨e4.size, Mu.le_refl _, e4.im, e4.imNew, fun b hb hno => hfr b hb fun e => hno ⟨id, l', by rw [hg]; simp, k1, e.symm⟩, fun b ho => ?_, e4.os, e4.out⟩, fun _ _ => rfl⟩
              · rw [upd_cons, upd_nil] at hi
                split at hi
                · rename_i e
                  subst e
                  cases hi
                  refine ⟨l', gc', elem', k1, q2, q3, q4, q5, q6, fun j u hu => ?_⟩
                  obtain ⟨p, p1, p2⟩ := q7 j u hu
                  exact ⟨p, p1, noRef_any p2 (e5 u (List.mem_of_getElem? hu))⟩
                · rename_i hne
                  obtain ⟨m, gc1, el1, p1, p2, p3, p4, p5, p6, p7⟩ := hI.ob i ds hi
                  have hmb : m.blk ≠ l'.blk := fun e' => hne (hI.sep id i l' m (by rw [hg]; simp) (by rw [hi]; simp) k1 p1 e'.symm)
                  have hlt := hI.lt hi p1
                  refine ⟨m, gc1, el1, p1, ?_, by rw [hfr _ hlt hmb]; exact p3, p4, p5, p6, fun j u hu => ?_⟩
                  · cases hj : J' m.blk with
                    | none => rfl
                    | some c => have := e4.imNew _ _ hj p2; omega
                  · obtain ⟨p, s1, s2⟩ := p7 j u hu
                    exact ⟨p, s1, s2.mono e4.im (Mu.le_refl _)⟩
              · have live : ∀ i, upd [(id, some cs')] get i ≠ none → get i ≠ none := by
                  intro i hi
                  rw [upd_cons, upd_nil] at hi
                  split at hi
                  · rename_i e; subst e; rw [hg]; simp
                  · exact hi
                exact hI.sep i i' m m' (live i h1) (live i' h2) h3 h4 h5
              · obtain ⟨i, m, h1, h2, h3⟩ := ho
                refine .inl ⟨i, m, ?_, h2, h3⟩
                rw [upd_cons, upd_nil] at h1
                split at h1
                · rename_i e; subst e; rw [hg]; simp
                · exact h1
            · intro i hi ds hds
              simp only [flatUps, anyUps, hb.1, cond_true] at hi
              rw [upd_cons, upd_nil] at hds
              split at hds
              · cases hds; exact e5
              · exact hfl i hi ds hds
          · cases h
        · cases h
    · cases h
  · cases h
end
end Go.Ev

/-
  One operation of a region.
-/
namespace Go.Ev

/-- What an operation comes to. -/
def ExecRes (P : Program) (r : Result Next) (Φ : Value → World → Prop) : Prop :=
  (∃ g w', r = .ok (.value g) w' ∧ Φ g w') ∨ (∃ w', r = .ok .skip w' ∧ Φ undef w') ∨ (∃ f args w', r = .ok (.enter f args) w' ∧ Calls P f args w' fun e w'' => ∃ g, e = .returned g ∧ Φ g w'')

theorem wp_of_res {P : Program} {o : Oper} {a : Act} {w : World} {next : Act → World → Prop} {Q : Exit → Act → World → Prop} {Φ : Value → World → Prop} (h : ExecRes P ((execOp a.eval o).run P w) Φ)
    (hn : ∀ g w', Φ g w' → next (a.put o.dst g) w') : o.wp P a w next Q := by
  unfold Oper.wp
  rcases h with ⟨g, w', h, hp⟩ | ⟨w', h, hp⟩ | ⟨f, args, w', h, hc⟩
  · rw [h]; exact hn g w' hp
  · rw [h]; exact hn undef w' hp
  · rw [h]
    exact hc.mono fun e w'' ⟨g, he, hp⟩ => by subst he; exact hn g w'' hp

section
variable {P : Program} {get : Get} {J : Im} {μ : Mu} {w : World} {ev : Operand → V} {ρ : Operand → Value}

theorem rvs_map (hev : ∀ x, Rv J μ (ev x) (ρ x)) (xs : Array Operand) : Rvs J μ (xs.toList.map ev) (xs.map ρ) := by
  refine ⟨by simp, fun j v g hv hg => ?_⟩
  rw [List.getElem?_map, Array.getElem?_toList] at hv
  rw [Array.getElem?_map] at hg
  cases hx : xs[j]? with
  | none => rw [hx] at hv; cases hv
  | some x =>
    rw [hx] at hv hg
    simp only [Option.map_some, Option.some.injEq] at hv hg
    subst hv; subst hg
    exact hev x

theorem rvs_append {a b : List V} {x y : Array Value} (h : Rvs J μ a x) (h' : Rvs J μ b y) : Rvs J μ (a ++ b) (x ++ y) := by
  refine ⟨by simp [h.1, h'.1], fun j v g hv hg => ?_⟩
  rw [List.getElem?_append] at hv
  rw [Array.getElem?_append, h.1] at hg
  split at hv
  · rename_i hj
    rw [if_pos hj] at hg
    exact h.2 j v g hv hg
  · rename_i hj
    rw [if_neg hj] at hg
    exact h'.2 _ v g hv hg

theorem parts_rel (hev : ∀ x, Rv J μ (ev x) (ρ x)) (ps : Array (Nat × Operand)) : (partsE ev ps.toList).length = (ps.map fun (i, x) => (i, ρ x)).size ∧
    ∀ (j : Nat) p q, (partsE ev ps.toList)[j]? = some p → (ps.map fun (i, x) => (i, ρ x))[j]? = some q → p.1 = q.1 ∧ Rv J μ p.2 q.2 := by
  refine ⟨by simp [partsE], fun j p q hp hq => ?_⟩
  unfold partsE at hp
  rw [List.getElem?_map, Array.getElem?_toList] at hp
  rw [Array.getElem?_map] at hq
  cases hx : ps[j]? with
  | none => rw [hx] at hp; cases hp
  | some x =>
    rw [hx] at hp hq
    simp only [Option.map_some, Option.some.injEq] at hp hq
    subst hp; subst hq
    exact ⟨rfl, hev x.2⟩

theorem opt_rel (hev : ∀ x, Rv J μ (ev x) (ρ x)) (o : Option Operand) : RvO J μ (optE ev o) (o.map ρ) := by
  cases o with
  | none => trivial
  | some x => exact hev x

theorem eqGuard_run {op : BinOp} {t : TypeId} {x y : Operand} {vx vy v : V} {gx gy : Value} (h : binB P op t vx vy = some v) (hx : Rv J μ vx gx) (hy : Rv J μ vy gy) (w : World) : (eqGuard op t x y gx gy).run P w = .ok () w := by
  unfold binB binE at h
  split at h <;> (try split at h) <;> first
    | (cases h; done)
    | (cases hx; cases hy; simp [eqGuard]; done)
    | (cases hx; cases hy; rename_i op _ _ _ _ _ _ _; cases op <;> simp [eqGuard]; done)
    | (cases hx; cases hy; cases op <;> simp [eqGuard])

theorem opE_sound {E : Env} {a : Act} {fl : List Nat} {nid : Nat} {o : Oper} {res : V × Ups × Nat} (hS : SOK E) (hI : Inv get J μ w) (hfl : FlatInv fl get) (hev : ∀ x, Rv J μ (ev x) (a.eval x))
    (h : opE E get fl nid ev o = some res) (hf : ∀ i, nid ≤ i → i < nid + res.2.2 → μ i = none) :
    ExecRes E.P ((execOp a.eval o).run E.P w) fun g w' => Good get J μ w nid res g w' ∧ ((∃ c f, o.op = .call c ∧ c.callee = .value f) → FlatInv (flatUps fl (anyUps res.2.1) res.2.1) (upd res.2.1 get)) := by
  have nov : (∀ c f, o.op = .call c → c.callee ≠ .value f) → ∀ {r : Result Next}, ExecRes E.P r (fun g w' => Good get J μ w nid res g w') →
      ExecRes E.P r fun g w' => Good get J μ w nid res g w' ∧ ((∃ c f, o.op = .call c ∧ c.callee = .value f) → FlatInv (flatUps fl (anyUps res.2.1) res.2.1) (upd res.2.1 get)) := by
    intro hn r hr
    have hx : (∃ c f, o.op = .call c ∧ c.callee = .value f) → FlatInv (flatUps fl (anyUps res.2.1) res.2.1) (upd res.2.1 get) := fun ⟨c, f, h1, h2⟩ => absurd h2 (hn c f h1)
    rcases hr with ⟨g, w', h1, h2⟩ | ⟨w', h1, h2⟩ | ⟨f, args, w', h1, h2⟩
    · exact .inl ⟨g, w', h1, h2, hx⟩
    · exact .inr (.inl ⟨w', h1, h2, hx⟩)
    · exact .inr (.inr ⟨f, args, w', h1, h2.mono fun e w'' ⟨g, q1, q2⟩ => ⟨g, q1, q2, hx⟩⟩)
  have val : ∀ {s : Sem Value} {v : V}, (∃ g w', s.run E.P w = .ok g w' ∧ w'.hoo = w.hoo ∧ Rv J μ v g) → ExecRes E.P ((do pure (.value (← s)) : Sem Next).run E.P w) fun g w' => Good get J μ w nid (v, [], 0) g w' := by
    rintro s v ⟨g, w', h1, h2, h3⟩
    exact .inl ⟨g, w', by simp [h1], Good.same hI h3 h2⟩
  have val' : ∀ {s : Sem Value} {v : V}, (∃ g, s.run E.P w = .ok g w ∧ Rv J μ v g) → ExecRes E.P ((do pure (.value (← s)) : Sem Next).run E.P w) fun g w' => Good get J μ w nid (v, [], 0) g w' := by
    rintro s v ⟨g, h1, h3⟩
    exact val ⟨g, w, h1, rfl, h3⟩
  have gd : ∀ {s : Sem Value} {res : V × Ups × Nat}, (∃ g w', s.run E.P w = .ok g w' ∧ Good get J μ w nid res g w') → ExecRes E.P ((do pure (.value (← s)) : Sem Next).run E.P w) fun g w' => Good get J μ w nid res g w' := by
    rintro s res ⟨g, w', h1, h2⟩
    exact .inl ⟨g, w', by simp [h1], h2⟩
  have one' : ∀ {v : Option V}, one v = some res → ∃ u, v = some u ∧ res = (u, [], 0) := by
    intro v hv
    unfold one at hv
    split at hv
    · cases hv; exact ⟨_, rfl, rfl⟩
    · cases hv
  unfold opE at h
  unfold execOp
  split at h <;> (try (cases h; done)) <;> rename_i hop
  all_goals (first | (refine nov ?_ ?_; · (intro c f hc; rw [hop] at hc; cases hc; done)) | skip)
  all_goals rw [hop]
  · cases h; exact .inl ⟨_, w, rfl, Good.same hI (hev _) rfl⟩
  · cases h; exact .inl ⟨_, w, rfl, Good.same hI (hev _) rfl⟩
  · split at h
    · rename_i z hz
      cases h
      exact gd (allocE_sound hI hz (hf nid (Nat.le_refl _) (by dsimp only; omega)))
    · cases h
  · split at h
    · rename_i cs hc
      cases h
      exact gd (boxE_sound hI (hev _) hc (hf nid (Nat.le_refl _) (by dsimp only; omega)))
    · cases h
  · obtain ⟨u, hu, rfl⟩ := one' h
    obtain ⟨p1, p2⟩ := parts_rel hev _
    exact val' (buildE_sound hu p1 p2)
  · obtain ⟨p1, p2⟩ := parts_rel hev _
    exact gd (buildSliceE_sound hI h p1 p2 hf)
  · obtain ⟨u, hu, rfl⟩ := one' h
    exact val' (loadE_sound hI hu (hev _))
  · split at h
    · rename_i ups hu
      cases h
      obtain ⟨w', h1, h2⟩ := storeE_sound (nid := nid) hI hu (hev _) (hev _)
      exact .inr (.inl ⟨w', by simp [h1], h2 undef⟩)
    · cases h
  · rename_i x
    have hx := hev x
    split at h <;> (try (cases h; done)) <;> rename_i hxe <;> rw [hxe] at hx <;> cases h
    all_goals
      refine .inl ⟨a.eval x, w, ?_, Good.same hI hx rfl⟩
      dsimp only
      generalize a.eval x = gx at hx ⊢
      cases hx
      rfl
  · rename_i op t x y t'
    obtain ⟨u, hu, rfl⟩ := one' h
    obtain ⟨g, w', h1, h2, h3⟩ := binB_sound (P := E.P) (w := w) (t := t) hu (hev x) (hev y)
    refine val ⟨g, w', ?_, h2, h3⟩
    simp only [Sem.run_bind, eqGuard_run hu (hev x) (hev y) w, Result.andThen_ok, h1]
  · obtain ⟨u, hu, rfl⟩ := one' h
    exact val' (unE_sound hu (hev _))
  · obtain ⟨u, hu, rfl⟩ := one' h
    exact val (convE_sound hI hu (hev _))
  · rename_i f first cap
    cases h
    refine val' ⟨.func (.func f) (first.map a.eval) (cap.map a.eval), rfl, ?_⟩
    have h1 := rvs_map hev first
    have h2 := rvs_map hev cap
    exact .fn h1.1 h2.1 h1.2 h2.2
  · obtain ⟨u, hu, rfl⟩ := one' h
    exact val' (sliceE_sound hu (hev _) (opt_rel hev _) (opt_rel hev _) (opt_rel hev _))
  · obtain ⟨u, hu, rfl⟩ := one' h
    exact val' (fieldAddrE_sound hu (hev _))
  · obtain ⟨u, hu, rfl⟩ := one' h
    exact val' (indexAddrE_sound hu (hev _) (hev _))
  · obtain ⟨u, hu, rfl⟩ := one' h
    exact val' (indexE_sound hu (hev _) (hev _))
  · rename_i x i
    split at h
    · rename_i vs hvs
      obtain ⟨u, hu, rfl⟩ := one' h
      have hx := hev x
      rw [hvs] at hx
      dsimp only
      generalize a.eval x = gx at hx ⊢
      cases hx with
      | tup hs hp =>
        rw [getAt_eq] at hu
        obtain ⟨g, hg⟩ := some_of_size hs (lt_of_some hu)
        exact val' ⟨g, by simp [Instr.extract, hg], hp _ _ _ hu hg⟩
    · cases h
  · rename_i c
    split at h
    · rename_i b hb
      rw [← hop]
      refine nov (fun c' f hc => by rw [hop] at hc; cases hc; rw [hb]; intro hh; cases hh) ?_
      rw [hop]
      have hr := rvs_map hev c.args
      obtain ⟨g, w', h1, h2⟩ := builtinE_sound (P := E.P) (ty := o.type) (consts := c.args.map fun | .const _ => true | _ => false) hI h hr hf
      refine .inl ⟨g, w', ?_, h2⟩
      rw [Array.toArray_toList] at h1
      simp only [Sem.run_bind, resolve, hb, Sem.run_pure, Result.andThen_ok, invoke]
      exact h1
    · rename_i f hcal
      have hF := hev f
      split at h
      · rename_i fid first cap hfe
        rw [hfe] at hF
        generalize hgf : a.eval f = gf at hF
        cases hF with
        | fn k1 k2 k3 k4 =>
          rename_i g1 g2
          split at h
          · rename_i s hs
            have hr : Rvs J μ (first ++ c.args.toList.map (ev) ++ cap) (g1 ++ c.args.map a.eval ++ g2) := rvs_append (rvs_append ⟨k1, k3⟩ (rvs_map hev c.args)) ⟨k2, k4⟩
            have hc := callS_sound (nid := nid) (hS fid s hs) hI hfl hr h
            have hrun : (do let d ← resolve a.eval c o.type; invoke d.target d.args : Sem Next).run E.P w = (callFunc fid (g1 ++ c.args.map a.eval ++ g2)).run E.P w := by
              simp only [Sem.run_bind, resolve, hcal, hgf, Deferred.ofValue, Sem.run_pure, Result.andThen_ok, invoke]
            rw [hrun]
            rcases hc with ⟨g, w', h1, h2, h3⟩ | ⟨f', args, w', h1, h2⟩
            · exact .inl ⟨g, w', h1, h2, fun _ => h3⟩
            · exact .inr (.inr ⟨f', args, w', h1, h2.mono fun e w'' ⟨g, q1, q2, q3⟩ => ⟨g, q1, q2, fun _ => q3⟩⟩)
          · cases h
      · cases h
    · cases h
end
end Go.Ev

/-
  Flat objects stay flat; a region in the text's order.
-/
namespace Go.Ev

theorem memB_cons (n k : Nat) (l : List Nat) : memB n (k :: l) = true ↔ k = n ∨ memB n l = true := by
  simp only [memB]
  cases h : Nat.beq k n
  · simp only [cond_false]
    refine ⟨.inr, fun h' => h'.resolve_left fun e => ?_⟩
    subst e; simp at h
  · simp only [cond_true, true_iff]
    exact .inl (Nat.eq_of_beq_eq_true h)

theorem memB_iff (n : Nat) (l : List Nat) : memB n l = true ↔ n ∈ l := by
  induction l with
  | nil => simp [memB]
  | cons k l ih => rw [memB_cons, ih, List.mem_cons]; exact ⟨fun h => h.imp Eq.symm id, fun h => h.imp Eq.symm id⟩

theorem memB_filter (n k : Nat) (l : List Nat) : memB n (l.filter fun j => !Nat.beq j k) = true ↔ memB n l = true ∧ n ≠ k := by
  rw [memB_iff, memB_iff, List.mem_filter]
  have : (!Nat.beq n k) = true ↔ n ≠ k := by
    cases h : Nat.beq n k
    · simp only [Bool.not_false, true_iff]; exact fun e => by subst e; simp at h
    · simp only [Bool.not_true, Bool.false_eq_true, false_iff]; exact fun h' => h' (Nat.eq_of_beq_eq_true h)
  rw [this]

theorem flat_cons {fl : List Nat} {flag : Bool} {id : Nat} {cs : Cells} {rest : Ups} {get : Get} (h : FlatInv fl (upd rest get)) (hc : flag = true → ∀ v ∈ cs, noRefB v = true) :
    FlatInv (flatUps fl flag ((id, some cs) :: rest)) (upd ((id, some cs) :: rest) get) := by
  intro i hi ds hds
  rw [upd_cons] at hds
  cases flag
  · simp only [flatUps, cond_false] at hi
    obtain ⟨h1, h2⟩ := (memB_filter _ _ _).1 hi
    rw [if_neg (fun e => h2 e.symm)] at hds
    exact h i h1 ds hds
  · by_cases e : id = i
    · rw [if_pos e] at hds
      cases hds
      exact hc rfl
    · rw [if_neg e] at hds
      refine h i ?_ ds hds
      simp only [flatUps, cond_true] at hi
      cases hm : memB id fl
      · rw [hm] at hi
        exact ((memB_cons _ _ _).1 hi).resolve_left e
      · rw [hm] at hi; exact hi

theorem flat_kill {fl : List Nat} {id : Nat} {get : Get} (h : FlatInv fl get) : FlatInv fl (upd [(id, none)] get) := by
  intro i hi ds hds
  rw [upd_cons, upd_nil] at hds
  split at hds
  · cases hds
  · exact h i hi ds hds

theorem setCells_mem (cs : Cells) (off : Nat) (vs : Cells) (v : V) (h : v ∈ setCells cs off vs) : v ∈ cs ∨ v ∈ vs := by
  have ho : ∀ (cs vs : Cells) (v : V), v ∈ over cs vs → v ∈ cs ∨ v ∈ vs := by
    intro cs
    induction cs with
    | nil => intro vs v h; cases vs <;> simp [over] at h
    | cons c cs ih =>
      intro vs v h
      cases vs with
      | nil => simp [over] at h; exact .inl (by simpa using h)
      | cons u vs =>
        simp only [over, List.mem_cons] at h
        rcases h with rfl | h
        · exact .inr List.mem_cons_self
        · rcases ih vs v h with h | h
          · exact .inl (List.mem_cons_of_mem _ h)
          · exact .inr (List.mem_cons_of_mem _ h)
  induction cs generalizing off with
  | nil => cases off <;> exact ho _ _ _ (by simpa [setCells] using h)
  | cons c cs ih =>
    cases off with
    | zero => exact ho _ _ _ (by simpa [setCells] using h)
    | succ n =>
      simp only [setCells, List.mem_cons] at h
      rcases h with rfl | h
      · exact .inl List.mem_cons_self
      · rcases ih n h with h | h
        · exact .inl (List.mem_cons_of_mem _ h)
        · exact .inr h

theorem noRef_cells {v : V} {cs : Cells} (h : cellsOf v = some cs) (hn : noRefV v = true) : ∀ u ∈ cs, noRefB u = true := by
  cases v with
  | agg ds => simp only [cellsOf, Option.some.injEq] at h; subst h; exact List.all_eq_true.1 hn
  | tup _ => simp [cellsOf] at h
  | und => simp [cellsOf] at h
  | _ => simp only [cellsOf, Option.some.injEq] at h; subst h; intro u hu; simp at hu; subst hu; exact hn

section
variable {get : Get} {J : Im} {μ : Mu} {w : World} {ev : Operand → V} {ρ : Operand → Value}

theorem append_flat {E : Env} {fl : List Nat} {nid : Nat} {t : TypeId} {d x : V} {gx : Value} {res : V × Ups × Nat} (hfl : FlatInv fl get) (h : appendE E.P get nid t d x = some res) (hx : Rv J μ x gx) (flag : Bool)
    (hd : flag = true → d = .nil ∨ ∃ id off len sz, d = .ms id off len sz ∧ memB id fl = true) (hxf : flag = true → x = .nil ∨ (∃ sz es, x = .sl sz es) ∨ ∃ id off len sz, x = .ms id off len sz ∧ memB id fl = true) :
    FlatInv (flatUps fl flag res.2.1) (upd res.2.1 get) := by
  -- the cells of what is appended
  have src : ∀ (n m : Nat) (cs : Cells), srcE get x n = some (cs, m) → flag = true → ∀ v ∈ cs, noRefB v = true := by
    intro n m cs hs hflag v hv
    rcases hxf hflag with rfl | ⟨sz, es, rfl⟩ | ⟨id, off, len, sz, rfl, hm⟩
    · simp only [srcE, Option.some.injEq, Prod.mk.injEq] at hs
      rw [← hs.1] at hv
      cases hv
    · simp only [srcE] at hs
      cases hb : Nat.beq sz n
      · rw [hb] at hs; cases hs
      · rw [hb] at hs
        simp only [cond_true, Option.some.injEq, Prod.mk.injEq] at hs
        rw [← hs.1, List.mem_flatten] at hv
        obtain ⟨e, he, hve⟩ := hv
        cases hx with
        | sl0 => cases he
        | sl _ _ _ _ _ h3 =>
          obtain ⟨i, hi⟩ := List.getElem?_of_mem he
          obtain ⟨j, hj⟩ := List.getElem?_of_mem hve
          exact (h3 i j e v hi hj).2
    · simp only [srcE] at hs
      cases hg : get id with
      | none => rw [hg] at hs; cases hs
      | some ds =>
        rw [hg] at hs
        simp only at hs
        cases hb : (Nat.beq sz n && Nat.ble (off + len * sz) ds.length)
        · rw [hb] at hs; cases hs
        · rw [hb] at hs
          simp only [cond_true, Option.some.injEq, Prod.mk.injEq] at hs
          rw [← hs.1] at hv
          exact hfl id hm ds hg v (List.mem_of_mem_drop (List.mem_of_mem_take hv))
  unfold appendE at h
  split at h
  · split at h
    · rename_i i z _ _
      cases hb : (Nat.ble i.bytes 256 && Nat.beq z.length i.size)
      · rw [hb] at h; cases h
      · rw [hb] at h
        simp only [cond_true] at h
        split at h
        · rename_i cs n hsrc
          cases d with
          | nil =>
            simp only at h
            cases n with
            | zero => simp only at h; cases h; simpa [flatUps, upd_nil] using hfl
            | succ m =>
              simp only at h
              cases hle : Nat.ble (m + 1) most
              · rw [hle] at h; cases h
              · rw [hle] at h
                cases h
                exact flat_cons (by simpa [upd_nil] using hfl) fun hf => src _ _ cs hsrc hf
          | ms id off len sz =>
            simp only at h
            split at h
            · rename_i ds hg
              cases hbb : (Nat.beq sz i.size && Nat.ble (off + len * sz) ds.length && Nat.ble (len + n) most)
              · rw [hbb] at h; cases h
              · rw [hbb] at h
                cases h
                refine flat_cons (flat_kill hfl) fun hf v hv => ?_
                rcases List.mem_append.1 hv with hv | hv
                · rcases hd hf with hd' | ⟨id', _, _, _, hd', hm⟩
                  · cases hd'
                  · cases hd'
                    exact hfl id hm ds hg v (List.mem_of_mem_drop (List.mem_of_mem_take hv))
                · exact src _ _ cs hsrc hf v hv
            · cases h
          | _ => cases h
        · cases h
    · cases h
  · cases h

theorem flag_sound {E : Env} {fl : List Nat} {nid : Nat} {o : Oper} {res : V × Ups × Nat} (hfl : FlatInv fl get) (hev : ∀ x, Rv J μ (ev x) (ρ x)) (h : opE E get fl nid ev o = some res)
    (hnc : ∀ c f, o.op = .call c → c.callee ≠ .value f) : FlatInv (flatUps fl (flagE fl ev o res.2.1) res.2.1) (upd res.2.1 get) := by
  have nil : ∀ (v : V) (b : Bool), FlatInv (flatUps fl b (v, ([] : Ups), 0).2.1) (upd (v, ([] : Ups), 0).2.1 get) := fun v b => by simpa [flatUps, upd_nil] using hfl
  have nil' : res.2.1 = [] → FlatInv (flatUps fl (flagE fl ev o res.2.1) res.2.1) (upd res.2.1 get) := by
    intro e
    rw [e]
    simpa [flatUps, upd_nil] using hfl
  have one' : ∀ {v : Option V}, one v = some res → res.2.1 = [] := by
    intro v hv
    unfold one at hv
    split at hv
    · cases hv; rfl
    · cases hv
  unfold opE at h
  split at h <;> (try (cases h; done)) <;> rename_i hop
  · cases h; exact nil _ _
  · cases h; exact nil _ _
  · split at h
    · rename_i z hz
      cases h
      refine flat_cons (by simpa [upd_nil] using hfl) fun hf => ?_
      simp only [flagE, hop] at hf
      exact List.all_eq_true.1 hf
    · cases h
  · split at h
    · rename_i cs hc
      cases h
      refine flat_cons (by simpa [upd_nil] using hfl) fun hf => ?_
      simp only [flagE, hop] at hf
      exact List.all_eq_true.1 hf
    · cases h
  · exact nil' (one' h)
  · rename_i t len ps
    unfold buildSliceE at h
    split at h
    · split at h
      · rename_i i z _ _
        cases hb : (Nat.beq z.length i.size && Nat.ble (len * i.size) 16777216)
        · rw [hb] at h; cases h
        · rw [hb] at h
          simp only [cond_true] at h
          cases len with
          | zero =>
            simp only at h
            split at h
            · cases h
              refine flat_cons (by simpa [upd_nil] using hfl) fun hf => ?_
              simp only [flagE, hop] at hf
              exact List.all_eq_true.1 hf
            · cases h
          | succ len =>
            simp only at h
            split at h
            · cases h
              refine flat_cons (by simpa [upd_nil] using hfl) fun hf => ?_
              simp only [flagE, hop] at hf
              exact List.all_eq_true.1 hf
            · cases h
      · cases h
    · cases h
  · exact nil' (one' h)
  · rename_i t a x
    split at h
    · rename_i ups hu
      cases h
      unfold storeE at hu
      split at hu
      · rename_i id off ha
        split at hu
        · rename_i cs hg
          split at hu
          · rename_i vs n hc hn
            cases hb : (Nat.beq vs.length n && Nat.ble (off + n) cs.length)
            · rw [hb] at hu; cases hu
            · rw [hb] at hu
              cases hu
              refine flat_cons (by simpa [upd_nil] using hfl) fun hf v hv => ?_
              simp only [flagE, hop, ha, Bool.and_eq_true] at hf
              rcases setCells_mem _ _ _ _ hv with hv | hv
              · exact hfl id hf.1 cs hg v hv
              · exact noRef_cells hc hf.2 v hv
          · cases hu
        · cases hu
      · cases hu
    · cases h
  · split at h <;> (try (cases h; done)) <;> cases h <;> exact nil _ _
  · exact nil' (one' h)
  · exact nil' (one' h)
  · exact nil' (one' h)
  · cases h; exact nil _ _
  · exact nil' (one' h)
  · exact nil' (one' h)
  · exact nil' (one' h)
  · exact nil' (one' h)
  · split at h
    · exact nil' (one' h)
    · cases h
  · rename_i c
    split at h
    · rename_i b hb
      unfold builtinE at h
      split at h
      · split at h
        · split at h
          · cases h; exact nil _ _
          · cases h
        · cases h
      · split at h
        · rename_i t u tl d x tl' _ harg
          split at h
          · have hx : ∃ gx, Rv J μ x gx := by
              have hr := rvs_map hev c.args
              rw [harg] at hr
              obtain ⟨gx, _, h2⟩ := Rvs.at hr (j := 1) (v := x) rfl
              exact ⟨gx, h2⟩
            obtain ⟨gx, hx⟩ := hx
            have hfe : flagE fl ev o res.2.1 = (flagD fl d && flagX fl x) := by
              simp only [flagE, hop, hb, harg]
            refine append_flat hfl h hx _ (fun hf => ?_) (fun hf => ?_)
            · rw [hfe, Bool.and_eq_true] at hf
              have h1 := hf.1
              unfold flagD at h1
              split at h1
              · exact .inl rfl
              · exact .inr ⟨_, _, _, _, rfl, h1⟩
              · cases h1
            · rw [hfe, Bool.and_eq_true] at hf
              have h1 := hf.2
              unfold flagX at h1
              split at h1
              · exact .inl rfl
              · exact .inr (.inl ⟨_, _, rfl⟩)
              · exact .inr (.inr ⟨_, _, _, _, rfl, h1⟩)
              · cases h1
          · cases h
        · cases h
      · split at h
        · split at h
          · cases h; exact nil _ _
          · cases h
        · cases h
      · split at h
        · split at h
          · cases h; exact nil _ _
          · cases h
        · cases h
      · cases h
    · rename_i f hcal
      exact absurd hcal (hnc c f hop)
    · cases h

theorem opE_sound2 {E : Env} {a : Act} {fl : List Nat} {nid : Nat} {o : Oper} {res : V × Ups × Nat} (hS : SOK E) (hI : Inv get J μ w) (hfl : FlatInv fl get) (hev : ∀ x, Rv J μ (ev x) (a.eval x))
    (h : opE E get fl nid ev o = some res) (hf : ∀ i, nid ≤ i → i < nid + res.2.2 → μ i = none) :
    ExecRes E.P ((execOp a.eval o).run E.P w) fun g w' => Good get J μ w nid res g w' ∧ FlatInv (flatUps fl (flagE fl ev o res.2.1) res.2.1) (upd res.2.1 get) := by
  have h1 := opE_sound hS hI hfl hev h hf
  have mono : ∀ {r : Result Next} {Φ Ψ : Value → World → Prop}, ExecRes E.P r Φ → (∀ g w', Φ g w' → Ψ g w') → ExecRes E.P r Ψ := by
    intro r Φ Ψ hr hm
    rcases hr with ⟨g, w', h1, h2⟩ | ⟨w', h1, h2⟩ | ⟨f, args, w', h1, h2⟩
    · exact .inl ⟨g, w', h1, hm _ _ h2⟩
    · exact .inr (.inl ⟨w', h1, hm _ _ h2⟩)
    · exact .inr (.inr ⟨f, args, w', h1, h2.mono fun e w'' ⟨g, q1, q2⟩ => ⟨g, q1, hm _ _ q2⟩⟩)
  refine mono h1 fun g w' ⟨hg, hv⟩ => ⟨hg, ?_⟩
  by_cases hc : ∃ c f, o.op = .call c ∧ c.callee = .value f
  · have := hv hc
    obtain ⟨c, f, e1, e2⟩ := hc
    have : flagE fl ev o res.2.1 = anyUps res.2.1 := by simp only [flagE, e1, e2]
    rw [this]
    assumption
  · exact flag_sound hfl hev h fun c f h1 h2 => hc ⟨c, f, h1, h2⟩
end

/-! Only the operands count -/

theorem map_congr_op {xs : Array Operand} {ev ev' : Operand → V} (h : ∀ x ∈ xs, ev x = ev' x) : xs.toList.map ev = xs.toList.map ev' :=
  List.map_congr_left fun x hx => h x (Array.mem_toList_iff.1 hx)

theorem parts_congr {ps : Array (Nat × Operand)} {ev ev' : Operand → V} (h : ∀ x ∈ ps.map (·.2), ev x = ev' x) : partsE ev ps.toList = partsE ev' ps.toList :=
  List.map_congr_left fun p hp => by rw [h p.2 (Array.mem_map.2 ⟨p, Array.mem_toList_iff.1 hp, rfl⟩)]

theorem opE_congr (E : Env) (get : Get) (fl : List Nat) (nid : Nat) {ev ev' : Operand → V} (o : Oper) (h : ∀ x ∈ o.op.operands, ev x = ev' x) : opE E get fl nid ev o = opE E get fl nid ev' o := by
  obtain ⟨dst, op, type, pos, after, guard⟩ := o
  cases op <;> simp only [Op.operands] at h <;> simp only [opE]
  case build t ps => rw [parts_congr (ev := ev) (ev' := ev') fun x hx => h x (by simpa using hx)]
  case buildSlice t n ps => rw [parts_congr (ev := ev) (ev' := ev') fun x hx => h x (by simpa using hx)]
  case makeFunc fn first captured =>
    have h1 : first.toList.map ev = first.toList.map ev' := map_congr_op fun x hx => h x (by simp [hx])
    have h2 : captured.toList.map ev = captured.toList.map ev' := map_congr_op fun x hx => h x (by simp [hx])
    cases fn <;> simp only [h1, h2]
  case call c =>
    have h1 : c.args.toList.map ev = c.args.toList.map ev' := map_congr_op fun x hx => h x (by simp [Call.operands, hx])
    rw [h1]
    split
    · rfl
    · rename_i f hf
      rw [h f (by simp [Call.operands, hf])]
    · rfl
  case slice t x lo hi mx =>
    have hx := h x (by simp)
    have h1 : optE ev lo = optE ev' lo := by cases lo <;> simp [optE]; exact h _ (by simp)
    have h2 : optE ev hi = optE ev' hi := by cases hi <;> simp [optE]; exact h _ (by simp)
    have h3 : optE ev mx = optE ev' mx := by cases mx <;> simp [optE]; exact h _ (by simp)
    rw [hx, h1, h2, h3]
  all_goals (first | rfl | (simp_all; done))

theorem flagE_congr (fl : List Nat) (ups : Ups) {ev ev' : Operand → V} (o : Oper) (h : ∀ x ∈ o.op.operands, ev x = ev' x) : flagE fl ev o ups = flagE fl ev' o ups := by
  obtain ⟨dst, op, type, pos, after, guard⟩ := o
  cases op <;> simp only [Op.operands] at h <;> simp only [flagE]
  case store t a x => rw [h a (by simp), h x (by simp)]
  case call c =>
    have h1 : c.args.toList.map ev = c.args.toList.map ev' := map_congr_op fun x hx => h x (by simp [Call.operands, hx])
    rw [h1]
/-! Conditions ahead -/

theorem fixL_eq {z v : V} (h : chkL z v = true) : fixL z v = v := by
  unfold chkL at h
  unfold fixL
  split at h
  · cases v <;> simp [isBo] at h; rfl
  · cases v <;> simp [isI] at h
    rw [sameI_eq h]; rfl
  · cases v <;> simp [isFl] at h
    rw [sameF_eq h]; rfl
  · cases v <;> simp [isSt] at h; rfl
  · rfl

theorem fixCs_eq : ∀ (zs : List V) (i : Nat) (cs : List V), chkCs zs i cs = true → fixCs zs i cs = cs.drop i
  | [], i, cs, h => by
    have : cs.length = i := Nat.eq_of_beq_eq_true h
    simp [fixCs, this]
  | z :: zs, i, cs, h => by
    simp only [chkCs, Bool.and_eq_true] at h
    have ih := fixCs_eq zs (i + 1) cs h.2
    have hlt : i < cs.length := by
      have : ∀ (zs : List V) (j : Nat), chkCs zs j cs = true → j ≤ cs.length := by
        intro zs
        induction zs with
        | nil => intro j hj; exact Nat.le_of_eq (Nat.eq_of_beq_eq_true hj).symm
        | cons z zs ih => intro j hj; simp only [chkCs, Bool.and_eq_true] at hj; exact Nat.le_of_succ_le (ih (j + 1) hj.2)
      exact this zs (i + 1) h.2
    rw [fixCs, ih, fixL_eq h.1, List.drop_eq_getElem_cons hlt]
    congr 1
    simp [cellAt, getAt_eq, hlt]

theorem fixV_eq {P : Program} {t : TypeId} {v : V} (h : chkV P t v = true) : fixV P t v = v := by
  unfold chkV at h
  unfold fixV
  split at h
  · split at h
    · rw [Bool.and_eq_true] at h
      have := fixCs_eq _ 0 _ h.2
      cases v with
      | agg cs => rw [this]; rfl
      | _ => simp [isAg] at h
    · rfl
  · split at h
    · exact fixL_eq h
    · rfl
  · rfl

theorem fixTs_eq {P : Program} : ∀ (ts : List TypeId) (i : Nat) (vs : List V), chkTs P ts i vs = true → fixTs P ts i vs = vs.drop i
  | [], i, vs, h => by
    have : vs.length = i := Nat.eq_of_beq_eq_true h
    simp [fixTs, this]
  | t :: ts, i, vs, h => by
    simp only [chkTs, Bool.and_eq_true] at h
    have ih := fixTs_eq ts (i + 1) vs h.2
    have hlt : i < vs.length := by
      have : ∀ (ts : List TypeId) (j : Nat), chkTs P ts j vs = true → j ≤ vs.length := by
        intro ts
        induction ts with
        | nil => intro j hj; exact Nat.le_of_eq (Nat.eq_of_beq_eq_true hj).symm
        | cons z zs ih => intro j hj; simp only [chkTs, Bool.and_eq_true] at hj; exact Nat.le_of_succ_le (ih (j + 1) hj.2)
      exact this ts (i + 1) h.2
    rw [fixTs, ih, fixV_eq h.1, List.drop_eq_getElem_cons hlt]
    congr 1
    simp [cellAt, getAt_eq, hlt]

theorem fixT_eq {P : Program} {t : TypeId} {v : V} (h : chkT P t v = true) : fixT P t v = v := by
  unfold chkT at h
  unfold fixT
  split at h
  · split at h
    · rfl
    · rw [Bool.and_eq_true] at h
      have := fixTs_eq _ 0 _ h.2
      cases v with
      | tup vs => rw [this]; rfl
      | _ => simp [isTu] at h
  · exact fixV_eq h

theorem hoist_eq {P : Program} {t : TypeId} {r : Option V} {c : Bool} {v : V} {ups : Ups} {m : Nat} (h : hoist P t r = some (c, v, ups, m)) (hc : c = true) : r = some v ∧ ups = [] ∧ m = 0 := by
  unfold hoist at h
  simp only [Option.some.injEq, Prod.mk.injEq] at h
  obtain ⟨h1, h2, h3, h4⟩ := h
  rw [hc, Bool.and_eq_true] at h1
  cases r with
  | none => exact absurd h1.1 (by simp)
  | some u =>
    have := fixT_eq h1.2
    rw [this] at h2
    subst h2
    exact ⟨rfl, h3.symm, h4.symm⟩

theorem resH_eq {r : Res} {c : Bool} {v : V} {ups : Ups} {m : Nat} (h : resH r = some (c, v, ups, m)) : r = some (v, ups, m) := by
  unfold resH at h
  split at h
  · cases h; rfl
  · cases h

theorem inB_spec {i : Int} {n : Nat} (h : inB i n = true) : ∃ k, i = Int.ofNat k ∧ k < n := by
  unfold inB at h
  rw [Bool.and_eq_true, decide_eq_true_eq, decide_eq_true_eq] at h
  cases i with
  | ofNat k => exact ⟨k, rfl, Int.ofNat_lt.1 h.2⟩
  | negSucc k => exact absurd h.1 (by omega)

theorem natBelow_inB {i : Int} {n : Nat} (h : inB i n = true) : natBelow i n = some i.toNat := by
  obtain ⟨k, rfl, h2⟩ := inB_spec h
  have : Nat.blt k n = true := by simpa [Nat.blt_eq] using h2
  unfold natBelow
  simp only [this, cond_true]
  rfl

theorem indexAddrH_eq {P : Program} {t : TypeId} {a i : V} {c : Bool} {v : V} {ups : Ups} {m : Nat} (h : indexAddrH P t a i = some (c, v, ups, m)) (hc : c = true) : indexAddrE P t a i = some v ∧ ups = [] ∧ m = 0 := by
  subst hc
  unfold indexAddrH oneH at h
  unfold indexAddrE
  split at h
  · rename_i k i
    split at h
    · rename_i e hu
      simp only [hu]
      split at h
      · rename_i n hn
        simp only [hn]
        split at h
        · rename_i sz es
          simp only [Option.some.injEq, Prod.mk.injEq, Bool.and_eq_true] at h
          obtain ⟨⟨h1', h1⟩, h2, h3, h4⟩ := h
          obtain ⟨k, rfl, g2⟩ := inB_spec h1
          have hk : (Int.ofNat k).toNat = k := rfl
          rw [hk] at h2
          simp only [idx, getAt_eq, List.getElem?_eq_getElem g2, h1', cond_true, Option.getD_some] at h2 ⊢
          exact ⟨by rw [← h2], h3.symm, h4.symm⟩
        · simp only [Option.some.injEq, Prod.mk.injEq, Bool.and_eq_true] at h
          obtain ⟨⟨h1', h1⟩, h2, h3, h4⟩ := h
          simp only [natBelow_inB h1, h1', cond_true]
          exact ⟨by rw [← h2], h3.symm, h4.symm⟩
        · cases h
      · cases h
    · rename_i len e hu
      simp only [hu]
      split at h
      · rename_i n hn
        simp only [hn]
        split at h
        · simp only [Option.some.injEq, Prod.mk.injEq] at h
          obtain ⟨h1, h2, h3, h4⟩ := h
          simp only [natBelow_inB h1]
          exact ⟨by rw [← h2], h3.symm, h4.symm⟩
        · simp only [Option.some.injEq, Prod.mk.injEq] at h
          obtain ⟨h1, h2, h3, h4⟩ := h
          simp only [natBelow_inB h1]
          exact ⟨by rw [← h2], h3.symm, h4.symm⟩
        · cases h
      · cases h
    · cases h
  · cases h

theorem bnd_hi {hi : Option V} {n : Nat} (h : bndC hi n = true) : boundHi hi n = some (bndV hi n) := by
  unfold bndC at h
  split at h
  · rfl
  · rename_i k i
    simp only [boundHi, bound, natBelow_inB h, bndV]
  · cases h

theorem bnd_lo {lo : Option V} {n : Nat} (h : bndC lo n = true) : boundLo lo n = some (bndV lo 0) := by
  unfold bndC at h
  split at h
  · rfl
  · rename_i k i
    simp only [boundLo, bound, natBelow_inB h, bndV]
  · cases h

theorem sliceH_eq {P : Program} {t : TypeId} {a : V} {lo hi mx : Option V} {c : Bool} {v : V} {ups : Ups} {m : Nat} (h : sliceH P t a lo hi mx = some (c, v, ups, m)) (hc : c = true) : sliceE P t a lo hi mx = some v ∧ ups = [] ∧ m = 0 := by
  subst hc
  unfold sliceH oneH at h
  split at h
  · rename_i e sz es hu
    split at h
    · rename_i n hn
      simp only [Option.some.injEq, Prod.mk.injEq, Bool.and_eq_true] at h
      obtain ⟨⟨h1'', h1, h1'⟩, h2, h3, h4⟩ := h
      unfold sliceE
      simp only [hu, hn, bnd_hi h1, bnd_lo h1', h1'', cond_true]
      exact ⟨by rw [← h2], h3.symm, h4.symm⟩
    · cases h
  · split at h
    · rename_i u hu
      cases h
      exact ⟨hu, rfl, rfl⟩
    · cases h

theorem binH_eq {P : Program} {op : BinOp} {t : TypeId} {x y : V} {c : Bool} {v : V} {ups : Ups} {m : Nat} (h : binH P op t x y = some (c, v, ups, m)) (hc : c = true) : binB P op t x y = some v ∧ ups = [] ∧ m = 0 := by
  subst hc
  unfold binH oneH at h
  split at h
  · simp only [Option.some.injEq, Prod.mk.injEq, Bool.and_eq_true, Bool.not_eq_true'] at h
    obtain ⟨⟨h1, h1'⟩, h2, h3, h4⟩ := h
    simp only [binB, binE, h1, cond_true, ibin, h1', cond_false]
    exact ⟨by rw [← h2], h3.symm, h4.symm⟩
  · simp only [Option.some.injEq, Prod.mk.injEq, Bool.and_eq_true, Bool.not_eq_true'] at h
    obtain ⟨⟨h1, h1'⟩, h2, h3, h4⟩ := h
    simp only [binB, binE, h1, cond_true, ibin, h1', cond_false]
    exact ⟨by rw [← h2], h3.symm, h4.symm⟩
  · rename_i k a k' b
    simp only [Option.some.injEq, Prod.mk.injEq, decide_eq_true_eq] at h
    obtain ⟨h1, h2, h3, h4⟩ := h
    cases b with
    | ofNat q => exact ⟨by rw [← h2]; rfl, h3.symm, h4.symm⟩
    | negSucc q => exact absurd h1 (by omega)
  · rename_i k a k' b
    simp only [Option.some.injEq, Prod.mk.injEq, decide_eq_true_eq] at h
    obtain ⟨h1, h2, h3, h4⟩ := h
    cases b with
    | ofNat q => exact ⟨by rw [← h2]; rfl, h3.symm, h4.symm⟩
    | negSucc q => exact absurd h1 (by omega)
  · split at h
    · rename_i u hu
      cases h
      exact ⟨hu, rfl, rfl⟩
    · cases h

theorem convH_eq {P : Program} {get : Get} {s d : TypeId} {x : V} {c : Bool} {v : V} {ups : Ups} {m : Nat} (h : convH P get s d x = some (c, v, ups, m)) (hc : c = true) : convE P get s d x = some v ∧ ups = [] ∧ m = 0 := by
  subst hc
  unfold convH oneH at h
  split at h
  · rename_i hs hd
    simp only [Option.some.injEq, Prod.mk.injEq] at h
    obtain ⟨h1, h2, h3, h4⟩ := h
    unfold convE
    simp only [hs, hd]
    obtain ⟨n, hn⟩ := Option.isSome_iff_exists.1 h1
    rw [hn] at h2 ⊢
    exact ⟨by rw [← h2]; rfl, h3.symm, h4.symm⟩
  · rename_i hs hd
    simp only [Option.some.injEq, Prod.mk.injEq] at h
    obtain ⟨h1, h2, h3, h4⟩ := h
    unfold convE
    simp only [hs, hd]
    obtain ⟨n, hn⟩ := Option.isSome_iff_exists.1 h1
    rw [hn] at h2 ⊢
    exact ⟨by rw [← h2]; rfl, h3.symm, h4.symm⟩
  · split at h
    · rename_i u hu
      cases h
      exact ⟨hu, rfl, rfl⟩
    · cases h

theorem storeH_eq {P : Program} {get : Get} {t : TypeId} {a x : V} {c : Bool} {v : V} {ups : Ups} {m : Nat} (h : storeH P get t a x = some (c, v, ups, m)) (hc : c = true) : storeE P get t a x = some ups ∧ v = .und ∧ m = 0 := by
  subst hc
  unfold storeH at h
  unfold storeE
  split at h
  · split at h
    · rename_i hg
      simp only [hg]
      split at h
      · rename_i vs n hv hn
        simp only [Option.some.injEq, Prod.mk.injEq] at h
        obtain ⟨h1, h2, h3, h4⟩ := h
        simp only [hv, hn, h1, cond_true]
        exact ⟨by rw [← h3], h2.symm, h4.symm⟩
      · cases h
    · cases h
  · cases h

theorem appendH_eq {P : Program} {get : Get} {nid : Nat} {t : TypeId} {d x : V} {c : Bool} {v : V} {ups : Ups} {m : Nat} (h : appendH P get nid t d x = some (c, v, ups, m)) (hc : c = true) : appendE P get nid t d x = some (v, ups, m) := by
  subst hc
  unfold appendH at h
  split at h
  · split at h
    · rename_i e hu
      split at h
      · rename_i i z hi hz
        split at h
        · rename_i ds cs hg hg'
          simp only [Option.some.injEq, Prod.mk.injEq, Bool.and_eq_true] at h
          obtain ⟨⟨⟨⟨h1, h2⟩, h3, h4⟩, ⟨h5, h6⟩, h7⟩, h8, h9, h10⟩ := h
          unfold appendE srcE
          simp only [hu, hi, hz, hg, hg', h1, h2, h3, h4, h5, h6, h7, Bool.and_true, cond_true]
          rw [← h8, ← h9, ← h10]
        · cases h
      · cases h
    · cases h
  · split at h
    · rename_i e hu
      split at h
      · rename_i i z hi hz
        split at h
        · rename_i ds hg
          simp only [Option.some.injEq, Prod.mk.injEq, Bool.and_eq_true] at h
          obtain ⟨⟨⟨⟨h1, h2⟩, h3⟩, ⟨h5, h6⟩, h7⟩, h8, h9, h10⟩ := h
          unfold appendE srcE
          simp only [hu, hi, hz, hg, h1, h2, h3, h5, h6, h7, Bool.and_true, cond_true]
          rw [← h8, ← h9, ← h10]
        · cases h
      · cases h
    · cases h
  · rename_i sz' es
    split at h
    · rename_i e hu
      split at h
      · rename_i i z hi hz
        simp only [Option.some.injEq, Prod.mk.injEq, Bool.and_eq_true] at h
        obtain ⟨⟨⟨h1, h2⟩, h3, h4, h5⟩, h8, h9, h10⟩ := h
        unfold appendE srcE
        simp only [hu, hi, hz, h1, h2, h3, Bool.and_true, cond_true]
        generalize hn : es.length = n at h4 h5 h8
        cases n with
        | zero => simp at h4
        | succ k =>
          simp only [h5, cond_true]
          rw [← h8, ← h9, ← h10]
      · cases h
    · cases h
  · rename_i id' off' len' sz'
    split at h
    · rename_i e hu
      split at h
      · rename_i i z hi hz
        split at h
        · rename_i cs hg
          simp only [Option.some.injEq, Prod.mk.injEq, Bool.and_eq_true] at h
          obtain ⟨⟨⟨⟨h1, h2⟩, h3, h6⟩, h4, h5⟩, h8, h9, h10⟩ := h
          unfold appendE srcE
          simp only [hu, hi, hz, hg, h1, h2, h3, h6, Bool.and_true, cond_true]
          cases len' with
          | zero => simp at h4
          | succ k =>
            simp only [h5, cond_true]
            rw [← h8, ← h9, ← h10]
        · cases h
      · cases h
    · cases h
  · split at h
    · rename_i hr
      cases h
      exact hr
    · cases h

theorem callH_eq {P : Program} {t : TypeId} {get : Get} {fl : List Nat} {s : Summ} {args : List V} {c : Bool} {v : V} {ups : Ups} {m : Nat} (h : callH P t get fl s args = some (c, v, ups, m)) (hc : c = true) : callS get fl s args = some (v, ups, m) := by
  unfold callH at h
  split at h
  · obtain ⟨h1, rfl, rfl⟩ := hoist_eq h hc
    simp only [callS, Summ.base, h1]
  · unfold callS
    simp only [Summ.base]
    cases ha : args.all noRefV
    · rw [ha] at h
      simp only [cond_false] at h ⊢
      split at h
      · rename_i c' v' ups' m' hh
        cases hp : plainT v'
        · rw [hp] at h; cases h
        · rw [hp] at h
          simp only [cond_true, Option.some.injEq, Prod.mk.injEq] at h
          obtain ⟨rfl, rfl, rfl, rfl⟩ := h
          obtain ⟨h1, rfl, rfl⟩ := hoist_eq hh hc
          simp only [h1, hp, cond_true]
      · cases h
    · rw [ha] at h
      simp only [cond_true] at h ⊢
      obtain ⟨h1, rfl, rfl⟩ := hoist_eq h hc
      simp only [h1]
  · rename_i q g
    unfold callS
    simp only [Summ.base]
    cases ha : args.all noRefV
    · rw [ha] at h
      simp only [cond_false] at h ⊢
      split at h
      · rename_i c' v' ups' m' hh
        cases hp : plainT v'
        · rw [hp] at h; cases h
        · rw [hp] at h
          simp only [cond_true, Option.some.injEq, Prod.mk.injEq] at h
          obtain ⟨rfl, rfl, rfl, rfl⟩ := h
          rw [Bool.and_eq_true] at hc
          obtain ⟨h1, rfl, rfl⟩ := hoist_eq hh hc.1
          simp only [h1, hp, hc.2, cond_true]
      · cases h
    · rw [ha] at h
      simp only [cond_true] at h ⊢
      split at h
      · rename_i c' v' ups' m' hh
        simp only [Option.some.injEq, Prod.mk.injEq] at h
        obtain ⟨rfl, rfl, rfl, rfl⟩ := h
        rw [Bool.and_eq_true] at hc
        obtain ⟨h1, rfl, rfl⟩ := hoist_eq hh hc.1
        simp only [h1, hc.2, cond_true]
      · cases h
  · rename_i q g
    unfold callS
    simp only [Summ.base]
    split at h
    · cases hb : (memB _ fl && List.all _ noRefV)
      · rw [hb] at h; cases h
      · rw [hb] at h
        simp only [cond_true] at h ⊢
        split at h
        · rename_i hg
          try simp only [hg]
          split at h
          · rename_i hgr
            simp only [Option.some.injEq, Prod.mk.injEq] at h
            obtain ⟨rfl, rfl, rfl, rfl⟩ := h
            simp only [hc, cond_true, hgr]
          · cases h
        · cases h
    · cases h
  · exact resH_eq h

theorem opH_eq {E : Env} {get : Get} {fl : List Nat} {nid : Nat} {ev : Operand → V} {o : Oper} {c : Bool} {v : V} {ups : Ups} {m : Nat} (h : opH E get fl nid ev o = some (c, v, ups, m)) (hc : c = true) : opE E get fl nid ev o = some (v, ups, m) := by
  unfold opH at h
  split at h <;> (try (exact resH_eq h)) <;> rename_i hop <;> unfold opE <;> simp only [hop]
  · obtain ⟨h1, rfl, rfl⟩ := hoist_eq h hc; simp only [h1, one]
  · obtain ⟨h1, rfl, rfl⟩ := hoist_eq h hc; simp only [h1, one]
  · obtain ⟨h1, rfl, rfl⟩ := indexAddrH_eq h hc; simp only [h1, one]
  · obtain ⟨h1, rfl, rfl⟩ := sliceH_eq h hc; simp only [h1, one]
  · obtain ⟨h1, rfl, rfl⟩ := binH_eq h hc; simp only [h1, one]
  · obtain ⟨h1, rfl, rfl⟩ := convH_eq h hc; simp only [h1, one]
  · obtain ⟨h1, rfl, rfl⟩ := storeH_eq h hc; simp only [h1]
  · split at h
    · rename_i hb
      simp only [hb, builtinE]
      split at h
      · rename_i ht ha
        split at h
        · rename_i hu
          simp only [ht, ha, hu]
          exact appendH_eq h hc
        · cases h
      · cases h
    · rename_i b hna hb
      simp only [hb]
      exact resH_eq h
    · rename_i f hf
      simp only [hf]
      split at h
      · split at h
        · exact callH_eq h hc
        · cases h
      · cases h
    · cases h
end Go.Ev

/-
  A region in the text's order.
-/
namespace Go.Ev

structure Sim (n : Nat) (s : St) (J : Im) (μ : Mu) (a : Act) (w : World) : Prop where
  regs : ∀ t, Rv J μ (look s.r t) (a.tmps.getD t undef)
  size : a.tmps.size = n
  defers : a.defers = []
  inv : Inv s.get J μ w
  fresh : ∀ i, s.nx ≤ i → μ i = none
  flat : FlatInv s.fl s.get

theorem look_cons (k : Nat) (v : V) (r : Regs) (t : Nat) : look ((k, v) :: r) t = if k = t then v else look r t := by
  simp only [look]
  cases hb : Nat.beq k t
  · rw [if_neg (fun e => by subst e; simp at hb)]; rfl
  · rw [if_pos (Nat.eq_of_beq_eq_true hb)]; rfl

theorem evalO_sound {J : Im} {μ : Mu} {r : Regs} {a : Act} (h : ∀ t, Rv J μ (look r t) (a.tmps.getD t undef)) (x : Operand) : Rv J μ (evalO r x) (a.eval x) := by
  cases x with
  | tmp t => exact h t
  | const v => exact rv_ofVal v
  | global g => exact .und
  | func f => exact .fn rfl rfl (fun j v g hv => by simp at hv) (fun j v g hv => by simp at hv)

/-- A register is known anew: what it is known to be. -/
theorem regs_set {J : Im} {μ : Mu} {r : Regs} {a : Act} {t : Nat} {v : V} (h : ∀ t, Rv J μ (look r t) (a.tmps.getD t undef)) (hv : Rv J μ v (a.tmps.getD t undef)) : ∀ t', Rv J μ (look ((t, v) :: r) t') (a.tmps.getD t' undef) := by
  intro t'
  rw [look_cons]
  split
  · rename_i e; subst e; exact hv
  · exact h t'

section
variable {α : Type}

theorem putK_sound {n : Nat} {dst : Option Nat} {v : V} {r : Regs} {K : Regs → Option α} {x : α} {J : Im} {μ : Mu} {a : Act} {g : Value} (h : putK n dst v r K = some x) (hr : ∀ t, Rv J μ (look r t) (a.tmps.getD t undef))
    (hs : a.tmps.size = n) (hv : Rv J μ v g) : ∃ r', K r' = some x ∧ (∀ t, Rv J μ (look r' t) ((a.put dst g).tmps.getD t undef)) ∧ (a.put dst g).tmps.size = n ∧ (a.put dst g).defers = a.defers := by
  unfold putK at h
  cases dst with
  | none => exact ⟨r, h, hr, hs, rfl⟩
  | some d =>
    simp only at h
    cases hb : Nat.blt d n
    · rw [hb] at h; cases h
    · rw [hb] at h
      have hd : d < n := by simpa [Nat.blt_eq] using hb
      refine ⟨(d, v) :: r, h, fun t => ?_, by simp [Act.put, hs], rfl⟩
      rw [look_cons]
      split
      · rename_i e
        subst e
        simp only [Act.put]
        have : (a.tmps.setIfInBounds d g).getD d undef = g := by
          simp [Array.getD, hs, hd]
        rw [this]
        exact hv
      · rename_i e
        have : (a.tmps.setIfInBounds d g).getD t undef = a.tmps.getD t undef := by
          have h1 : (a.tmps.setIfInBounds d g)[t]? = a.tmps[t]? := Array.getElem?_setIfInBounds_ne e
          rw [Array.getD_eq_getD_getElem?, Array.getD_eq_getD_getElem?, h1]
        simp only [Act.put]
        rw [this]
        exact hr t

theorem res_of_call {P : Program} {r : Result Next} {Φ : Value → World → Prop} (h : CallRes P r Φ) : ExecRes P r Φ := by
  rcases h with ⟨g, w', h1, h2⟩ | ⟨f', args', w', h1, h2⟩
  · exact .inl ⟨g, w', h1, h2⟩
  · exact .inr (.inr ⟨f', args', w', h1, h2⟩)

/-- What a call of a function that is walked into does. -/
def CallOK (P : Program) (call : Call α) : Prop :=
  ∀ f args os nx fl K x, call f args os nx fl K = some x → ∀ (J : Im) (μ : Mu) (gs : Array Value) (w : World), Inv (upd os noGet) J μ w → (∀ i, nx ≤ i → μ i = none) → FlatInv fl (upd os noGet) → Rvs J μ args gs →
    CallRes P ((callFunc f gs).run P w) fun g w' => ∃ v os' nx' fl' J' μ', K v os' nx' fl' = some x ∧ Rv J' μ' v g ∧ Inv (upd os' noGet) J' μ' w' ∧ (∀ i, nx' ≤ i → μ' i = none) ∧ FlatInv fl' (upd os' noGet) ∧
      Ext (upd os noGet) J μ w (upd os' noGet) J' μ' w'

theorem regs_mono {J J' : Im} {μ μ' : Mu} {r : Regs} {a : Act} (h : ∀ t, Rv J μ (look r t) (a.tmps.getD t undef)) (hJ : Im.le J J') (hμ : Mu.le μ μ') : ∀ t, Rv J' μ' (look r t) (a.tmps.getD t undef) := fun t => (h t).mono hJ hμ

theorem upd_os (ups os : Ups) : upd ups (upd os noGet) = upd (ups ++ os) noGet := by rw [upd_append]

theorem stepK_sound {E : Env} {call : Call α} {n : Nat} {o : Oper} {s : St} {K : St → Option α} {x : α} {J : Im} {μ : Mu} {a : Act} {w : World} {next : Act → World → Prop} {Q : Exit → Act → World → Prop}
    (hS : SOK E) (hC : CallOK E.P call) (h : stepK E call n o s K = some x) (hs : Sim n s J μ a w)
    (hn : ∀ s' J' μ' a' w', K s' = some x → Sim n s' J' μ' a' w' → Ext s.get J μ w s'.get J' μ' w' → next a' w') : o.wp E.P a w next Q := by
  obtain ⟨r, os, nx, fl⟩ := s
  have hev := evalO_sound hs.regs
  -- an operation that yields a value where it stands
  have fin : ∀ (g : Value) (w' : World) (v : V) (ups : Ups) (m : Nat) (fl' : List Nat), Good (upd os noGet) J μ w nx (v, ups, m) g w' → FlatInv fl' (upd ups (upd os noGet)) →
      putK n o.dst v r (fun r' => K ⟨r', ups ++ os, nx + m, fl'⟩) = some x → next (a.put o.dst g) w' := by
    rintro g w' v ups m fl' ⟨J', μ', g1, g2, g3, g4⟩ hfl hp
    obtain ⟨r', k1, k2, k3, k4⟩ := putK_sound hp (regs_mono hs.regs g3.im g3.mu) hs.size g1
    refine hn ⟨r', ups ++ os, nx + m, fl'⟩ J' μ' _ w' k1 ⟨k2, k3, by rw [k4]; exact hs.defers, ?_, fun i hi => ?_, ?_⟩ ?_
    · simpa [St.get, upd_os] using g2
    · rw [g4 i (.inr hi)]
      exact hs.fresh i (by dsimp only at hi ⊢; omega)
    · simpa [St.get, upd_os] using hfl
    · simpa [St.get, upd_os] using g3
  unfold stepK at h
  simp only at h
  split at h
  · -- pick
    rename_i c p q hop
    split at h
    · rename_i t ht
      have hb : a.eval c = .bool t := by
        have := hev c
        rw [ht] at this
        generalize a.eval c = gc at this
        cases this
        rfl
      have hrun : ∀ z : Operand, (if t then p else q) = z → putK n o.dst (evalO r z) r (fun r => K ⟨r, os, nx, fl⟩) = some x → o.wp E.P a w next Q := by
        intro z hz hp
        refine wp_of_res (Φ := fun g w' => g = a.eval z ∧ w' = w) (.inl ⟨a.eval z, w, ?_, rfl, rfl⟩) ?_
        · unfold execOp
          rw [hop]
          simp only [Sem.run_bind, hb, asBool, Sem.run_pure, Result.andThen_ok]
          cases t <;> simp at hz <;> subst hz <;> rfl
        · rintro g w' ⟨rfl, rfl⟩
          exact fin _ w' (evalO r z) [] 0 fl (Good.same hs.inv (hev z) rfl) (by rw [upd_nil]; exact hs.flat) hp
      cases t
      · exact hrun q rfl h
      · exact hrun p rfl h
    · cases h
  · -- a call
    rename_i f args ts hop
    split at h
    · rename_i fid first cap hfe
      have hF := hev f
      rw [hfe] at hF
      generalize hgf : a.eval f = gf at hF
      cases hF with
      | fn k1 k2 k3 k4 =>
        rename_i g1 g2
        have hr : Rvs J μ (first ++ args.toList.map (evalO r) ++ cap) (g1 ++ args.map a.eval ++ g2) := rvs_append (rvs_append ⟨k1, k3⟩ (rvs_map hev args)) ⟨k2, k4⟩
        have hrun : (execOp a.eval o).run E.P w = (callFunc fid (g1 ++ args.map a.eval ++ g2)).run E.P w := by
          unfold execOp
          rw [hop]
          simp only [Sem.run_bind, resolve, hgf, Deferred.ofValue, Sem.run_pure, Result.andThen_ok, invoke]
        split at h
        · rename_i su hsu
          split at h
          · rename_i c v ups m hcs
            cases hcc : c
            · rw [hcc] at h; cases h
            rw [hcc] at h
            simp only [cond_true] at h
            have hc := callS_sound (nid := nx) (hS fid su hsu) hs.inv hs.flat hr (callH_eq hcs hcc)
            have hc' := res_of_call hc
            rw [← hrun] at hc'
            refine wp_of_res hc' ?_
            rintro g w' ⟨q1, q2⟩
            exact fin g w' v ups m _ q1 q2 h
          · cases h
        · have hc := hC _ _ _ _ _ _ _ h J μ _ w hs.inv hs.fresh hs.flat hr
          have hc' := res_of_call hc
          rw [← hrun] at hc'
          refine wp_of_res hc' ?_
          rintro g w' ⟨v, os', nx', fl', J', μ', p1, p2, p3, p4, p5, p6⟩
          obtain ⟨r', q1, q2, q3, q4⟩ := putK_sound p1 (regs_mono hs.regs p6.im p6.mu) hs.size p2
          exact hn ⟨r', os', nx', fl'⟩ J' μ' _ w' q1 ⟨q2, q3, by rw [q4]; exact hs.defers, p3, p4, p5⟩ p6
    · cases h
  · rename_i hnp hnc
    split at h
    · rename_i c v ups m hoH
      cases hcc : c
      · rw [hcc] at h; cases h
      rw [hcc] at h
      simp only [cond_true] at h
      have ho := opH_eq hoH hcc
      have hres := opE_sound (nid := nx) hS hs.inv hs.flat hev ho (fun i hi _ => hs.fresh i hi)
      refine wp_of_res hres fun g w' hg => fin g w' v ups m _ hg.1 ?_ h
      exact flag_sound hs.flat hev ho fun c f hc hcal => by
        obtain ⟨cal, args, ts⟩ := c
        dsimp only at hcal
        subst hcal
        exact hnc f args ts hc
    · cases h

theorem guard_spec {ops : Array Oper} {o : Oper} {j t : Nat} {want b : Bool} {a : Act} (hg : o.guard = some (j, want)) (ht : guardT ops.toList j = some t) (hb : a.tmps.getD t undef = .bool b) (hlt : t < a.tmps.size) :
    Region.wanted o (yielded ops a.tmps) = (b == want) := by
  unfold guardT at ht
  rw [getAt_eq, Array.getElem?_toList] at ht
  have h1 : a.tmps[t]? = some (.bool b) := by
    rw [Array.getD_eq_getD_getElem?] at hb
    rw [Array.getElem?_eq_getElem hlt] at hb ⊢
    simpa using hb
  cases ho : ops[j]? with
  | none => rw [ho] at ht; cases ht
  | some oj =>
    rw [ho] at ht
    simp only at ht
    simp only [Region.wanted, hg, yielded, ho, Option.bind_some, ht, h1]
    cases b <;> cases want <;> rfl

theorem rv_undef {J : Im} {μ : Mu} : Rv J μ (.tup []) undef := .tup rfl fun j v g hv => by simp at hv

theorem guard_undef {ops : Array Oper} {o : Oper} {j t : Nat} {want : Bool} {J : Im} {μ : Mu} {a : Act} (hg : o.guard = some (j, want)) (ht : guardT ops.toList j = some t) (hb : Rv J μ (.tup []) (a.tmps.getD t undef)) :
    Region.wanted o (yielded ops a.tmps) = false := by
  unfold guardT at ht
  rw [getAt_eq, Array.getElem?_toList] at ht
  cases ho : ops[j]? with
  | none => rw [ho] at ht; cases ht
  | some oj =>
    rw [ho] at ht
    simp only at ht
    simp only [Region.wanted, hg, yielded, ho, Option.bind_some, ht]
    rw [Array.getD_eq_getD_getElem?] at hb
    cases hx : a.tmps[t]? with
    | none => rfl
    | some g =>
      rw [hx] at hb
      simp only [Option.getD_some] at hb
      cases hb
      rfl

theorem undef_lt {a : Act} {t : Nat} {b : Bool} (hb : a.tmps.getD t undef = .bool b) : t < a.tmps.size := by
  rcases Nat.lt_or_ge t a.tmps.size with h | h
  · exact h
  · rw [Array.getD_eq_getD_getElem?, Array.getElem?_eq_none h] at hb
    simp [undef] at hb

theorem opsK_sound {E : Env} {call : Call α} {n : Nat} {ops : Array Oper} {K : St → Option α} {x : α} {Q : Exit → Act → World → Prop} (hS : SOK E) (hC : CallOK E.P call) : ∀ (rest : List Oper) (k : Nat) (s : St) (J : Im) (μ : Mu) (a : Act) (w : World),
    (∀ j, rest[j]? = ops[k + j]?) → opsK E call n ops.toList rest s K = some x → Sim n s J μ a w →
    (∀ s' J' μ' a' w', K s' = some x → Sim n s' J' μ' a' w' → Ext s.get J μ w s'.get J' μ' w' → Q .normal a' w') → wpOps E.P ops Q (List.range' k rest.length) a w
  | [], k, s, J, μ, a, w, _, h, hs, hq => by
    simp only [List.length_nil, List.range'_zero, wpOps]
    exact hq s J μ a w h hs (Ext.refl _ _ _ _)
  | o :: rest, k, s, J, μ, a, w, hl, h, hs, hq => by
    have ho : ops[k]? = some o := by simpa using (hl 0).symm
    have hl' : ∀ j, rest[j]? = ops[k + 1 + j]? := fun j => by
      have := hl (j + 1)
      rw [show k + 1 + j = k + (j + 1) by omega]
      simpa using this
    have go : ∀ (s1 : St) J1 μ1 a1 w1, opsK E call n ops.toList rest s1 K = some x → Sim n s1 J1 μ1 a1 w1 → Ext s.get J μ w s1.get J1 μ1 w1 → wpOps E.P ops Q (List.range' (k + 1) rest.length) a1 w1 := by
      intro s1 J1 μ1 a1 w1 h1 hs1 he1
      exact opsK_sound hS hC rest (k + 1) s1 J1 μ1 a1 w1 hl' h1 hs1 fun s' J' μ' a' w' p1 p2 p3 => hq s' J' μ' a' w' p1 p2 (he1.trans p3)
    rw [List.length_cons, List.range'_succ, wpOps_cons]
    unfold wpOp
    simp only [ho]
    unfold opsK at h
    cases hg : o.guard with
    | none =>
      rw [hg] at h
      simp only at h
      have hw : Region.wanted o (yielded ops a.tmps) = true := by simp [Region.wanted, hg]
      simp only [hw, if_true]
      exact .inl (stepK_sound hS hC h hs fun s' J' μ' a' w' p1 p2 p3 => go s' J' μ' a' w' p1 p2 p3)
    | some jw =>
      obtain ⟨j, want⟩ := jw
      rw [hg] at h
      simp only at h
      split at h
      · cases h
      · rename_i t ht
        obtain ⟨r, os, nx, fl⟩ := s
        simp only at h
        split at h
        · rename_i b hb
          have hbv : a.tmps.getD t undef = .bool b := by
            have := hs.regs t
            rw [hb] at this
            generalize a.tmps.getD t undef = g at this
            cases this
            rfl
          have hw := guard_spec hg ht hbv (undef_lt hbv)
          have hs1 : Sim n ⟨(t, .bool b) :: r, os, nx, fl⟩ J μ a w := ⟨regs_set hs.regs (by rw [hbv]; exact .bool), hs.size, hs.defers, hs.inv, hs.fresh, hs.flat⟩
          rw [hw]
          have run : stepK E call n o ⟨(t, .bool b) :: r, os, nx, fl⟩ (fun s => opsK E call n ops.toList rest s K) = some x → o.wp E.P a w (wpOps E.P ops Q (List.range' (k + 1) rest.length)) Q := fun h1 =>
            stepK_sound hS hC h1 hs1 fun s' J' μ' a' w' p1 p2 p3 => go s' J' μ' a' w' p1 p2 p3
          have skip : putK n o.dst (.tup []) ((t, .bool b) :: r) (fun r => opsK E call n ops.toList rest ⟨r, os, nx, fl⟩ K) = some x → wpOps E.P ops Q (List.range' (k + 1) rest.length) (a.put o.dst undef) w := fun h1 => by
            obtain ⟨r', q1, q2, q3, q4⟩ := putK_sound (g := undef) h1 hs1.regs hs.size rv_undef
            exact go ⟨r', os, nx, fl⟩ J μ _ w q1 ⟨q2, q3, by rw [q4]; exact hs.defers, hs.inv, hs.fresh, hs.flat⟩ (Ext.refl _ _ _ _)
          cases b <;> cases want <;> simp only [cond_true, cond_false] at h
          · simp only [BEq.rfl, if_true]
            exact .inl (run h)
          · simpa using skip h
          · simpa using skip h
          · simp only [BEq.rfl, if_true]
            exact .inl (run h)
        · rename_i hb
          have hw := guard_undef hg ht (by have := hs.regs t; dsimp only at this; rw [hb] at this; exact this)
          rw [hw]
          simp only [Bool.false_eq_true, if_false]
          obtain ⟨r', q1, q2, q3, q4⟩ := putK_sound (g := undef) h hs.regs hs.size rv_undef
          exact go ⟨r', os, nx, fl⟩ J μ _ w q1 ⟨q2, q3, by rw [q4]; exact hs.defers, hs.inv, hs.fresh, hs.flat⟩ (Ext.refl _ _ _ _)
        · cases h

theorem region_sound {E : Env} {call : Call α} {n : Nat} {ops : Array Oper} {id : Nat} {K : St → Option α} {x : α} {Q : Exit → Act → World → Prop} {s : St} {J : Im} {μ : Mu} {a : Act} {w : World} (hS : SOK E) (hC : CallOK E.P call)
    (h : opsK E call n ops.toList ops.toList s K = some x) (hs : Sim n s J μ a w)
    (hq : ∀ s' J' μ' a' w', K s' = some x → Sim n s' J' μ' a' w' → Ext s.get J μ w s'.get J' μ' w' → Q .normal a' w') : (Code.region id ops false).wp E.P Q a w := by
  refine wp_region ?_
  have := opsK_sound (ops := ops) hS hC ops.toList 0 s J μ a w (fun j => by simp) h hs hq
  rw [List.range_eq_range']
  simpa using this
end
end Go.Ev

/-
  Regions whose order is open: what the operations have written, in whatever order.
-/
namespace Go.Ev

/-! Writes by key -/
section
variable {β : Type}

/-- What stands at a key behind those of the first operations that a set holds. -/
def SS (wr : Nat → Nat → Option β) (x0 : Nat → β) (L : Nat → Bool) : Nat → Nat → β
  | 0, k => x0 k
  | m + 1, k => if L m = true then (wr m k).getD (SS wr x0 L m k) else SS wr x0 L m k

theorem SS_agree {wr : Nat → Nat → Option β} {x0 : Nat → β} {L L' : Nat → Bool} {k : Nat} : ∀ m, (∀ j, j < m → wr j k ≠ none → L j = L' j) → SS wr x0 L m k = SS wr x0 L' m k
  | 0, _ => rfl
  | m + 1, h => by
    have ih := SS_agree (wr := wr) (x0 := x0) m fun j hj => h j (Nat.lt_succ_of_lt hj)
    simp only [SS, ih]
    cases hw : wr m k with
    | none => simp
    | some v =>
      rw [h m (Nat.lt_succ_self m) (by rw [hw]; simp)]

theorem SS_lt {wr : Nat → Nat → Option β} {x0 : Nat → β} {i k : Nat} : ∀ N, i ≤ N → SS wr x0 (fun j => decide (j < i)) N k = SS wr x0 (fun _ => true) i k
  | 0, h => by
    have : i = 0 := by omega
    subst this; rfl
  | N + 1, h => by
    by_cases e : i = N + 1
    · subst e
      exact SS_agree _ fun j hj _ => by simp [hj]
    · have hN : ¬ N < i := by omega
      simp only [SS, hN, decide_false, Bool.false_eq_true, if_false]
      exact SS_lt N (by omega)

theorem SS_wr {wr wr' : Nat → Nat → Option β} {x0 : Nat → β} {L : Nat → Bool} {k : Nat} : ∀ m, (∀ j, j < m → wr j = wr' j) → SS wr x0 L m k = SS wr' x0 L m k
  | 0, _ => rfl
  | m + 1, h => by
    simp only [SS, h m (Nat.lt_succ_self m), SS_wr m fun j hj => h j (Nat.lt_succ_of_lt hj)]

/-- One more. -/
theorem SS_add {wr : Nat → Nat → Option β} {x0 : Nat → β} {L : Nat → Bool} {i k : Nat} (hi : L i = false) : ∀ N, i < N → (∀ j, i < j → j < N → L j = true → wr i k ≠ none → wr j k = none) →
    SS wr x0 (fun j => L j || Nat.beq j i) N k = (wr i k).getD (SS wr x0 L N k)
  | 0, h, _ => by omega
  | N + 1, h, hq => by
    by_cases e : i = N
    · subst e
      have h1 : SS wr x0 (fun j => L j || Nat.beq j i) i k = SS wr x0 L i k := SS_agree _ fun j hj _ => by
        have : Nat.beq j i = false := by
          cases hb : Nat.beq j i
          · rfl
          · have := Nat.eq_of_beq_eq_true hb; omega
        simp [this]
      simp only [SS, hi, Bool.false_or, h1, Nat.beq_refl, Bool.false_eq_true, if_false, if_true]
    · have ih := SS_add (wr := wr) (x0 := x0) (k := k) hi N (by omega) fun j h1 h2 => hq j h1 (by omega)
      have hb : Nat.beq N i = false := by
        cases hb : Nat.beq N i
        · rfl
        · have := Nat.eq_of_beq_eq_true hb; omega
      simp only [SS, hb, Bool.or_false, ih]
      cases hL : L N
      · simp
      · simp only [if_true]
        cases hw : wr i k with
        | none => simp
        | some v =>
          rw [hq N (by omega) (Nat.lt_succ_self N) hL (by rw [hw]; simp)]
          simp

/-- What an operation finds: that of the text's order. -/
theorem SS_at {wr : Nat → Nat → Option β} {x0 : Nat → β} {L : Nat → Bool} {i k N : Nat} (hN : i ≤ N) (h : ∀ j, j < N → wr j k ≠ none → L j = decide (j < i)) : SS wr x0 L N k = SS wr x0 (fun _ => true) i k := by
  rw [← SS_lt N hN]
  exact SS_agree N h
end

def lk : Ups → Nat → Option (Option Cells)
  | [], _ => none
  | (k, c) :: r, id => if k = id then some c else lk r id

theorem upd_lk (u : Ups) (g : Get) (id : Nat) : upd u g id = (lk u id).getD (g id) := by
  induction u with
  | nil => rw [upd_nil]; rfl
  | cons p u ih =>
    obtain ⟨k, c⟩ := p
    rw [upd_cons, lk]
    split <;> simp [ih]

theorem lk_none {u : Ups} {id : Nat} : lk u id = none ↔ memB id (u.map (·.1)) = false := by
  induction u with
  | nil => simp [lk, memB]
  | cons p u ih =>
    obtain ⟨k, c⟩ := p
    simp only [lk, List.map_cons]
    cases hm : memB id (k :: u.map (·.1))
    · have : ¬ (k = id ∨ memB id (u.map (·.1)) = true) := fun h => by rw [(memB_cons _ _ _).2 h] at hm; cases hm
      rw [if_neg fun e => this (.inl e), ih]
      simp only [iff_true]
      cases hb : memB id (u.map (·.1))
      · rfl
      · exact absurd (.inr hb) this
    · rcases (memB_cons _ _ _).1 hm with rfl | h
      · simp
      · split
        · simp
        · rw [ih, h]

/-- What the record of an operation holds. -/
structure Rec where
  d : DRec
  dst : Option Nat
  v : V
  ups : Ups
  flag : Bool

def wrR (rc : Nat → Rec) (m t : Nat) : Option V := if (rc m).dst = some t then some (rc m).v else none
def wrG (rc : Nat → Rec) (m id : Nat) : Option (Option Cells) := lk (rc m).ups id

abbrev SR (rc : Nat → Rec) (R0 : Nat → V) := SS (wrR rc) R0
abbrev SG (rc : Nat → Rec) (g0 : Get) := SS (wrG rc) g0
def SF (rc : Nat → Rec) (fl : List Nat) : Nat → List Nat
  | 0 => fl
  | m + 1 => flatUps (SF rc fl m) (rc m).flag (rc m).ups

def Quiet (all : Array Oper) (o : Oper) (d : DRec) (i : Nat) (e : DRec) : Prop :=
  memB i d.anc = true ∨ (disj e.wr d.foot = true ∧ disj d.wr e.foot = true ∧ disj d.wr e.wr = true ∧ ∃ p, all[i]? = some p ∧ p.apart all o = true)

theorem quiet_spec {all : Array Oper} {o : Oper} {d : DRec} : ∀ (es : List DRec) (k : Nat), quietAll all o d k es = true → ∀ j e, es[j]? = some e → Quiet all o d (k + j) e
  | [], k, _, j, e, he => by simp at he
  | e0 :: es, k, h, j, e, he => by
    unfold quietAll at h
    rw [Bool.and_eq_true, Bool.or_eq_true] at h
    cases j with
    | zero =>
      simp only [List.getElem?_cons_zero, Option.some.injEq] at he
      subst he
      rcases h.1 with h1 | h1
      · exact .inl h1
      · refine .inr ?_
        simp only [Bool.and_eq_true] at h1
        obtain ⟨⟨⟨a, b⟩, c⟩, d'⟩ := h1
        refine ⟨a, b, c, ?_⟩
        split at d'
        · rename_i p hp
          exact ⟨p, hp, d'⟩
        · cases d'
    | succ j =>
      have := quiet_spec es (k + 1) h.2 j e (by simpa using he)
      rw [show k + (j + 1) = k + 1 + j by omega]
      exact this

theorem anc_spec {ds : List DRec} {i : Nat} : ∀ (es : List Edge) (l : List Nat), ancOf ds i es = some l →
    (∀ e ∈ es, Region.binds .any e = true → e.on < i ∧ memB e.on l = true) ∧ ∀ m, memB m l = true → ∃ e ∈ es, Region.binds .any e = true ∧ (m = e.on ∨ ∃ d, ds[e.on]? = some d ∧ memB m d.anc = true)
  | [], l, h => by
    simp only [ancOf, Option.some.injEq] at h
    subst h
    exact ⟨fun e he => by simp at he, fun m hm => by simp [memB] at hm⟩
  | e :: es, l, h => by
    simp only [ancOf] at h
    split at h
    · cases h
    · rename_i l0 hl0
      obtain ⟨i1, i2⟩ := anc_spec es l0 hl0
      cases hb : Region.binds .any e
      · rw [hb] at h
        simp only [cond_false, Option.some.injEq] at h
        subst h
        refine ⟨fun e' he' hb' => ?_, fun m hm => ?_⟩
        · rcases List.mem_cons.1 he' with rfl | he'
          · rw [hb] at hb'; cases hb'
          · exact i1 e' he' hb'
        · obtain ⟨e', h1, h2⟩ := i2 m hm
          exact ⟨e', List.mem_cons_of_mem _ h1, h2⟩
      · rw [hb] at h
        simp only [cond_true] at h
        cases hlt : Nat.blt e.on i
        · rw [hlt] at h; cases h
        · rw [hlt] at h
          simp only [cond_true] at h
          split at h
          · rename_i d hd
            rw [getAt_eq] at hd
            simp only [Option.some.injEq] at h
            subst h
            refine ⟨fun e' he' hb' => ?_, fun m hm => ?_⟩
            · rcases List.mem_cons.1 he' with rfl | he'
              · exact ⟨by simpa [Nat.blt_eq] using hlt, (memB_cons _ _ _).2 (.inl rfl)⟩
              · obtain ⟨h1, h2⟩ := i1 e' he' hb'
                refine ⟨h1, (memB_cons _ _ _).2 (.inr ?_)⟩
                rw [memB_iff, List.mem_append]
                exact .inr ((memB_iff _ _).1 h2)
            · rcases (memB_cons _ _ _).1 hm with rfl | hm
              · exact ⟨e, List.mem_cons_self, hb, .inl rfl⟩
              · rw [memB_iff, List.mem_append] at hm
                rcases hm with hm | hm
                · exact ⟨e, List.mem_cons_self, hb, .inr ⟨d, hd, (memB_iff _ _).2 hm⟩⟩
                · obtain ⟨e', h1, h2⟩ := i2 m ((memB_iff _ _).2 hm)
                  exact ⟨e', List.mem_cons_of_mem _ h1, h2⟩
          · cases h

/-- What is known of one operation of the region. -/
structure StepP (E : Env) (n : Nat) (all : Array Oper) (nx : Nat) (fl0 : List Nat) (k : Nat) (R : Nat → V) (get : Get) (pre : List DRec) (o : Oper) (c : Rec) : Prop where
  at_ : all[k]? = some o
  dst : c.dst = o.dst
  lt : ∀ d, o.dst = some d → d < n
  anc : ancOf pre k o.after.toList = some c.d.anc
  quiet : ∀ j e, pre[j]? = some e → Quiet all o c.d j e
  wr : c.d.wr = c.ups.map (·.1)
  act : (c.v = .tup [] ∧ c.ups = [] ∧ ∃ j want t, o.guard = some (j, want) ∧ guardT all.toList j = some t ∧ (R t = .bool (!want) ∨ R t = .tup [])) ∨
    ((o.guard = none ∨ ∃ j want t, o.guard = some (j, want) ∧ guardT all.toList j = some t ∧ R t = .bool want) ∧
      ((∃ q a b t, o.op = .pick q a b ∧ evalF R q = .bool t ∧ c.v = evalF R (if t then a else b) ∧ c.ups = []) ∨
       (∃ m, opE E (restr c.d.foot get) fl0 (nx + k) (evalF R) o = some (c.v, c.ups, m) ∧ m ≤ 1 ∧ keepsFlat fl0 c.flag c.ups = true ∧ c.flag = flagE fl0 (evalF R) o c.ups)))

def pres (rc : Nat → Rec) (k : Nat) : List DRec := (List.range k).map fun j => (rc j).d

def Step (E : Env) (n : Nat) (all : Array Oper) (nx : Nat) (fl0 : List Nat) (R0 : Nat → V) (g0 : Get) (rc : Nat → Rec) (k : Nat) : Prop :=
  ∃ o, StepP E n all nx fl0 k (SR rc R0 (fun _ => true) k) (SG rc g0 (fun _ => true) k) (pres rc k) o (rc k)

section
variable {E : Env} {n : Nat} {all : Array Oper} {nx : Nat} {fl0 : List Nat} {R0 : Nat → V} {g0 : Get}

theorem SR_congr {rc rc' : Nat → Rec} {L : Nat → Bool} {k : Nat} (h : ∀ j, j < k → rc j = rc' j) : SR rc R0 L k = SR rc' R0 L k := by
  funext t
  exact SS_wr k fun j hj => by funext u; simp only [wrR, h j hj]

theorem SG_congr {rc rc' : Nat → Rec} {L : Nat → Bool} {k : Nat} (h : ∀ j, j < k → rc j = rc' j) : SG rc g0 L k = SG rc' g0 L k := by
  funext t
  exact SS_wr k fun j hj => by funext u; simp only [wrG, h j hj]

theorem SF_congr {rc rc' : Nat → Rec} {fl : List Nat} : ∀ {k : Nat}, (∀ j, j < k → rc j = rc' j) → SF rc fl k = SF rc' fl k
  | 0, _ => rfl
  | k + 1, h => by simp only [SF, h k (Nat.lt_succ_self k), SF_congr (k := k) fun j hj => h j (Nat.lt_succ_of_lt hj)]

theorem pres_congr {rc rc' : Nat → Rec} {k : Nat} (h : ∀ j, j < k → rc j = rc' j) : pres rc k = pres rc' k :=
  List.map_congr_left fun j hj => by rw [h j (List.mem_range.1 hj)]

theorem Step_congr {rc rc' : Nat → Rec} {k : Nat} (h : ∀ j, j ≤ k → rc j = rc' j) (hs : Step E n all nx fl0 R0 g0 rc k) : Step E n all nx fl0 R0 g0 rc' k := by
  obtain ⟨o, hs⟩ := hs
  refine ⟨o, ?_⟩
  rw [← SR_congr fun j hj => h j (Nat.le_of_lt hj), ← SG_congr fun j hj => h j (Nat.le_of_lt hj), ← pres_congr fun j hj => h j (Nat.le_of_lt hj), ← h k (Nat.le_refl k)]
  exact hs

def pushR (dst : Option Nat) (v : V) (r : Regs) : Regs :=
  match dst with
  | some d => (d, v) :: r
  | none => r

theorem look_putF {r : Regs} {R : Nat → V} {v : V} (hr : look r = R) (dst : Option Nat) : look (pushR dst v r) = fun t => (if dst = some t then some v else none).getD (R t) := by
  funext t
  cases dst with
  | none => simp [pushR, hr]
  | some d =>
    simp only [pushR, look_cons, hr, Option.some.injEq]
    split <;> rfl

theorem look_same {r : Regs} {t : Nat} {v : V} (h : look r t = v) : look ((t, v) :: r) = look r := by
  funext u
  rw [look_cons]
  split
  · rename_i e; subst e; exact h.symm
  · rfl
end
end Go.Ev

/-
  Regions whose order is open: the evaluator's record of the text's order.
-/
namespace Go.Ev

section
variable {α : Type} {E : Env} {n : Nat} {all : Array Oper} {nx : Nat} {fl0 : List Nat} {R0 : Nat → V} {g0 : Get}

theorem putK_spec {dst : Option Nat} {v : V} {r : Regs} {K : Regs → Option α} {x : α} (h : putK n dst v r K = some x) : K (pushR dst v r) = some x ∧ ∀ d, dst = some d → d < n := by
  unfold putK at h
  cases dst with
  | none => exact ⟨h, fun d hd => by cases hd⟩
  | some d =>
    simp only at h
    cases hb : Nat.blt d n
    · rw [hb] at h; cases h
    · rw [hb] at h
      exact ⟨h, fun d' hd => by cases hd; simpa [Nat.blt_eq] using hb⟩

theorem drawK_trace {K : St → Option α} {x : α} : ∀ (rest : List Oper) (i : Nat) (rc : Nat → Rec) (r : Regs) (os : Ups) (fl : List Nat), (∀ j, rest[j]? = all[i + j]?) → (∀ k, k < i → Step E n all nx fl0 R0 g0 rc k) →
    look r = SR rc R0 (fun _ => true) i → upd os noGet = SG rc g0 (fun _ => true) i → fl = SF rc fl0 i → drawK E n all nx fl0 rest i (pres rc i) r os fl K = some x →
    ∃ rc' r' os', (∀ k, k < i + rest.length → Step E n all nx fl0 R0 g0 rc' k) ∧ look r' = SR rc' R0 (fun _ => true) (i + rest.length) ∧ upd os' noGet = SG rc' g0 (fun _ => true) (i + rest.length) ∧
      K ⟨r', os', nx + (i + rest.length), SF rc' fl0 (i + rest.length)⟩ = some x
  | [], i, rc, r, os, fl, _, hs, hr, ho, hf, h => by
    subst hf
    exact ⟨rc, r, os, hs, hr, ho, h⟩
  | o :: rest, i, rc, r, os, fl, hl, hs, hr, ho, hf, h => by
    have hat : all[i]? = some o := by simpa using (hl 0).symm
    have hl' : ∀ j, rest[j]? = all[i + 1 + j]? := fun j => by
      have := hl (j + 1)
      rw [show i + 1 + j = i + (j + 1) by omega]
      simpa using this
    -- one record more
    have cont : ∀ (c : Rec) (r1 : Regs), StepP E n all nx fl0 i (SR rc R0 (fun _ => true) i) (SG rc g0 (fun _ => true) i) (pres rc i) o c → look r1 = look r →
        drawK E n all nx fl0 rest (i + 1) (pres rc i ++ [c.d]) (pushR o.dst c.v r1) (c.ups ++ os) (flatUps fl c.flag c.ups) K = some x →
        ∃ rc' r' os', (∀ k, k < i + (o :: rest).length → Step E n all nx fl0 R0 g0 rc' k) ∧ look r' = SR rc' R0 (fun _ => true) (i + (o :: rest).length) ∧ upd os' noGet = SG rc' g0 (fun _ => true) (i + (o :: rest).length) ∧
          K ⟨r', os', nx + (i + (o :: rest).length), SF rc' fl0 (i + (o :: rest).length)⟩ = some x := by
      intro c r1 hc hr1 hd
      let rc1 : Nat → Rec := fun k => if k = i then c else rc k
      have e1 : ∀ j, j < i → rc j = rc1 j := fun j hj => by simp [rc1, Nat.ne_of_lt hj]
      have e2 : rc1 i = c := by simp [rc1]
      have hsR : SR rc1 R0 (fun _ => true) i = SR rc R0 (fun _ => true) i := (SR_congr e1).symm
      have hsG : SG rc1 g0 (fun _ => true) i = SG rc g0 (fun _ => true) i := (SG_congr e1).symm
      have hp : pres rc1 i = pres rc i := (pres_congr e1).symm
      have hlen : i + (o :: rest).length = i + 1 + rest.length := by simp only [List.length_cons]; omega
      rw [hlen]
      refine drawK_trace rest (i + 1) rc1 (pushR o.dst c.v r1) (c.ups ++ os) (flatUps fl c.flag c.ups) hl' (fun k hk => ?_) ?_ ?_ ?_ ?_
      · by_cases hki : k = i
        · subst hki
          refine ⟨o, ?_⟩
          rw [hsR, hsG, hp, e2]
          exact hc
        · exact Step_congr (fun j hj => e1 j (by omega)) (hs k (by omega))
      · rw [look_putF (hr1.trans hr) o.dst]
        funext t
        simp only [SR, SS, if_true, wrR, e2, hc.dst]
        rw [show SS (wrR rc1) R0 (fun _ => true) i t = SS (wrR rc) R0 (fun _ => true) i t from congrFun hsR t]
      · funext id
        rw [upd_append, upd_lk]
        simp only [SG, SS, if_true, wrG, e2]
        rw [show SS (wrG rc1) g0 (fun _ => true) i id = SS (wrG rc) g0 (fun _ => true) i id from congrFun hsG id, ho]
      · simp only [SF, e2]
        rw [← SF_congr e1, ← hf]
      · have : pres rc1 (i + 1) = pres rc i ++ [c.d] := by
          rw [← hp]
          simp only [pres, List.range_succ, List.map_append, List.map_cons, List.map_nil, e2]
        rw [this]
        exact hd
    have hq : ∀ {d : DRec}, quietAll all o d 0 (pres rc i) = true → ∀ j e, (pres rc i)[j]? = some e → Quiet all o d j e := fun h j e he => by
      have := quiet_spec _ 0 h j e he
      simpa using this
    unfold drawK at h
    split at h
    · cases h
    rename_i anc hanc
    -- it runs
    have run : ∀ (r1 : Regs), look r1 = look r → (o.guard = none ∨ ∃ j want t, o.guard = some (j, want) ∧ guardT all.toList j = some t ∧ look r t = .bool want) →
        (match o.op with
        | .pick c a b =>
          bif quietAll all o ⟨anc, [], []⟩ 0 (pres rc i) then
            match evalO r1 c with
            | .bool t =>
              bif t then putK n o.dst (evalO r1 a) r1 fun r => drawK E n all nx fl0 rest (i + 1) (pres rc i ++ [⟨anc, [], []⟩]) r os fl K
              else putK n o.dst (evalO r1 b) r1 fun r => drawK E n all nx fl0 rest (i + 1) (pres rc i ++ [⟨anc, [], []⟩]) r os fl K
            | _ => none
          else none
        | _ =>
          match opH E (restr (footE (upd os noGet) fl0 (evalO r1) o) (upd os noGet)) fl0 (nx + i) (evalO r1) o with
          | some (c, v, ups, m) =>
            bif c then
             (bif Nat.ble m 1 && keepsFlat fl0 (flagE fl0 (evalO r1) o ups) ups && quietAll all o ⟨anc, footE (upd os noGet) fl0 (evalO r1) o, ups.map (·.1)⟩ 0 (pres rc i) then
              putK n o.dst v r1 fun r' => drawK E n all nx fl0 rest (i + 1) (pres rc i ++ [⟨anc, footE (upd os noGet) fl0 (evalO r1) o, ups.map (·.1)⟩]) r' (ups ++ os) (flatUps fl (flagE fl0 (evalO r1) o ups) ups) K
             else none)
            else none
          | none => none) = some x →
        ∃ rc' r' os', (∀ k, k < i + (o :: rest).length → Step E n all nx fl0 R0 g0 rc' k) ∧ look r' = SR rc' R0 (fun _ => true) (i + (o :: rest).length) ∧ upd os' noGet = SG rc' g0 (fun _ => true) (i + (o :: rest).length) ∧
          K ⟨r', os', nx + (i + (o :: rest).length), SF rc' fl0 (i + (o :: rest).length)⟩ = some x := by
      intro r1 hr1 hg h
      have hR : evalO r1 = evalF (SR rc R0 (fun _ => true) i) := by unfold evalO; rw [hr1, hr]
      have hg' : o.guard = none ∨ ∃ j want t, o.guard = some (j, want) ∧ guardT all.toList j = some t ∧ SR rc R0 (fun _ => true) i t = .bool want := by rw [hr] at hg; exact hg
      split at h
      · rename_i c a b hop
        cases hqa : quietAll all o ⟨anc, [], []⟩ 0 (pres rc i)
        · rw [hqa] at h; cases h
        rw [hqa] at h
        simp only [cond_true] at h
        split at h
        · rename_i t ht
          have fin : ∀ z : Operand, (if t then a else b) = z → putK n o.dst (evalO r1 z) r1 (fun r => drawK E n all nx fl0 rest (i + 1) (pres rc i ++ [⟨anc, [], []⟩]) r os fl K) = some x → _ := fun z hz hp => by
            obtain ⟨p1, p2⟩ := putK_spec hp
            refine cont ⟨⟨anc, [], []⟩, o.dst, evalO r1 z, [], false⟩ r1 ⟨hat, rfl, p2, hanc, hq hqa, rfl, .inr ⟨hg', .inl ⟨c, a, b, t, hop, by rw [← hR]; exact ht, ?_, rfl⟩⟩⟩ hr1 ?_
            · rw [hz, ← hR]
            · simpa [flatUps] using p1
          cases t
          · exact fin b rfl h
          · exact fin a rfl h
        · cases h
      · split at h
        · rename_i c v ups m hoH
          cases hcc : c
          · rw [hcc] at h; cases h
          rw [hcc] at h
          simp only [cond_true] at h
          have hoe := opH_eq hoH hcc
          cases hc : (Nat.ble m 1 && keepsFlat fl0 (flagE fl0 (evalO r1) o ups) ups && quietAll all o ⟨anc, footE (upd os noGet) fl0 (evalO r1) o, ups.map (·.1)⟩ 0 (pres rc i))
          · rw [hc] at h; cases h
          rw [hc] at h
          simp only [cond_true] at h
          rw [Bool.and_eq_true, Bool.and_eq_true] at hc
          obtain ⟨⟨c1, c2⟩, c3⟩ := hc
          obtain ⟨p1, p2⟩ := putK_spec h
          refine cont ⟨⟨anc, footE (upd os noGet) fl0 (evalO r1) o, ups.map (·.1)⟩, o.dst, v, ups, flagE fl0 (evalO r1) o ups⟩ r1 ⟨hat, rfl, p2, hanc, hq c3, rfl, .inr ⟨hg', .inr ⟨m, ?_, Nat.le_of_ble_eq_true c1, c2, ?_⟩⟩⟩ hr1 p1
          · rw [← hR, ← ho]; exact hoe
          · rw [← hR]
        · cases h
    -- it is skipped
    have skip : ∀ (r1 : Regs) (j t : Nat) (want : Bool), look r1 = look r → o.guard = some (j, want) → guardT all.toList j = some t → (look r t = .bool (!want) ∨ look r t = .tup []) →
        (bif quietAll all o ⟨anc, [], []⟩ 0 (pres rc i) then putK n o.dst (.tup []) r1 fun r => drawK E n all nx fl0 rest (i + 1) (pres rc i ++ [⟨anc, [], []⟩]) r os fl K else none) = some x →
        ∃ rc' r' os', (∀ k, k < i + (o :: rest).length → Step E n all nx fl0 R0 g0 rc' k) ∧ look r' = SR rc' R0 (fun _ => true) (i + (o :: rest).length) ∧ upd os' noGet = SG rc' g0 (fun _ => true) (i + (o :: rest).length) ∧
          K ⟨r', os', nx + (i + (o :: rest).length), SF rc' fl0 (i + (o :: rest).length)⟩ = some x := by
      intro r1 j t want hr1 hg ht hb h
      cases hqa : quietAll all o ⟨anc, [], []⟩ 0 (pres rc i)
      · rw [hqa] at h; cases h
      rw [hqa] at h
      simp only [cond_true] at h
      obtain ⟨p1, p2⟩ := putK_spec h
      refine cont ⟨⟨anc, [], []⟩, o.dst, .tup [], [], false⟩ r1 ⟨hat, rfl, p2, hanc, hq hqa, rfl, .inl ⟨rfl, rfl, j, want, t, hg, ht, ?_⟩⟩ hr1 ?_
      · rw [← hr]; exact hb
      · simpa [flatUps] using p1
    cases hg : o.guard with
    | none =>
      simp only [hg] at h
      exact run r rfl (.inl hg) h
    | some jw =>
      obtain ⟨j, want⟩ := jw
      simp only [hg] at h
      split at h
      · cases h
      · rename_i t ht
        split at h
        · rename_i b hb
          have hs' := look_same hb
          cases b <;> cases want <;> simp only [cond_true, cond_false] at h
          · exact run _ hs' (.inr ⟨j, false, t, hg, ht, hb⟩) h
          · exact skip _ j t true hs' hg ht (.inl hb) h
          · exact skip _ j t false hs' hg ht (.inl hb) h
          · exact run _ hs' (.inr ⟨j, true, t, hg, ht, hb⟩) h
        · rename_i hb
          exact skip r j t want rfl hg ht (.inr hb) h
        · cases h
end
end Go.Ev

/-
  Regions whose order is open: any order comes to the same.
-/
namespace Go.Ev

theorem disj_spec {a b : List Nat} (h : disj a b = true) {id : Nat} (h1 : memB id a = true) (h2 : memB id b = true) : False := by
  unfold disj at h
  have := List.all_eq_true.1 h id ((memB_iff _ _).1 h1)
  rw [h2] at this
  cases this

theorem Inv.restr {get : Get} {J : Im} {μ : Mu} {w : World} (ids : List Nat) (h : Inv get J μ w) : Inv (restr ids get) J μ w := by
  have hr : ∀ id cs, Ev.restr ids get id = some cs → get id = some cs := fun id cs hi => by
    unfold Ev.restr at hi
    cases hm : memB id ids
    · rw [hm] at hi; cases hi
    · rw [hm] at hi; exact hi
  refine ⟨h.im, fun id cs hi => h.ob id cs (hr id cs hi), fun i i' l l' h1 h2 => h.sep i i' l l' ?_ ?_⟩
  · cases hg : Ev.restr ids get i with
    | none => exact absurd hg h1
    | some cs => rw [hr i cs hg]; simp
  · cases hg : Ev.restr ids get i' with
    | none => exact absurd hg h2
    | some cs => rw [hr i' cs hg]; simp

theorem flat_restr {fl : List Nat} {get : Get} (ids : List Nat) (h : FlatInv fl get) : FlatInv fl (restr ids get) := by
  intro id hm cs hc
  refine h id hm cs ?_
  unfold restr at hc
  cases hm : memB id ids
  · rw [hm] at hc; cases hc
  · rw [hm] at hc; exact hc

/-- What has been done with a part of the objects has been done with all. -/
theorem merge {get get' : Get} {ids : List Nat} {u : Ups} {J J' : Im} {μ μ' : Mu} {w w' : World} (hI : Inv get J μ w) (hg' : get' = upd u (restr ids get)) (h1 : Inv get' J' μ' w') (h2 : Ext (restr ids get) J μ w get' J' μ' w') :
    Inv (upd u get) J' μ' w' ∧ Ext get J μ w (upd u get) J' μ' w' := by
  subst hg'
  -- an object that is not looked at
  have out : ∀ id, lk u id = none → memB id ids = false → upd u get id = get id := fun id hl _ => by rw [upd_lk, hl]; rfl
  have inn : ∀ id, (lk u id ≠ none ∨ memB id ids = true) → upd u get id = upd u (restr ids get) id := fun id h => by
    rw [upd_lk, upd_lk]
    cases hl : lk u id with
    | some c => rfl
    | none =>
      have hm := h.resolve_left fun hn => hn hl
      simp [restr, hm]
  have dec : ∀ id, (lk u id = none ∧ memB id ids = false) ∨ (lk u id ≠ none ∨ memB id ids = true) := fun id => by
    cases hl : lk u id with
    | some c => exact .inr (.inl (by simp))
    | none =>
      cases hm : memB id ids
      · exact .inl ⟨rfl, rfl⟩
      · exact .inr (.inr rfl)
  have nown : ∀ id cs l, get id = some cs → memB id ids = false → μ id = some l → ¬ Own (restr ids get) μ l.blk := by
    rintro id cs l hg hm hl ⟨id', l', h1', h2', h3'⟩
    have hm' : memB id' ids = true := by
      unfold restr at h1'
      cases hm' : memB id' ids
      · rw [hm'] at h1'; simp at h1'
      · rfl
    have hg2 : get id' ≠ none := by unfold restr at h1'; rw [hm'] at h1'; simpa using h1'
    have := hI.sep id id' l l' (by rw [hg]; simp) hg2 hl h2' h3'.symm
    subst this
    rw [hm] at hm'; cases hm'
  have frame : ∀ id cs l, get id = some cs → memB id ids = false → μ id = some l → w'.heap[l.blk]? = w.heap[l.blk]? ∧ l.blk < w.heap.size := fun id cs l hg hm hl =>
    ⟨h2.frame l.blk (hI.lt hg hl) (nown id cs l hg hm hl), hI.lt hg hl⟩
  refine ⟨⟨h1.im, fun id cs hi => ?_, fun i i' l l' hi hi' hl hl' hb => ?_⟩, ⟨h2.size, h2.mu, h2.im, h2.imNew, fun b hb hn => ?_, fun b hb => ?_, h2.os, h2.out⟩⟩
  · rcases dec id with ⟨d1, d2⟩ | d
    · rw [out id d1 d2] at hi
      obtain ⟨l, gc, elem, k1, k2, k3, k4, k5, k6, k7⟩ := hI.ob id cs hi
      obtain ⟨f1, f2⟩ := frame id cs l hi d2 k1
      refine ⟨l, gc, elem, h2.mu _ _ k1, ?_, by rw [f1]; exact k3, k4, k5, k6, fun j v hv => ?_⟩
      · cases hj : J' l.blk with
        | none => rfl
        | some c =>
          have := h2.imNew _ _ hj k2
          omega
      · obtain ⟨g, g1, g2⟩ := k7 j v hv
        exact ⟨g, g1, g2.mono h2.im h2.mu⟩
    · rw [inn id d] at hi
      exact h1.ob id cs hi
  · -- two objects in one block
    have cross : ∀ i i' l l', lk u i = none → memB i ids = false → (lk u i' ≠ none ∨ memB i' ids = true) → upd u get i ≠ none → upd u get i' ≠ none → μ' i = some l → μ' i' = some l' → l.blk = l'.blk → False := by
      intro i i' l l' d1 d2 d' hi hi' hl hl' hb
      rw [out i d1 d2] at hi
      rw [inn i' d'] at hi'
      cases hg : get i with
      | none => exact hi hg
      | some cs =>
        obtain ⟨l0, gc, elem, k1, k2, k3, k4, k5, k6, k7⟩ := hI.ob i cs hg
        have : l0 = l := by
          have := h2.mu _ _ k1
          rw [hl] at this
          exact (Option.some.inj this).symm
        subst this
        rcases h2.own l0.blk ⟨i', l', hi', hl', hb.symm⟩ with ho | ho
        · exact nown i cs l0 hg d2 k1 ho
        · have := hI.lt hg k1
          omega
    rcases dec i with ⟨d1, d2⟩ | d
    · rcases dec i' with ⟨e1, e2⟩ | e
      · rw [out i d1 d2] at hi
        rw [out i' e1 e2] at hi'
        cases hg : get i with
        | none => exact absurd hg hi
        | some cs =>
          cases hg' : get i' with
          | none => exact absurd hg' hi'
          | some cs' =>
            obtain ⟨l0, _, _, k1, _⟩ := hI.ob i cs hg
            obtain ⟨l1, _, _, m1, _⟩ := hI.ob i' cs' hg'
            have q0 := h2.mu _ _ k1
            have q1 := h2.mu _ _ m1
            rw [hl] at q0
            rw [hl'] at q1
            cases q0
            cases q1
            exact hI.sep i i' _ _ hi hi' k1 m1 hb
      · exact (cross i i' l l' d1 d2 e hi hi' hl hl' hb).elim
    · rcases dec i' with ⟨e1, e2⟩ | e
      · exact (cross i' i l' l e1 e2 d hi' hi hl' hl hb.symm).elim
      · rw [inn i d] at hi
        rw [inn i' e] at hi'
        exact h1.sep i i' l l' hi hi' hl hl' hb
  · refine h2.frame b hb fun ⟨id, l, q1, q2, q3⟩ => hn ⟨id, l, ?_, q2, q3⟩
    unfold restr at q1
    cases hm : memB id ids
    · rw [hm] at q1; simp at q1
    · rw [hm] at q1; simpa using q1
  · obtain ⟨id, l, q1, q2, q3⟩ := hb
    rcases dec id with ⟨d1, d2⟩ | d
    · rw [out id d1 d2] at q1
      cases hg : get id with
      | none => exact absurd hg q1
      | some cs =>
        obtain ⟨l0, _, _, k1, _⟩ := hI.ob id cs hg
        have q0 := h2.mu _ _ k1
        rw [q2] at q0
        cases q0
        exact .inl ⟨id, l, by rw [hg]; simp, k1, q3⟩
    · rw [inn id d] at q1
      rcases h2.own b ⟨id, l, q1, q2, q3⟩ with ⟨id', l', r1, r2, r3⟩ | ho
      · refine .inl ⟨id', l', ?_, r2, r3⟩
        unfold restr at r1
        cases hm : memB id' ids
        · rw [hm] at r1; simp at r1
        · rw [hm] at r1; simpa using r1
      · exact .inr ho

/-- An object that an operation has made or written is flat where it is told to be. -/
def HeadOK (fl0 : List Nat) (c : Rec) : Prop := (∀ id cs rest, c.ups = (id, some cs) :: rest → c.flag = true → ∀ v ∈ cs, noRefB v = true) ∧ keepsFlat fl0 c.flag c.ups = true

theorem HeadOK.flat {fl0 fl : List Nat} {c : Rec} {get : Get} (h : HeadOK fl0 c) (hf : FlatInv fl get) : FlatInv (flatUps fl c.flag c.ups) (upd c.ups get) := by
  obtain ⟨h1, h2⟩ := h
  intro id hm cs hc
  cases hu : c.ups with
  | nil =>
    rw [hu] at hm hc
    rw [upd_nil] at hc
    exact hf id hm cs hc
  | cons p rest =>
    obtain ⟨k, x⟩ := p
    rw [hu] at hm hc
    rw [hu] at h2
    simp only [keepsFlat, Bool.and_eq_true] at h2
    rw [upd_cons] at hc
    have tail : upd rest get id = some cs → get id = some cs := fun ht => by
      rw [upd_lk] at ht
      cases hl : lk rest id with
      | none => rw [hl] at ht; exact ht
      | some c' =>
        rw [hl] at ht
        simp only [Option.getD_some] at ht
        subst ht
        exfalso
        have : ∀ (u : Ups), u.all (fun p => p.2.isNone) = true → lk u id ≠ some (some cs) := by
          intro u hu hl
          induction u with
          | nil => cases hl
          | cons q u ih =>
            obtain ⟨k', c'⟩ := q
            simp only [List.all_cons, Bool.and_eq_true] at hu
            simp only [lk] at hl
            split at hl
            · cases hl; exact absurd hu.1 (by simp)
            · exact ih hu.2 hl
        exact this rest h2.2 hl
    by_cases e : k = id
    · rw [if_pos e] at hc
      cases hfl : c.flag
      · rw [hfl] at hm
        simp only [flatUps, cond_false] at hm
        exact absurd e.symm ((memB_filter _ _ _).1 hm).2
      · subst hc
        exact h1 k cs rest hu hfl
    · rw [if_neg e] at hc
      refine hf id ?_ cs (tail hc)
      cases hfl : c.flag
      · rw [hfl] at hm
        exact ((memB_filter _ _ _).1 hm).1
      · rw [hfl] at hm
        simp only [flatUps, cond_true] at hm
        cases hk : memB k fl
        · rw [hk] at hm
          exact ((memB_cons _ _ _).1 hm).resolve_left e
        · rw [hk] at hm; exact hm

theorem HeadOK.flat0 {fl0 : List Nat} {c : Rec} {get : Get} (h : HeadOK fl0 c) (hf : FlatInv fl0 get) : FlatInv fl0 (upd c.ups get) := by
  have h' := h.flat hf
  obtain ⟨h1, h2⟩ := h
  intro id hm cs hc
  refine h' id ?_ cs hc
  cases hu : c.ups with
  | nil => exact hm
  | cons p rest =>
    obtain ⟨k, x⟩ := p
    rw [hu] at h2
    simp only [keepsFlat, Bool.and_eq_true] at h2
    cases hfl : c.flag
    · rw [hfl] at h2
      simp only [flatUps, cond_false]
      refine (memB_filter _ _ _).2 ⟨hm, fun e => ?_⟩
      subst e
      rw [hm] at h2
      simp at h2
    · simp only [flatUps, cond_true]
      cases hk : memB k fl0
      · exact (memB_cons _ _ _).2 (.inr hm)
      · exact hm
end Go.Ev

/-
  Regions whose order is open: one operation more, in any order.
-/
namespace Go.Ev

section
variable {α : Type} {E : Env} {n : Nat} {all : Array Oper} {nx : Nat} {fl0 : List Nat} {R0 : Nat → V} {g0 : Get} {rc : Nat → Rec} {J0 : Im} {μ0 : Mu} {w0 : World}

/-- The state behind those operations that a set holds. -/
structure SimL (n : Nat) (all : Array Oper) (nx : Nat) (fl0 : List Nat) (R0 : Nat → V) (g0 : Get) (rc : Nat → Rec) (J0 : Im) (μ0 : Mu) (w0 : World) (L : Nat → Bool) (J : Im) (μ : Mu) (a : Act) (w : World) : Prop where
  regs : ∀ t, Rv J μ (SR rc R0 L all.size t) (a.tmps.getD t undef)
  size : a.tmps.size = n
  defers : a.defers = []
  inv : Inv (SG rc g0 L all.size) J μ w
  fresh : ∀ i, nx ≤ i → (∀ k, k < all.size → L k = true → i ≠ nx + k) → μ i = none
  flat : FlatInv fl0 (SG rc g0 L all.size)
  head : ∀ k, k < all.size → L k = true → HeadOK fl0 (rc k)
  ext : Ext g0 J0 μ0 w0 (SG rc g0 L all.size) J μ w

def Closed (rc : Nat → Rec) (N : Nat) (L : Nat → Bool) : Prop := ∀ j, j < N → L j = true → ∀ m, memB m (rc j).d.anc = true → L m = true

theorem pres_get {k j : Nat} (h : j < k) : (pres rc k)[j]? = some (rc j).d := by simp [pres, h]

/-- Two operations of which neither must come ahead of the other. -/
theorem quiet_two (hs : ∀ k, k < all.size → Step E n all nx fl0 R0 g0 rc k) {L : Nat → Bool} (hc : Closed rc all.size L) {k : Nat} (hk : k < all.size) (hL : L k = false) (ha : ∀ m, memB m (rc k).d.anc = true → L m = true) {o : Oper} (ho : all[k]? = some o)
    {j : Nat} (hj : j < all.size) (hne : L j ≠ decide (j < k)) : ∃ oj, all[j]? = some oj ∧ oj.dst = (rc j).dst ∧ (∀ t, oj.dst = some t → t ∉ o.looksAt all) ∧ disj (rc j).d.wr (rc k).d.foot = true := by
  obtain ⟨oj, sj⟩ := hs j hj
  obtain ⟨ok, sk⟩ := hs k hk
  have e : ok = o := by
    have := sk.at_
    rw [ho] at this
    exact (Option.some.inj this).symm
  subst e
  refine ⟨oj, sj.at_, sj.dst.symm, ?_⟩
  rcases Nat.lt_trichotomy j k with h | h | h
  · rcases sk.quiet j _ (pres_get h) with q | ⟨q1, q2, q3, p, q4, q5⟩
    · rw [ha j q] at hne
      simp [h] at hne
    · have e : p = oj := by
        rw [sj.at_] at q4
        exact (Option.some.inj q4).symm
      subst e
      exact ⟨fun t ht => (Oper.apart_spec q5).1 t ht, q1⟩
  · subst h
    rw [hL] at hne
    simp at hne
  · rcases sj.quiet k _ (pres_get h) with q | ⟨q1, q2, q3, p, q4, q5⟩
    · have : L j = false := by
        cases hLj : L j
        · rfl
        · have := hc j hj hLj k q
          rw [hL] at this; cases this
      rw [this] at hne
      have : ¬ j < k := by omega
      simp [this] at hne
    · have e : p = ok := by
        rw [ho] at q4
        exact (Option.some.inj q4).symm
      subst e
      exact ⟨fun t ht => (Oper.apart_spec q5).2.2 t ht, q2⟩

theorem quiet_later (hs : ∀ k, k < all.size → Step E n all nx fl0 R0 g0 rc k) {L : Nat → Bool} (hc : Closed rc all.size L) {k : Nat} (hL : L k = false) {o : Oper} (ho : all[k]? = some o)
    {j : Nat} (hkj : k < j) (hj : j < all.size) (hLj : L j = true) : (∀ t, o.dst = some t → (rc j).dst ≠ some t) ∧ disj (rc j).d.wr (rc k).d.wr = true := by
  obtain ⟨oj, sj⟩ := hs j hj
  rcases sj.quiet k _ (pres_get hkj) with q | ⟨q1, q2, q3, p, q4, q5⟩
  · have := hc j hj hLj k q
    rw [hL] at this; cases this
  · have e : p = o := by
      rw [ho] at q4
      exact (Option.some.inj q4).symm
    subst e
    refine ⟨fun t ht => ?_, q3⟩
    rw [sj.dst]
    exact (Oper.apart_spec q5).2.1 t ht

theorem SR_look (hs : ∀ k, k < all.size → Step E n all nx fl0 R0 g0 rc k) {L : Nat → Bool} (hc : Closed rc all.size L) {k : Nat} (hk : k < all.size) (hL : L k = false) (ha : ∀ m, memB m (rc k).d.anc = true → L m = true) {o : Oper} (ho : all[k]? = some o)
    {t : Nat} (ht : t ∈ o.looksAt all) : SR rc R0 L all.size t = SR rc R0 (fun _ => true) k t := by
  refine SS_at (Nat.le_of_lt hk) fun j hj hw => ?_
  apply Classical.byContradiction
  intro hne
  obtain ⟨oj, h1, h2, h3, h4⟩ := quiet_two hs hc hk hL ha ho hj hne
  unfold wrR at hw
  split at hw
  · rename_i hd
    exact h3 t (h2.trans hd) ht
  · exact hw rfl

theorem SG_foot (hs : ∀ k, k < all.size → Step E n all nx fl0 R0 g0 rc k) {L : Nat → Bool} (hc : Closed rc all.size L) {k : Nat} (hk : k < all.size) (hL : L k = false) (ha : ∀ m, memB m (rc k).d.anc = true → L m = true) :
    restr (rc k).d.foot (SG rc g0 L all.size) = restr (rc k).d.foot (SG rc g0 (fun _ => true) k) := by
  obtain ⟨o, sk⟩ := hs k hk
  funext id
  unfold restr
  cases hm : memB id (rc k).d.foot
  · rfl
  · simp only [cond_true]
    refine SS_at (Nat.le_of_lt hk) fun j hj hw => ?_
    apply Classical.byContradiction
    intro hne
    obtain ⟨oj, h1, h2, h3, h4⟩ := quiet_two hs hc hk hL ha sk.at_ hj hne
    obtain ⟨_, sj⟩ := hs j hj
    refine disj_spec h4 ?_ hm
    rw [sj.wr]
    cases hb : memB id ((rc j).ups.map (·.1))
    · exact absurd (lk_none.2 hb) hw
    · rfl

theorem eval_look (hs : ∀ k, k < all.size → Step E n all nx fl0 R0 g0 rc k) {L : Nat → Bool} (hc : Closed rc all.size L) {k : Nat} (hk : k < all.size) (hL : L k = false) (ha : ∀ m, memB m (rc k).d.anc = true → L m = true) {o : Oper} (ho : all[k]? = some o) :
    ∀ x ∈ o.op.operands, evalF (SR rc R0 L all.size) x = evalF (SR rc R0 (fun _ => true) k) x := by
  intro x hx
  cases x with
  | tmp t =>
    refine SR_look hs hc hk hL ha ho ?_
    unfold Oper.looksAt
    rw [List.mem_append]
    refine .inl (List.mem_filterMap.2 ⟨.tmp t, by simpa using hx, rfl⟩)
  | _ => rfl

theorem evalF_sound {J : Im} {μ : Mu} {R : Nat → V} {a : Act} (h : ∀ t, Rv J μ (R t) (a.tmps.getD t undef)) (x : Operand) : Rv J μ (evalF R x) (a.eval x) := by
  cases x with
  | tmp t => exact h t
  | const v => exact rv_ofVal v
  | global g => exact .und
  | func f => exact .fn rfl rfl (fun j v g hv => by simp at hv) (fun j v g hv => by simp at hv)

theorem head_of {c : Rec} {get : Get} (h : FlatInv (flatUps fl0 c.flag c.ups) (upd c.ups get)) (hk : keepsFlat fl0 c.flag c.ups = true) : HeadOK fl0 c := by
  refine ⟨fun id cs rest hu hf v hv => ?_, hk⟩
  rw [hu, hf] at h
  refine h id ?_ cs (by rw [upd_cons, if_pos rfl]) v hv
  simp only [flatUps, cond_true]
  cases hm : memB id fl0
  · exact (memB_cons _ _ _).2 (.inl rfl)
  · exact hm

theorem stepL_sound (hS : SOK E) (hs : ∀ k, k < all.size → Step E n all nx fl0 R0 g0 rc k) {L : Nat → Bool} (hc : Closed rc all.size L) {k : Nat} (hk : k < all.size) (hL : L k = false) (ha : ∀ m, memB m (rc k).d.anc = true → L m = true)
    {J : Im} {μ : Mu} {a : Act} {w : World} {Q : Exit → Act → World → Prop} {X : Act → World → Prop} (sim : SimL n all nx fl0 R0 g0 rc J0 μ0 w0 L J μ a w)
    (hX : ∀ J' μ' a' w', SimL n all nx fl0 R0 g0 rc J0 μ0 w0 (fun j => L j || Nat.beq j k) J' μ' a' w' → X a' w') : wpOp E.P all Q k X a w := by
  obtain ⟨o, sk⟩ := hs k hk
  have ho := sk.at_
  -- what the state is behind it
  have fin : ∀ (J' : Im) (μ' : Mu) (g : Value) (w' : World), Rv J' μ' (rc k).v g → Inv (upd (rc k).ups (SG rc g0 L all.size)) J' μ' w' → Ext (SG rc g0 L all.size) J μ w (upd (rc k).ups (SG rc g0 L all.size)) J' μ' w' →
      (∀ i, nx ≤ i → i ≠ nx + k → μ' i = μ i) → HeadOK fl0 (rc k) → X (a.put o.dst g) w' := by
    intro J' μ' g w' h1 h2 h3 h4 h5
    have hSR : ∀ t, SR rc R0 (fun j => L j || Nat.beq j k) all.size t = (wrR rc k t).getD (SR rc R0 L all.size t) := fun t => by
      refine SS_add hL all.size hk fun j hkj hj hLj hw => ?_
      obtain ⟨q1, q2⟩ := quiet_later hs hc hL ho hkj hj hLj
      unfold wrR at hw ⊢
      split at hw
      · rename_i hd
        rw [sk.dst] at hd
        exact if_neg (q1 t hd)
      · exact absurd rfl hw
    have hSG : SG rc g0 (fun j => L j || Nat.beq j k) all.size = upd (rc k).ups (SG rc g0 L all.size) := by
      funext id
      rw [upd_lk]
      refine SS_add hL all.size hk fun j hkj hj hLj hw => ?_
      obtain ⟨q1, q2⟩ := quiet_later hs hc hL ho hkj hj hLj
      obtain ⟨_, sj⟩ := hs j hj
      unfold wrG at hw ⊢
      rw [lk_none]
      cases hb : memB id ((rc j).ups.map (·.1))
      · rfl
      · exfalso
        refine disj_spec q2 (by rw [sj.wr]; exact hb) ?_
        rw [sk.wr]
        cases hb' : memB id ((rc k).ups.map (·.1))
        · exact absurd (lk_none.2 hb') hw
        · rfl
    refine hX J' μ' _ w' ⟨fun t => ?_, ?_, ?_, by rw [hSG]; exact h2, fun i hi hn => ?_, by rw [hSG]; exact h5.flat0 sim.flat, fun j hj hLj => ?_, by rw [hSG]; exact sim.ext.trans h3⟩
    · rw [hSR t]
      have old := (sim.regs t).mono h3.im h3.mu
      unfold wrR
      rw [sk.dst]
      cases hd : o.dst with
      | none => simpa [Act.put] using old
      | some d =>
        have hlt := sk.lt d hd
        simp only [Option.some.injEq, Act.put]
        split
        · rename_i e
          subst e
          have : (a.tmps.setIfInBounds d g).getD d undef = g := by simp [Array.getD, sim.size, hlt]
          rw [this]
          exact h1
        · rename_i e
          have : (a.tmps.setIfInBounds d g).getD t undef = a.tmps.getD t undef := by
            have h1 : (a.tmps.setIfInBounds d g)[t]? = a.tmps[t]? := Array.getElem?_setIfInBounds_ne e
            rw [Array.getD_eq_getD_getElem?, Array.getD_eq_getD_getElem?, h1]
          rw [this]
          exact old
    · cases o.dst <;> simp [Act.put, sim.size]
    · cases o.dst <;> simp [Act.put, sim.defers]
    · rw [h4 i hi (hn k hk (by simp))]
      exact sim.fresh i hi fun j hj hLj => hn j hj (by simp [hLj])
    · cases hLj' : L j
      · have : j = k := by
          simp only [hLj', Bool.false_or] at hLj
          exact Nat.eq_of_beq_eq_true hLj
        subst this
        exact h5
      · exact sim.head j hj hLj'
  have same : HeadOK fl0 (rc k) → (rc k).ups = [] → ∀ g, Rv J μ (rc k).v g → X (a.put o.dst g) w := fun hh hu g hv => by
    refine fin J μ g w hv ?_ ?_ (fun _ _ _ => rfl) hh
    · rw [hu, upd_nil]; exact sim.inv
    · rw [hu, upd_nil]; exact Ext.refl _ _ _ _
  have nilHead : (rc k).ups = [] → HeadOK fl0 (rc k) := fun hu => ⟨fun id cs rest h => (by rw [hu] at h; cases h), by rw [hu]; rfl⟩
  have guardL : ∀ j want t, o.guard = some (j, want) → guardT all.toList j = some t → t ∈ o.looksAt all := by
    intro j want t hg ht
    unfold Oper.looksAt
    rw [List.mem_append]
    refine .inr ?_
    unfold guardT at ht
    rw [getAt_eq, Array.getElem?_toList] at ht
    simp only [hg]
    cases hj : all[j]? with
    | none => rw [hj] at ht; cases ht
    | some oj =>
      rw [hj] at ht
      simp only at ht
      simp [ht]
  have guardR : ∀ j want t b, o.guard = some (j, want) → guardT all.toList j = some t → SR rc R0 (fun _ => true) k t = .bool b → Region.wanted o (yielded all a.tmps) = (b == want) := by
    intro j want t b hg ht hb
    have htl : t ∈ o.looksAt all := by
      unfold Oper.looksAt
      rw [List.mem_append]
      refine .inr ?_
      unfold guardT at ht
      rw [getAt_eq, Array.getElem?_toList] at ht
      simp only [hg]
      cases hj : all[j]? with
      | none => rw [hj] at ht; cases ht
      | some oj =>
        rw [hj] at ht
        simp only at ht
        simp [ht]
    have hbv : a.tmps.getD t undef = .bool b := by
      have := sim.regs t
      rw [SR_look hs hc hk hL ha ho htl, hb] at this
      generalize a.tmps.getD t undef = g at this
      cases this
      rfl
    exact guard_spec hg ht hbv (undef_lt hbv)
  unfold wpOp
  simp only [ho]
  rcases sk.act with ⟨hv, hu, j, want, t, hg, ht, hb⟩ | ⟨hg, hact⟩
  · have hw : Region.wanted o (yielded all a.tmps) = false := by
      rcases hb with hb | hb
      · rw [guardR j want t _ hg ht hb]
        cases want <;> rfl
      · exact guard_undef hg ht (by have := sim.regs t; rw [SR_look hs hc hk hL ha ho (guardL j want t hg ht), hb] at this; exact this)
    rw [hw]
    simp only [Bool.false_eq_true, if_false]
    exact same (nilHead hu) hu undef (by rw [hv]; exact rv_undef)
  · have hw : Region.wanted o (yielded all a.tmps) = true := by
      rcases hg with hg | ⟨j, want, t, hg, ht, hb⟩
      · simp [Region.wanted, hg]
      · rw [guardR j want t _ hg ht hb]
        cases want <;> rfl
    simp only [hw, if_true]
    refine .inl ?_
    have hops := eval_look hs hc hk hL ha ho
    have hev := evalF_sound sim.regs
    rcases hact with ⟨q, p1, p2, t, hop, ht, hv, hu⟩ | ⟨m, hoe, hm, hkf, hfl⟩
    · rw [hop] at hops
      simp only [Op.operands] at hops
      have hb : a.eval q = .bool t := by
        have := hev q
        rw [hops q (by simp), ht] at this
        generalize a.eval q = gq at this
        cases this
        rfl
      refine wp_of_res (Φ := fun g w' => g = a.eval (if t then p1 else p2) ∧ w' = w) (.inl ⟨a.eval (if t then p1 else p2), w, ?_, rfl, rfl⟩) ?_
      · unfold execOp
        rw [hop]
        simp only [Sem.run_bind, hb, asBool, Sem.run_pure, Result.andThen_ok]
        cases t <;> rfl
      · rintro g w' ⟨rfl, rfl⟩
        refine same (nilHead hu) hu _ ?_
        rw [hv, ← hops (if t then p1 else p2) (by cases t <;> simp)]
        exact hev _
    · rw [← SG_foot hs hc hk hL ha, ← opE_congr E _ _ _ o hops] at hoe
      rw [← flagE_congr _ _ o hops] at hfl
      have hres := opE_sound2 hS (Inv.restr (rc k).d.foot sim.inv) (flat_restr _ sim.flat) hev hoe (fun i hi hi' => sim.fresh i (by dsimp only at hi'; omega) fun j hj hLj => by
        dsimp only at hi'
        have : i = nx + k := by omega
        subst this
        intro e
        have : j = k := by omega
        subst this
        rw [hL] at hLj; cases hLj)
      refine wp_of_res hres ?_
      rintro g w' ⟨⟨J', μ', g1, g2, g3, g4⟩, hflat⟩
      obtain ⟨m1, m2⟩ := merge sim.inv rfl g2 g3
      refine fin J' μ' g w' g1 m1 m2 (fun i hi hne => g4 i ?_) (head_of (get := restr (rc k).d.foot (SG rc g0 L all.size)) ?_ hkf)
      · dsimp only
        omega
      · rw [hfl]; exact hflat
end
end Go.Ev

/-
  Regions whose order is open: all orders.
-/
namespace Go.Ev

def cntL (L : Nat → Bool) : Nat → Nat
  | 0 => 0
  | m + 1 => cntL L m + if L m = true then 0 else 1

theorem cntL_agree {L L' : Nat → Bool} : ∀ N, (∀ j, j < N → L j = L' j) → cntL L N = cntL L' N
  | 0, _ => rfl
  | N + 1, h => by simp only [cntL, h N (Nat.lt_succ_self N), cntL_agree N fun j hj => h j (Nat.lt_succ_of_lt hj)]

theorem beq_ne {a b : Nat} (h : a ≠ b) : Nat.beq a b = false := by
  cases hb : Nat.beq a b
  · rfl
  · exact absurd (Nat.eq_of_beq_eq_true hb) h

theorem cntL_add {L : Nat → Bool} {k : Nat} (hL : L k = false) : ∀ N, k < N → cntL (fun j => L j || Nat.beq j k) N + 1 = cntL L N
  | 0, h => by omega
  | N + 1, h => by
    by_cases e : k = N
    · subst e
      have : cntL (fun j => L j || Nat.beq j k) k = cntL L k := cntL_agree k fun j hj => by simp [beq_ne (Nat.ne_of_lt hj)]
      simp only [cntL, this, hL, Nat.beq_refl]
      simp
    · have ih := cntL_add hL N (by omega)
      simp only [cntL, beq_ne (fun h : N = k => e h.symm), Bool.or_false]
      omega

theorem cntL_zero {L : Nat → Bool} : ∀ N, cntL L N = 0 → ∀ j, j < N → L j = true
  | 0, _, j, hj => by omega
  | N + 1, h, j, hj => by
    simp only [cntL] at h
    by_cases e : j = N
    · subst e
      cases hl : L j
      · rw [hl] at h; simp at h
      · rfl
    · exact cntL_zero N (by omega) j (by omega)

theorem cntL_le {L : Nat → Bool} : ∀ N, cntL L N ≤ N
  | 0 => Nat.le_refl _
  | N + 1 => by
    have := cntL_le (L := L) N
    simp only [cntL]
    split <;> omega

section
variable {α : Type} {E : Env} {n : Nat} {all : Array Oper} {nx : Nat} {fl0 : List Nat} {R0 : Nat → V} {g0 : Get} {rc : Nat → Rec} {J0 : Im} {μ0 : Mu} {w0 : World}

def LL (listed : Array Bool) : Nat → Bool := fun j => listed.getD j false

theorem LL_set {listed : Array Bool} {k : Nat} (h : k < listed.size) : LL (listed.setIfInBounds k true) = fun j => LL listed j || Nat.beq j k := by
  funext j
  unfold LL
  by_cases e : k = j
  · subst e
    simp [h]
  · rw [getD_set_ne false e, beq_ne (fun h : j = k => e h.symm), Bool.or_false]

theorem flat_all {L : Nat → Bool} {g : Get} (h0 : FlatInv fl0 g) (hh : ∀ k, k < all.size → HeadOK fl0 (rc k)) : ∀ m, m ≤ all.size → FlatInv (SF rc fl0 m) (SG rc g (fun _ => true) m)
  | 0, _ => h0
  | m + 1, hm => by
    have ih := flat_all (L := L) h0 hh m (by omega)
    have := (hh m (by omega)).flat ih
    simp only [SF]
    have e : SG rc g (fun _ => true) (m + 1) = upd (rc m).ups (SG rc g (fun _ => true) m) := by
      funext id
      rw [upd_lk]
      simp only [SG, SS, if_true, wrG]
    rw [e]
    exact this

theorem any_sound (hS : SOK E) (hs : ∀ k, k < all.size → Step E n all nx fl0 R0 g0 rc k) {Q : Exit → Act → World → Prop}
    (hQ : ∀ J μ a w, (∀ t, Rv J μ (SR rc R0 (fun _ => true) all.size t) (a.tmps.getD t undef)) → a.tmps.size = n → a.defers = [] → Inv (SG rc g0 (fun _ => true) all.size) J μ w → (∀ i, nx + all.size ≤ i → μ i = none) →
      (∀ k, k < all.size → HeadOK fl0 (rc k)) → Ext g0 J0 μ0 w0 (SG rc g0 (fun _ => true) all.size) J μ w → Q .normal a w) :
    ∀ (fuel : Nat) (listed : Array Bool) (J : Im) (μ : Mu) (a : Act) (w : World), listed.size = all.size → Closed rc all.size (LL listed) → cntL (LL listed) all.size ≤ fuel → SimL n all nx fl0 R0 g0 rc J0 μ0 w0 (LL listed) J μ a w →
      wpAny E.P .any all Q fuel listed a w := by
  -- nothing is ready: all is listed
  have done : ∀ listed : Array Bool, listed.size = all.size → Region.ready .any all listed = [] → ∀ j, j < all.size → LL listed j = true := by
    intro listed hsz hr j
    induction j using Nat.strongRecOn with
    | _ j ih =>
      intro hj
      cases hL : LL listed j
      · exfalso
        obtain ⟨o, sk⟩ := hs j hj
        have hm : j ∈ Region.ready .any all listed := by
          rw [mem_ready]
          refine ⟨?_, o, sk.at_, fun e he hb => ?_⟩
          · unfold LL at hL
            have hlt : j < listed.size := by omega
            simpa [Array.getD, hlt] using hL
          · obtain ⟨h1, _⟩ := (anc_spec _ _ sk.anc).1 e (Array.mem_toList_iff.2 he) hb
            exact ih e.on h1 (by omega)
        rw [hr] at hm
        cases hm
      · rfl
  have fin : ∀ (listed : Array Bool) (J : Im) (μ : Mu) (a : Act) (w : World), (∀ j, j < all.size → LL listed j = true) → SimL n all nx fl0 R0 g0 rc J0 μ0 w0 (LL listed) J μ a w → Q .normal a w := by
    intro listed J μ a w hall sim
    have e1 : SR rc R0 (LL listed) all.size = SR rc R0 (fun _ => true) all.size := by
      funext t
      exact SS_agree _ fun j hj _ => hall j hj
    have e2 : SG rc g0 (LL listed) all.size = SG rc g0 (fun _ => true) all.size := by
      funext t
      exact SS_agree _ fun j hj _ => hall j hj
    refine hQ J μ a w (by rw [← e1]; exact sim.regs) sim.size sim.defers (by rw [← e2]; exact sim.inv) (fun i hi => sim.fresh i (by omega) fun k hk _ => by omega) (fun k hk => sim.head k hk (hall k hk)) (by rw [← e2]; exact sim.ext)
  intro fuel
  induction fuel with
  | zero =>
    intro listed J μ a w hsz hc hf sim
    have hall := cntL_zero all.size (by omega : cntL (LL listed) all.size = 0)
    refine ⟨?_, fin listed J μ a w hall sim⟩
    cases hr : Region.ready .any all listed with
    | nil => rfl
    | cons k ks =>
      exfalso
      have hm : k ∈ Region.ready .any all listed := by rw [hr]; exact List.mem_cons_self
      rw [mem_ready] at hm
      obtain ⟨h0, o, ho, _⟩ := hm
      have hk : k < all.size := (Array.getElem?_eq_some_iff.1 ho).1
      have := hall k hk
      unfold LL at this
      have hlt : k < listed.size := by omega
      simp [Array.getD, hlt] at this h0
      rw [this] at h0
      cases h0
  | succ fuel ih =>
    intro listed J μ a w hsz hc hf sim
    refine ⟨fun hr => fin listed J μ a w (done listed hsz hr) sim, fun k hk => ?_⟩
    rw [mem_ready] at hk
    obtain ⟨h0, o, ho, hall⟩ := hk
    have hk : k < all.size := (Array.getElem?_eq_some_iff.1 ho).1
    have hlt : k < listed.size := by omega
    have hL : LL listed k = false := by
      unfold LL
      simp [Array.getD, hlt] at h0 ⊢
      exact h0
    have ha : ∀ m, memB m (rc k).d.anc = true → LL listed m = true := by
      intro m hm
      obtain ⟨o', sk⟩ := hs k hk
      have e : o' = o := by
        have := sk.at_
        rw [ho] at this
        exact (Option.some.inj this).symm
      subst e
      obtain ⟨e, he, hb, hme⟩ := (anc_spec _ _ sk.anc).2 m hm
      have hon : LL listed e.on = true := hall e (Array.mem_toList_iff.1 he) hb
      rcases hme with rfl | ⟨d, hd, hmd⟩
      · exact hon
      · have hlt' : e.on < k := by
          have := (anc_spec _ _ sk.anc).1 e he hb
          exact this.1
        rw [pres_get hlt'] at hd
        cases hd
        exact hc e.on (by omega) hon m hmd
    refine stepL_sound hS hs hc hk hL ha sim fun J' μ' a' w' sim' => ?_
    refine ih _ J' μ' a' w' (by simp [hsz]) ?_ ?_ (by rw [LL_set hlt]; exact sim')
    · rw [LL_set hlt]
      intro j hj hLj m hm
      by_cases e : j = k
      · subst e
        simp [ha m hm]
      · simp only [beq_ne e, Bool.or_false] at hLj
        simp [hc j hj hLj m hm]
    · rw [LL_set hlt]
      have := cntL_add hL all.size hk
      omega
end

theorem draw_sound {α : Type} {E : Env} {n : Nat} {ops : Array Oper} {id nx : Nat} {r : Regs} {os : Ups} {fl : List Nat} {K : St → Option α} {x : α} {Q : Exit → Act → World → Prop} {J : Im} {μ : Mu} {a : Act} {w : World}
    (hP : E.P.follows .mixedOrders = true) (hS : SOK E) (h : drawK E n ops nx fl ops.toList 0 [] r os fl K = some x) (hs : Sim n ⟨r, os, nx, fl⟩ J μ a w)
    (hq : ∀ s' J' μ' a' w', K s' = some x → Sim n s' J' μ' a' w' → Ext (upd os noGet) J μ w s'.get J' μ' w' → Q .normal a' w') : (Code.region id ops true).wp E.P Q a w := by
  refine wp_region_any hP ?_
  obtain ⟨rc, r', os', t1, t2, t3, t4⟩ := drawK_trace (all := ops) (R0 := look r) (g0 := upd os noGet) (fl0 := fl) (nx := nx) ops.toList 0 (fun _ => ⟨⟨[], [], []⟩, none, .und, [], false⟩) r os fl (fun j => by simp) (fun k hk => by omega) rfl rfl rfl h
  simp only [Nat.zero_add, Array.length_toList] at t1 t2 t3 t4
  have hz : ∀ j, LL (Array.replicate ops.size false) j = false := fun j => by
    unfold LL
    rw [Array.getD_eq_getD_getElem?, Array.getElem?_replicate]
    split <;> rfl
  refine any_sound (J0 := J) (μ0 := μ) (w0 := w) hS t1 (fun J' μ' a' w' q1 q2 q3 q4 q5 q6 q7 => ?_) ops.size _ J μ a _ (by simp) (fun j _ hL => by rw [hz] at hL; cases hL) (cntL_le _) ?_
  · refine hq ⟨r', os', nx + ops.size, SF rc fl ops.size⟩ J' μ' a' w' t4 ⟨by dsimp only; rw [t2]; exact q1, q2, q3, by unfold St.get; rw [t3]; exact q4, q5, ?_⟩ (by unfold St.get; rw [t3]; exact q7)
    unfold St.get
    rw [t3]
    exact flat_all (all := ops) (L := fun _ => true) hs.flat q6 ops.size (Nat.le_refl _)
  · have e1 : SR rc (look r) (LL (Array.replicate ops.size false)) ops.size = look r := by
      funext t
      have : ∀ m, SS (wrR rc) (look r) (LL (Array.replicate ops.size false)) m t = look r t := by
        intro m
        induction m with
        | zero => rfl
        | succ m ih => simp only [SS, hz, Bool.false_eq_true, if_false]; exact ih
      exact this _
    have e2 : SG rc (upd os noGet) (LL (Array.replicate ops.size false)) ops.size = upd os noGet := by
      funext t
      have : ∀ m, SS (wrG rc) (upd os noGet) (LL (Array.replicate ops.size false)) m t = upd os noGet t := by
        intro m
        induction m with
        | zero => rfl
        | succ m ih => simp only [SS, hz, Bool.false_eq_true, if_false]; exact ih
      exact this _
    exact ⟨by rw [e1]; exact hs.regs, hs.size, hs.defers, by rw [e2]; exact hs.inv.heap rfl, fun i hi _ => hs.fresh i hi, by rw [e2]; exact hs.flat, fun k _ hL => (by rw [hz] at hL; cases hL), by rw [e2]; exact Ext.heap rfl⟩
end Go.Ev

/-
  Control: what a body comes to, by the evaluator.
-/
namespace Go.Ev

def Ex.out : Ex → Exit
  | .normal => .normal
  | .exit id => .exit id
  | .ret => .ret

theorem least {p : Nat → Prop} (h : ∃ m, p m) : ∃ m, p m ∧ ∀ k, p k → m ≤ k := by
  obtain ⟨m, hm⟩ := h
  induction m using Nat.strongRecOn with
  | _ m ih =>
    by_cases h : ∃ k, k < m ∧ p k
    · obtain ⟨k, hk, hp⟩ := h
      exact ih k hk hp
    · exact ⟨m, hm, fun k hk => Nat.le_of_not_lt fun hlt => h ⟨k, hlt, hk⟩⟩

/-- A loop that is left in time. -/
theorem wp_loop_fuel {P : Program} {Q : Exit → Act → World → Prop} {c : Code} {a : Act} {w : World} (I : Nat → Act → World → Prop) (m : Nat) (h₀ : I m a w)
    (round : ∀ m a w, I m a w → c.wp P (Exit.then (fun a' w' => ∃ k, k < m ∧ I k a' w') Q) a w) : (Code.loop c).wp P Q a w := by
  have hc : ∀ a w, ∃ m, (∃ k, I k a w) → I m a w ∧ ∀ k, I k a w → m ≤ k := fun a w => by
    by_cases h : ∃ k, I k a w
    · obtain ⟨m, h1, h2⟩ := least h
      exact ⟨m, fun _ => ⟨h1, h2⟩⟩
    · exact ⟨0, fun h' => absurd h' h⟩
  refine wp_loop (fun a w => ∃ k, I k a w) (fun a w => Classical.choose (hc a w)) ⟨m, h₀⟩ fun a w hI => ?_
  obtain ⟨h1, h2⟩ := Classical.choose_spec (hc a w) hI
  refine wp_mono (round _ a w h1) fun e a' w' hq => ?_
  cases e with
  | normal =>
    obtain ⟨k, hk, hI'⟩ := hq
    obtain ⟨_, h4⟩ := Classical.choose_spec (hc a' w') ⟨k, hI'⟩
    exact ⟨⟨k, hI'⟩, Nat.lt_of_le_of_lt (h4 k hI') hk⟩
  | _ => exact hq

/-! Numbers anew at a loop's head -/

theorem posOf_spec {id : Nat} : ∀ (l : List Nat) (i k : Nat), posOf id l i = some k → i ≤ k ∧ l[k - i]? = some id
  | [], i, k, h => by cases h
  | a :: l, i, k, h => by
    simp only [posOf] at h
    cases hb : Nat.beq a id
    · rw [hb] at h
      obtain ⟨h1, h2⟩ := posOf_spec l (i + 1) k h
      refine ⟨by omega, ?_⟩
      rw [show k - i = (k - (i + 1)) + 1 by omega]
      simpa using h2
    · rw [hb] at h
      simp only [cond_true, Option.some.injEq] at h
      subst h
      exact ⟨Nat.le_refl _, by simp [Nat.eq_of_beq_eq_true hb]⟩

def muN (base : Nat) (ids : List Nat) (μ : Mu) : Mu := fun i => if i < base then μ i else (ids[i - base]?).bind μ

theorem rnId_spec {base : Nat} {ids : List Nat} {μ : Mu} {id k : Nat} (h : rnId base ids id = some k) : muN base ids μ k = μ id := by
  unfold rnId at h
  cases hp : posOf id ids base with
  | some k' =>
    rw [hp] at h
    cases h
    obtain ⟨h1, h2⟩ := posOf_spec _ _ _ hp
    have : ¬ k < base := by omega
    simp [muN, this, h2]
  | none =>
    rw [hp] at h
    simp only at h
    cases hb : Nat.blt id base
    · rw [hb] at h; cases h
    rw [hb] at h
    simp only [cond_true, Option.some.injEq] at h
    subst h
    have : id < base := by simpa [Nat.blt_eq] using hb
    simp [muN, this]

section
variable {base : Nat} {ids : List Nat} {J : Im} {μ : Mu}

theorem rnL_sound {v : V} {g : Value} (h : Rv J μ v g) : Rv J (muN base ids μ) (rnL base ids v) g := by
  cases v with
  | mp id off =>
    simp only [rnL]
    split
    · rename_i k hk
      cases h with
      | mp hl => exact .mp (by rw [rnId_spec hk]; exact hl)
    · exact .und
  | ms id off len sz =>
    simp only [rnL]
    split
    · rename_i k hk
      cases h with
      | ms hl hc hz => exact .ms (by rw [rnId_spec hk]; exact hl) hc hz
    · exact .und
  | agg _ => exact .und
  | tup _ => exact .und
  | fn f a b =>
    cases a with
    | nil =>
      cases b with
      | nil => exact noRef_any h rfl
      | cons _ _ => exact .und
    | cons _ _ => exact .und
  | _ => exact noRef_any h rfl

theorem map_rel {f : V → V} (hf : ∀ v g, Rv J μ v g → Rv J (muN base ids μ) (f v) g) {cs : List V} {gs : Array Value} (h : ∀ (j : Nat) v g, cs[j]? = some v → gs[j]? = some g → Rv J μ v g) :
    ∀ (j : Nat) v g, (cs.map f)[j]? = some v → gs[j]? = some g → Rv J (muN base ids μ) v g := by
  intro j v g hv hg
  rw [List.getElem?_map] at hv
  cases hc : cs[j]? with
  | none => rw [hc] at hv; cases hv
  | some u =>
    rw [hc] at hv
    simp only [Option.map_some, Option.some.injEq] at hv
    subst hv
    exact hf u g (h j u g hc hg)

theorem rnV_sound {v : V} {g : Value} (h : Rv J μ v g) : Rv J (muN base ids μ) (rnV base ids v) g := by
  cases v with
  | agg cs =>
    cases h with
    | agg hs ho hp => exact .agg (by simp [hs]) ho (map_rel (fun v g => rnL_sound) hp)
  | fn f a b =>
    cases h with
    | fn h1 h2 h3 h4 => exact .fn (by simp [h1]) (by simp [h2]) (map_rel (fun v g => rnL_sound) h3) (map_rel (fun v g => rnL_sound) h4)
  | tup _ => exact .und
  | _ => exact rnL_sound h
end

theorem dedup_mem {a : Nat} : ∀ {l : List Nat}, a ∈ dedup l → a ∈ l
  | [], h => by cases h
  | b :: l, h => by
    simp only [dedup, List.mem_cons, List.mem_filter] at h
    rcases h with rfl | h
    · exact List.mem_cons_self
    · exact List.mem_cons_of_mem _ (dedup_mem h.1)

theorem dedup_nodup : ∀ l : List Nat, (dedup l).Nodup
  | [] => List.nodup_nil
  | a :: l => by
    simp only [dedup, List.nodup_cons, List.mem_filter]
    refine ⟨fun h => ?_, (dedup_nodup l).filter _⟩
    simp at h

theorem look_map (f : Nat → V) : ∀ (ks : List Nat) (t : Nat), look (ks.map fun t => (t, f t)) t = f t ∨ look (ks.map fun t => (t, f t)) t = .und
  | [], t => .inr rfl
  | k :: ks, t => by
    rw [List.map_cons, look_cons]
    split
    · rename_i e; subst e; exact .inl rfl
    · exact look_map f ks t

theorem rnObjs_spec {get : Get} {fl : List Nat} {base : Nat} {ids : List Nat} : ∀ (l : List (Nat × Nat)) (k : Nat) (c : Option Cells), lk (rnObjs get fl base ids l) k = some c → ∃ id cs, (k, id) ∈ l ∧ get id = some cs ∧ c = some (rnCells base ids fl id cs)
  | [], k, c, h => by cases h
  | (k', id) :: l, k, c, h => by
    simp only [rnObjs] at h
    cases hg : get id with
    | none =>
      rw [hg] at h
      obtain ⟨id', cs, h1, h2, h3⟩ := rnObjs_spec l k c h
      exact ⟨id', cs, List.mem_cons_of_mem _ h1, h2, h3⟩
    | some cs =>
      rw [hg] at h
      simp only [lk] at h
      split at h
      · rename_i e
        subst e
        cases h
        exact ⟨id, cs, List.mem_cons_self, hg, rfl⟩
      · obtain ⟨id', cs, h1, h2, h3⟩ := rnObjs_spec l k c h
        exact ⟨id', cs, List.mem_cons_of_mem _ h1, h2, h3⟩

theorem normM_sound {n : Nat} {s : St} {J J0 : Im} {μ μ0 : Mu} {a : Act} {w w0 : World} {get0 : Get} {base : Nat} {mv ks : List Nat} (hs : Sim n s J μ a w) (hb : ∀ i, base ≤ i → μ0 i = none) (he : Ext get0 J0 μ0 w0 s.get J μ w) :
    ∃ μ', Sim n (normM base mv ks s) J μ' a w ∧ Ext get0 J0 μ0 w0 (normM base mv ks s).get J μ' w := by
  obtain ⟨r, os, nx, fl⟩ := s
  have hinv := hs.inv
  have hfl := hs.flat
  unfold St.get at hinv hfl he
  dsimp only at hinv hfl he
  unfold normM St.get
  simp only
  generalize hget : upd os noGet = get at hinv hfl he ⊢
  generalize hown : (mv.flatMap fun t => refsV (look r t)).filter (fun id => Nat.blt id base) = own
  generalize hids : dedup ((own ++ (reach get fl ((ks.flatMap fun t => refsV (look r t)) ++ ((List.range base).filter fun k => !memB k own).flatMap (innerOf get fl))).filter fun id => Nat.ble base id).filter fun id => (get id).isSome) = ids
  have hnd : ids.Nodup := by rw [← hids]; exact dedup_nodup _
  have hge : ∀ id ∈ ids, id ∈ own ∨ base ≤ id := by
    intro id hid
    rw [← hids] at hid
    have := dedup_mem hid
    rw [List.mem_filter, List.mem_append, List.mem_filter] at this
    rcases this.1 with h | h
    · exact .inl h
    · exact .inr (Nat.le_of_ble_eq_true h.2)
  have hlt : ∀ id ∈ own, id < base := by
    intro id hid
    rw [← hown, List.mem_filter] at hid
    simpa [Nat.blt_eq] using hid.2
  generalize hpairs : (((List.range base).filter fun k => !memB k own).map fun k => (k, k)) ++ (ids.zipIdx base).map (fun x => (x.2, x.1)) = pairs
  have hp : ∀ k id, (k, id) ∈ pairs → (k < base ∧ id = k ∧ k ∉ own) ∨ (base ≤ k ∧ ids[k - base]? = some id) := by
    intro k id h
    rw [← hpairs, List.mem_append] at h
    rcases h with h | h
    · obtain ⟨k', h1, h2⟩ := List.mem_map.1 h
      cases h2
      rw [List.mem_filter] at h1
      refine .inl ⟨List.mem_range.1 h1.1, rfl, fun hm => ?_⟩
      have := (memB_iff _ own).2 hm
      rw [this] at h1
      simp at h1
    · obtain ⟨x, h1, h2⟩ := List.mem_map.1 h
      obtain ⟨y, i⟩ := x
      cases h2
      have := List.mk_mem_zipIdx_iff_le_and_getElem?_sub.1 h1
      exact .inr this
  have hfun : ∀ k id id', (k, id) ∈ pairs → (k, id') ∈ pairs → id = id' := by
    intro k id id' h h'
    rcases hp k id h with ⟨h1, h2, _⟩ | ⟨h1, h2⟩ <;> rcases hp k id' h' with ⟨h3, h4, _⟩ | ⟨h3, h4⟩
    · rw [h2, h4]
    · omega
    · omega
    · rw [h2] at h4; exact Option.some.inj h4
  have hinj : ∀ k k' id, (k, id) ∈ pairs → (k', id) ∈ pairs → k = k' := by
    intro k k' id h h'
    rcases hp k id h with ⟨h1, h2, h2'⟩ | ⟨h1, h2⟩ <;> rcases hp k' id h' with ⟨h3, h4, h4'⟩ | ⟨h3, h4⟩
    · omega
    · rcases hge id (List.mem_of_getElem? h4) with q | q
      · rw [h2] at q; exact absurd q h2'
      · omega
    · rcases hge id (List.mem_of_getElem? h2) with q | q
      · rw [h4] at q; exact absurd q h4'
      · omega
    · have : k - base = k' - base := (List.getElem?_inj (lt_of_some h2) hnd).1 (h2.trans h4.symm)
      omega
  have hmu : ∀ k id, (k, id) ∈ pairs → muN base ids μ k = μ id := by
    intro k id h
    unfold muN
    rcases hp k id h with ⟨h1, h2, _⟩ | ⟨h1, h2⟩
    · subst h2; simp [h1]
    · have : ¬ k < base := by omega
      simp [this, h2]
  have hobj : ∀ k cs', upd (rnObjs get fl base ids pairs) noGet k = some cs' → ∃ id cs, (k, id) ∈ pairs ∧ get id = some cs ∧ cs' = rnCells base ids fl id cs := by
    intro k cs' h
    rw [upd_lk] at h
    cases hl : lk (rnObjs get fl base ids pairs) k with
    | none => rw [hl] at h; cases h
    | some c =>
      rw [hl] at h
      simp only [Option.getD_some] at h
      subst h
      obtain ⟨id, cs, h1, h2, h3⟩ := rnObjs_spec _ _ _ hl
      exact ⟨id, cs, h1, h2, Option.some.inj h3⟩
  have hcell : ∀ id cs, get id = some cs → ∀ (j : Nat) v, (rnCells base ids fl id cs)[j]? = some v → ∃ u, cs[j]? = some u ∧ ∀ g, Rv J μ u g → Rv J (muN base ids μ) v g := by
    intro id cs hg j v hv
    unfold rnCells at hv
    cases hm : memB id fl
    · rw [hm] at hv
      simp only [cond_false, List.getElem?_map] at hv
      cases hc : cs[j]? with
      | none => rw [hc] at hv; cases hv
      | some u =>
        rw [hc] at hv
        simp only [Option.map_some, Option.some.injEq] at hv
        subst hv
        exact ⟨u, rfl, fun g hu => rnL_sound hu⟩
    · rw [hm] at hv
      simp only [cond_true] at hv
      exact ⟨v, hv, fun g hu => noRef_any hu (hfl id hm cs hg v (List.mem_of_getElem? hv))⟩
  have hlen : ∀ id cs, (rnCells base ids fl id cs).length = cs.length := by
    intro id cs
    unfold rnCells
    cases memB id fl <;> simp
  refine ⟨muN base ids μ, ⟨fun t => ?_, hs.size, hs.defers, ?_, fun i hi => ?_, ?_⟩, ?_⟩
  · dsimp only
    rcases look_map (fun t => rnV base ids (look r t)) ks t with h | h <;> rw [h]
    · exact rnV_sound (hs.regs t)
    · exact .und
  · unfold St.get
    dsimp only
    refine ⟨hinv.im, fun k cs' h => ?_, fun k k' l l' h h' hl hl' hbk => ?_⟩
    · obtain ⟨id, cs, p1, p2, rfl⟩ := hobj k cs' h
      obtain ⟨l, gc, elem, k1, k2, k3, k4, k5, k6, k7⟩ := hinv.ob id cs p2
      refine ⟨l, gc, elem, by rw [hmu k id p1]; exact k1, k2, k3, k4, by rw [hlen]; exact k5, k6, fun j v hv => ?_⟩
      obtain ⟨u, hu, hr⟩ := hcell id cs p2 j v hv
      obtain ⟨g, g1, g2⟩ := k7 j u hu
      exact ⟨g, g1, hr g g2⟩
    · cases hg : upd (rnObjs get fl base ids pairs) noGet k with
      | none => exact absurd hg h
      | some cs =>
        cases hg' : upd (rnObjs get fl base ids pairs) noGet k' with
        | none => exact absurd hg' h'
        | some cs' =>
          obtain ⟨id, ds, p1, p2, _⟩ := hobj k cs hg
          obtain ⟨id', ds', p1', p2', _⟩ := hobj k' cs' hg'
          rw [hmu k id p1] at hl
          rw [hmu k' id' p1'] at hl'
          have := hinv.sep id id' l l' (by rw [p2]; simp) (by rw [p2']; simp) hl hl' hbk
          subst this
          exact hinj k k' id p1 p1'
  · dsimp only at hi
    unfold muN
    have h1 : ¬ i < base := by omega
    have h2 : ids[i - base]? = none := List.getElem?_eq_none (by omega)
    simp [h1, h2]
  · unfold St.get
    dsimp only
    intro k hk cs' hc v hv
    obtain ⟨id, cs, p1, p2, rfl⟩ := hobj k cs' hc
    rw [memB_iff, List.mem_map] at hk
    obtain ⟨⟨k1, id1⟩, q1, q2⟩ := hk
    dsimp only at q2
    subst q2
    rw [List.mem_filter, Bool.and_eq_true] at q1
    have := hfun _ _ _ p1 q1.1
    subst this
    have hm : memB id fl = true := q1.2.1
    have : rnCells base ids fl id cs = cs := by simp [rnCells, hm]
    rw [this] at hv
    exact hfl id hm cs p2 v hv
  · refine ⟨he.size, fun i l hl => ?_, he.im, he.imNew, he.frame, fun b hb' => ?_, he.os, he.out⟩
    · have hlt : i < base := by
        rcases Nat.lt_or_ge i base with h | h
        · exact h
        · rw [hb i h] at hl; cases hl
      simp [muN, hlt, he.mu i l hl]
    · obtain ⟨k, l, q1, q2, q3⟩ := hb'
      cases hg : upd (rnObjs get fl base ids pairs) noGet k with
      | none => exact absurd hg q1
      | some cs' =>
        obtain ⟨id, cs, p1, p2, _⟩ := hobj k cs' hg
        refine he.own b ⟨id, l, by rw [p2]; simp, ?_, q3⟩
        rw [← hmu k id p1]
        exact q2

theorem norm_sound {n : Nat} {s : St} {J J0 : Im} {μ μ0 : Mu} {a : Act} {w w0 : World} {get0 : Get} {base : Nat} {ks : List Nat} (hs : Sim n s J μ a w) (hb : ∀ i, base ≤ i → μ0 i = none) (he : Ext get0 J0 μ0 w0 s.get J μ w) :
    ∃ μ', Sim n (norm base ks s) J μ' a w ∧ Ext get0 J0 μ0 w0 (norm base ks s).get J μ' w := normM_sound hs hb he
end Go.Ev

/-
  Control: bodies and calls.
-/
namespace Go.Ev

section
variable {α : Type} {E : Env} {call : Call α} {f : FuncId} {n : Nat} {x : α}

theorem loop_sound {c : Code} {id : Nat} (ih : ∀ (s : St) (K : Cont α) (x : α) (J : Im) (μ : Mu) (a : Act) (w : World) (Q : Exit → Act → World → Prop), exec E call f n c id s K = some x → Sim n s J μ a w →
    (∀ e s' J' μ' a' w', K e s' = some x → Sim n s' J' μ' a' w' → Ext s.get J μ w s'.get J' μ' w' → Q e.out a' w') → c.wp E.P Q a w) (base : Nat) (ks kx : List Nat) (K : Cont α) (fuel : Nat) {s : St} {J0 J : Im} {μ0 μ : Mu} {a : Act} {w0 w : World} {get0 : Get} {Q : Exit → Act → World → Prop}
    (hb : ∀ i, base ≤ i → μ0 i = none) (h : loopN (exec E call f n c id) base ks kx fuel s K = some x) (hs : Sim n s J μ a w) (he : Ext get0 J0 μ0 w0 s.get J μ w)
    (hq : ∀ e s' J' μ' a' w', K e s' = some x → Sim n s' J' μ' a' w' → Ext get0 J0 μ0 w0 s'.get J' μ' w' → Q e.out a' w') : (Code.loop c).wp E.P Q a w := by
  refine wp_loop_fuel (fun m a w => ∃ s J μ, loopN (exec E call f n c id) base ks kx m s K = some x ∧ Sim n s J μ a w ∧ Ext get0 J0 μ0 w0 s.get J μ w) fuel ⟨s, J, μ, h, hs, he⟩ ?_
  rintro m a w ⟨s, J, μ, h, hs, he⟩
  cases m with
  | zero => cases h
  | succ m =>
    refine ih s _ x J μ a w _ h hs fun e s' J' μ' a' w' hk hs' he' => ?_
    have he2 := he.trans he'
    cases e with
    | normal =>
      obtain ⟨μ2, q1, q2⟩ := norm_sound (base := base) (ks := ks) hs' hb he2
      exact ⟨m, Nat.lt_succ_self m, _, J', μ2, hk, q1, q2⟩
    | exit id' =>
      obtain ⟨μ2, q1, q2⟩ := norm_sound (base := base) (ks := kx) hs' hb he2
      exact hq (.exit id') _ J' μ2 a' w' hk q1 q2
    | ret =>
      obtain ⟨μ2, q1, q2⟩ := norm_sound (base := base) (ks := kx) hs' hb he2
      exact hq .ret _ J' μ2 a' w' hk q1 q2

/-- The loops of a piece of code: the enclosing block's number, the body. -/
def loopsIn : Code → Nat → List (Nat × Code)
  | .seq a b, c => loopsIn a c ++ loopsIn b c
  | .cond _ a b, c => loopsIn a c ++ loopsIn b c
  | .block id b, _ => loopsIn b id
  | .loop b, c => (c, b) :: loopsIn b c
  | _, _ => []

/-- What is told of a loop holds of it: whatever stands before and behind it. -/
def LoopOK (P : Program) (n : Nat) (b : Code) (g : Nat → St → Option LT) : Prop :=
  ∀ (α : Type) (K : Cont α) (x : α) (s : St) (t : LT) (J0 J : Im) (μ0 μ : Mu) (a : Act) (w0 w : World) (get0 : Get) (base : Nat) (Q : Exit → Act → World → Prop), g base s = some t → t.app K = some x → Sim n s J μ a w →
    (∀ i, base ≤ i → μ0 i = none) → Ext get0 J0 μ0 w0 s.get J μ w →
    (∀ e s' J' μ' a' w', K e s' = some x → Sim n s' J' μ' a' w' → Ext get0 J0 μ0 w0 s'.get J' μ' w' → Q e.out a' w') → (Code.loop b).wp P Q a w

/-- Of all loops in a piece of code. -/
def LoopsOK (E : Env) (f : FuncId) (n : Nat) (l : List (Nat × Code)) : Prop := ∀ p ∈ l, ∀ g, E.loops f p.1 = some g → LoopOK E.P n p.2 g

def ExecAt (E : Env) (call : Call α) (f : FuncId) (n : Nat) (c : Code) (id : Nat) : Prop :=
  ∀ (s : St) (K : Cont α) (x : α) (J : Im) (μ : Mu) (a : Act) (w : World) (Q : Exit → Act → World → Prop), exec E call f n c id s K = some x → Sim n s J μ a w →
    (∀ e s' J' μ' a' w', K e s' = some x → Sim n s' J' μ' a' w' → Ext s.get J μ w s'.get J' μ' w' → Q e.out a' w') → c.wp E.P Q a w

theorem exec_sound (hP : E.P.follows .mixedOrders = true) (hS : SOK E) (hC : CallOK E.P call) (c : Code) : ∀ id, LoopsOK E f n (loopsIn c id) → ExecAt E call f n c id := by
  induction c with
  | skip =>
    intro id hL s K x J μ a w Q h hs hq
    exact wp_skip (hq .normal s J μ a w h hs (Ext.refl _ _ _ _))
  | region rid ops draw =>
    intro id hL s K x J μ a w Q h hs hq
    cases draw with
    | false => exact region_sound hS hC h hs fun s' J' μ' a' w' hk hs' he => hq .normal s' J' μ' a' w' hk hs' he
    | true =>
      obtain ⟨r, os, nx, fl⟩ := s
      exact draw_sound hP hS h hs fun s' J' μ' a' w' hk hs' he => hq .normal s' J' μ' a' w' hk hs' he
  | seq p q ihp ihq =>
    intro id hL s K x J μ a w Q h hs hq
    refine wp_seq (ihp id (fun p hp => hL p (List.mem_append_left _ hp)) s _ x J μ a w _ h hs fun e s' J' μ' a' w' hk hs' he => ?_)
    cases e with
    | normal => exact ihq id (fun p hp => hL p (List.mem_append_right _ hp)) s' K x J' μ' a' w' Q hk hs' fun e s2 J2 μ2 a2 w2 hk2 hs2 he2 => hq e s2 J2 μ2 a2 w2 hk2 hs2 (he.trans he2)
    | exit id' => exact hq (.exit id') s' J' μ' a' w' hk hs' he
    | ret => exact hq .ret s' J' μ' a' w' hk hs' he
  | cond o p q ihp ihq =>
    intro id hL s K x J μ a w Q h hs hq
    unfold exec at h
    split at h
    · rename_i b hb
      have hv : a.eval o = .bool b := by
        have := evalO_sound hs.regs o
        rw [hb] at this
        generalize a.eval o = g at this
        cases this
        rfl
      refine wp_cond_split hv (fun ht => ?_) (fun hf => ?_)
      · subst ht
        exact ihp id (fun p hp => hL p (List.mem_append_left _ hp)) s K x J μ a w Q h hs hq
      · subst hf
        exact ihq id (fun p hp => hL p (List.mem_append_right _ hp)) s K x J μ a w Q h hs hq
    · cases h
  | block bid b ih =>
    intro id hL s K x J μ a w Q h hs hq
    refine wp_block (ih bid hL s _ x J μ a w _ h hs fun e s' J' μ' a' w' hk hs' he => ?_)
    cases e with
    | normal => exact hq .normal s' J' μ' a' w' hk hs' he
    | exit id' =>
      simp only [blockK] at hk
      simp only [Ex.out, Exit.inBlock]
      cases hb : Nat.beq id' bid
      · rw [hb] at hk
        rw [if_neg (fun e => by subst e; simp at hb)]
        exact hq (.exit id') s' J' μ' a' w' hk hs' he
      · rw [hb] at hk
        rw [if_pos (Nat.eq_of_beq_eq_true hb)]
        exact hq .normal s' J' μ' a' w' hk hs' he
    | ret => exact hq .ret s' J' μ' a' w' hk hs' he
  | loop b ih =>
    intro id hL s K x J μ a w Q h hs hq
    obtain ⟨μ2, q1, q2⟩ := normM_sound (base := s.nx) (mv := E.move f id) (ks := E.keep f id) hs hs.fresh (Ext.refl s.get J μ w)
    unfold exec at h
    split at h
    · rename_i g hg
      split at h
      · rename_i t ht
        exact hL (id, b) List.mem_cons_self g hg α K x _ t J J μ μ2 a w w s.get s.nx Q ht h q1 hs.fresh q2 hq
      · cases h
    · exact loop_sound (ih id fun p hp => hL p (List.mem_cons_of_mem _ hp)) s.nx (E.keep f id) (E.kept f id) K E.fuel hs.fresh h q1 q2 hq
  | exit eid =>
    intro id hL s K x J μ a w Q h hs hq
    exact wp_exit (hq (.exit eid) s J μ a w h hs (Ext.refl _ _ _ _))
  | ret =>
    intro id hL s K x J μ a w Q h hs hq
    exact wp_ret (hq .ret s J μ a w h hs (Ext.refl _ _ _ _))
  | _ =>
    intro id hL s K x J μ a w Q h hs hq
    cases h
end

def namesOK (P : Program) : Bool := P.funcs.all fun f => !(f.name == "runtime.NumGoroutine")

theorem names_spec {P : Program} (h : namesOK P = true) {f : FuncId} {fn : Func} (hf : P.funcs[f]? = some fn) : (fn.name == "runtime.NumGoroutine") = false := by
  unfold namesOK at h
  rw [Array.all_eq_true_iff_forall_mem] at h
  have := h fn (Array.mem_of_getElem? hf)
  simpa using this

theorem loadVar_sound {P : Program} {get : Get} {J : Im} {μ : Mu} {w : World} {t : TypeId} {a v : V} {ga : Value} (hI : Inv get J μ w) (h : loadE P get t a = some v) (ha : Rv J μ a ga) :
    ∃ g, (do loadVar t (← asAddr ga) : Sem Value).run P w = .ok g w ∧ Rv J μ v g := by
  obtain ⟨g, h1, h2⟩ := loadE_sound hI h ha
  refine ⟨g, ?_, h2⟩
  rw [← h1]
  unfold loadE at h
  split at h
  · cases ha; rfl
  · cases ha; rfl
  · cases h

theorem resE_sound {P : Program} {get : Get} {J : Im} {μ : Mu} {w : World} {r : Regs} {tmps : Array Value} (hI : Inv get J μ w) (hr : ∀ t, Rv J μ (look r t) (tmps.getD t undef)) : ∀ (l : List ResultVar) (vs : List V), resE P get r l = some vs →
    ∃ gs : List Value, (l.mapM (m := Sem) fun
      | .tmp t => pure (tmps.getD t undef)
      | .cell a t => do loadVar t (← asAddr (tmps.getD a undef))).run P w = .ok gs w ∧ gs.length = vs.length ∧ ∀ (j : Nat) v g, vs[j]? = some v → gs[j]? = some g → Rv J μ v g
  | [], vs, h => by
    simp only [resE, Option.some.injEq] at h
    subst h
    exact ⟨[], rfl, rfl, fun j v g hv => by simp at hv⟩
  | .tmp t :: l, vs, h => by
    simp only [resE] at h
    split at h
    · rename_i us hu
      cases h
      obtain ⟨gs, h1, h2, h3⟩ := resE_sound hI hr l us hu
      refine ⟨tmps.getD t undef :: gs, ?_, by simp [h2], fun j v g hv hg => ?_⟩
      · rw [List.mapM_cons]
        simp only [Sem.run_bind, Sem.run_pure, Result.andThen_ok, h1]
      · cases j with
        | zero =>
          simp only [List.getElem?_cons_zero, Option.some.injEq] at hv hg
          subst hv; subst hg
          exact hr t
        | succ j => exact h3 j v g (by simpa using hv) (by simpa using hg)
    · cases h
  | .cell c t :: l, vs, h => by
    simp only [resE] at h
    split at h
    · rename_i u us hl hu
      cases h
      obtain ⟨gs, h1, h2, h3⟩ := resE_sound hI hr l us hu
      obtain ⟨g0, g1, g2⟩ := loadVar_sound hI hl (hr c)
      refine ⟨g0 :: gs, ?_, by simp [h2], fun j v g hv hg => ?_⟩
      · rw [List.mapM_cons]
        simp only [Sem.run_bind] at g1 ⊢
        simp only [g1, Sem.run_pure, Result.andThen_ok, h1]
      · cases j with
        | zero =>
          simp only [List.getElem?_cons_zero, Option.some.injEq] at hv hg
          subst hv; subst hg
          exact g2
        | succ j => exact h3 j v g (by simpa using hv) (by simpa using hg)
    · cases h

theorem results_sound {P : Program} {get : Get} {J : Im} {μ : Mu} {w : World} {r : Regs} {tmps : Array Value} {fn : Func} {vs : List V} (hI : Inv get J μ w) (hr : ∀ t, Rv J μ (look r t) (tmps.getD t undef)) (h : resE P get r fn.results.toList = some vs) :
    ∃ g, (results fn tmps).run P w = .ok g w ∧ Rv J μ (oneOr vs) g := by
  obtain ⟨gs, h1, h2, h3⟩ := resE_sound hI hr _ _ h
  have key : (fn.results.mapM fun
      | .tmp t => pure (tmps.getD t undef)
      | .cell a t => do loadVar t (← asAddr (tmps.getD a undef)) : Sem (Array Value)).run P w = .ok gs.toArray w := by
    rw [Array.mapM_eq_mapM_toList, Sem.run_map, h1]
    rfl
  refine ⟨if h : gs.toArray.size = 1 then gs.toArray[0] else .tuple gs.toArray, ?_, ?_⟩
  · unfold results
    rw [Sem.run_bind]
    refine (congrArg (fun r => Result.andThen r _) key).trans ?_
    rfl
  · split
    · rename_i hz
      have hz' : gs.length = 1 := by simpa using hz
      obtain ⟨v, rfl⟩ := List.length_eq_one_iff.1 (h2.symm.trans hz')
      refine h3 0 v _ rfl ?_
      rw [List.getElem?_eq_getElem (by omega)]
      rfl
    · rename_i hz
      have hz' : gs.length ≠ 1 := by simpa using hz
      have ho : oneOr vs = .tup vs := by
        match vs, h2 with
        | [], _ => rfl
        | [_], h2 => exact absurd (by simpa using h2) hz'
        | _ :: _ :: _, _ => rfl
      rw [ho]
      exact .tup (by simp [h2]) fun j v g hv hg => h3 j v g hv (by simpa using hg)

theorem look_args (l : List V) : ∀ (i t : Nat), look (args0 l i) t = if i ≤ t then (l[t - i]?).getD .und else .und := by
  induction l with
  | nil => intro i t; simp [args0, look]
  | cons v l ih =>
    intro i t
    rw [args0, look_cons, ih]
    by_cases h : i = t
    · subst h; simp
    · rw [if_neg h]
      by_cases h1 : i + 1 ≤ t
      · have h2 : i ≤ t := by omega
        rw [if_pos h1, if_pos h2, show t - i = (t - (i + 1)) + 1 by omega]
        simp
      · have h2 : ¬ i ≤ t := by omega
        rw [if_neg h1, if_neg h2]

theorem args_sound {J : Im} {μ : Mu} {args : List V} {gs : Array Value} (hr : Rvs J μ args gs) (m : Nat) (t : Nat) : Rv J μ (look (args0 args 0) t) ((gs ++ Array.replicate m undef).getD t undef) := by
  rw [look_args]
  simp only [Nat.zero_le, if_true, Nat.sub_zero]
  cases h : args[t]? with
  | none => exact .und
  | some v =>
    obtain ⟨g, hg, hv⟩ := Rvs.at hr h
    have : (gs ++ Array.replicate m undef).getD t undef = g := by
      rw [Array.getD_eq_getD_getElem?, Array.getElem?_append]
      have hlt : t < gs.size := (Array.getElem?_eq_some_iff.1 hg).1
      rw [if_pos hlt, hg]
      rfl
    rw [this]
    exact hv

/-- Of all loops of the program. -/
def LOK (E : Env) : Prop := ∀ f fn c, E.P.funcs[f]? = some fn → fn.body = some c → LoopsOK E f fn.ntmps (loopsIn c 0)

theorem noLoops {E : Env} (h : E.loops = fun _ _ => none) : LOK E := by
  intro f fn c _ _ p _ g hg
  rw [h] at hg
  cases hg

theorem callN_calls {α : Type} {E : Env} (hP : E.P.follows .mixedOrders = true) (hS : SOK E) (hL : LOK E) {d : Nat} (hC : CallOK E.P (callN E (α := α) d)) {f : FuncId} {args : List V} {os : Ups} {nx : Nat} {fl : List Nat} {K : V → Ups → Nat → List Nat → Option α} {x : α}
    (h : callN E (d + 1) f args os nx fl K = some x) {J : Im} {μ : Mu} {gs : Array Value} {w : World} (hI : Inv (upd os noGet) J μ w) (hf : ∀ i, nx ≤ i → μ i = none) (hfl : FlatInv fl (upd os noGet)) (hr : Rvs J μ args gs) :
    Calls E.P f gs w fun e w' => ∃ g, e = .returned g ∧ ∃ v os' nx' fl' J' μ', K v os' nx' fl' = some x ∧ Rv J' μ' v g ∧ Inv (upd os' noGet) J' μ' w' ∧ (∀ i, nx' ≤ i → μ' i = none) ∧ FlatInv fl' (upd os' noGet) ∧
      Ext (upd os noGet) J μ w (upd os' noGet) J' μ' w' := by
  unfold callN at h
  split at h
  · rename_i fn hfn
    split at h
    · rename_i c hc
      cases hb : Nat.ble args.length fn.ntmps
      · rw [hb] at h; cases h
      · rw [hb] at h
        simp only [cond_true] at h
        have hle := Nat.le_of_ble_eq_true hb
        refine calls_of_wp hfn hc (exec_sound hP hS hC c 0 (hL _ _ _ hfn hc) _ _ x J μ _ w _ h ⟨fun t => args_sound hr _ t, ?_, rfl, hI, hf, hfl⟩ fun e s' J' μ' a' w' hk hs' he => ?_)
        · simp [hr.1]; omega
        · have fin : (match s' with
              | ⟨r, os, nx, fl⟩ =>
                match resE E.P (upd os noGet) r fn.results.toList with
                | some vs => K (oneOr vs) os nx fl
                | none => none) = some x → a'.defers = [] ∧ ∃ v, (results fn a'.tmps).run E.P w' = .ok v w' ∧ ∃ g, Ending.returned v = .returned g ∧ ∃ v os' nx' fl' J' μ', K v os' nx' fl' = some x ∧ Rv J' μ' v g ∧ Inv (upd os' noGet) J' μ' w' ∧ (∀ i, nx' ≤ i → μ' i = none) ∧ FlatInv fl' (upd os' noGet) ∧
                  Ext (upd os noGet) J μ w (upd os' noGet) J' μ' w' := by
            intro hk
            obtain ⟨r', os', nx', fl'⟩ := s'
            dsimp only at hk
            split at hk
            · rename_i vs hvs
              obtain ⟨g, g1, g2⟩ := results_sound hs'.inv hs'.regs hvs
              exact ⟨hs'.defers, g, g1, g, rfl, _, os', nx', fl', J', μ', hk, g2, hs'.inv, hs'.fresh, hs'.flat, he⟩
            · cases hk
          cases e with
          | normal => exact fin hk
          | exit id => cases hk
          | ret => exact fin hk
    · cases h
  · cases h

theorem callN_sound {α : Type} {E : Env} (hP : E.P.follows .mixedOrders = true) (hN : namesOK E.P = true) (hS : SOK E) (hL : LOK E) : ∀ d, CallOK E.P (callN E (α := α) d)
  | 0 => fun f args os nx fl K x h => by cases h
  | d + 1 => by
    intro f args os nx fl K x h J μ gs w hI hf hfl hr
    have hB : Bodied E.P f := by
      unfold callN at h
      split at h
      · rename_i fn hfn
        split at h
        · rename_i c hc
          exact ⟨fn, hfn, names_spec hN hfn, by rw [hc]; rfl⟩
        · cases h
      · cases h
    exact .inr ⟨f, gs, w, run_enter hB gs w, callN_calls hP hS hL (callN_sound hP hN hS hL d) h hI hf hfl hr⟩

/-- What is told of a loop, by an equation on its runs, whatever is behind it. -/
theorem loopOK_of {E : Env} (hP : E.P.follows .mixedOrders = true) (hN : namesOK E.P = true) (hS : SOK E) (hL : LOK E) {f : FuncId} {n : Nat} {b : Code} {c : Nat} {g : Nat → St → Option LT} (d : Nat) (ks kx : List Nat) (hB : LoopsOK E f n (loopsIn b c))
    (h : ∀ base s t, g base s = some t → ∃ fuel, ∀ (α : Type) (K : Cont α), loopN (exec E (callN E d) f n b c) base ks kx fuel s K = t.app K) : LoopOK E.P n b g := by
  intro α K x s t J0 J μ0 μ a w0 w get0 base Q hg ht hs hb he hq
  obtain ⟨fuel, hf⟩ := h base s t hg
  rw [← hf α K] at ht
  exact loop_sound (exec_sound hP hS (callN_sound hP hN hS hL d) b c hB) base ks kx K fuel hb ht hs he hq
end Go.Ev

/-
  What a run of the evaluator says of a function.
-/
namespace Go.Ev

section
variable {E : Env}

theorem runPure_calls (hP : E.P.follows .mixedOrders = true) (hN : namesOK E.P = true) (hS : SOK E) (hL : LOK E) {d : Nat} {f : FuncId} {vs : List V} {v : V} (h : runPure E d f vs = some v) {J : Im} {gs : Array Value} {w : World} (hI : ImOK J w) (hr : Rvs J noMu vs gs) :
    Calls E.P f gs w fun e w' => ∃ gv J', e = .returned gv ∧ Rv J' noMu v gv ∧ ImOK J' w' ∧ Im.le J J' ∧ (∀ b c, J' b = some c → J b = none → w.heap.size ≤ b) ∧ w.heap.size ≤ w'.heap.size ∧ (∀ b, b < w.heap.size → w'.heap[b]? = w.heap[b]?) ∧ w'.os = w.os ∧ (w'.output, w'.tape) = (w.output, w.tape) := by
  have hno : ∀ b, ¬ Own (upd [] noGet) noMu b := fun b ⟨id, l, h1, h2, h3⟩ => by cases h2
  have hInv : Inv (upd [] noGet) J noMu w := ⟨hI, fun id cs hc => (by cases hc), fun i i' l l' h1 => absurd rfl h1⟩
  cases d with
  | zero => cases h
  | succ d =>
    refine (callN_calls hP hS hL (callN_sound hP hN hS hL d) h hInv (fun _ _ => rfl) (fun id hm => by cases hm) hr).mono ?_
    rintro e w' ⟨g, he, u, os', nx', fl', J', μ', hk, hg, hI', hf', hfl', hext⟩
    simp only [Option.some.injEq] at hk
    subst hk
    refine ⟨g, liveIm (upd os' noGet) J' μ' w', he, deepT_sound fl' hI' hfl' hg, live_ok hI', Im.le_trans hext.im (live_le _ _ _ _), fun b c hb hn => ?_, hext.size, fun b hb => hext.frame b hb (hno b), hext.os, hext.out⟩
    cases hj : J' b with
    | some c' => exact hext.imNew b c' hj hn
    | none =>
      unfold liveIm at hb
      rw [hj] at hb
      simp only at hb
      split at hb
      · rename_i ho
        exact (hext.own b ho).resolve_left (hno b)
      · cases hb

theorem pure_of_run (hP : E.P.follows .mixedOrders = true) (hN : namesOK E.P = true) (hS : SOK E) (hL : LOK E) (d : Nat) {f : FuncId} {g : List V → Option V} (h : ∀ vs v, g vs = some v → runPure E d f vs = some v) : PureOK E.P f g :=
  fun _ vs _ _ v hI hr hv => runPure_calls hP hN hS hL (h vs v hv) hI hr

theorem only_upd (cs : Cells) : upd [(0, some cs)] noGet = only cs := by
  funext id
  rw [upd_cons, upd_nil]
  unfold only
  by_cases h : id = 0
  · subst h; rfl
  · rw [if_neg (fun e => h e.symm), if_neg h]
    rfl

theorem obj_of_run (hP : E.P.follows .mixedOrders = true) (hN : namesOK E.P = true) (hS : SOK E) (hL : LOK E) (d : Nat) {f : FuncId} {g : Cells → List V → Option (V × Cells)} (h : ∀ cs rest r, g cs rest = some r → runObj E d f cs rest = some r) : ObjOK E.P f g := by
  intro J μ cs rest gs w v cs' hI hμ hflat hr _ hg
  have hrun := h cs rest (v, cs') hg
  cases d with
  | zero => cases hrun
  | succ d =>
    have hfl0 : FlatInv [0] (upd [(0, some cs)] noGet) := by
      rw [only_upd]
      intro id hm ds hds u hu
      unfold only at hds
      split at hds
      · cases hds; exact hflat u hu
      · cases hds
    refine (callN_calls hP hS hL (callN_sound hP hN hS hL d) hrun (by rw [only_upd]; exact hI) hμ hfl0 hr).mono ?_
    rintro e w' ⟨gv, he, u, os', nx', fl', J', μ', hk, hgv, hI', hf', hfl', hext⟩
    rw [only_upd] at hext
    cases h0 : upd os' noGet 0 with
    | none => rw [h0] at hk; cases hk
    | some ds =>
      rw [h0] at hk
      simp only at hk
      cases hb : memB 0 fl'
      · rw [hb] at hk; cases hk
      · rw [hb] at hk
        simp only [cond_true, Option.some.injEq, Prod.mk.injEq] at hk
        obtain ⟨rfl, rfl⟩ := hk
        have sub : ∀ id c, only ds id = some c → upd os' noGet id = some c := by
          intro id c hc
          unfold only at hc
          split at hc
          · rename_i e; subst e; cases hc; exact h0
          · cases hc
        have ne : ∀ id, only ds id ≠ none → upd os' noGet id ≠ none := by
          intro id hn
          cases hc : only ds id with
          | none => exact absurd hc hn
          | some c => rw [sub id c hc]; simp
        have hsub : ∀ id c, hide0 (upd os' noGet) id = some c → id ≠ 0 ∧ upd os' noGet id = some c := by
          intro id c hc
          unfold hide0 at hc
          cases hz : Nat.beq id 0
          · rw [hz] at hc
            exact ⟨fun e => by subst e; simp at hz, hc⟩
          · rw [hz] at hc; cases hc
        have hne : ∀ id, hide0 (upd os' noGet) id ≠ none → id ≠ 0 ∧ upd os' noGet id ≠ none := by
          intro id hn
          cases hc : hide0 (upd os' noGet) id with
          | none => exact absurd hc hn
          | some c =>
            obtain ⟨h1, h2⟩ := hsub id c hc
            exact ⟨h1, by rw [h2]; simp⟩
        have hIh : Inv (hide0 (upd os' noGet)) J' μ' w' := ⟨hI'.im, fun id c hc => hI'.ob id c (hsub id c hc).2, fun i i' l l' h1 h2 => hI'.sep i i' l l' (hne i h1).2 (hne i' h2).2⟩
        have hfh : FlatInv fl' (hide0 (upd os' noGet)) := fun id hm c hc v hv => hfl' id hm c (hsub id c hc).2 v hv
        have hnot : ∀ (l : Loc), μ' 0 = some l → ¬ Own (hide0 (upd os' noGet)) μ' l.blk := by
          rintro l hl ⟨id, l', q1, q2, q3⟩
          exact (hne id q1).1 (hI'.sep id 0 l' l (hne id q1).2 (by rw [h0]; simp) q2 hl q3)
        have hlive := live_le (hide0 (upd os' noGet)) J' μ' w'
        refine ⟨gv, liveIm (hide0 (upd os' noGet)) J' μ' w', μ', he, deepT_sound fl' hIh hfh hgv, ⟨live_ok hIh, fun id c hc => ?_, fun i i' l l' h1 h2 => hI'.sep i i' l l' (ne i h1) (ne i' h2)⟩, ⟨hext.size, hext.mu, Im.le_trans hext.im hlive, fun b c hb' hn => ?_, hext.frame, fun b hb => ?_, hext.os, hext.out⟩, ?_⟩
        · obtain ⟨l, gc, elem, k1, k2, k3, k4, k5, k6, k7⟩ := hI'.ob id c (sub id c hc)
          have hz : id = 0 := by
            unfold only at hc
            split at hc
            · assumption
            · cases hc
          subst hz
          refine ⟨l, gc, elem, k1, ?_, k3, k4, k5, k6, fun j v hv => ?_⟩
          · unfold liveIm
            rw [k2]
            simp only
            rw [if_neg (hnot l k1)]
          · obtain ⟨g, g1, g2⟩ := k7 j v hv
            exact ⟨g, g1, g2.mono hlive (Mu.le_refl _)⟩
        · cases hj : J' b with
          | some c' => exact hext.imNew b c' hj hn
          | none =>
            unfold liveIm at hb'
            rw [hj] at hb'
            simp only at hb'
            split at hb'
            · rename_i ho
              have ho2 := ho
              obtain ⟨id, l, q1, q2, q3⟩ := ho
              rcases hext.own b ⟨id, l, (hne id q1).2, q2, q3⟩ with h1 | h1
              · obtain ⟨id', l', p1, p2, p3⟩ := h1
                have hz : id' = 0 := by
                  unfold only at p1
                  split at p1
                  · assumption
                  · exact absurd rfl p1
                subst hz
                have := hext.mu 0 l' p2
                rw [← p3] at ho2
                exact absurd ho2 (hnot l' this)
              · exact h1
            · cases hb'
        · obtain ⟨id, l, q1, q2, q3⟩ := hb
          exact hext.own b ⟨id, l, ne id q1, q2, q3⟩
        · exact hfl' 0 hb ds h0
end
end Go.Ev

/-
  Loops of a program by their places; what is told of them; empty slices by static kind.
-/
namespace Go.Ev

/-- The i-th loop of function f: the number of temporaries, the enclosing block's number, the body. -/
def loopAt (P : Program) (f i : Nat) : Nat × Nat × Code :=
  match P.funcs[f]? with
  | some fn =>
    match fn.body with
    | some c =>
      match getAt (loopsIn c 0) i with
      | some p => (fn.ntmps, p.1, p.2)
      | none => (0, 0, .skip)
    | none => (0, 0, .skip)
  | none => (0, 0, .skip)

def loopIds (P : Program) (f : Nat) : List Nat :=
  match P.funcs[f]? with
  | some fn =>
    match fn.body with
    | some c => (loopsIn c 0).map (·.1)
    | none => []
  | none => []

theorem loopsIn_sub : ∀ (code : Code) (id c : Nat) (b : Code), (c, b) ∈ loopsIn code id → ∀ q ∈ loopsIn b c, q ∈ loopsIn code id := by
  intro code
  induction code with
  | seq x y ihx ihy =>
    intro id c b h q hq
    simp only [loopsIn, List.mem_append] at h ⊢
    rcases h with h | h
    · exact .inl (ihx id c b h q hq)
    · exact .inr (ihy id c b h q hq)
  | cond o x y ihx ihy =>
    intro id c b h q hq
    simp only [loopsIn, List.mem_append] at h ⊢
    rcases h with h | h
    · exact .inl (ihx id c b h q hq)
    · exact .inr (ihy id c b h q hq)
  | block bid x ih =>
    intro id c b h q hq
    simp only [loopsIn] at h ⊢
    exact ih bid c b h q hq
  | loop x ih =>
    intro id c b h q hq
    simp only [loopsIn, List.mem_cons] at h ⊢
    rcases h with h | h
    · cases h; exact .inr hq
    · exact .inr (ih id c b h q hq)
  | _ =>
    intro id c b h q hq
    simp [loopsIn] at h

theorem getAt_some {α : Type} : ∀ (l : List α) (i : Nat), getAt l i = l[i]?
  | [], i => by simp [getAt]
  | a :: l, 0 => by simp [getAt]
  | a :: l, i + 1 => by simp [getAt, getAt_some l i]

theorem loop_told {E : Env} (hP : E.P.follows .mixedOrders = true) (hN : namesOK E.P = true) (hS : SOK E) (hL : LOK E) (f i d : Nat) (ks kx : List Nat) {g : Nat → St → Option LT}
    (h : ∀ base s t, g base s = some t → ∃ fuel, ∀ (α : Type) (K : Cont α), loopN (exec E (callN E d) f (loopAt E.P f i).1 (loopAt E.P f i).2.2 (loopAt E.P f i).2.1) base ks kx fuel s K = t.app K) :
    LoopOK E.P (loopAt E.P f i).1 (loopAt E.P f i).2.2 g := by
  refine loopOK_of hP hN hS hL d ks kx ?_ h
  unfold loopAt
  split
  · rename_i fn hf
    split
    · rename_i c hc
      split
      · rename_i p hp
        rw [getAt_some] at hp
        intro q hq
        exact hL f fn c hf hc q (loopsIn_sub c 0 p.1 p.2 (List.mem_of_getElem? hp) q hq)
      · intro q hq; simp [loopsIn] at hq
    · intro q hq; simp [loopsIn] at hq
  · intro q hq; simp [loopsIn] at hq

theorem lok_pick {P : Program} {f c : Nat} {fn : Func} {code : Code} {g : Nat → St → Option LT} (hf : P.funcs[f]? = some fn) (hc : fn.body = some code) {p : Nat × Code} (hp : p ∈ loopsIn code 0) (hpc : p.1 = c) {ids : List Nat} (hids : loopIds P f = ids)
    (i : Nat) (hi : getAt ids i = some c) (nd : ids.Nodup) (h : LoopOK P (loopAt P f i).1 (loopAt P f i).2.2 g) : LoopOK P fn.ntmps p.2 g := by
  have e1 : (loopsIn code 0).map (·.1) = ids := by
    rw [← hids]
    unfold loopIds
    simp only [hf, hc]
  obtain ⟨j, hj⟩ := List.getElem?_of_mem hp
  have e2 : ids[j]? = some c := by
    rw [← e1, List.getElem?_map, hj]
    simp [hpc]
  rw [getAt_some] at hi
  have : i = j := (List.getElem?_inj (lt_of_some hi) nd).1 (hi.trans e2.symm)
  subst this
  have e3 : loopAt P f i = (fn.ntmps, p.1, p.2) := by
    unfold loopAt
    simp only [hf, hc, getAt_some, hj]
  rw [e3] at h
  exact h

/-! Slices that are empty: one kind of value -/

inductive Shp where
  | any
  | sl (sz : Nat)
  | many (l : List Shp)

def fixSL (sz : Nat) : V → V
  | .nil => .sl sz []
  | v => v

mutual
def fixS : Shp → V → V
  | .any, v => v
  | .sl sz, v => fixSL sz v
  | .many l, .agg cs => .agg (fixSs l cs)
  | .many l, .tup cs => .tup (fixSs l cs)
  | .many _, v => v
def fixSs : List Shp → List V → List V
  | s :: l, v :: vs => fixS s v :: fixSs l vs
  | _, vs => vs
end

theorem fixSL_sound {J : Im} {μ : Mu} {sz : Nat} {v : V} {g : Value} (h : Rv J μ v g) : Rv J μ (fixSL sz v) g := by
  cases v <;> try exact h
  cases h
  exact .sl0

theorem fixSs_length : ∀ (l : List Shp) (vs : List V), (fixSs l vs).length = vs.length
  | [], vs => by cases vs <;> rfl
  | s :: l, [] => rfl
  | s :: l, v :: vs => by simp only [fixSs, List.length_cons, fixSs_length l vs]

mutual
theorem fixS_sound {J : Im} {μ : Mu} : ∀ (s : Shp) {v : V} {g : Value}, Rv J μ v g → Rv J μ (fixS s v) g
  | .any, v, g, h => by simpa [fixS] using h
  | .sl sz, v, g, h => by simp only [fixS]; exact fixSL_sound h
  | .many l, v, g, h => by
    cases v with
    | agg cs =>
      simp only [fixS]
      cases h with
      | agg hs ho hh => exact .agg (by rw [fixSs_length]; exact hs) ho fun j v g hv hg => fixSs_sound l cs _ hh j v g hv hg
    | tup cs =>
      simp only [fixS]
      cases h with
      | tup hs hh => exact .tup (by rw [fixSs_length]; exact hs) fun j v g hv hg => fixSs_sound l cs _ hh j v g hv hg
    | _ => simpa [fixS] using h
theorem fixSs_sound {J : Im} {μ : Mu} : ∀ (l : List Shp) (cs : List V) (gs : Array Value), (∀ (j : Nat) v g, cs[j]? = some v → gs[j]? = some g → Rv J μ v g) → ∀ (j : Nat) v g, (fixSs l cs)[j]? = some v → gs[j]? = some g → Rv J μ v g
  | [], cs, gs, h, j, v, g, hv, hg => by
    cases cs <;> exact h j v g hv hg
  | s :: l, [], gs, h, j, v, g, hv, hg => by simp [fixSs] at hv
  | s :: l, c :: cs, gs, h, j, v, g, hv, hg => by
    simp only [fixSs] at hv
    cases j with
    | zero =>
      simp at hv
      subst hv
      exact fixS_sound s (h 0 c g rfl hg)
    | succ j =>
      have h' : ∀ (j : Nat) v g, cs[j]? = some v → (gs.extract 1 gs.size)[j]? = some g → Rv J μ v g := by
        intro j v g hv hg
        refine h (j + 1) v g (by simpa using hv) ?_
        rw [Array.getElem?_extract] at hg
        split at hg
        · rw [Nat.add_comm]; exact hg
        · cases hg
      refine fixSs_sound l cs _ h' j v g (by simpa using hv) ?_
      have hlt : j + 1 < gs.size := (Array.getElem?_eq_some_iff.1 hg).1
      rw [Array.getElem?_extract, if_pos (by omega), Nat.add_comm]
      exact hg
end

/-- What a function comes to that only looks; its empty slices of one kind. -/
def runPureS (E : Env) (d : Nat) (f : FuncId) (so : Shp) (args : List V) : Option V := callN E (α := V) d f args [] 0 [] fun v os _ fl => some (fixS so (deepT (upd os noGet) fl v))

section
variable {E : Env}
theorem runPureS_calls (hP : E.P.follows .mixedOrders = true) (hN : namesOK E.P = true) (hS : SOK E) (hL : LOK E) {d : Nat} {so : Shp} {f : FuncId} {vs : List V} {v : V} (h : runPureS E d f so vs = some v) {J : Im} {gs : Array Value} {w : World} (hI : ImOK J w) (hr : Rvs J noMu vs gs) :
    Calls E.P f gs w fun e w' => ∃ gv J', e = .returned gv ∧ Rv J' noMu v gv ∧ ImOK J' w' ∧ Im.le J J' ∧ (∀ b c, J' b = some c → J b = none → w.heap.size ≤ b) ∧ w.heap.size ≤ w'.heap.size ∧ (∀ b, b < w.heap.size → w'.heap[b]? = w.heap[b]?) ∧ w'.os = w.os ∧ (w'.output, w'.tape) = (w.output, w.tape) := by
  have hno : ∀ b, ¬ Own (upd [] noGet) noMu b := fun b ⟨id, l, h1, h2, h3⟩ => by cases h2
  have hInv : Inv (upd [] noGet) J noMu w := ⟨hI, fun id cs hc => (by cases hc), fun i i' l l' h1 => absurd rfl h1⟩
  cases d with
  | zero => cases h
  | succ d =>
    refine (callN_calls hP hS hL (callN_sound hP hN hS hL d) h hInv (fun _ _ => rfl) (fun id hm => by cases hm) hr).mono ?_
    rintro e w' ⟨g, he, u, os', nx', fl', J', μ', hk, hg, hI', hf', hfl', hext⟩
    simp only [Option.some.injEq] at hk
    subst hk
    refine ⟨g, liveIm (upd os' noGet) J' μ' w', he, fixS_sound so (deepT_sound fl' hI' hfl' hg), live_ok hI', Im.le_trans hext.im (live_le _ _ _ _), fun b c hb hn => ?_, hext.size, fun b hb => hext.frame b hb (hno b), hext.os, hext.out⟩
    cases hj : J' b with
    | some c' => exact hext.imNew b c' hj hn
    | none =>
      unfold liveIm at hb
      rw [hj] at hb
      simp only at hb
      split at hb
      · rename_i ho
        exact (hext.own b ho).resolve_left (hno b)
      · cases hb


/-- A function that only looks, its empty slices of one kind, in and out. -/
theorem pure_of_runS (hP : E.P.follows .mixedOrders = true) (hN : namesOK E.P = true) (hS : SOK E) (hL : LOK E) (d : Nat) {f : FuncId} {g : List V → Option V} (si : List Shp) (so : Shp) (h : ∀ vs v, g vs = some v → runPureS E d f so vs = some v) :
    PureOK E.P f fun vs => g (fixSs si vs) :=
  fun _ vs gs _ v hI hr hv => runPureS_calls hP hN hS hL (h _ v hv) hI ⟨by rw [fixSs_length]; exact hr.1, fixSs_sound si vs gs hr.2⟩

theorem pure_of_run0 (hP : E.P.follows .mixedOrders = true) (hN : namesOK E.P = true) (hS : SOK E) (hL : LOK E) (d : Nat) {f : FuncId} {g : List V → Option V} (so : Shp) (h : ∀ vs v, g vs = some v → runPureS E d f so vs = some v) : PureOK E.P f g :=
  fun _ vs _ _ v hI hr hv => runPureS_calls hP hN hS hL (h _ v hv) hI hr
end
end Go.Ev

/-
  What all functions' texts lean on: how trees are tied to typed functions; the functions without a body.
-/
namespace Go.Proofs.Ytggfjjacafgkkaa
open Go.Ev Go

theorem leaf_ok {α β : Type} {F : α → β} {a : α} : some (F a) = some (F a) := rfl
theorem ite_k {α β : Type} {F : α → β} {c : Bool} {A B : Option β} {a b : α} (h : A = some (F a)) (h' : B = some (F b)) : (bif c then A else B) = some (F (bif c then a else b)) := by
  cases c <;> assumption
theorem ite_ok {α β : Type} {F : α → β} {c p q : Bool} {A B : Option β} {a b : α} (h : p = true → A = some (F a)) (h' : q = true → B = some (F b)) (hc : (bif c then p else q) = true) : (bif c then A else B) = some (F (bif c then a else b)) := by
  cases c
  · exact h' hc
  · exact h hc
theorem chk_k {α β : Type} {F : α → β} {c : Bool} {A : Option β} {a : α} (h : A = some (F a)) (hc : c = true) : (bif c then A else none) = some (F a) := by
  rw [hc]; exact h
theorem chk_ok {α β : Type} {F : α → β} {c p : Bool} {A : Option β} {a : α} (h : p = true → A = some (F a)) (hc : (c && p) = true) : (bif c then A else none) = some (F a) := by
  rw [Bool.and_eq_true] at hc
  rw [hc.1]; exact h hc.2

theorem ite_l {α β : Type} {F : α → β} {c p : Bool} {A B : Option β} {a : α} (h : p = true → A = some (F a)) (hc : (bif c then p else false) = true) : (bif c then A else B) = some (F a) := by
  cases c
  · cases hc
  · exact h hc
theorem ite_r {α β : Type} {F : α → β} {c q : Bool} {A B : Option β} {a : α} (h : q = true → B = some (F a)) (hc : (bif c then false else q) = true) : (bif c then A else B) = some (F a) := by
  cases c
  · exact h hc
  · cases hc
theorem ite_f {α β : Type} {f : α → β} {c : Bool} {A B : β} {a b : α} (h : A = f a) (h' : B = f b) : (bif c then A else B) = f (bif c then a else b) := by
  cases c <;> assumption
theorem chk_f {ρ β : Type} {f : Option ρ → Option β} {c : Bool} {A : Option β} {a : Option ρ} (hf : none = f none) (h : A = f a) : (bif c then A else none) = f (bif c then a else none) := by
  cases c <;> assumption

/-- Turns enough for each loop that is met. -/
def FUEL : Nat := 4294967296

/-- A struct out of cells; whether it is there; its parts. -/
def ldA (cs : List V) (off n : Nat) : Option V := bif Nat.ble (off + n) cs.length then some (.agg ((cs.drop off).take n)) else none
def okA (zs : List V) (o : Option V) : Bool := o.isSome && (isAg (o.getD .und) && chkCs zs 0 (Go.Ev.asAgg (o.getD .und)))
def atA (o : Option V) (i : Nat) : V := cellAt (Go.Ev.asAgg (o.getD .und)) i

theorem orders : Try.prog.follows .mixedOrders = true := by kernel_rfl
theorem names : namesOK Try.prog = true := by kernel_rfl

def bitsC (x : Nat) : Bool := (primBits .f32 [.flt .f32 x]).isSome && isI .u32 ((primBits .f32 [.flt .f32 x]).getD .und)
def bitsF (x : Nat) : Int := asI ((primBits .f32 [.flt .f32 x]).getD .und)

theorem bits_num {x : Nat} (h : isNan .f32 x = false) : bitsC x = true ∧ bitsF x = x := by
  have hp : primBits .f32 [.flt .f32 x] = some (.int .u32 x) := by
    have : primBits .f32 [.flt .f32 x] = (bif isNan .f32 x then none else some (.int .u32 x)) := rfl
    rw [this, h]; rfl
  unfold bitsC bitsF
  rw [hp]
  exact ⟨rfl, rfl⟩
end Go.Proofs.Ytggfjjacafgkkaa

/-
  From a run of the evaluator to a row: two slices of bytes in, true back, memory as it was.
-/
namespace Go.Proofs.Ytggfjjacafgkkaa
open Go.ChangeShapes Go.WideShapes Go.ChangeAt Go.RowKit Go.Ev

theorem Try.own : ownKnob Try.prog.godebug = none := by kernel_rfl
theorem Try.laidOut : laidOutB Try.prog = true := by kernel_rfl

theorem post_of_below {H : Type} {enc : TypeId × Value → H} {P : Program} {f : Func} {s : ChangeSpec} {apart fresh handsOn again : Bool} {W W' : World} {args : Array Value} {v : Value} {ds gs : List (DataW H)} {before : List MemPlace}
    (hW : DataW.Whole enc P f.params.toList s.vars apart W args.toList ds gs before)
    (hres : ∀ (b : Nat) (sp : Nat → Bool) (hd : Bool), DataW.TrodAll enc P W' b sp hd f.resultTypes.toList (v.resultList f.resultTypes.size) (s.fn H (ds ++ gs)).results [])
    (hargs : ∀ sp : Nat → Bool, (∀ p ∈ before, sp p.block = true) → DataW.TrodAll enc P W' 0 sp true f.params.toList args.toList (s.fn H (ds ++ gs)).args before)
    (hvars : ∀ sp : Nat → Bool, (∀ p ∈ before, sp p.block = true) → DataW.TrodVars enc P W' sp s.vars (s.fn H (ds ++ gs)).vars [])
    (hb : Below W.heap.size W W')
    (hok : ∀ (j : Nat) (t : TypeId) (r : Value), f.resultTypes[j]? = some t → (v.resultList f.resultTypes.size)[j]? = some r → Value.okWide P W' .any 0 t r) :
    s.post enc P f apart fresh handsOn again W args v W' := by
  have hlt : ∀ p ∈ before, p.block < W.heap.size := fun p hp => by simpa using hW.lt p hp
  have hold : ∀ p ∈ before, (fun b => decide (b < W.heap.size)) p.block = true := fun p hp => by simpa using hW.lt p hp
  refine ⟨ds, gs, before, [], before, [], hW, hres _ _ _, hargs _ hold, hvars _ hold, World.keptBut_mono (fun p hp => False.elim hp) (hb.frame fun _ => False), fun _ => ?_⟩
  obtain ⟨_, _, _, _, _, hz, hn⟩ := hW
  refine ⟨hok, _, _, ([] ++ before) ++ [], ⟨[] ++ before, [], trodAll_append (hargs _ (fun _ _ => rfl)) (hres _ _ _), hvars _ (fun _ _ => rfl), rfl, ?_, ?_⟩, ?_⟩
  · intro b off hp
    have hp' : MemPlace.cell b off ∈ before := by simpa using hp
    rw [hb.frozen (hlt _ hp')]
    exact hz b off hp'
  · intro ha
    simpa using hn ha
  · intro p hp _
    simpa using hp

def heapIm (W : World) : Im := fun b =>
  match W.heap[b]? with
  | some (.cells c _ _) => some c
  | _ => none

theorem heapIm_ok (W : World) : ImOK (heapIm W) W := by
  intro b c h
  unfold heapIm at h
  split at h
  · rename_i c' e fz hh
    cases h
    exact ⟨e, fz, hh⟩
  · cases h

/-- Bytes as a slice's elements. -/
def bsV (zs : List Int) : List (List V) := zs.map fun z => [.int .u8 z]

theorem bytes_rv {W : World} {a : Addr} {len cap : Nat} {zs : List Int} (hl : len ≤ cap) (hz : zs.length = cap) (hc : ∀ i, i < zs.length → W.cell? (a.add i) = some (.int .u8 (zs.getD i 0))) :
    Rv (heapIm W) noMu (.sl 1 (bsV (zs.take len))) (.slice (some a) len cap) := by
  cases len with
  | zero => exact .sl0
  | succ n =>
    have h0 := hc 0 (by omega)
    obtain ⟨blk, off, spot⟩ := a
    have hcells : ∃ c e fz, W.heap[blk]? = some (.cells c e fz) ∧ spot = none := by
      simp only [Addr.add, if_true, World.cell?] at h0
      split at h0
      · rename_i c e fz hh
        split at h0
        · cases h0
        · rename_i hs
          exact ⟨c, e, fz, hh, by cases spot <;> simp_all⟩
      · cases h0
    obtain ⟨c, e, fz, hh, rfl⟩ := hcells
    have hat : ∀ i, i < zs.length → c[off + i]? = some (.int .u8 (zs.getD i 0)) := by
      intro i hi
      have := hc i hi
      rw [addr_add] at this
      simpa [World.cell?, hh] using this
    have hlen : (bsV (zs.take (n + 1))).length = n + 1 := by simp [bsV]; omega
    have hel : ∀ (i : Nat) e', (bsV (zs.take (n + 1)))[i]? = some e' → i < n + 1 ∧ e' = [.int .u8 (zs.getD i 0)] := by
      intro i e' h
      have hi : i < n + 1 := by rw [← hlen]; exact lt_of_some h
      refine ⟨hi, ?_⟩
      simp only [bsV, List.getElem?_map, List.getElem?_take, hi, if_true] at h
      have hi' : i < zs.length := by omega
      simp [hi'] at h
      simp [← h, hi']
    have key : Rv (heapIm W) noMu (.sl 1 (bsV (zs.take (n + 1)))) (.slice (some ⟨blk, off, none⟩) (bsV (zs.take (n + 1))).length cap) := by
      refine .sl (c := c) (gs := fun i _ => .int .u8 (zs.getD i 0)) (by rw [hlen]; exact hl) (by simp [heapIm, hh]) (fun e' he => ?_) (fun i j e' v he hv => ?_) (fun i j e' v he hv => ?_) (fun i j e' v he hv => ?_)
      · obtain ⟨i, hi⟩ := List.getElem?_of_mem he
        rw [(hel i e' hi).2]; rfl
      · obtain ⟨h1, rfl⟩ := hel i e' he
        cases j with
        | zero =>
          have := hat i (by omega)
          simpa using this
        | succ j => simp at hv
      · obtain ⟨h1, rfl⟩ := hel i e' he
        cases j with
        | zero => simp at hv; subst hv; exact .int
        | succ j => simp at hv
      · obtain ⟨h1, rfl⟩ := hel i e' he
        cases j with
        | zero => simp at hv; subst hv; exact ⟨rfl, rfl⟩
        | succ j => simp at hv
    rw [hlen] at key
    exact key

theorem bytes_take {zs : List Int} (h : ∀ n ∈ zs, (Lit.int .u8 n).wf = true) (len : Nat) : ∀ n ∈ zs.take len, 0 ≤ n ∧ n ≤ 255 := by
  intro n hn
  have := h n (List.mem_of_mem_take hn)
  simp [Lit.wf, IntKind.min, IntKind.max, IntKind.signed, IntKind.bits] at this
  omega

def isBytes (zs : List Int) : Prop := ∀ n ∈ zs, 0 ≤ n ∧ n ≤ 255

/-- A slice of bytes that came in, for the evaluator. -/
theorem open_bytes {H : Type} {enc : TypeId × Value → H} {W : World} {v : Value} {d : DataW H} {ps : List MemPlace} {t e : TypeId} (ht : Try.prog.underlying t = some (.slice e)) (he : Try.prog.underlying e = some (.int .u8)) (hc : Try.prog.cellsOf e = 1) (hv : ∃ a len cap, v = .slice a len cap) (h : DataW.Trod enc Try.prog W 0 (fun _ => true) true t v d ps) :
    ∃ zs, isBytes zs ∧ Rv (heapIm W) noMu (.sl 1 (bsV zs)) v := by
  obtain ⟨a0, len, cap, rfl⟩ := hv
  obtain ⟨fuel, hf⟩ := h
  rcases open_ints (k := .u8) ht he hc hf with ⟨hcs, hx⟩ | ⟨a, len', cap', zs, hcs, _, hl, hm, hz, hx, hcell, hwz⟩
  · refine ⟨[], fun n hn => by simp at hn, ?_⟩
    simp only [Value.cells] at hcs
    have : (Value.slice a0 len cap) = .slice none 0 0 := by simpa [Value.cells] using hcs
    rw [this]
    exact .sl0
  · have : (Value.slice a0 len cap) = .slice (some a) len' cap' := by simpa [Value.cells] using hcs
    rw [this]
    exact ⟨zs.take len', bytes_take hwz len', bytes_rv hl (by simpa using hz) hcell⟩

theorem rvs_two {J : Im} {μ : Mu} {v u : V} {g g' : Value} (h : Rv J μ v g) (h' : Rv J μ u g') : Rvs J μ [v, u] #[g, g'] := by
  refine ⟨rfl, fun j x y hx hy => ?_⟩
  match j with
  | 0 => simp at hx hy; subst hx; subst hy; exact h
  | 1 => simp at hx hy; subst hx; subst hy; exact h'
  | j + 2 => simp at hx

/-- What is true of each two lists of bytes, by the evaluator, is true of the call. -/
theorem law_calls {E : Env} (hE : E.P = Try.prog) (hS : SOK E) (hL : LOK E) {d f : Nat} {W : World} {v0 v1 : Value} {zs0 zs1 : List Int} (h0 : Rv (heapIm W) noMu (.sl 1 (bsV zs0)) v0) (h1 : Rv (heapIm W) noMu (.sl 1 (bsV zs1)) v1)
    (hrun : runPureS E d f .any [.sl 1 (bsV zs0), .sl 1 (bsV zs1)] = some (.bool true)) :
    Calls Try.prog f #[v0, v1] W fun e W' => e = .returned (.bool true) ∧ Below W.heap.size W W' := by
  rw [← hE]
  refine (runPureS_calls (by rw [hE]; exact orders) (by rw [hE]; exact names) hS hL hrun (heapIm_ok W) (rvs_two h0 h1)).mono ?_
  rintro e W' ⟨gv, J', rfl, hr, _, _, _, hsz, hbl, hos, hout⟩
  refine ⟨?_, hos, congrArg (·.2) hout, congrArg (·.1) hout, hsz, hbl⟩
  cases hr
  rfl
end Go.Proofs.Ytggfjjacafgkkaa

/-
  Rounding looks at the value alone, not at how it is written.
-/
namespace Go.Ev
open Ieee

theorem cut_two (neg : Bool) (n d : Nat) (hn : n ≠ 0) : Toward.even.cut neg (2 * n) (d + 1) = Toward.even.cut neg n d := by
  have hl : (2 * n).log2 = n.log2 + 1 := Nat.log2_two_mul hn
  have hg : 1 <<< min (d + 1) ((2 * n).log2 + 2) = 2 * 1 <<< min d (n.log2 + 2) := by
    rw [hl, show min (d + 1) (n.log2 + 1 + 2) = min d (n.log2 + 2) + 1 by omega]
    simp only [Nat.shiftLeft_eq, Nat.one_mul, Nat.pow_succ]
    omega
  unfold Toward.cut
  simp only [hg]
  generalize 1 <<< min d (n.log2 + 2) = g
  have h1 : 2 * n / (2 * g) = n / g := Nat.mul_div_mul_left n g (by omega)
  have h2 : 2 * n % (2 * g) = 2 * (n % g) := Nat.mul_mod_mul_left 2 n g
  rw [h1, h2]
  have e1 : decide (2 * g < 2 * (2 * (n % g))) = decide (g < 2 * (n % g)) := by
    congr 1
    exact propext ⟨fun h => by omega, fun h => by omega⟩
  have e2 : (2 * g == 2 * (2 * (n % g))) = (g == 2 * (n % g)) := by
    rw [Bool.eq_iff_iff]
    simp only [beq_iff_eq]
    omega
  rw [e1, e2]

theorem nearest_two (f : Format) (neg : Bool) (mag : Nat) (place : Int) : f.nearest neg (2 * mag) place = f.nearest neg mag (place + 1) := by
  by_cases hm : mag = 0
  · subst hm; rfl
  have h2 : 2 * mag ≠ 0 := by omega
  unfold Format.nearest
  rw [if_neg h2, if_neg hm]
  have hl : (2 * mag).log2 = mag.log2 + 1 := Nat.log2_two_mul hm
  have hlast : max (place + ((2 * mag).log2 : Nat) - f.fractionBits) f.leastPlace = max (place + 1 + (mag.log2 : Nat) - f.fractionBits) f.leastPlace := by
    rw [hl]
    congr 1
    omega
  simp only [hlast]
  generalize max (place + 1 + (mag.log2 : Nat) - f.fractionBits) f.leastPlace = last
  have hk : Toward.even.cut neg ((2 * mag) <<< (place - last).toNat) (last - place).toNat = Toward.even.cut neg (mag <<< (place + 1 - last).toNat) (last - (place + 1)).toNat := by
    by_cases h : last ≤ place
    · have a1 : (last - place).toNat = 0 := by omega
      have a2 : (last - (place + 1)).toNat = 0 := by omega
      have a3 : (place + 1 - last).toNat = (place - last).toNat + 1 := by omega
      rw [a1, a2, a3]
      congr 1
    · have a1 : (place - last).toNat = 0 := by omega
      have a2 : (place + 1 - last).toNat = 0 := by omega
      have a3 : (last - place).toNat = (last - (place + 1)).toNat + 1 := by omega
      rw [a1, a2, a3]
      simp only [Nat.shiftLeft_zero]
      exact cut_two neg mag _ hm
  rw [hk]

theorem nearest_scale (f : Format) (neg : Bool) (mag : Nat) (place : Int) : ∀ j : Nat, f.nearest neg (mag * 2 ^ j) place = f.nearest neg mag (place + j)
  | 0 => by simp
  | j + 1 => by
    have : mag * 2 ^ (j + 1) = 2 * (mag * 2 ^ j) := by rw [Nat.pow_succ]; rw [← Nat.mul_assoc, Nat.mul_comm]
    rw [this, nearest_two, nearest_scale f neg mag (place + 1) j]
    congr 1
    omega

/-- A value in units of 2 ^ -1200, rounded. -/
def near (f : Format) (neg : Bool) (n : Nat) : Nat := f.nearest neg n (-1200)

theorem nearest_near (f : Format) (neg : Bool) (mag : Nat) (place : Int) (h : -1200 ≤ place) : f.nearest neg mag place = near f neg (mag * 2 ^ (place + 1200).toNat) := by
  unfold near
  rw [nearest_scale]
  congr 1
  omega
end Go.Ev

/-
  Rounding in natural numbers: units of 2 ^ -1200.
-/
namespace Go.Ev
open Ieee

/-- n / g, to the nearest, between two the even one. -/
def rnd (n g : Nat) : Nat := n / g + (decide (g < 2 * (n % g)) || (g == 2 * (n % g) && n / g % 2 == 1)).toNat

def loOf : FloatKind → Nat
  | .f32 => 1051
  | .f64 => 126
def fbOf : FloatKind → Nat
  | .f32 => 23
  | .f64 => 52
def dropOf (k : FloatKind) (n : Nat) : Nat := max (n.log2 - fbOf k) (loOf k)

theorem cut_rnd (neg : Bool) (n d : Nat) (_hn : n ≠ 0) : Toward.even.cut neg n d = rnd n (2 ^ d) := by
  unfold Toward.cut rnd
  by_cases h : d ≤ n.log2 + 2
  · rw [Nat.min_eq_left h]
    simp only [Nat.shiftLeft_eq, Nat.one_mul]
  · have h' : n.log2 + 2 ≤ d := by omega
    rw [Nat.min_eq_right h']
    have h1 : n < 2 ^ (n.log2 + 1) := Nat.lt_log2_self
    have h2 : 2 * 2 ^ (n.log2 + 1) = 2 ^ (n.log2 + 2) := by rw [Nat.pow_succ 2 (n.log2 + 1)]; omega
    have h3 : 2 ^ (n.log2 + 2) ≤ 2 ^ d := Nat.pow_le_pow_right (by omega) h'
    simp only [Nat.shiftLeft_eq, Nat.one_mul]
    generalize 2 ^ (n.log2 + 2) = g at h2 h3
    generalize 2 ^ d = g' at h3
    rw [Nat.div_eq_of_lt (by omega : n < g), Nat.div_eq_of_lt (by omega : n < g'), Nat.mod_eq_of_lt (by omega : n < g), Nat.mod_eq_of_lt (by omega : n < g')]
    have a1 : decide (g < 2 * n) = false := by simp; omega
    have a2 : decide (g' < 2 * n) = false := by simp; omega
    simp [a1, a2]

theorem least_eq (k : FloatKind) : k.format.leastPlace + 1200 = loOf k := by cases k <;> decide +kernel
theorem fb_eq (k : FloatKind) : k.format.fractionBits = fbOf k := by cases k <;> rfl

theorem near_eq (k : FloatKind) (neg : Bool) (n : Nat) (hn : n ≠ 0) : near k.format neg n = k.format.word neg (min ((dropOf k n - loOf k) * k.format.binade + rnd n (2 ^ dropOf k n)) k.format.infRung) := by
  have hl := least_eq k
  unfold near Format.nearest
  rw [if_neg hn]
  have hlast : max (-1200 + (n.log2 : Int) - k.format.fractionBits) k.format.leastPlace = (dropOf k n : Int) - 1200 := by
    rw [fb_eq]
    unfold dropOf
    omega
  simp only [hlast]
  have e1 : ((dropOf k n : Int) - 1200 - k.format.leastPlace).toNat = dropOf k n - loOf k := by omega
  have e2 : ((-1200 : Int) - ((dropOf k n : Int) - 1200)).toNat = 0 := by omega
  have e3 : ((dropOf k n : Int) - 1200 - -1200).toNat = dropOf k n := by omega
  rw [e1, e2, e3, Nat.shiftLeft_zero, cut_rnd neg n _ hn]
end Go.Ev

/-
  Rungs and their values; rounding between two of them.
-/
namespace Go.Ev
open Ieee

def bin (k : FloatKind) : Nat := 2 ^ fbOf k

/-- What a rung stands for, in units of the least place. -/
def val (k : FloatKind) (r : Nat) : Nat := if r < bin k then r else (bin k + r % bin k) * 2 ^ (r / bin k - 1)

/-- The step from a rung to the next. -/
def gapE (k : FloatKind) (r : Nat) : Nat := r / bin k - 1

theorem bin_pos (k : FloatKind) : 0 < bin k := Nat.pow_pos (by omega)
theorem bin_even (k : FloatKind) : bin k % 2 = 0 := by cases k <;> decide +kernel
theorem binade_eq (k : FloatKind) : k.format.binade = bin k := by cases k <;> rfl

/-- A rung by its step and its count. -/
theorem rung_split (k : FloatKind) (r : Nat) : ∃ q, val k r = q * 2 ^ gapE k r ∧ r = gapE k r * bin k + q ∧ q < 2 * bin k ∧ (bin k ≤ q ∨ gapE k r = 0) := by
  have hp := bin_pos k
  unfold val gapE
  by_cases h : r < bin k
  · rw [if_pos h, Nat.div_eq_of_lt h]
    exact ⟨r, by simp, by simp, by omega, .inr (by simp)⟩
  · rw [if_neg h]
    have h1 := Nat.div_add_mod r (bin k)
    have h2 := Nat.mod_lt r hp
    have h3 : 1 ≤ r / bin k := (Nat.le_div_iff_mul_le hp).2 (by omega)
    refine ⟨bin k + r % bin k, rfl, ?_, by omega, .inl (by omega)⟩
    have : r / bin k = (r / bin k - 1) + 1 := by omega
    rw [this, Nat.mul_add, Nat.mul_one, Nat.mul_comm] at h1
    omega

theorem val_succ (k : FloatKind) (r : Nat) : val k (r + 1) = val k r + 2 ^ gapE k r := by
  have hp := bin_pos k
  unfold val gapE
  by_cases h : r + 1 < bin k
  · rw [if_pos h, if_pos (by omega), Nat.div_eq_of_lt (by omega : r < bin k)]
  · rw [if_neg h]
    by_cases h' : r < bin k
    · have e : r + 1 = bin k := by omega
      rw [if_pos h', e, Nat.div_self hp, Nat.mod_self, Nat.div_eq_of_lt h']
      simp
      omega
    · rw [if_neg h']
      have h1 := Nat.div_add_mod r (bin k)
      have h2 := Nat.mod_lt r hp
      have h3 : 1 ≤ r / bin k := (Nat.le_div_iff_mul_le hp).2 (by omega)
      by_cases h4 : r % bin k + 1 < bin k
      · have hd : (r + 1) / bin k = r / bin k := by
          rw [← h1, Nat.add_assoc, Nat.mul_add_div hp, Nat.div_eq_of_lt h4, Nat.mul_add_div hp, Nat.div_eq_of_lt h2]
        have hm : (r + 1) % bin k = r % bin k + 1 := by
          rw [← h1, Nat.add_assoc, Nat.mul_add_mod, Nat.mod_eq_of_lt h4, Nat.mul_add_mod, Nat.mod_eq_of_lt h2]
        rw [hd, hm, ← Nat.add_assoc, Nat.add_mul (bin k + r % bin k), Nat.one_mul]
      · have e : r % bin k + 1 = bin k := by omega
        have hr : r + 1 = bin k * (r / bin k + 1) := by rw [Nat.mul_add, Nat.mul_one]; omega
        have hd : (r + 1) / bin k = r / bin k + 1 := by rw [hr, Nat.mul_div_cancel_left _ hp]
        have hm : (r + 1) % bin k = 0 := by rw [hr, Nat.mul_mod_right]
        rw [hd, hm]
        have : r / bin k + 1 - 1 = (r / bin k - 1) + 1 := by omega
        rw [this, Nat.pow_succ, Nat.add_zero]
        generalize 2 ^ (r / bin k - 1) = g
        have : bin k + r % bin k + 1 = 2 * bin k := by omega
        have h5 : (bin k + r % bin k) * g + g = (bin k + r % bin k + 1) * g := by rw [Nat.add_mul (bin k + r % bin k), Nat.one_mul]
        rw [h5, this, Nat.mul_comm g 2, ← Nat.mul_assoc, Nat.mul_comm (bin k) 2]
end Go.Ev

/-
  Rounding between two rungs; what is exact.
-/
namespace Go.Ev
open Ieee

theorem bin_pow (k : FloatKind) : bin k = 2 ^ fbOf k := rfl

theorem rnd_between {n g q : Nat} (h1 : q * g ≤ n) (h2 : n < (q + 1) * g) : rnd n g = if 2 * n < (2 * q + 1) * g then q else if (2 * q + 1) * g < 2 * n then q + 1 else q + q % 2 := by
  have hg : 0 < g := by
    rcases Nat.eq_zero_or_pos g with h | h
    · subst h; simp at h2
    · exact h
  have hd : n / g = q := Nat.div_eq_of_lt_le h1 h2
  have hm : n % g = n - q * g := by
    have := Nat.div_add_mod n g
    rw [hd, Nat.mul_comm] at this
    omega
  have e : (2 * q + 1) * g = 2 * (q * g) + g := by rw [Nat.add_mul, Nat.one_mul, Nat.mul_assoc]
  unfold rnd
  rw [hd, hm, e]
  have hsub : q * g + (n - q * g) = n := by omega
  generalize n - q * g = t at hsub ⊢
  generalize q * g = s at hsub ⊢
  by_cases c1 : 2 * n < 2 * s + g
  · rw [if_pos c1]
    have a1 : decide (g < 2 * t) = false := by simp; omega
    have a2 : (g == 2 * t) = false := by simp; omega
    simp [a1, a2]
  · rw [if_neg c1]
    by_cases c2 : 2 * s + g < 2 * n
    · rw [if_pos c2]
      have a1 : decide (g < 2 * t) = true := by simp; omega
      simp [a1]
    · rw [if_neg c2]
      have a1 : decide (g < 2 * t) = false := by simp; omega
      have a2 : (g == 2 * t) = true := by simp; omega
      simp only [a1, a2, Bool.false_or, Bool.true_and]
      congr 1
      have : q % 2 = 0 ∨ q % 2 = 1 := by omega
      rcases this with h | h <;> rw [h] <;> rfl

theorem drop_at (k : FloatKind) {r n : Nat} (h1 : val k r * 2 ^ loOf k ≤ n) (h2 : n < val k (r + 1) * 2 ^ loOf k) (hn : n ≠ 0) : dropOf k n = gapE k r + loOf k := by
  obtain ⟨q, hq, hr, hlt, hor⟩ := rung_split k r
  rw [val_succ, hq] at h2
  rw [hq] at h1
  have hb := bin_pow k
  have up : n < 2 ^ (fbOf k + 1 + gapE k r + loOf k) := by
    refine Nat.lt_of_lt_of_le h2 ?_
    have : q * 2 ^ gapE k r + 2 ^ gapE k r = (q + 1) * 2 ^ gapE k r := by rw [Nat.add_mul, Nat.one_mul]
    rw [this, Nat.pow_add, Nat.pow_add]
    refine Nat.mul_le_mul_right _ (Nat.mul_le_mul_right _ ?_)
    rw [Nat.pow_succ, ← hb]
    omega
  have hlog : n.log2 < fbOf k + 1 + gapE k r + loOf k := (Nat.log2_lt hn).2 up
  unfold dropOf
  rcases hor with h | h
  · have lowr : 2 ^ (fbOf k + gapE k r + loOf k) ≤ n := by
      refine Nat.le_trans ?_ h1
      rw [Nat.pow_add, Nat.pow_add]
      refine Nat.mul_le_mul_right _ (Nat.mul_le_mul_right _ ?_)
      rw [← hb]
      exact h
    have : fbOf k + gapE k r + loOf k ≤ n.log2 := (Nat.le_log2 hn).2 lowr
    omega
  · rw [h] at hlog ⊢
    omega

/-- Rounding between two rungs. -/
theorem near_between (k : FloatKind) (neg : Bool) {r n : Nat} (h1 : val k r * 2 ^ loOf k ≤ n) (h2 : n < val k (r + 1) * 2 ^ loOf k) (hn : n ≠ 0) (hr : r + 1 ≤ k.format.infRung) :
    near k.format neg n = k.format.word neg (if 2 * n < (val k r + val k (r + 1)) * 2 ^ loOf k then r else if (val k r + val k (r + 1)) * 2 ^ loOf k < 2 * n then r + 1 else r + r % 2) := by
  have hd := drop_at k h1 h2 hn
  obtain ⟨q, hq, hrr, hlt, hor⟩ := rung_split k r
  rw [near_eq k neg n hn, hd]
  have e0 : gapE k r + loOf k - loOf k = gapE k r := by omega
  rw [e0, binade_eq]
  have hv : val k r * 2 ^ loOf k = q * 2 ^ (gapE k r + loOf k) := by rw [hq, Nat.pow_add, Nat.mul_assoc]
  have hv1 : val k (r + 1) * 2 ^ loOf k = (q + 1) * 2 ^ (gapE k r + loOf k) := by
    rw [val_succ, hq, Nat.pow_add, ← Nat.mul_assoc]
    congr 1
    rw [Nat.add_mul, Nat.one_mul]
  have hmid : (val k r + val k (r + 1)) * 2 ^ loOf k = (2 * q + 1) * 2 ^ (gapE k r + loOf k) := by
    rw [Nat.add_mul, hv, hv1, ← Nat.add_mul]
    congr 1
    omega
  rw [hv] at h1
  rw [hv1] at h2
  rw [rnd_between h1 h2, hmid]
  have hpar : r % 2 = q % 2 := by
    have hb := bin_even k
    have : (gapE k r * bin k) % 2 = 0 := by rw [Nat.mul_mod, hb]; simp
    omega
  congr 1
  split
  · omega
  · split
    · omega
    · rw [hpar]
      omega
end Go.Ev

/-
  Words and values.
-/
namespace Go.Ev
open Ieee

theorem near_exact (k : FloatKind) (neg : Bool) {r : Nat} (h0 : val k r ≠ 0) (hr : r + 1 ≤ k.format.infRung) : near k.format neg (val k r * 2 ^ loOf k) = k.format.word neg r := by
  have hp : 0 < 2 ^ loOf k := Nat.pow_pos (by omega)
  have hg : 0 < 2 ^ gapE k r := Nat.pow_pos (by omega)
  have hn : val k r * 2 ^ loOf k ≠ 0 := Nat.mul_ne_zero h0 (by omega)
  have hlt : val k r * 2 ^ loOf k < val k (r + 1) * 2 ^ loOf k := Nat.mul_lt_mul_of_pos_right (by rw [val_succ]; omega) hp
  rw [near_between k neg (Nat.le_refl _) hlt hn hr, if_pos ?_]
  rw [Nat.add_mul]
  omega

/-- What a word below infinity stands for. -/
theorem read_val (k : FloatKind) (neg : Bool) {r : Nat} (hr : r < k.format.infRung) : ∃ m p, k.format.read (k.format.word neg r) = .number neg m p ∧ -1200 ≤ p ∧ m * 2 ^ (p + 1200).toNat = val k r * 2 ^ loOf k := by
  have hlt : r < k.format.signWeight := Nat.lt_trans hr (infRung_lt' k)
  have hs : 0 < k.format.signWeight := by omega
  have hmod : k.format.word neg r % k.format.signWeight = r := read_word _ _ hlt
  have hneg : (k.format.word neg r / k.format.signWeight % 2 == 1) = neg := by
    unfold Format.word
    cases neg
    · simp [Nat.div_eq_of_lt hlt]
    · rw [if_pos rfl, Nat.add_div_left _ hs, Nat.div_eq_of_lt hlt]
      rfl
  have hl := least_eq k
  unfold Format.read
  simp only [hmod, hneg]
  rw [binade_eq]
  unfold val
  by_cases h : r < bin k
  · rw [if_pos h, if_pos h]
    refine ⟨r, _, rfl, by omega, ?_⟩
    congr 2
    omega
  · rw [if_neg h, if_pos hr, if_neg h]
    refine ⟨_, _, rfl, by omega, ?_⟩
    rw [Nat.mul_assoc, ← Nat.pow_add]
    congr 2
    omega

/-- A number of few digits is a word. -/
theorem near_rep (k : FloatKind) (neg : Bool) {n : Nat} (hn : n ≠ 0) (hd : 2 ^ dropOf k n ∣ n) (hr : (dropOf k n - loOf k) * bin k + 2 * bin k ≤ k.format.infRung) :
    ∃ r, r + 1 ≤ k.format.infRung ∧ near k.format neg n = k.format.word neg r ∧ val k r * 2 ^ loOf k = n := by
  obtain ⟨m, hm⟩ := hd
  have hp := bin_pos k
  have hb := bin_pow k
  have hlt : n < 2 ^ (n.log2 + 1) := Nat.lt_log2_self
  have hle : 2 ^ n.log2 ≤ n := Nat.log2_self_le hn
  have hdl : loOf k ≤ dropOf k n := Nat.le_max_right _ _
  have hdf : n.log2 ≤ dropOf k n + fbOf k := by unfold dropOf; omega
  generalize hD : dropOf k n = D at *
  have hm2 : m < 2 * bin k := by
    have : n < 2 ^ (D + fbOf k + 1) := Nat.lt_of_lt_of_le hlt (Nat.pow_le_pow_right (by omega) (by omega))
    rw [hm, Nat.add_assoc, Nat.pow_add] at this
    have := Nat.lt_of_mul_lt_mul_left this
    rw [Nat.pow_succ, ← hb] at this
    omega
  have key : ∀ r, r + 1 ≤ k.format.infRung → val k r * 2 ^ loOf k = n → ∃ r, r + 1 ≤ k.format.infRung ∧ near k.format neg n = k.format.word neg r ∧ val k r * 2 ^ loOf k = n := by
    intro r h1 h2
    refine ⟨r, h1, ?_, h2⟩
    rw [← h2]
    exact near_exact k neg (fun h => hn (by rw [← h2, h]; simp)) h1
  by_cases hc : D = loOf k
  · rw [hc] at hm hr
    by_cases hmb : m < bin k
    · refine key m (by omega) ?_
      unfold val
      rw [if_pos hmb, hm, Nat.mul_comm]
    · refine key m (by omega) ?_
      unfold val
      have h1 : m / bin k = 1 := Nat.div_eq_of_lt_le (by omega) (by omega)
      have h2 := Nat.div_add_mod m (bin k)
      rw [h1, Nat.mul_one] at h2
      rw [if_neg hmb, h1, h2, hm]
      simp [Nat.mul_comm]
  · have hdn : n.log2 = D + fbOf k := by unfold dropOf at hD; omega
    have hmb : bin k ≤ m := by
      rw [hdn, hm, Nat.pow_add] at hle
      have := Nat.le_of_mul_le_mul_left hle (Nat.pow_pos (by omega))
      rw [← hb] at this
      exact this
    refine key ((D - loOf k) * bin k + m) (by omega) ?_
    unfold val
    have h1 : ((D - loOf k) * bin k + m) / bin k = D - loOf k + 1 := by
      rw [Nat.mul_comm, Nat.mul_add_div hp, Nat.div_eq_of_lt_le (k := 1) (by omega) (by omega)]
    have h2 : ((D - loOf k) * bin k + m) % bin k = m - bin k := by
      rw [Nat.mul_comm, Nat.mul_add_mod]
      have e : m = (m - bin k) + bin k := by omega
      rw [e, Nat.add_mod_right, Nat.mod_eq_of_lt (by omega)]
      omega
    have h3 : ¬ (D - loOf k) * bin k + m < bin k := by omega
    rw [if_neg h3, h1, h2]
    have e1 : bin k + (m - bin k) = m := by omega
    have e2 : D - loOf k + 1 - 1 = D - loOf k := by omega
    rw [e1, e2, Nat.mul_assoc, ← Nat.pow_add]
    have e3 : D - loOf k + loOf k = D := by omega
    rw [e3, Nat.mul_comm]
    exact hm.symm
end Go.Ev

/-
  Words with a value; exact sums.
-/
namespace Go.Ev
open Ieee

/-- A finite word of a sign and of a size (in units of 2 ^ -1200). -/
def Is (k : FloatKind) (neg : Bool) (n x : Nat) : Prop := ∃ r, r + 1 ≤ k.format.infRung ∧ x = k.format.word neg r ∧ val k r * 2 ^ loOf k = n

theorem Is.read {k : FloatKind} {s : Bool} {n x : Nat} (h : Is k s n x) : ∃ m p, k.format.read x = .number s m p ∧ -1200 ≤ p ∧ m * 2 ^ (p + 1200).toNat = n := by
  obtain ⟨r, h1, rfl, h2⟩ := h
  obtain ⟨m, p, q1, q2, q3⟩ := read_val k s (by omega : r < k.format.infRung)
  exact ⟨m, p, q1, q2, q3.trans h2⟩

/-- A size that a word has. -/
def Rep (k : FloatKind) (n : Nat) : Prop := n = 0 ∨ (n ≠ 0 ∧ 2 ^ dropOf k n ∣ n ∧ (dropOf k n - loOf k) * bin k + 2 * bin k ≤ k.format.infRung)

theorem near_is {k : FloatKind} {n : Nat} (s : Bool) (h : Rep k n) : Is k s n (near k.format s n) := by
  rcases h with rfl | ⟨h1, h2, h3⟩
  · refine ⟨0, ?_, ?_, ?_⟩
    · cases k <;> decide +kernel
    · unfold near Format.nearest
      rw [if_pos rfl]
    · unfold val
      rw [if_pos (bin_pos k)]
      simp
  · obtain ⟨r, q1, q2, q3⟩ := near_rep k s h1 h2 h3
    exact ⟨r, q1, q2, q3⟩

theorem write_near (k : FloatKind) (s : Bool) (m : Nat) (p : Int) (h : -1200 ≤ p) : k.format.write (.number s m p) = near k.format s (m * 2 ^ (p + 1200).toNat) := nearest_near k.format s m p h

/-- A size with its sign. -/
def sz (s : Bool) (n : Nat) : Int := if s then -(n : Int) else n

theorem signed_sz (s : Bool) (m u : Nat) : signed s m u = sz s (m * 2 ^ u) := by
  unfold signed sz
  rw [Nat.shiftLeft_eq]

theorem sz_mul (s : Bool) (n u : Nat) : sz s n * ((2 ^ u : Nat) : Int) = sz s (n * 2 ^ u) := by
  unfold sz
  cases s
  · simp
  · simp only [if_true]
    rw [Int.neg_mul, ← Int.natCast_mul]

/-- The sign of a sum. -/
def sgn (s t : Bool) (z : Int) : Bool := if z = 0 then s && t else decide (z < 0)

theorem fop_add {k : FloatKind} {s t : Bool} {a b x y : Nat} (hx : Is k s a x) (hy : Is k t b y) : fop .add k x y = near k.format (sgn s t (sz s a + sz t b)) (sz s a + sz t b).natAbs := by
  obtain ⟨m, i, r1, i1, e1⟩ := hx.read
  obtain ⟨n, j, r2, j1, e2⟩ := hy.read
  have hb : floatBits .add k x y = some (k.format.write (.number (sgn s t (signed s m (i - min i j).toNat + signed t n (j - min i j).toNat)) (signed s m (i - min i j).toNat + signed t n (j - min i j).toNat).natAbs (min i j))) := by
    show k.format.add x y = _
    unfold Format.add
    rw [r1, r2]
    rfl
  unfold fop
  rw [hb]
  simp only
  rw [write_near k _ _ _ (by omega)]
  have hz : (signed s m (i - min i j).toNat + signed t n (j - min i j).toNat) * ((2 ^ (min i j + 1200).toNat : Nat) : Int) = sz s a + sz t b := by
    rw [Int.add_mul, signed_sz, signed_sz, sz_mul, sz_mul, Nat.mul_assoc, Nat.mul_assoc, ← Nat.pow_add, ← Nat.pow_add]
    have a1 : (i - min i j).toNat + (min i j + 1200).toNat = (i + 1200).toNat := by omega
    have a2 : (j - min i j).toNat + (min i j + 1200).toNat = (j + 1200).toNat := by omega
    rw [a1, a2, e1, e2]
  have hp : (0 : Int) < ((2 ^ (min i j + 1200).toNat : Nat) : Int) := Int.natCast_pos.2 (Nat.pow_pos (by omega))
  generalize (signed s m (i - min i j).toNat + signed t n (j - min i j).toNat) = z at hz ⊢
  rw [← hz]
  have hsg : sgn s t (z * ((2 ^ (min i j + 1200).toNat : Nat) : Int)) = sgn s t z := by
    generalize ((2 ^ (min i j + 1200).toNat : Nat) : Int) = g at hp
    unfold sgn
    by_cases h0 : z = 0
    · subst h0; simp
    · have h1 : z * g ≠ 0 := Int.mul_ne_zero h0 (by omega)
      rw [if_neg h0, if_neg h1]
      congr 1
      refine propext ⟨fun h => ?_, fun h => ?_⟩
      · apply Classical.byContradiction
        intro hc
        have : 0 ≤ z * g := Int.mul_nonneg (by omega) (by omega)
        omega
      · exact Int.mul_neg_of_neg_of_pos h hp
  rw [hsg, Int.natAbs_mul, Int.natAbs_natCast]
end Go.Ev

/-
  Halves; from one kind to the other; order.
-/
namespace Go.Ev
open Ieee

/-- The place of what is read, and how many digits. -/
theorem read_low (k : FloatKind) (neg : Bool) {r : Nat} (hr : r < k.format.infRung) {m : Nat} {p : Int} (h : k.format.read (k.format.word neg r) = .number neg m p) : (loOf k : Int) - 1200 ≤ p ∧ m < 2 * bin k := by
  have hlt : r < k.format.signWeight := Nat.lt_trans hr (infRung_lt' k)
  have hmod : k.format.word neg r % k.format.signWeight = r := read_word _ _ hlt
  have hl := least_eq k
  have hp := bin_pos k
  unfold Format.read at h
  simp only [hmod] at h
  rw [binade_eq] at h
  by_cases hb : r < bin k
  · rw [if_pos hb] at h
    simp only [Datum.number.injEq] at h
    obtain ⟨_, h1, h2⟩ := h
    omega
  · rw [if_neg hb, if_pos hr] at h
    simp only [Datum.number.injEq] at h
    obtain ⟨_, h1, h2⟩ := h
    have := Nat.mod_lt r hp
    omega

theorem two_read : FloatKind.f64.format.read 4611686018427387904 = .number false 4503599627370496 (-51) := by decide +kernel

theorem fop_half {s : Bool} {a x : Nat} (hx : Is .f64 s a x) (ha : a % 2 = 0) : fop .quo .f64 x 4611686018427387904 = near FloatKind.f64.format s (a / 2) := by
  obtain ⟨r, h1, h2, h3⟩ := hx
  obtain ⟨m, i, q1, q2, q3⟩ := read_val .f64 s (by omega : r < FloatKind.f64.format.infRung)
  obtain ⟨l1, l2⟩ := read_low .f64 s (by omega : r < FloatKind.f64.format.infRung) q1
  rw [← h2] at q1
  rw [h3] at q3
  have l1' : (126 : Int) - 1200 ≤ i := l1
  have l2' : m < 9007199254740992 := by
    have : bin .f64 = 4503599627370496 := by decide +kernel
    omega
  have hlog : m.log2 ≤ 52 := by
    rcases Nat.eq_zero_or_pos m with h | h
    · subst h; decide
    · have : m.log2 < 53 := (Nat.log2_lt (by omega)).2 (by simpa using l2')
      omega
  have hlog2 : (4503599627370496 : Nat).log2 = 52 := by decide +kernel
  have hfb : FloatKind.f64.format.fractionBits + 2 = 54 := by decide +kernel
  have hdiv : ∀ e, 52 ≤ e → m <<< e / 4503599627370496 = m * 2 ^ (e - 52) ∧ m <<< e % 4503599627370496 = 0 := by
    intro e he
    have : m <<< e = m * 2 ^ (e - 52) * 4503599627370496 := by
      rw [Nat.shiftLeft_eq, Nat.mul_assoc]
      congr 1
      have : e = (e - 52) + 52 := by omega
      rw [this, Nat.pow_add]
      simp
    rw [this]
    exact ⟨Nat.mul_div_cancel _ (by omega), Nat.mul_mod_left _ _⟩
  have hb : floatBits .quo .f64 x 4611686018427387904 = some (FloatKind.f64.format.write (.number s (2 * (m * 2 ^ (54 - m.log2))) (i + 51 - (106 - m.log2 : Nat) - 1))) := by
    show FloatKind.f64.format.div x _ = _
    unfold Format.div
    rw [q1, two_read]
    simp only [Datum.quotient]
    rw [if_neg (by omega), hlog2, hfb]
    obtain ⟨d1, d2⟩ := hdiv (54 + 52 - m.log2) (by omega)
    rw [d1, d2]
    simp only [Option.map_some, Bool.xor_false]
    have e1 : 54 + 52 - m.log2 - 52 = 54 - m.log2 := by omega
    have e2 : i - -51 - ((54 + 52 - m.log2 : Nat) : Int) - 1 = i + 51 - (106 - m.log2 : Nat) - 1 := by omega
    rw [e1, e2]
    rfl
  unfold fop
  rw [hb]
  simp only
  rw [write_near .f64 _ _ _ (by omega)]
  congr 1
  have : 2 * (m * 2 ^ (54 - m.log2)) * 2 ^ (i + 51 - (106 - m.log2 : Nat) - 1 + 1200).toNat = m * 2 ^ ((i + 1200).toNat - 1) := by
    have e : (i + 1200).toNat - 1 = 1 + (54 - m.log2) + (i + 51 - (106 - m.log2 : Nat) - 1 + 1200).toNat := by omega
    rw [e, Nat.pow_add, Nat.pow_add, Nat.pow_one]
    rw [← Nat.mul_assoc, ← Nat.mul_assoc, Nat.mul_comm 2 m]
    congr 1
    rw [Nat.mul_assoc]
  rw [this]
  have e : (i + 1200).toNat = ((i + 1200).toNat - 1) + 1 := by omega
  rw [e, Nat.pow_succ, ← Nat.mul_assoc] at q3
  omega
end Go.Ev

/-
  From one kind to the other; sizes that 64 bits have; order.
-/
namespace Go.Ev
open Ieee

theorem fconv_is {s k : FloatKind} {g : Bool} {a b x : Nat} (hne : s ≠ k) (hx : Is s g a x) (hk : Is k g b (near k.format g a)) : fconv s k x = some (near k.format g a) := by
  obtain ⟨m, i, r1, i1, e1⟩ := hx.read
  have hd : s.decode x = .number g m i := r1
  have hw : k.encode (.number g m i) = near k.format g a := by
    show k.format.write _ = _
    rw [write_near k _ _ _ i1, e1]
  have hinf : (k.decode (near k.format g a)).isInfinity = false := by
    obtain ⟨m', i', r2, _, _⟩ := hk.read
    show (k.format.read _).isInfinity = false
    rw [r2]
    rfl
  unfold fconv
  split
  · exact absurd rfl hne
  · exact absurd rfl hne
  · rw [hd]
    simp only
    rw [hw, hinf]
    rfl

theorem inf64 : FloatKind.f64.format.infRung = 2047 * bin .f64 := by decide +kernel
theorem inf32' : FloatKind.f32.format.infRung = 255 * bin .f32 := by decide +kernel

/-- A size of at most 53 digits is one that 64 bits have. -/
theorem rep64 {q e : Nat} (hq : q < 9007199254740992) (he : 126 ≤ e) (he' : e ≤ 2171) : Rep .f64 (q * 2 ^ e) := by
  by_cases h0 : q * 2 ^ e = 0
  · exact .inl h0
  refine .inr ⟨h0, ?_, ?_⟩
  all_goals
    have hlog : (q * 2 ^ e).log2 < 53 + e := by
      refine (Nat.log2_lt h0).2 ?_
      rw [Nat.pow_add]
      exact Nat.mul_lt_mul_of_pos_right (by simpa using hq) (Nat.pow_pos (by omega))
    have hD : dropOf .f64 (q * 2 ^ e) ≤ e := by
      unfold dropOf
      have : fbOf .f64 = 52 := rfl
      have : loOf .f64 = 126 := rfl
      omega
  · exact Nat.dvd_trans (Nat.pow_dvd_pow 2 hD) (Nat.dvd_mul_left _ _)
  · rw [inf64, ← Nat.add_mul]
    refine Nat.mul_le_mul_right _ ?_
    have : loOf .f64 = 126 := rfl
    omega

/-- A finite word of 32 bits, in 64 bits: with t digits more to spare. -/
theorem rep_f32 {r : Nat} (hr : r < FloatKind.f32.format.infRung) (c t : Nat) (hc : c ≤ 256) (ht : t ≤ 900) : Rep .f64 (c * (val .f32 r * 2 ^ (1051 - t))) := by
  obtain ⟨q, hq, hrr, hlt, hor⟩ := rung_split .f32 r
  have hb : bin .f32 = 8388608 := by decide +kernel
  have hg : gapE .f32 r ≤ 254 := by
    unfold gapE
    rw [inf32'] at hr
    have : r / bin .f32 < 255 := (Nat.div_lt_iff_lt_mul (bin_pos _)).2 hr
    omega
  have e : c * (val .f32 r * 2 ^ (1051 - t)) = (c * q) * 2 ^ (gapE .f32 r + (1051 - t)) := by
    rw [hq, Nat.pow_add, Nat.mul_assoc, Nat.mul_assoc]
  rw [e]
  refine rep64 ?_ (by omega) (by omega)
  have : c * q ≤ 256 * (2 * 8388608) := Nat.mul_le_mul hc (by omega)
  omega

/-- Order. -/
theorem fcmp_eq {k : FloatKind} {s t : Bool} {a b x y : Nat} (hx : Is k s a x) (hy : Is k t b y) : k.format.order x y = some (compare (sz s a) (sz t b)) := by
  obtain ⟨m, i, r1, i1, e1⟩ := hx.read
  obtain ⟨n, j, r2, j1, e2⟩ := hy.read
  unfold Format.order
  rw [r1, r2]
  simp only [Datum.order]
  congr 1
  have hz1 : (signed s m (i - min i j).toNat) * ((2 ^ (min i j + 1200).toNat : Nat) : Int) = sz s a := by
    rw [signed_sz, sz_mul, Nat.mul_assoc, ← Nat.pow_add]
    have a1 : (i - min i j).toNat + (min i j + 1200).toNat = (i + 1200).toNat := by omega
    rw [a1, e1]
  have hz2 : (signed t n (j - min i j).toNat) * ((2 ^ (min i j + 1200).toNat : Nat) : Int) = sz t b := by
    rw [signed_sz, sz_mul, Nat.mul_assoc, ← Nat.pow_add]
    have a1 : (j - min i j).toNat + (min i j + 1200).toNat = (j + 1200).toNat := by omega
    rw [a1, e2]
  have hp : (0 : Int) < ((2 ^ (min i j + 1200).toNat : Nat) : Int) := Int.natCast_pos.2 (Nat.pow_pos (by omega))
  rw [← hz1, ← hz2]
  generalize (signed s m (i - min i j).toNat) = u
  generalize (signed t n (j - min i j).toNat) = v
  generalize ((2 ^ (min i j + 1200).toNat : Nat) : Int) = g at hp
  have h1 : u < v ↔ u * g < v * g := ⟨fun h => Int.mul_lt_mul_of_pos_right h hp, fun h => Int.lt_of_mul_lt_mul_right h (Int.le_of_lt hp)⟩
  have h2 : u = v ↔ u * g = v * g := ⟨fun h => by rw [h], fun h => Int.eq_of_mul_eq_mul_right (by omega) h⟩
  show compareOfLessAndEq u v = compareOfLessAndEq (u * g) (v * g)
  unfold compareOfLessAndEq
  by_cases c1 : u < v
  · rw [if_pos c1, if_pos (h1.1 c1)]
  · rw [if_neg c1, if_neg (fun h => c1 (h1.2 h))]
    by_cases c2 : u = v
    · rw [if_pos c2, if_pos (h2.1 c2)]
    · rw [if_neg c2, if_neg (fun h => c2 (h2.2 h))]
end Go.Ev

/-
  Products, quotients by a power of two; integers as floats.
-/
namespace Go.Ev
open Ieee

/-- The place of the units. -/
@[irreducible] def E0 : Nat := 1200
theorem E0_eq : E0 = 1200 := by unfold E0; rfl

/-- A product, where it is a whole number of units. -/
theorem fop_mul {k : FloatKind} {s t : Bool} {a b c x y : Nat} (hx : Is k s a x) (hy : Is k t b y) (hc : a * b = c * 2 ^ E0) : fop .mul k x y = near k.format (s ^^ t) c := by
  obtain ⟨m, i, r1, i1, e1⟩ := hx.read
  obtain ⟨n, j, r2, j1, e2⟩ := hy.read
  have hb : floatBits .mul k x y = some (k.format.write (.number (s ^^ t) (m * n) (i + j))) := by
    show k.format.mul x y = _
    unfold Format.mul
    rw [r1, r2]
    rfl
  unfold fop
  rw [hb]
  simp only
  show k.format.nearest (s ^^ t) (m * n) (i + j) = _
  rw [E0_eq] at hc
  generalize hA : (i + 1200).toNat = A at e1
  generalize hB : (j + 1200).toNat = B at e2
  have hab : m * n * 2 ^ (A + B) = c * 2 ^ 1200 := by
    rw [← hc, ← e1, ← e2, Nat.pow_add, Nat.mul_mul_mul_comm]
  by_cases h : 1200 ≤ A + B
  · rw [nearest_near _ _ _ _ (by omega)]
    congr 1
    have : A + B = (i + j + 1200).toNat + 1200 := by omega
    rw [this, Nat.pow_add, ← Nat.mul_assoc] at hab
    exact Nat.eq_of_mul_eq_mul_right (Nat.pow_pos (by omega)) hab
  · obtain ⟨d, hd⟩ : ∃ d, 1200 = d + (A + B) := ⟨1200 - (A + B), by omega⟩
    have he : m * n = c * 2 ^ d := by
      have h2 : (0 : Nat) < 2 ^ (A + B) := Nat.pow_pos (by omega)
      have h3 : m * n * 2 ^ (A + B) = c * 2 ^ d * 2 ^ (A + B) := by
        rw [hab, hd, Nat.pow_add 2 d (A + B), ← Nat.mul_assoc]
      exact Nat.eq_of_mul_eq_mul_right h2 h3
    rw [he, nearest_scale]
    unfold near
    congr 1
    omega

/-- A size of at most 24 digits is one that 32 bits have. -/
theorem rep32 {q e : Nat} (hq : q < 16777216) (he : 1051 ≤ e) (he' : e ≤ 1300) : Rep .f32 (q * 2 ^ e) := by
  by_cases h0 : q * 2 ^ e = 0
  · exact .inl h0
  refine .inr ⟨h0, ?_, ?_⟩
  all_goals
    have hlog : (q * 2 ^ e).log2 < 24 + e := by
      refine (Nat.log2_lt h0).2 ?_
      rw [Nat.pow_add]
      exact Nat.mul_lt_mul_of_pos_right (by simpa using hq) (Nat.pow_pos (by omega))
    have hD : dropOf .f32 (q * 2 ^ e) ≤ e := by
      unfold dropOf
      have : fbOf .f32 = 23 := rfl
      have : loOf .f32 = 1051 := rfl
      omega
  · exact Nat.dvd_trans (Nat.pow_dvd_pow 2 hD) (Nat.dvd_mul_left _ _)
  · rw [inf32', ← Nat.add_mul]
    refine Nat.mul_le_mul_right _ ?_
    have : loOf .f32 = 1051 := rfl
    omega

/-- The greatest integer below which all are words. -/
def mostI : FloatKind → Nat
  | .f32 => 16777216
  | .f64 => 9007199254740992

theorem rep_int (k : FloatKind) {q : Nat} (h : q < mostI k) : Rep k (q * 2 ^ E0) := by
  have he := E0_eq
  cases k
  · exact rep32 h (by omega) (by omega)
  · exact rep64 h (by omega) (by omega)

/-- An integer as a float; its zero has no sign. -/
def IsI (k : FloatKind) (n : Int) (x : Nat) : Prop := Is k (decide (n < 0)) (n.natAbs * 2 ^ E0) x

theorem sz_int (n : Int) : sz (decide (n < 0)) (n.natAbs * 2 ^ E0) = n * ((2 ^ E0 : Nat) : Int) := by
  rw [← sz_mul]
  congr 1
  unfold sz
  by_cases h : n < 0
  · rw [decide_eq_true h, if_pos rfl]; omega
  · rw [decide_eq_false h, if_neg (by simp)]; omega

theorem pow_pos' : (0 : Int) < ((2 ^ E0 : Nat) : Int) := Int.natCast_pos.2 (Nat.pow_pos (by omega))

theorem mul_neg_iff (z : Int) : z * ((2 ^ E0 : Nat) : Int) < 0 ↔ z < 0 := by
  have hp := pow_pos'
  generalize ((2 ^ E0 : Nat) : Int) = g at hp
  constructor
  · intro h
    apply Classical.byContradiction
    intro hc
    have : 0 ≤ z * g := Int.mul_nonneg (by omega) (by omega)
    omega
  · intro h
    exact Int.mul_neg_of_neg_of_pos h hp

theorem mul_zero_iff (z : Int) : z * ((2 ^ E0 : Nat) : Int) = 0 ↔ z = 0 := by
  have hp := pow_pos'
  constructor
  · intro h
    rcases Int.mul_eq_zero.1 h with h | h
    · exact h
    · omega
  · intro h; rw [h, Int.zero_mul]

theorem sgn_int (m n : Int) : sgn (decide (m < 0)) (decide (n < 0)) ((m + n) * ((2 ^ E0 : Nat) : Int)) = decide (m + n < 0) := by
  unfold sgn
  by_cases h : m + n = 0
  · rw [if_pos ((mul_zero_iff _).2 h)]
    have : ¬ (m + n < 0) := by omega
    rw [decide_eq_false this]
    by_cases h1 : m < 0
    · have : ¬ n < 0 := by omega
      rw [decide_eq_false this, Bool.and_false]
    · rw [decide_eq_false h1, Bool.false_and]
  · rw [if_neg (mt (mul_zero_iff _).1 h)]
    congr 1
    exact propext (mul_neg_iff _)

theorem isI_near {k : FloatKind} {n : Int} (h : n.natAbs < mostI k) : IsI k n (near k.format (decide (n < 0)) (n.natAbs * 2 ^ E0)) := near_is _ (rep_int k h)

theorem isI_add {k : FloatKind} {m n : Int} {x y : Nat} (hx : IsI k m x) (hy : IsI k n y) (h : (m + n).natAbs < mostI k) : IsI k (m + n) (fop .add k x y) := by
  rw [fop_add hx hy, sz_int, sz_int, ← Int.add_mul, sgn_int, Int.natAbs_mul, Int.natAbs_natCast]
  exact isI_near h

theorem isI_mul {k : FloatKind} {m n : Int} {x y : Nat} (hx : IsI k m x) (hy : IsI k n y) (h : (m * n).natAbs < mostI k) (hs : (decide (m < 0) ^^ decide (n < 0)) = decide (m * n < 0)) : IsI k (m * n) (fop .mul k x y) := by
  have : fop .mul k x y = near k.format (decide (m < 0) ^^ decide (n < 0)) ((m * n).natAbs * 2 ^ E0) := by
    refine fop_mul hx hy ?_
    rw [Int.natAbs_mul]
    generalize 2 ^ E0 = g
    rw [Nat.mul_mul_mul_comm, ← Nat.mul_assoc]
  rw [this, hs]
  exact isI_near h

theorem isI_nearest {k : FloatKind} {n : Int} (h : n.natAbs < mostI k) : IsI k n (k.nearest n) := by
  have : k.nearest n = near k.format (decide (n < 0)) (n.natAbs * 2 ^ E0) := by
    show k.format.nearest (decide (n < 0)) n.natAbs 0 = _
    rw [nearest_near _ _ _ _ (by omega)]
    have : (0 + 1200 : Int).toNat = E0 := by rw [E0_eq]; rfl
    rw [this]
  rw [this]
  exact isI_near h

theorem val_strict (k : FloatKind) {r q : Nat} (h : r < q) : val k r < val k q := by
  induction q with
  | zero => omega
  | succ q ih =>
    have hs := val_succ k q
    have : 0 < 2 ^ gapE k q := Nat.pow_pos (by omega)
    by_cases e : r = q
    · subst e; omega
    · have := ih (by omega)
      omega

/-- One word for a sign and a size. -/
theorem is_unique {k : FloatKind} {s : Bool} {a x y : Nat} (hx : Is k s a x) (hy : Is k s a y) : x = y := by
  obtain ⟨r, _, rfl, h1⟩ := hx
  obtain ⟨q, _, rfl, h2⟩ := hy
  have hp : 0 < 2 ^ loOf k := Nat.pow_pos (by omega)
  have : val k r = val k q := Nat.eq_of_mul_eq_mul_right hp (h1.trans h2.symm)
  have : r = q := by
    rcases Nat.lt_trichotomy r q with h | h | h
    · have := val_strict k h; omega
    · exact h
    · have := val_strict k h; omega
  rw [this]

theorem isI_conv {s k : FloatKind} {n : Int} {x : Nat} (hne : s ≠ k) (hx : IsI s n x) (h : n.natAbs < mostI k) : ∃ y, fconv s k x = some y ∧ IsI k n y :=
  ⟨_, fconv_is hne hx (isI_near h), isI_near h⟩

theorem isI_cmp {k : FloatKind} {m n : Int} {x y : Nat} (hx : IsI k m x) (hy : IsI k n y) : k.format.order x y = some (compare m n) := by
  rw [fcmp_eq hx hy, sz_int, sz_int]
  have hp := pow_pos'
  generalize ((2 ^ E0 : Nat) : Int) = g at hp
  congr 1
  have key : ∀ x y z w : Int, (x < y ↔ z < w) → (y < x ↔ w < z) → compare x y = compare z w := by
    intro x y z w e1 e2
    simp only [compare, compareOfLessAndEq]
    by_cases l : x < y
    · rw [if_pos l, if_pos (e1.1 l)]
    · rw [if_neg l, if_neg (mt e1.2 l)]
      by_cases g : x = y
      · rw [if_pos g, if_pos (by have := mt e1.2 l; have : ¬ w < z := fun h => by have := e2.2 h; omega
                                 omega)]
      · rw [if_neg g, if_neg (by intro h; have := mt e2.1 (by omega : ¬ w < z); omega)]
  refine key _ _ _ _ ?_ ?_
  · exact ⟨fun h => Int.lt_of_mul_lt_mul_right h (by omega), fun h => Int.mul_lt_mul_of_pos_right h hp⟩
  · exact ⟨fun h => Int.lt_of_mul_lt_mul_right h (by omega), fun h => Int.mul_lt_mul_of_pos_right h hp⟩
end Go.Ev

/-
  The functions without a body, in this program's numbers.
-/
namespace Go.Proofs.Ytggfjjacafgkkaa
open Go.Ev Go

def s_m_Float32bits : Summ := .prim (primBits .f32)
def s_m_Float32frombits : Summ := .prim (primFrom .f32)
theorem summ_m_Float32bits : SummOK Try.prog 36 s_m_Float32bits := prim_of Try.func36 (by kernel_rfl) (by kernel_rfl) (by kernel_rfl) (by kernel_rfl) bits32_sound
theorem summ_m_Float32frombits : SummOK Try.prog 38 s_m_Float32frombits := prim_of Try.func38 (by kernel_rfl) (by kernel_rfl) (by kernel_rfl) (by kernel_rfl) from32_sound
def s_m_Float32bitsAny : Summ := .loose primBitsAny
theorem summ_m_Float32bitsAny : SummOK Try.prog 36 s_m_Float32bitsAny := prim_of Try.func36 (by kernel_rfl) (by kernel_rfl) (by kernel_rfl) (by kernel_rfl) bitsAny_sound
end Go.Proofs.Ytggfjjacafgkkaa
