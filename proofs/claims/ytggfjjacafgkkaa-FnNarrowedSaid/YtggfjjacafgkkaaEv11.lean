/-
  The evaluator: regions, calls, control.
-/
import Derived.Test.YtggfjjacafgkkaaEv10
namespace Go.Ev

/-- What is told of a function that is called: 'prim': it has no body; 'pure': it only looks at what it is handed; 'obj': it works on the one flat object that its first argument points to. -/
inductive Summ where
  | prim (g : List V → Option V)
  | pure (g : List V → Option V)
  | obj (g : Cells → List V → Option (V × Cells))
  | pureC (c : List V → Bool) (g : List V → Option V)
  | objC (c : Cells → List V → Bool) (g : Cells → List V → Option (V × Cells))

/-- Where the condition does not hold, nothing is told. -/
def Summ.base : Summ → Summ
  | .pureC c g => .pure fun vs => bif c vs then g vs else none
  | .objC c g => .obj fun cs rest => bif c cs rest then g cs rest else none
  | s => s

abbrev Regs := List (Nat × V)

def look : Regs → Nat → V
  | [], _ => .und
  | (k, v) :: r, t => bif Nat.beq k t then v else look r t

def memB (n : Nat) : List Nat → Bool
  | [] => false
  | k :: l => bif Nat.beq k n then true else memB n l

structure St where
  r : Regs
  o : Ups
  nx : Nat
  fl : List Nat

def St.get (s : St) : Get := upd s.o noGet

inductive Ex where
  | normal
  | exit (id : Nat)
  | ret

structure Env where
  P : Program
  S : FuncId → Option Summ
  keep : FuncId → Nat → List Nat
  fuel : Nat

abbrev Cont (α : Type) := Ex → St → Option α

def evalF (R : Nat → V) : Operand → V
  | .tmp t => R t
  | .const v => ofVal v
  | .func f => .fn f [] []
  | .global _ => .und

def evalO (r : Regs) : Operand → V := evalF (look r)

/-! Values as they are handed to a function that only looks -/

def takePad : Nat → List V → List V
  | 0, _ => []
  | n + 1, [] => .und :: takePad n []
  | n + 1, v :: l => v :: takePad n l

def chunk : Nat → Nat → List V → List (List V)
  | 0, _, _ => []
  | n + 1, sz, l => takePad sz l :: chunk n sz (l.drop sz)

/-- What one cell holds, with what it leads to. -/
def deepL (get : Get) (fl : List Nat) : Nat → V → V
  | 0, .mp _ _ => .und
  | 0, .ms _ _ _ _ => .und
  | n + 1, .mp id off =>
    match get id with
    | some cs => .ip (bif memB id fl then cs else cs.map (deepL get fl n)) off
    | none => .und
  | n + 1, .ms id off len sz =>
    match get id with
    | some cs => .sl sz (chunk len sz ((bif memB id fl then cs else cs.map (deepL get fl n)).drop off))
    | none => .und
  | _, .agg _ => .und
  | _, .tup _ => .und
  | _, .fn f [] [] => .fn f [] []
  | _, .fn _ _ _ => .und
  | _, v => v

def deepV (get : Get) (fl : List Nat) : V → V
  | .agg cs => .agg (cs.map (deepL get fl 4))
  | v => deepL get fl 4 v

def deepT (get : Get) (fl : List Nat) : V → V
  | .tup vs => .tup (vs.map (deepV get fl))
  | v => deepV get fl v

def noRefV : V → Bool
  | .agg cs => cs.all noRefB
  | .tup _ => false
  | v => noRefB v

/-- Nothing that leads anywhere. -/
def plainB : V → Bool
  | .bool _ | .int _ _ | .flt _ _ | .str _ | .np | .und => true
  | .fn _ [] [] => true
  | _ => false

def plainV : V → Bool
  | .agg cs => cs.all plainB
  | v => plainB v

def plainT : V → Bool
  | .tup vs => vs.all plainV
  | v => plainV v

/-! One operation -/

section
variable (E : Env)

def callS (get : Get) (fl : List Nat) (s : Summ) (args : List V) : Res :=
  match s.base with
  | .prim g =>
    match g args with
    | some v => some (v, [], 0)
    | none => none
  | .pure g =>
    bif args.all noRefV then
      match g args with
      | some v => some (v, [], 0)
      | none => none
    else
      match g (args.map (deepV get fl)) with
      | some v => bif plainT v then some (v, [], 0) else none
      | none => none
  | .obj g =>
    match args with
    | .mp id 0 :: rest =>
      bif memB id fl && rest.all noRefV then
        match get id with
        | some cs =>
          match g cs rest with
          | some (v, cs') => some (v, [(id, some cs')], 0)
          | none => none
        | none => none
      else none
    | _ => none
  | _ => none

def partsE (ev : Operand → V) (ps : List (Nat × Operand)) : List (Nat × V) := ps.map fun p => (p.1, ev p.2)

def optE (ev : Operand → V) : Option Operand → Option V
  | none => none
  | some x => some (ev x)

def one (v : Option V) : Res :=
  match v with
  | some v => some (v, [], 0)
  | none => none

/-- An operation that neither chooses nor calls by text. -/
def opE (get : Get) (fl : List Nat) (nid : Nat) (ev : Operand → V) (o : Oper) : Res :=
  match o.op with
  | .move x => some (ev x, [], 0)
  | .assign x => some (ev x, [], 0)
  | .alloc t =>
    match zeroCellsT E.P t with
    | some z => some (.mp nid 0, [(nid, some z)], 1)
    | none => none
  | .box _ x =>
    match cellsOf (ev x) with
    | some cs => some (.mp nid 0, [(nid, some cs)], 1)
    | none => none
  | .build t ps => one (buildE E.P t (partsE ev ps.toList))
  | .buildSlice t len ps => buildSliceE E.P nid t len (partsE ev ps.toList)
  | .load t a => one (loadE E.P get t (ev a))
  | .store t a x =>
    match storeE E.P get t (ev a) (ev x) with
    | some ups => some (.und, ups, 0)
    | none => none
  | .nilCheck x =>
    match ev x with
    | .mp id off => some (.mp id off, [], 0)
    | .ip e off => some (.ip e off, [], 0)
    | .fn f a b => some (.fn f a b, [], 0)
    | _ => none
  | .binOp op t x y _ => one (binB E.P op t (ev x) (ev y))
  | .unOp op _ x => one (unE op (ev x))
  | .convert s d x => one (convE E.P get s d (ev x))
  | .makeFunc (.func f) first cap => some (.fn f (first.toList.map ev) (cap.toList.map ev), [], 0)
  | .slice t x lo hi mx => one (sliceE E.P t (ev x) (optE ev lo) (optE ev hi) (optE ev mx))
  | .fieldAddr s x f => one (fieldAddrE E.P s (ev x) f)
  | .indexAddr t x i => one (indexAddrE E.P t (ev x) (ev i))
  | .index t x i => one (indexE E.P t (ev x) (ev i))
  | .extract x i =>
    match ev x with
    | .tup vs => one (getAt vs i)
    | _ => none
  | .call c =>
    match c.callee with
    | .builtin b => builtinE E.P get nid b c.argTypes.toList (c.args.toList.map ev)
    | .value f =>
      match ev f with
      | .fn f first cap =>
        match E.S f with
        | some s => callS get fl s (first ++ c.args.toList.map ev ++ cap)
        | none => none
      | _ => none
    | _ => none
  | _ => none

/-! Conditions ahead: an operation's answer by a condition and a value, each by itself -/

def isI (k : IntKind) : V → Bool
  | .int k' _ => sameI k k'
  | _ => false
def isFl (k : FloatKind) : V → Bool
  | .flt k' _ => sameF k k'
  | _ => false
def isBo : V → Bool
  | .bool _ => true
  | _ => false
def isSt : V → Bool
  | .str _ => true
  | _ => false
def asI : V → Int
  | .int _ n => n
  | _ => 0
def asF : V → Nat
  | .flt _ x => x
  | _ => 0
def asB : V → Bool
  | .bool b => b
  | _ => false
def asS : V → ByteArray
  | .str s => s
  | _ => ByteArray.empty
def asAgg : V → List V
  | .agg cs => cs
  | _ => []
def asTup : V → List V
  | .tup cs => cs
  | _ => []
def isAg : V → Bool
  | .agg _ => true
  | _ => false
def isTu : V → Bool
  | .tup _ => true
  | _ => false

def chkL (z v : V) : Bool :=
  match z with
  | .bool _ => isBo v
  | .int k _ => isI k v
  | .flt k _ => isFl k v
  | .str _ => isSt v
  | _ => true

def fixL (z v : V) : V :=
  match z with
  | .bool _ => .bool (asB v)
  | .int k _ => .int k (asI v)
  | .flt k _ => .flt k (asF v)
  | .str _ => .str (asS v)
  | _ => v

def cellAt (cs : List V) (i : Nat) : V := (getAt cs i).getD .und

def chkCs : List V → Nat → List V → Bool
  | [], i, cs => Nat.beq cs.length i
  | z :: zs, i, cs => chkL z (cellAt cs i) && chkCs zs (i + 1) cs

def fixCs : List V → Nat → List V → List V
  | [], _, _ => []
  | z :: zs, i, cs => fixL z (cellAt cs i) :: fixCs zs (i + 1) cs

def chkV (P : Program) (t : TypeId) (v : V) : Bool :=
  match isAggT P t with
  | some true =>
    match zeroCellsT P t with
    | some zs => isAg v && chkCs zs 0 (asAgg v)
    | none => true
  | some false =>
    match zeroCellsT P t with
    | some [z] => chkL z v
    | _ => true
  | none => true

def fixV (P : Program) (t : TypeId) (v : V) : V :=
  match isAggT P t with
  | some true =>
    match zeroCellsT P t with
    | some zs => .agg (fixCs zs 0 (asAgg v))
    | none => v
  | some false =>
    match zeroCellsT P t with
    | some [z] => fixL z v
    | _ => v
  | none => v

def chkTs (P : Program) : List TypeId → Nat → List V → Bool
  | [], i, vs => Nat.beq vs.length i
  | t :: ts, i, vs => chkV P t (cellAt vs i) && chkTs P ts (i + 1) vs

def fixTs (P : Program) : List TypeId → Nat → List V → List V
  | [], _, _ => []
  | t :: ts, i, vs => fixV P t (cellAt vs i) :: fixTs P ts (i + 1) vs

def chkT (P : Program) (t : TypeId) (v : V) : Bool :=
  match P.underlying t with
  | some (.tuple ts) =>
    match ts.toList with
    | [] => true
    | _ => isTu v && chkTs P ts.toList 0 (asTup v)
  | _ => chkV P t v

def fixT (P : Program) (t : TypeId) (v : V) : V :=
  match P.underlying t with
  | some (.tuple ts) =>
    match ts.toList with
    | [] => v
    | _ => .tup (fixTs P ts.toList 0 (asTup v))
  | _ => fixV P t v

abbrev ResH := Option (Bool × V × Ups × Nat)

/-- A value that may not be there, by its type. -/
def hoist (P : Program) (t : TypeId) (r : Option V) : ResH := some (r.isSome && chkT P t (r.getD .und), fixT P t (r.getD .und), [], 0)

def inB (i : Int) (n : Nat) : Bool := decide (0 ≤ i) && decide (i < n)

def oneH (c : Bool) (v : V) : ResH := some (c, v, [], 0)

def indexAddrH (P : Program) (t : TypeId) (a i : V) : ResH :=
  match i with
  | .int _ i =>
    match P.underlying t with
    | some (.slice e) =>
      match sizeT P e with
      | some n =>
        match a with
        | .sl sz es => oneH (Nat.beq sz n && inB i es.length) (.ip ((getAt es i.toNat).getD []) 0)
        | .ms id off len sz => oneH (Nat.beq sz n && inB i len) (.mp id (off + i.toNat * sz))
        | _ => none
      | none => none
    | some (.array len e) =>
      match sizeT P e with
      | some n =>
        match a with
        | .mp id off => oneH (inB i len) (.mp id (off + i.toNat * n))
        | .ip c off => oneH (inB i len) (.ip c (off + i.toNat * n))
        | _ => none
      | none => none
    | _ => none
  | _ => none

def bndC (x : Option V) (n : Nat) : Bool :=
  match x with
  | none => true
  | some (.int _ i) => inB i (n + 1)
  | _ => false

def bndV (x : Option V) (n : Nat) : Nat :=
  match x with
  | some (.int _ i) => i.toNat
  | _ => n

def sliceH (P : Program) (t : TypeId) (a : V) (lo hi mx : Option V) : ResH :=
  match mx, P.underlying t, a with
  | none, some (.slice e), .sl sz es =>
    match sizeT P e with
    | some n => oneH (Nat.beq sz n && (bndC hi es.length && bndC lo (bndV hi es.length))) (.sl sz ((es.take (bndV hi es.length)).drop (bndV lo 0)))
    | none => none
  | _, _, _ => 
    match sliceE P t a lo hi mx with
    | some v => some (true, v, [], 0)
    | none => none

def binH (P : Program) (op : BinOp) (t : TypeId) (x y : V) : ResH :=
  match op, x, y with
  | .quo, .int k a, .int k' b => oneH (sameI k k' && !(b == 0)) (.int k (k.wrap (a.tdiv b)))
  | .rem, .int k a, .int k' b => oneH (sameI k k' && !(b == 0)) (.int k (a.tmod b))
  | .shl, .int k a, .int _ b => oneH (decide (0 ≤ b)) (.int k (k.wrap (a * 2 ^ (min b.toNat k.bits))))
  | .shr, .int k a, .int _ b => oneH (decide (0 ≤ b)) (.int k (a.fdiv (2 ^ (min b.toNat k.bits))))
  | op, x, y =>
    match binB P op t x y with
    | some v => some (true, v, [], 0)
    | none => none

def convH (P : Program) (get : Get) (s d : TypeId) (x : V) : ResH :=
  match P.underlying s, P.underlying d, x with
  | some _, some (.int k), .flt f b => oneH (floatToIntVal f b k).isSome (.int k ((floatToIntVal f b k).getD 0))
  | some _, some (.float k), .flt f b => oneH (fconv f k b).isSome (.flt k ((fconv f k b).getD 0))
  | _, _, _ =>
    match convE P get s d x with
    | some v => some (true, v, [], 0)
    | none => none

def storeH (P : Program) (get : Get) (t : TypeId) (a v : V) : ResH :=
  match a with
  | .mp id off =>
    match get id with
    | some cs =>
      match cellsOf v, sizeT P t with
      | some vs, some n => some (Nat.beq vs.length n && Nat.ble (off + n) cs.length, .und, [(id, some (setCells cs off vs))], 0)
      | _, _ => none
    | none => none
  | _ => none

def appendH (P : Program) (get : Get) (nid : Nat) (t : TypeId) (d x : V) : ResH :=
  match d, x with
  | .ms id off len sz, .ms id' off' len' sz' =>
    match P.underlying t with
    | some (.slice e) =>
      match P.info? e, zeroCellsT P e with
      | some i, some z =>
        match get id, get id' with
        | some ds, some cs =>
          some (Nat.ble i.bytes 256 && Nat.beq z.length i.size && (Nat.beq sz' i.size && Nat.ble (off' + len' * sz') cs.length) && (Nat.beq sz i.size && Nat.ble (off + len * sz) ds.length && Nat.ble (len + len') most),
            .ms nid 0 (len + len') sz, [(nid, some ((ds.drop off).take (len * sz) ++ (cs.drop off').take (len' * sz'))), (id, none)], 1)
        | _, _ => none
      | _, _ => none
    | _ => none
  | .ms id off len sz, .sl sz' es =>
    match P.underlying t with
    | some (.slice e) =>
      match P.info? e, zeroCellsT P e with
      | some i, some z =>
        match get id with
        | some ds =>
          some (Nat.ble i.bytes 256 && Nat.beq z.length i.size && Nat.beq sz' i.size && (Nat.beq sz i.size && Nat.ble (off + len * sz) ds.length && Nat.ble (len + es.length) most),
            .ms nid 0 (len + es.length) sz, [(nid, some ((ds.drop off).take (len * sz) ++ es.flatten)), (id, none)], 1)
        | none => none
      | _, _ => none
    | _ => none
  | d, x =>
    match appendE P get nid t d x with
    | some (v, ups, m) => some (true, v, ups, m)
    | none => none

def resH (r : Res) : ResH :=
  match r with
  | some (v, ups, m) => some (true, v, ups, m)
  | none => none

def callH (P : Program) (t : TypeId) (get : Get) (fl : List Nat) (s : Summ) (args : List V) : ResH :=
  match s with
  | .prim g => hoist P t (g args)
  | .pure g =>
    bif args.all noRefV then hoist P t (g args)
    else
      match hoist P t (g (args.map (deepV get fl))) with
      | some (c, v, ups, m) => bif plainT v then some (c, v, ups, m) else none
      | none => none
  | .pureC q g =>
    bif args.all noRefV then
      match hoist P t (g args) with
      | some (c, v, ups, m) => some (c && q args, v, ups, m)
      | none => none
    else
      match hoist P t (g (args.map (deepV get fl))) with
      | some (c, v, ups, m) => bif plainT v then some (c && q (args.map (deepV get fl)), v, ups, m) else none
      | none => none
  | .objC q g =>
    match args with
    | .mp id 0 :: rest =>
      bif memB id fl && rest.all noRefV then
        match get id with
        | some cs =>
          match g cs rest with
          | some (v, cs') => some (q cs rest, v, [(id, some cs')], 0)
          | none => none
        | none => none
      else none
    | _ => none
  | s => resH (callS get fl s args)

/-- The same, the conditions ahead. -/
def opH (get : Get) (fl : List Nat) (nid : Nat) (ev : Operand → V) (o : Oper) : ResH :=
  match o.op with
  | .load t a => hoist E.P t (loadE E.P get t (ev a))
  | .index t x i => hoist E.P o.type (indexE E.P t (ev x) (ev i))
  | .indexAddr t x i => indexAddrH E.P t (ev x) (ev i)
  | .slice t x lo hi mx => sliceH E.P t (ev x) (optE ev lo) (optE ev hi) (optE ev mx)
  | .binOp op t x y _ => binH E.P op t (ev x) (ev y)
  | .convert s d x => convH E.P get s d (ev x)
  | .store t a x => storeH E.P get t (ev a) (ev x)
  | .call c =>
    match c.callee with
    | .builtin .append =>
      match c.argTypes.toList, c.args.toList.map ev with
      | t :: u :: _, d :: x :: _ =>
        match E.P.underlying u with
        | some (.slice _) => appendH E.P get nid t d x
        | _ => none
      | _, _ => none
    | .builtin b => resH (builtinE E.P get nid b c.argTypes.toList (c.args.toList.map ev))
    | .value f =>
      match ev f with
      | .fn f first cap =>
        match E.S f with
        | some s => callH E.P o.type get fl s (first ++ c.args.toList.map ev ++ cap)
        | none => none
      | _ => none
    | _ => none
  | _ => resH (opE E get fl nid ev o)

def anyUps (u : Ups) : Bool :=
  match u with
  | _ :: _ => true
  | [] => false

def flagD (fl : List Nat) (d : V) : Bool :=
  match d with
  | .nil => true
  | .ms id _ _ _ => memB id fl
  | _ => false

def flagX (fl : List Nat) (x : V) : Bool :=
  match x with
  | .nil => true
  | .sl _ _ => true
  | .ms id _ _ _ => memB id fl
  | _ => false

/-- Whether the object that an operation has made or written is flat behind it. -/
def flagE (fl : List Nat) (ev : Operand → V) (o : Oper) (ups : Ups) : Bool :=
  match o.op with
  | .alloc _ | .box _ _ | .buildSlice _ _ _ =>
    match ups with
    | (_, some cs) :: _ => cs.all noRefB
    | _ => false
  | .store _ a x =>
    match ev a with
    | .mp id _ => memB id fl && noRefV (ev x)
    | _ => false
  | .call c =>
    match c.callee with
    | .builtin .append =>
      match c.args.toList.map ev with
      | d :: x :: _ => flagD fl d && flagX fl x
      | _ => false
    | .value _ => anyUps ups
    | _ => false
  | _ => false

def flatUps (fl : List Nat) (flag : Bool) (ups : Ups) : List Nat :=
  match ups with
  | [] => fl
  | (id, _) :: _ => bif flag then (bif memB id fl then fl else id :: fl) else fl.filter fun k => !Nat.beq k id

variable {α : Type}

def putK (n : Nat) (dst : Option Nat) (v : V) (r : Regs) (K : Regs → Option α) : Option α :=
  match dst with
  | none => K r
  | some d => bif Nat.blt d n then K ((d, v) :: r) else none

abbrev Call (α : Type) := FuncId → List V → Ups → Nat → List Nat → (V → Ups → Nat → List Nat → Option α) → Option α

/-- One operation of a region whose order is the text's. -/
def stepK (call : Call α) (n : Nat) (o : Oper) (s : St) (K : St → Option α) : Option α :=
  match s with
  | ⟨r, os, nx, fl⟩ =>
    match o.op with
    | .pick c a b =>
      match evalO r c with
      | .bool t => bif t then putK n o.dst (evalO r a) r fun r => K ⟨r, os, nx, fl⟩ else putK n o.dst (evalO r b) r fun r => K ⟨r, os, nx, fl⟩
      | _ => none
    | .call ⟨.value f, args, _⟩ =>
      match evalO r f with
      | .fn f first cap =>
        match E.S f with
        | some su =>
          match callH E.P o.type (upd os noGet) fl su (first ++ args.toList.map (evalO r) ++ cap) with
          | some (c, v, ups, m) => bif c then putK n o.dst v r fun r => K ⟨r, ups ++ os, nx + m, flatUps fl (anyUps ups) ups⟩ else none
          | none => none
        | none => call f (first ++ args.toList.map (evalO r) ++ cap) os nx fl fun v os nx fl => putK n o.dst v r fun r => K ⟨r, os, nx, fl⟩
      | _ => none
    | _ =>
      match opH E (upd os noGet) fl nx (evalO r) o with
      | some (c, v, ups, m) => bif c then putK n o.dst v r fun r' => K ⟨r', ups ++ os, nx + m, flatUps fl (flagE fl (evalO r) o ups) ups⟩ else none
      | none => none

/-- The temporary of the operation that guards. -/
def guardT (all : List Oper) (j : Nat) : Option Nat :=
  match getAt all j with
  | some o => o.dst
  | none => none

def opsK (call : Call α) (n : Nat) (all : List Oper) : List Oper → St → (St → Option α) → Option α
  | [], s, K => K s
  | o :: rest, s, K =>
    match o.guard with
    | none => stepK E call n o s fun s => opsK call n all rest s K
    | some (j, want) =>
      match guardT all j with
      | none => none
      | some t =>
        match s with
        | ⟨r, os, nx, fl⟩ =>
          match look r t with
          | .bool b =>
            bif b then
              bif want then stepK E call n o ⟨(t, .bool true) :: r, os, nx, fl⟩ fun s => opsK call n all rest s K
              else putK n o.dst (.tup []) ((t, .bool true) :: r) fun r => opsK call n all rest ⟨r, os, nx, fl⟩ K
            else
              bif want then putK n o.dst (.tup []) ((t, .bool false) :: r) fun r => opsK call n all rest ⟨r, os, nx, fl⟩ K
              else stepK E call n o ⟨(t, .bool false) :: r, os, nx, fl⟩ fun s => opsK call n all rest s K
          | .tup [] => putK n o.dst (.tup []) r fun r => opsK call n all rest ⟨r, os, nx, fl⟩ K
          | _ => none

/-! A region whose order is open: the text's order, where it makes no difference -/

structure DRec where
  anc : List Nat
  foot : List Nat
  wr : List Nat

def refsL : V → List Nat
  | .mp id _ => [id]
  | .ms id _ _ _ => [id]
  | _ => []

def refsV : V → List Nat
  | .agg cs => cs.flatMap refsL
  | .fn _ a b => (a ++ b).flatMap refsL
  | v => refsL v

def innerOf (get : Get) (fl : List Nat) (id : Nat) : List Nat :=
  bif memB id fl then []
  else
    match get id with
    | some cs => cs.flatMap refsL
    | none => []

/-- The objects that values lead to, three levels deep. -/
def reach (get : Get) (fl : List Nat) (ids : List Nat) : List Nat :=
  let a := ids.flatMap (innerOf get fl)
  let b := a.flatMap (innerOf get fl)
  ids ++ a ++ b ++ b.flatMap (innerOf get fl)

def footE (get : Get) (fl : List Nat) (ev : Operand → V) (o : Oper) : List Nat :=
  match o.op with
  | .load _ a => refsV (ev a)
  | .store _ a _ => refsV (ev a)
  | .convert _ _ x => refsV (ev x)
  | .call c =>
    match c.callee with
    | .builtin .append => (c.args.toList.map ev).flatMap refsV
    | .builtin _ => []
    | .value f =>
      match ev f with
      | .fn _ first cap => reach get fl ((first ++ c.args.toList.map ev ++ cap).flatMap refsV)
      | _ => []
    | _ => []
  | _ => []

def restr (ids : List Nat) (get : Get) : Get := fun id => bif memB id ids then get id else none

def disj (a b : List Nat) : Bool := a.all fun x => !memB x b

def ancOf (ds : List DRec) (i : Nat) : List Edge → Option (List Nat)
  | [] => some []
  | e :: es =>
    match ancOf ds i es with
    | none => none
    | some l =>
      bif Region.binds .any e then
        bif Nat.blt e.on i then
          match getAt ds e.on with
          | some d => some (e.on :: (d.anc ++ l))
          | none => none
        else none
      else some l

/-- No operation of before that is not ordered touches what this one touches, and has no temporary in common with it. -/
def quietAll (all : Array Oper) (o : Oper) (d : DRec) : Nat → List DRec → Bool
  | _, [] => true
  | i, e :: es =>
    (memB i d.anc ||
      (disj e.wr d.foot && disj d.wr e.foot && disj d.wr e.wr &&
        (match all[i]? with
        | some p => p.apart all o
        | none => false))) && quietAll all o d (i + 1) es

/-- An object that was flat when the region began stays flat. -/
def keepsFlat (fl0 : List Nat) (flag : Bool) (ups : Ups) : Bool :=
  match ups with
  | [] => true
  | (id, _) :: r => (!memB id fl0 || flag) && r.all fun p => p.2.isNone

def drawK (n : Nat) (all : Array Oper) (nx : Nat) (fl0 : List Nat) : List Oper → Nat → List DRec → Regs → Ups → List Nat → (St → Option α) → Option α
  | [], i, _, r, os, fl, K => K ⟨r, os, nx + i, fl⟩
  | o :: rest, i, ds, r, os, fl, K =>
    match ancOf ds i o.after.toList with
    | none => none
    | some anc =>
      let run (r : Regs) : Option α :=
        match o.op with
        | .pick c a b =>
          bif quietAll all o ⟨anc, [], []⟩ 0 ds then
            match evalO r c with
            | .bool t =>
              bif t then putK n o.dst (evalO r a) r fun r => drawK n all nx fl0 rest (i + 1) (ds ++ [⟨anc, [], []⟩]) r os fl K
              else putK n o.dst (evalO r b) r fun r => drawK n all nx fl0 rest (i + 1) (ds ++ [⟨anc, [], []⟩]) r os fl K
            | _ => none
          else none
        | _ =>
          match opH E (restr (footE (upd os noGet) fl0 (evalO r) o) (upd os noGet)) fl0 (nx + i) (evalO r) o with
          | some (c, v, ups, m) =>
            bif c then
             (bif Nat.ble m 1 && keepsFlat fl0 (flagE fl0 (evalO r) o ups) ups && quietAll all o ⟨anc, footE (upd os noGet) fl0 (evalO r) o, ups.map (·.1)⟩ 0 ds then
              putK n o.dst v r fun r' => drawK n all nx fl0 rest (i + 1) (ds ++ [⟨anc, footE (upd os noGet) fl0 (evalO r) o, ups.map (·.1)⟩]) r' (ups ++ os) (flatUps fl (flagE fl0 (evalO r) o ups) ups) K
             else none)
            else none
          | none => none
      match o.guard with
      | none => run r
      | some (j, want) =>
        match guardT all.toList j with
        | none => none
        | some t =>
          match look r t with
          | .bool b =>
            bif b then
              bif want then run ((t, .bool true) :: r)
              else
                bif quietAll all o ⟨anc, [], []⟩ 0 ds then putK n o.dst (.tup []) ((t, .bool true) :: r) fun r => drawK n all nx fl0 rest (i + 1) (ds ++ [⟨anc, [], []⟩]) r os fl K
                else none
            else
              bif want then
                bif quietAll all o ⟨anc, [], []⟩ 0 ds then putK n o.dst (.tup []) ((t, .bool false) :: r) fun r => drawK n all nx fl0 rest (i + 1) (ds ++ [⟨anc, [], []⟩]) r os fl K
                else none
              else run ((t, .bool false) :: r)
          | .tup [] =>
            bif quietAll all o ⟨anc, [], []⟩ 0 ds then putK n o.dst (.tup []) r fun r => drawK n all nx fl0 rest (i + 1) (ds ++ [⟨anc, [], []⟩]) r os fl K
            else none
          | _ => none

/-! Loops -/

def dedup : List Nat → List Nat
  | [] => []
  | a :: l => a :: (dedup l).filter fun b => !Nat.beq b a

def posOf (id : Nat) : List Nat → Nat → Option Nat
  | [], _ => none
  | k :: l, i => bif Nat.beq k id then some i else posOf id l (i + 1)

def rnId (base : Nat) (ids : List Nat) (id : Nat) : Option Nat :=
  bif Nat.blt id base then some id else posOf id ids base

def rnL (base : Nat) (ids : List Nat) : V → V
  | .mp id off =>
    match rnId base ids id with
    | some k => .mp k off
    | none => .und
  | .ms id off len sz =>
    match rnId base ids id with
    | some k => .ms k off len sz
    | none => .und
  | .agg _ => .und
  | .tup _ => .und
  | .fn f [] [] => .fn f [] []
  | .fn _ _ _ => .und
  | v => v

def rnV (base : Nat) (ids : List Nat) : V → V
  | .agg cs => .agg (cs.map (rnL base ids))
  | .fn f a b => .fn f (a.map (rnL base ids)) (b.map (rnL base ids))
  | .tup _ => .und
  | v => rnL base ids v

def rnCells (base : Nat) (ids : List Nat) (fl : List Nat) (id : Nat) (cs : Cells) : Cells := bif memB id fl then cs else cs.map (rnL base ids)

/-- The objects below a number, and those of a list behind them, anew. -/
def rnObjs (get : Get) (fl : List Nat) (base : Nat) (ids : List Nat) : List (Nat × Nat) → Ups
  | [] => []
  | (k, id) :: l =>
    match get id with
    | some cs => (k, some (rnCells base ids fl id cs)) :: rnObjs get fl base ids l
    | none => rnObjs get fl base ids l

/-- At a loop's head: the slots that count, and of the objects that have been made since 'base' those that are reached from them, numbered anew. -/
def norm (base : Nat) (ks : List Nat) (s : St) : St :=
  match s with
  | ⟨r, os, _, fl⟩ =>
    let get := upd os noGet
    let old := List.range base
    let roots := (ks.flatMap fun t => refsV (look r t)) ++ old.flatMap (innerOf get fl)
    let ids := dedup ((reach get fl roots).filter fun id => Nat.ble base id && (get id).isSome)
    let pairs := (old.map fun k => (k, k)) ++ (ids.zipIdx base).map fun x => (x.2, x.1)
    ⟨ks.map fun t => (t, rnV base ids (look r t)), rnObjs get fl base ids pairs, base + ids.length, (pairs.filter fun p => memB p.2 fl && (get p.2).isSome).map (·.1)⟩

def loopN (body : St → Cont α → Option α) (base : Nat) (ks : List Nat) : Nat → St → Cont α → Option α
  | 0, _, _ => none
  | m + 1, s, K => body s fun e s' =>
    match e with
    | .normal => loopN body base ks m (norm base ks s') K
    | e => K e s'

def seqK (f : St → Cont α → Option α) (K : Cont α) : Cont α := fun e s =>
  match e with
  | .normal => f s K
  | e => K e s

def blockK (id : Nat) (K : Cont α) : Cont α := fun e s =>
  match e with
  | .exit id' => bif Nat.beq id' id then K .normal s else K (.exit id') s
  | e => K e s

def St.nx' (s : St) : Nat := s.nx

def exec (call : Call α) (f : FuncId) (n : Nat) : Code → Nat → St → Cont α → Option α
  | .skip, _, s, K => K .normal s
  | .region _ ops draw, _, s, K =>
    match draw with
    | false => opsK E call n ops.toList ops.toList s fun s => K .normal s
    | true =>
      match s with
      | ⟨r, os, nx, fl⟩ => drawK E n ops nx fl ops.toList 0 [] r os fl fun s => K .normal s
  | .seq a b, c, s, K => exec call f n a c s (seqK (exec call f n b c) K)
  | .cond o x y, c, s, K =>
    match evalO s.r o with
    | .bool b => bif b then exec call f n x c s K else exec call f n y c s K
    | _ => none
  | .block id b, _, s, K => exec call f n b id s (blockK id K)
  | .loop b, c, s, K => loopN (exec call f n b c) s.nx (E.keep f c) E.fuel (norm s.nx (E.keep f c) s) K
  | .exit id, _, s, K => K (.exit id) s
  | .ret, _, s, K => K .ret s
  | _, _, _, _ => none

def args0 : List V → Nat → Regs
  | [], _ => []
  | v :: l, i => (i, v) :: args0 l (i + 1)

def resE (P : Program) (get : Get) (r : Regs) : List ResultVar → Option (List V)
  | [] => some []
  | .tmp t :: l =>
    match resE P get r l with
    | some vs => some (look r t :: vs)
    | none => none
  | .cell a t :: l =>
    match loadE P get t (look r a), resE P get r l with
    | some v, some vs => some (v :: vs)
    | _, _ => none

def oneOr (vs : List V) : V :=
  match vs with
  | [v] => v
  | vs => .tup vs

/-- A function that is walked into. -/
def callN : Nat → Call α
  | 0, _, _, _, _, _, _ => none
  | d + 1, f, args, os, nx, fl, K =>
    match E.P.funcs[f]? with
    | some fn =>
      match fn.body with
      | some c =>
        bif Nat.ble args.length fn.ntmps then
          exec E (callN d) f fn.ntmps c 0 ⟨args0 args 0, os, nx, fl⟩ fun e s =>
            match e with
            | .exit _ => none
            | _ =>
              match s with
              | ⟨r, os, nx, fl⟩ =>
                match resE E.P (upd os noGet) r fn.results.toList with
                | some vs => K (oneOr vs) os nx fl
                | none => none
        else none
      | none => none
    | none => none

/-- What a function comes to that only looks at what it is handed: all that it has made is immutable from then on. -/
def runPure (d : Nat) (f : FuncId) (args : List V) : Option V := callN E (α := V) d f args [] 0 [] fun v os _ fl => some (deepT (upd os noGet) fl v)

/-- The same, of one that works on one flat object. -/
def runObj (d : Nat) (f : FuncId) (cs : Cells) (rest : List V) : Option (V × Cells) :=
  callN E (α := V × Cells) d f (.mp 0 0 :: rest) [(0, some cs)] 1 [0] fun v os _ fl =>
    match upd os noGet 0 with
    | some cs' => bif memB 0 fl && plainT v then some (v, cs') else none
    | none => none
end
end Go.Ev
