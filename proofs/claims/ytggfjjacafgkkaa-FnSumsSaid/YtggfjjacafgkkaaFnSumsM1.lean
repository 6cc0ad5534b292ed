/-
  FnSums: proved of the given program for each two slices of bytes, without a condition. Part 1 of 4 of its proof.
-/
import Derived.Orders
import Derived.WalkKit
import Derived.WalkLawsBesides
import Derived.Laws.Externs
import Derived.Laws.FloatArith
/-
  The abstract values of the evaluator, how they stand to the model's values, and the state's invariant: own objects by numbers, immutable memory.
-/
namespace Go.Ev

/-- A value as the evaluator sees it. Floats: one not-a-number a kind. 'sl': an immutable slice by its elements (each its cells, so many); 'nil': a slice of length and capacity 0; 'ip': an address in immutable memory, what lies there; 'mp', 'ms': an address in, a slice of, an object of one's own; 'und': whatever. -/
inductive V where
  | bool (x : Bool)
  | int (k : IntKind) (n : Int)
  | flt (k : FloatKind) (x : Nat)
  | str (s : ByteArray)
  | agg (cs : List V)
  | tup (vs : List V)
  | sl (sz : Nat) (es : List (List V))
  | nil
  | ip (e : List V) (off : Nat)
  | mp (id off : Nat)
  | ms (id off len sz : Nat)
  | np
  | fn (f : FuncId) (first cap : List V)
  | und
  deriving Inhabited

abbrev Cells := List V

/-- No reference into an object of one's own; and one cell. -/
def noRefB : V → Bool
  | .bool _ | .int _ _ | .flt _ _ | .str _ | .sl _ _ | .nil | .ip _ _ | .np | .und => true
  | .fn _ [] [] => true
  | _ => false

/-- The one not-a-number of a kind. -/
def qnan : FloatKind → Nat
  | .f32 => 2143289344
  | .f64 => 9221120237041090561

def isNan (k : FloatKind) (b : Nat) : Bool := (k.format.read b).isNaN

def canon (k : FloatKind) (b : Nat) : Nat := bif isNan k b then qnan k else b

/-- Where an object of one's own lies: its block, where in it, the block's size. -/
structure Loc where
  blk : Nat
  base : Nat
  size : Nat

abbrev Mu := Nat → Option Loc
abbrev Im := Nat → Option (Array Value)
def noMu : Mu := fun _ => none

inductive Rv (J : Im) : Mu → V → Value → Prop where
  | bool {μ x} : Rv J μ (.bool x) (.bool x)
  | int {μ k n} : Rv J μ (.int k n) (.int k n)
  | flt {μ k x b} (h : x = canon k b) : Rv J μ (.flt k x) (.float k b)
  | str {μ s} : Rv J μ (.str s) (.string s)
  | agg {μ cs} {gs : Array Value} (hs : gs.size = cs.length) (ho : ∀ (j : Nat) g, gs[j]? = some g → g.oneCell' = true) (h : ∀ (j : Nat) v g, cs[j]? = some v → gs[j]? = some g → Rv J μ v g) : Rv J μ (.agg cs) (.agg gs)
  | tup {μ cs} {gs : Array Value} (hs : gs.size = cs.length) (h : ∀ (j : Nat) v g, cs[j]? = some v → gs[j]? = some g → Rv J μ v g) : Rv J μ (.tup cs) (.tuple gs)
  | sl0 {μ a c sz} : Rv J μ (.sl sz []) (.slice a 0 c)
  | sl {μ es cap c} {blk off sz : Nat} {gs : Nat → Nat → Value} (hc : es.length ≤ cap) (hj : J blk = some c) (hz : ∀ e ∈ es, e.length = sz)
      (h1 : ∀ (i j : Nat) e v, es[i]? = some e → e[j]? = some v → c[off + i * sz + j]? = some (gs i j))
      (h2 : ∀ (i j : Nat) e v, es[i]? = some e → e[j]? = some v → Rv J noMu v (gs i j)) (h3 : ∀ (i j : Nat) e v, es[i]? = some e → e[j]? = some v → (gs i j).oneCell' = true ∧ noRefB v = true) : Rv J μ (.sl sz es) (.slice (some ⟨blk, off, none⟩) es.length cap)
  | nil {μ a} : Rv J μ .nil (.slice a 0 0)
  | ip {μ e off c} {blk o : Nat} {gs : Nat → Value} (hj : J blk = some c)
      (h1 : ∀ (j : Nat) v, e[j]? = some v → c[o + j]? = some (gs j)) (h2 : ∀ (j : Nat) v, e[j]? = some v → Rv J noMu v (gs j)) (h3 : ∀ (j : Nat) v, e[j]? = some v → (gs j).oneCell' = true ∧ noRefB v = true) : Rv J μ (.ip e off) (.pointer (some ⟨blk, o + off, none⟩))
  | mp {μ id off l} (h : μ id = some l) : Rv J μ (.mp id off) (.pointer (some ⟨l.blk, l.base + off, none⟩))
  | ms {μ id off len sz l cap} (h : μ id = some l) (hc : len ≤ cap) (hl : l.base + off + cap * sz ≤ l.size) : Rv J μ (.ms id off len sz) (.slice (some ⟨l.blk, l.base + off, none⟩) len cap)
  | np {μ} : Rv J μ .np (.pointer none)
  | fn {μ f first cap} {g1 g2 : Array Value} (hs1 : g1.size = first.length) (hs2 : g2.size = cap.length)
      (h1 : ∀ (j : Nat) v g, first[j]? = some v → g1[j]? = some g → Rv J μ v g) (h2 : ∀ (j : Nat) v g, cap[j]? = some v → g2[j]? = some g → Rv J μ v g) : Rv J μ (.fn f first cap) (.func (.func f) g1 g2)
  | und {μ g} : Rv J μ .und g

def Im.le (J J' : Im) : Prop := ∀ b c, J b = some c → J' b = some c
def Mu.le (μ μ' : Mu) : Prop := ∀ i l, μ i = some l → μ' i = some l

theorem Im.le_refl (J : Im) : Im.le J J := fun _ _ h => h
theorem Im.le_trans {J J' J'' : Im} (h : Im.le J J') (h' : Im.le J' J'') : Im.le J J'' := fun b c hb => h' b c (h b c hb)
theorem Mu.le_refl (μ : Mu) : Mu.le μ μ := fun _ _ h => h
theorem Mu.le_trans {μ μ' μ'' : Mu} (h : Mu.le μ μ') (h' : Mu.le μ' μ'') : Mu.le μ μ'' := fun b c hb => h' b c (h b c hb)
theorem noMu_le (μ : Mu) : Mu.le noMu μ := fun i l h => by simp [noMu] at h

theorem Rv.mono {J J' : Im} {μ μ' : Mu} {v : V} {g : Value} (h : Rv J μ v g) (hJ : Im.le J J') (hμ : Mu.le μ μ') : Rv J' μ' v g := by
  induction h generalizing μ' with
  | bool => exact .bool
  | int => exact .int
  | flt h => exact .flt h
  | str => exact .str
  | agg hs ho _ ih => exact .agg hs ho fun j v g h1 h2 => ih j v g h1 h2 hμ
  | tup hs _ ih => exact .tup hs fun j v g h1 h2 => ih j v g h1 h2 hμ
  | sl0 => exact .sl0
  | sl hc hj hz h1 _ h3 ih => exact .sl hc (hJ _ _ hj) hz h1 (fun i j e v he hv => ih i j e v he hv (Mu.le_refl _)) h3
  | nil => exact .nil
  | ip hj h1 _ h3 ih => exact .ip (hJ _ _ hj) h1 (fun j v hv => ih j v hv (Mu.le_refl _)) h3
  | mp h => exact .mp (hμ _ _ h)
  | ms h hc hl => exact .ms (hμ _ _ h) hc hl
  | np => exact .np
  | fn hs1 hs2 _ _ ih1 ih2 => exact .fn hs1 hs2 (fun j v g a b => ih1 j v g a b hμ) (fun j v g a b => ih2 j v g a b hμ)
  | und => exact .und

/-- Memory, the system, what has been put out. -/
def _root_.Go.World.hoo (w : World) : Array Obj × Os × Array (Nat × ByteArray) × (Nat → Question → Nat) := (w.heap, w.os, w.output, w.tape)
theorem hoo_heap {w w' : World} (h : w'.hoo = w.hoo) : w'.heap = w.heap := congrArg (·.1) h
theorem hoo_os {w w' : World} (h : w'.hoo = w.hoo) : w'.os = w.os := congrArg (·.2.1) h
theorem hoo_out {w w' : World} (h : w'.hoo = w.hoo) : (w'.output, w'.tape) = (w.output, w.tape) := congrArg (·.2.2) h

/-- What an object holds, number by number. -/
abbrev Get := Nat → Option Cells

structure Inv (get : Get) (J : Im) (μ : Mu) (w : World) : Prop where
  im : ∀ b c, J b = some c → ∃ elem fz, w.heap[b]? = some (.cells c elem fz)
  ob : ∀ id cs, get id = some cs → ∃ l gc elem, μ id = some l ∧ J l.blk = none ∧ w.heap[l.blk]? = some (.cells gc elem (0, 0)) ∧ gc.size = l.size ∧ l.base + cs.length ≤ l.size ∧ (∀ (j : Nat) g, gc[j]? = some g → g.oneCell' = true) ∧
    ∀ (j : Nat) v, cs[j]? = some v → ∃ g, gc[l.base + j]? = some g ∧ Rv J μ v g
  sep : ∀ i i' l l', get i ≠ none → get i' ≠ none → μ i = some l → μ i' = some l' → l.blk = l'.blk → i = i'

/-- The blocks of the objects that live. -/
def Own (get : Get) (μ : Mu) (b : Nat) : Prop := ∃ id l, get id ≠ none ∧ μ id = some l ∧ l.blk = b

/-- From one state to a later one. -/
structure Ext (get : Get) (J : Im) (μ : Mu) (w : World) (get' : Get) (J' : Im) (μ' : Mu) (w' : World) : Prop where
  size : w.heap.size ≤ w'.heap.size
  mu : Mu.le μ μ'
  im : Im.le J J'
  imNew : ∀ b c, J' b = some c → J b = none → w.heap.size ≤ b
  frame : ∀ b, b < w.heap.size → ¬ Own get μ b → w'.heap[b]? = w.heap[b]?
  own : ∀ b, Own get' μ' b → Own get μ b ∨ w.heap.size ≤ b
  os : w'.os = w.os
  out : (w'.output, w'.tape) = (w.output, w.tape)

theorem Ext.refl (get : Get) (J : Im) (μ : Mu) (w : World) : Ext get J μ w get J μ w :=
  ⟨Nat.le_refl _, Mu.le_refl _, Im.le_refl _, fun _ _ h h' => (by rw [h] at h'; cases h'), fun _ _ _ => rfl, fun _ h => Or.inl h, rfl, rfl⟩

theorem Ext.trans {get get' get'' : Get} {J J' J'' : Im} {μ μ' μ'' : Mu} {w w' w'' : World} (h : Ext get J μ w get' J' μ' w') (h' : Ext get' J' μ' w' get'' J'' μ'' w'') : Ext get J μ w get'' J'' μ'' w'' := by
  refine ⟨Nat.le_trans h.size h'.size, Mu.le_trans h.mu h'.mu, Im.le_trans h.im h'.im, fun b c hb hn => ?_, fun b hb hn => ?_, fun b hb => ?_, h'.os.trans h.os, h'.out.trans h.out⟩
  · cases hj : J' b with
    | none => exact Nat.le_trans h.size (h'.imNew b c hb hj)
    | some c' => exact h.imNew b c' hj hn
  · rw [h'.frame b (Nat.lt_of_lt_of_le hb h.size) ?_, h.frame b hb hn]
    intro ho
    rcases h.own b ho with h1 | h1
    · exact hn h1
    · omega
  · rcases h'.own b hb with h1 | h1
    · exact h.own b h1
    · exact .inr (Nat.le_trans h.size h1)

theorem cell?_at {w : World} {b off : Nat} {c : Array Value} {elem : TypeId} {fz : Nat × Nat} {g : Value} (h : w.heap[b]? = some (.cells c elem fz)) (hg : c[off]? = some g) : w.cell? ⟨b, off, none⟩ = some g := by
  simp [World.cell?, h, hg]

/-- A draw more. -/
theorem Inv.heap {get : Get} {J : Im} {μ : Mu} {w w' : World} (h : Inv get J μ w) (hw : w'.hoo = w.hoo) : Inv get J μ w' :=
  ⟨fun b c hb => (by rw [hoo_heap hw]; exact h.im b c hb), fun id cs hi => (by rw [hoo_heap hw]; exact h.ob id cs hi), h.sep⟩

theorem Ext.heap {get : Get} {J : Im} {μ : Mu} {w w' : World} (hw : w'.hoo = w.hoo) : Ext get J μ w get J μ w' :=
  ⟨(by rw [hoo_heap hw]; exact Nat.le_refl _), Mu.le_refl _, Im.le_refl _, fun _ _ h h' => (by rw [h] at h'; cases h'), fun _ _ _ => (by rw [hoo_heap hw]), fun _ h => Or.inl h, hoo_os hw, hoo_out hw⟩

end Go.Ev

/-
  The evaluator: what a function's body comes to, step by step, over abstract values.
-/
namespace Go.Ev

abbrev Ups := List (Nat × Option Cells)

def upd : Ups → Get → Get
  | [], g, id => g id
  | (k, c) :: r, g, id => bif Nat.beq k id then c else upd r g id

def noGet : Get := fun _ => none

def ofLeaf : Value → V
  | .bool b => .bool b
  | .int k n => .int k n
  | .float k b => .flt k (canon k b)
  | .string s => .str s
  | .pointer none => .np
  | .slice none 0 0 => .nil
  | _ => .und

def ofVal : Value → V
  | .agg cs => bif cs.toList.all Value.oneCell' then .agg (cs.toList.map ofLeaf) else .und
  | .tuple _ => .und
  | v => ofLeaf v

/-- The cells that a value takes; of what is not known, none. -/
def cellsOf : V → Option Cells
  | .agg cs => some cs
  | .und => none
  | .tup _ => none
  | v => some [v]

def over : Cells → Cells → Cells
  | _ :: cs, v :: vs => v :: over cs vs
  | cs, _ => cs

def setCells : Cells → Nat → Cells → Cells
  | c :: cs, n + 1, vs => c :: setCells cs n vs
  | cs, _, vs => over cs vs

def getAt {α : Type} : List α → Nat → Option α
  | [], _ => none
  | a :: _, 0 => some a
  | _ :: l, n + 1 => getAt l n

/-- An element by an index that can be too small. -/
def idx {α : Type} (l : List α) (i : Int) : Option α :=
  match i with
  | .ofNat n => getAt l n
  | .negSucc _ => none

section
variable (P : Program)

def sizeT (t : TypeId) : Option Nat :=
  match P.info? t with
  | some i => some i.size
  | none => none

def isAggT (t : TypeId) : Option Bool :=
  match P.underlying t with
  | some (.struct _) => some true
  | some (.array _ _) => some true
  | some _ => some false
  | none => none

def loadFrom (t : TypeId) (cs : Cells) (off : Nat) : Option V :=
  match isAggT P t with
  | some true =>
    match sizeT P t with
    | some n => bif Nat.ble (off + n) cs.length then some (.agg ((cs.drop off).take n)) else none
    | none => none
  | some false => getAt cs off
  | none => none

def zeroCellsT (t : TypeId) : Option Cells :=
  match P.info? t with
  | some i =>
    match i.zero with
    | some z => cellsOf (ofVal z)
    | none => none
  | none => none

def fillE (place : Nat → Option (Nat × Nat)) (cells : Cells) : List (Nat × V) → Option Cells
  | [] => some cells
  | (i, v) :: rest =>
    match place i with
    | none => none
    | some (off, size) =>
      match cellsOf v with
      | none => none
      | some vs => bif Nat.beq vs.length size && Nat.ble (off + size) cells.length then fillE place (setCells cells off vs) rest else none

def placeS (fs : Array Go.Field) (i : Nat) : Option (Nat × Nat) :=
  match fs[i]? with
  | some f =>
    match sizeT P f.type with
    | some n => some (f.offset, n)
    | none => none
  | none => none

def buildE (t : TypeId) (parts : List (Nat × V)) : Option V :=
  match zeroCellsT P t with
  | none => none
  | some z =>
    match P.underlying t with
    | some (.struct fs) =>
      bif fs.all fun f => (sizeT P f.type).isSome then
        match fillE (placeS P fs) z parts with
        | some cs => some (.agg cs)
        | none => none
      else none
    | some (.array _ e) =>
      match sizeT P e with
      | some n =>
        match fillE (fun i => some (i * n, n)) z parts with
        | some cs => some (.agg cs)
        | none => none
      | none => none
    | _ => none

/-- n times the cells, one behind the other. -/
def repCells : Nat → Cells → Cells
  | 0, _ => []
  | n + 1, z => z ++ repCells n z

abbrev Res := Option (V × Ups × Nat)

def buildSliceE (nid : Nat) (t : TypeId) (len : Nat) (parts : List (Nat × V)) : Res :=
  match P.underlying t with
  | some (.slice e) =>
    match P.info? e, zeroCellsT P e with
    | some i, some z =>
      bif Nat.beq z.length i.size && Nat.ble (len * i.size) 16777216 then
        match len with
        | 0 =>
          match parts with
          | [] => some (.ms nid 0 0 i.size, [(nid, some [])], 1)
          | _ => none
        | _ + 1 =>
          match fillE (fun j => some (j * i.size, i.size)) (repCells (len * i.size) [.und]) parts with
          | some cs => some (.ms nid 0 len i.size, [(nid, some cs)], 1)
          | none => none
      else none
    | _, _ => none
  | _ => none

def loadE (get : Get) (t : TypeId) (a : V) : Option V :=
  match a with
  | .mp id off =>
    match get id with
    | some cs => loadFrom P t cs off
    | none => none
  | .ip e off => loadFrom P t e off
  | _ => none

def storeE (get : Get) (t : TypeId) (a v : V) : Option Ups :=
  match a with
  | .mp id off =>
    match get id with
    | some cs =>
      match cellsOf v, sizeT P t with
      | some vs, some n => bif Nat.beq vs.length n && Nat.ble (off + n) cs.length then some [(id, some (setCells cs off vs))] else none
      | _, _ => none
    | none => none
  | _ => none

def fieldAddrE (s : TypeId) (a : V) (f : Nat) : Option V :=
  match P.underlying s with
  | some (.struct fs) =>
    match fs[f]? with
    | some fl =>
      match sizeT P fl.type with
      | some (_ + 1) =>
        match a with
        | .mp id off => some (.mp id (off + fl.offset))
        | .ip e off => some (.ip e (off + fl.offset))
        | _ => none
      | _ => none
    | none => none
  | _ => none

def natBelow (i : Int) (n : Nat) : Option Nat :=
  match i with
  | .ofNat k => bif Nat.blt k n then some k else none
  | .negSucc _ => none

def indexAddrE (t : TypeId) (a i : V) : Option V :=
  match i with
  | .int _ i =>
    match P.underlying t with
    | some (.slice e) =>
      match sizeT P e with
      | some n =>
        match a with
        | .sl sz es =>
          match idx es i with
          | some c => bif Nat.beq sz n then some (.ip c 0) else none
          | none => none
        | .ms id off len sz =>
          match natBelow i len with
          | some k => bif Nat.beq sz n then some (.mp id (off + k * sz)) else none
          | none => none
        | _ => none
      | none => none
    | some (.array len e) =>
      match sizeT P e with
      | some n =>
        match natBelow i len with
        | some k =>
          match a with
          | .mp id off => some (.mp id (off + k * n))
          | .ip c off => some (.ip c (off + k * n))
          | _ => none
        | none => none
      | none => none
    | _ => none
  | _ => none

def indexE (t : TypeId) (a i : V) : Option V :=
  match i with
  | .int _ i =>
    match P.underlying t with
    | some (.array len e) =>
      match sizeT P e, natBelow i len with
      | some n, some k =>
        match a with
        | .agg cs => loadFrom P e cs (k * n)
        | _ => none
      | _, _ => none
    | some .string =>
      match a with
      | .str s =>
        match idx s.data.toList i with
        | some b => some (.int .u8 b.toNat)
        | none => none
      | _ => none
    | _ => none
  | _ => none

/-- A bound of a slice expression: at most n. -/
def bound (x : V) (n : Nat) : Option Nat :=
  match x with
  | .int _ i => natBelow i (n + 1)
  | _ => none

def boundHi (hi : Option V) (n : Nat) : Option Nat :=
  match hi with
  | none => some n
  | some h => bound h n

def boundLo (lo : Option V) (h : Nat) : Option Nat :=
  match lo with
  | none => some 0
  | some l => bound l h

def sliceE (t : TypeId) (a : V) (lo hi mx : Option V) : Option V :=
  match P.underlying t with
  | some (.slice e) =>
    match sizeT P e with
    | some n =>
      match mx with
      | none =>
        match a with
        | .sl sz es =>
          match boundHi hi es.length with
          | some h =>
            match boundLo lo h with
            | some l => bif Nat.beq sz n then some (.sl sz ((es.take h).drop l)) else none
            | none => none
          | none => none
        | .ms id off len sz =>
          match boundHi hi len with
          | some h =>
            match boundLo lo h with
            | some l => bif Nat.beq sz n then (bif Nat.blt l h then some (.ms id (off + l * sz) (h - l) sz) else some (.sl sz [])) else none
            | none => none
          | none => none
        | _ => none
      | some (.int _ 0) =>
        match hi, lo with
        | some (.int _ 0), none =>
          match a with
          | .sl _ _ => some .nil
          | .ms _ _ _ _ => some .nil
          | .nil => some .nil
          | _ => none
        | _, _ => none
      | _ => none
    | none => none
  | some .string =>
    match mx with
    | none =>
      match a with
      | .str s =>
        match boundHi hi s.size with
        | some h =>
          match boundLo lo h with
          | some l => some (.str (s.extract l h))
          | none => none
        | none => none
      | _ => none
    | some _ => none
  | _ => none
end

/-- An operation on two floats, rounded. -/
def fop (op : BinOp) (k : FloatKind) (x y : Nat) : Nat :=
  match floatBits op k x y with
  | some r => r
  | none => qnan k

def fneg (k : FloatKind) (x : Nat) : Nat := bif isNan k x then qnan k else Op.negFloat k x

def fcmp (op : BinOp) (k : FloatKind) (x y : Nat) : Bool :=
  match op with
  | .eql => k.format.order x y == some .eq
  | .neq => k.format.order x y != some .eq
  | .lss => k.format.order x y == some .lt
  | .leq => k.format.order x y == some .lt || k.format.order x y == some .eq
  | .gtr => k.format.order x y == some .gt
  | .geq => k.format.order x y == some .gt || k.format.order x y == some .eq
  | _ => false

/-- From one kind of floats to the other; not where a finite number is too great. -/
def fconv (s k : FloatKind) (x : Nat) : Option Nat :=
  match s, k with
  | .f32, .f32 => some x
  | .f64, .f64 => some x
  | _, _ =>
    match s.decode x with
    | .nan _ _ => some (qnan k)
    | .infinity g => some (k.encode (.infinity g))
    | .number g m e => bif (k.decode (k.encode (.number g m e))).isInfinity then none else some (k.encode (.number g m e))

def icmp (op : BinOp) (x y : Int) : Bool :=
  match op with
  | .eql => x == y
  | .neq => x != y
  | .lss => decide (x < y)
  | .leq => decide (x ≤ y)
  | .gtr => decide (x > y)
  | .geq => decide (x ≥ y)
  | _ => false

def isCmp : BinOp → Bool
  | .eql | .neq | .lss | .leq | .gtr | .geq => true
  | _ => false

def ibits (op : BinOp) (k : IntKind) (x y : Int) : Int :=
  match op with
  | .and => k.wrap (BitVec.ofInt k.bits x &&& BitVec.ofInt k.bits y).toNat
  | .or => k.wrap (BitVec.ofInt k.bits x ||| BitVec.ofInt k.bits y).toNat
  | .xor => k.wrap (BitVec.ofInt k.bits x ^^^ BitVec.ofInt k.bits y).toNat
  | _ => k.wrap (BitVec.ofInt k.bits x &&& ~~~BitVec.ofInt k.bits y).toNat

def sameI (a b : IntKind) : Bool := decide (a = b)
def sameF (a b : FloatKind) : Bool := decide (a = b)

def ibin (op : BinOp) (k : IntKind) (x y : Int) : Option V :=
  match op with
  | .add => some (.int k (k.wrap (x + y)))
  | .sub => some (.int k (k.wrap (x - y)))
  | .mul => some (.int k (k.wrap (x * y)))
  | .quo => bif y == 0 then none else some (.int k (k.wrap (x.tdiv y)))
  | .rem => bif y == 0 then none else some (.int k (x.tmod y))
  | .and => some (.int k (ibits .and k x y))
  | .or => some (.int k (ibits .or k x y))
  | .xor => some (.int k (ibits .xor k x y))
  | .andNot => some (.int k (ibits .andNot k x y))
  | .shl => none
  | .shr => none
  | op => some (.bool (icmp op x y))

def fbin (op : BinOp) (k : FloatKind) (x y : Nat) : Option V :=
  match op with
  | .add => some (.flt k (fop .add k x y))
  | .sub => some (.flt k (fop .sub k x y))
  | .mul => some (.flt k (fop .mul k x y))
  | .quo => some (.flt k (fop .quo k x y))
  | op => bif isCmp op then some (.bool (fcmp op k x y)) else none

def sbin (op : BinOp) (x y : ByteArray) : Option V :=
  match op with
  | .add => bif Nat.ble (x.size + y.size) 9223372036854775807 then some (.str (x ++ y)) else none
  | .eql => some (.bool (x.toList == y.toList))
  | .neq => some (.bool (!(x.toList == y.toList)))
  | _ => none

def binE (op : BinOp) (x y : V) : Option V :=
  match x, y with
  | .int k a, .int k' b =>
    match op with
    | .shl =>
      match b with
      | .ofNat n => some (.int k (k.wrap (a * 2 ^ (min n k.bits))))
      | .negSucc _ => none
    | .shr =>
      match b with
      | .ofNat n => some (.int k (a.fdiv (2 ^ (min n k.bits))))
      | .negSucc _ => none
    | op => bif sameI k k' then ibin op k a b else none
  | .flt k a, .flt k' b => bif sameF k k' then fbin op k a b else none
  | .str a, .str b => sbin op a b
  | _, _ => none

/-- With the operands' type, by which truth values are compared. -/
def binB (P : Program) (op : BinOp) (t : TypeId) (x y : V) : Option V :=
  match op, x, y with
  | .eql, .bool a, .bool b =>
    match P.underlying t with
    | some .bool => some (.bool (a == b))
    | _ => none
  | .neq, .bool a, .bool b =>
    match P.underlying t with
    | some .bool => some (.bool (!(a == b)))
    | _ => none
  | op, x, y => binE op x y

def unE (op : UnOp) (x : V) : Option V :=
  match op, x with
  | .neg, .int k n => some (.int k (k.wrap (0 - n)))
  | .neg, .flt k b => some (.flt k (fneg k b))
  | .not, .bool b => some (.bool (!b))
  | _, _ => none

/-- The bytes of cells that hold bytes. -/
def bytesOf : Cells → Option (List UInt8)
  | [] => some []
  | .int .u8 n :: r =>
    match bytesOf r with
    | some l => some (UInt8.ofNat n.toNat :: l)
    | none => none
  | _ => none

def convE (P : Program) (get : Get) (src dst : TypeId) (x : V) : Option V :=
  match P.underlying src, P.underlying dst with
  | some _, some (.int k) =>
    match x with
    | .int _ n => some (.int k (k.wrap n))
    | .flt f b =>
      match floatToIntVal f b k with
      | some n => some (.int k n)
      | none => none
    | _ => none
  | some _, some (.float k) =>
    match x with
    | .int _ n => some (.flt k (k.nearest n))
    | .flt f b =>
      match fconv f k b with
      | some r => some (.flt k r)
      | none => none
    | _ => none
  | some (.slice e), some .string =>
    match P.underlying e with
    | some (.int .u8) =>
      match x with
      | .ms id off len sz =>
        match get id with
        | some cs =>
          bif Nat.beq sz 1 && Nat.ble (off + len) cs.length then
            match bytesOf ((cs.drop off).take len) with
            | some l => some (.str ⟨l.toArray⟩)
            | none => none
          else none
        | none => none
      | _ => none
    | _ => none
  | some .string, some .string =>
    match x with
    | .str s => some (.str s)
    | _ => none
  | _, _ => none

def lenE (P : Program) (t : TypeId) (x : V) : Option V :=
  match P.underlying t with
  | some (.slice _) =>
    match x with
    | .sl _ es => some (.int .i64 es.length)
    | .ms _ _ len _ => some (.int .i64 len)
    | .nil => some (.int .i64 0)
    | _ => none
  | some .string =>
    match x with
    | .str s => some (.int .i64 s.size)
    | _ => none
  | some (.array n _) =>
    match x with
    | .und => none
    | _ => some (.int .i64 n)
  | _ => none

/-- The cells of what is appended, and how many elements they are. -/
def srcE (get : Get) (x : V) (n : Nat) : Option (Cells × Nat) :=
  match x with
  | .sl sz es => bif Nat.beq sz n then some (es.flatten, es.length) else none
  | .ms id off len sz =>
    match get id with
    | some cs => bif Nat.beq sz n && Nat.ble (off + len * sz) cs.length then some ((cs.drop off).take (len * sz), len) else none
    | none => none
  | .nil => some ([], 0)
  | _ => none

/-- The most elements that an appended slice may have here. -/
def most : Nat := 4294967296

def appendE (P : Program) (get : Get) (nid : Nat) (t : TypeId) (d x : V) : Res :=
  match P.underlying t with
  | some (.slice e) =>
    match P.info? e, zeroCellsT P e with
    | some i, some z =>
      bif Nat.ble i.bytes 256 && Nat.beq z.length i.size then
        match srcE get x i.size with
        | some (cs, n) =>
          match d with
          | .nil =>
            match n with
            | 0 => some (.nil, [], 0)
            | m + 1 => bif Nat.ble (m + 1) most then some (.ms nid 0 (m + 1) i.size, [(nid, some cs)], 1) else none
          | .ms id off len sz =>
            match get id with
            | some ds =>
              bif Nat.beq sz i.size && Nat.ble (off + len * sz) ds.length && Nat.ble (len + n) most then
                some (.ms nid 0 (len + n) sz, [(nid, some ((ds.drop off).take (len * sz) ++ cs)), (id, none)], 1)
              else none
            | none => none
          | _ => none
        | none => none
      else none
    | _, _ => none
  | _ => none

def max2E (x y : V) : Option V :=
  match x, y with
  | .int k a, .int k' b => bif sameI k k' then some (.int k (bif decide (b > a) then b else a)) else none
  | .flt k a, .flt k' b =>
    bif sameF k k' then
      some (.flt k (match k.format.order a b with
        | none => qnan k
        | some .lt => b
        | some .gt => a
        | some .eq => bif (k.decode a).neg then b else a))
    else none
  | _, _ => none

def min2E (x y : V) : Option V :=
  match x, y with
  | .int k a, .int k' b => bif sameI k k' then some (.int k (bif decide (b < a) then b else a)) else none
  | _, _ => none

def builtinE (P : Program) (get : Get) (nid : Nat) (b : Builtin) (ts : List TypeId) (args : List V) : Res :=
  match b with
  | .len =>
    match ts, args with
    | t :: _, x :: _ =>
      match lenE P t x with
      | some v => some (v, [], 0)
      | none => none
    | _, _ => none
  | .append =>
    match ts, args with
    | t :: u :: _, d :: x :: _ =>
      match P.underlying u with
      | some (.slice _) => appendE P get nid t d x
      | _ => none
    | _, _ => none
  | .max =>
    match args with
    | [x, y] =>
      match max2E x y with
      | some v => some (v, [], 0)
      | none => none
    | _ => none
  | .min =>
    match args with
    | [x, y] =>
      match min2E x y with
      | some v => some (v, [], 0)
      | none => none
    | _ => none
  | _ => none

def makeSliceE (P : Program) (nid : Nat) (t : TypeId) (l c : V) : Res :=
  match P.underlying t with
  | some (.slice e) =>
    match P.info? e, zeroCellsT P e with
    | some i, some z =>
      match l, c with
      | .int .i64 (.ofNat n), .int .i64 (.ofNat m) =>
        bif Nat.beq n m && Nat.ble n most && Nat.ble i.bytes 256 && Nat.beq z.length i.size then some (.ms nid 0 n i.size, [(nid, some (repCells n z))], 1) else none
      | _, _ => none
    | _, _ => none
  | _ => none

end Go.Ev

/-
  Floats with one not-a-number: the model's operations on any bits, and the evaluator's on the canonical ones.
-/
namespace Go.Ev
open Ieee

theorem read_word (f : Format) (neg : Bool) {rung : Nat} (h : rung < f.signWeight) : f.word neg rung % f.signWeight = rung := by
  unfold Format.word
  split
  · rw [Nat.add_mod_left, Nat.mod_eq_of_lt h]
  · exact Nat.mod_eq_of_lt h

theorem binade_le_inf (f : Format) (h : 2 ≤ f.exponentBits) : f.binade ≤ f.infRung := by
  unfold Format.infRung
  have : 2 ^ 2 ≤ 2 ^ f.exponentBits := Nat.pow_le_pow_right (by omega) h
  exact Nat.le_mul_of_pos_left _ (by omega)

theorem isNaN_read (f : Format) (h : 2 ≤ f.exponentBits) (b : Nat) : (f.read b).isNaN = decide (f.infRung < b % f.signWeight) := by
  have hb := binade_le_inf f h
  unfold Format.read
  dsimp only
  split
  · simp [Datum.isNaN]; omega
  · split
    · simp [Datum.isNaN]; omega
    · split
      · rename_i h3; simp [Datum.isNaN, h3]
      · simp [Datum.isNaN]; omega

theorem expo_two (k : FloatKind) : 2 ≤ k.format.exponentBits := by cases k <;> decide

theorem isNan_eq (k : FloatKind) (b : Nat) : isNan k b = decide (k.format.infRung < b % k.format.signWeight) := isNaN_read _ (expo_two k) b

theorem isNan_qnan (k : FloatKind) : isNan k (qnan k) = true := by cases k <;> decide +kernel

theorem isNan_canon (k : FloatKind) (b : Nat) : isNan k (canon k b) = isNan k b := by
  unfold canon
  cases h : isNan k b
  · simpa using h
  · simpa using isNan_qnan k

theorem canon_canon (k : FloatKind) (b : Nat) : canon k (canon k b) = canon k b := by
  rw [canon, isNan_canon]
  unfold canon
  cases h : isNan k b <;> simp

theorem canon_of_not {k : FloatKind} {b : Nat} (h : isNan k b = false) : canon k b = b := by simp [canon, h]

theorem canon_of_nan {k : FloatKind} {b : Nat} (h : isNan k b = true) : canon k b = qnan k := by simp [canon, h]

theorem read_nan {k : FloatKind} {b : Nat} (h : isNan k b = true) : ∃ s t, k.format.read b = .nan s t := by
  unfold isNan at h
  cases hr : k.format.read b with
  | nan s t => exact ⟨s, t, rfl⟩
  | number _ _ _ => rw [hr] at h; simp [Datum.isNaN] at h
  | infinity _ => rw [hr] at h; simp [Datum.isNaN] at h

/-- What looks at what a number stands for, and tells of a not-a-number nothing but that, is the same at the canonical bits. -/
theorem of_canon {α : Type} (k : FloatKind) (F : Datum → α) (hF : ∀ s t s' t', F (.nan s t) = F (.nan s' t')) (b : Nat) : F (k.format.read (canon k b)) = F (k.format.read b) := by
  cases h : isNan k b
  · rw [canon_of_not h]
  · rw [canon_of_nan h]
    obtain ⟨s, t, e⟩ := read_nan h
    obtain ⟨s', t', e'⟩ := read_nan (isNan_qnan k)
    rw [e, e']
    exact hF _ _ _ _

theorem order_canon (k : FloatKind) (a b : Nat) : k.format.order (canon k a) (canon k b) = k.format.order a b := by
  unfold Format.order
  rw [of_canon k (fun d => d.order (k.format.read (canon k b))) (fun _ _ _ _ => rfl) a]
  refine of_canon k (fun d => (k.format.read a).order d) (fun _ _ _ _ => ?_) b
  cases k.format.read a <;> rfl

theorem sum_nan (d : Datum) (s : Bool) (t : Nat) : d.sum (.nan s t) = none := by cases d <;> rfl
theorem product_nan (d : Datum) (s : Bool) (t : Nat) : d.product (.nan s t) = none := by cases d <;> rfl
theorem quotient_nan (n : Nat) (d : Datum) (s : Bool) (t : Nat) : d.quotient n (.nan s t) = none := by cases d <;> rfl

theorem floatBits_canon (op : BinOp) (k : FloatKind) (a b : Nat) : floatBits op k (canon k a) (canon k b) = floatBits op k a b := by
  unfold floatBits
  cases op <;> dsimp only
  · unfold Format.add
    rw [of_canon k (fun d => (d.sum (k.format.read (canon k b))).map k.format.write) (fun _ _ _ _ => rfl) a]
    exact of_canon k (fun d => ((k.format.read a).sum d).map k.format.write) (fun _ _ _ _ => by simp only [sum_nan]) b
  · unfold Format.sub
    rw [of_canon k (fun d => (d.sum (k.format.read (canon k b)).opposite).map k.format.write) (fun _ _ _ _ => rfl) a]
    exact of_canon k (fun d => ((k.format.read a).sum d.opposite).map k.format.write) (fun _ _ _ _ => by simp only [Datum.opposite, sum_nan]) b
  · unfold Format.mul
    rw [of_canon k (fun d => (d.product (k.format.read (canon k b))).map k.format.write) (fun _ _ _ _ => rfl) a]
    exact of_canon k (fun d => ((k.format.read a).product d).map k.format.write) (fun _ _ _ _ => by simp only [product_nan]) b
  · unfold Format.div
    rw [of_canon k (fun d => (d.quotient (k.format.fractionBits + 2) (k.format.read (canon k b))).map k.format.write) (fun _ _ _ _ => rfl) a]
    exact of_canon k (fun d => ((k.format.read a).quotient (k.format.fractionBits + 2) d).map k.format.write) (fun _ _ _ _ => by simp only [quotient_nan]) b

theorem infRung_lt' (k : FloatKind) : k.format.infRung < k.format.signWeight := k.format.infRung_lt

theorem isNan_word (k : FloatKind) (neg : Bool) {rung : Nat} (h : rung ≤ k.format.infRung) : isNan k (k.format.word neg rung) = false := by
  rw [isNan_eq, read_word _ _ (Nat.lt_of_le_of_lt h (infRung_lt' k))]
  simpa using h

theorem isNan_nearest (k : FloatKind) (neg : Bool) (mag : Nat) (place : Int) : isNan k (k.format.nearest neg mag place) = false := by
  unfold Format.nearest
  split
  · exact isNan_word k neg (Nat.zero_le _)
  · exact isNan_word k neg (Nat.min_le_right _ _)

theorem isNan_write (k : FloatKind) (d : Datum) (h : d.isNaN = false) : isNan k (k.format.write d) = false := by
  cases d with
  | number neg mag place => exact isNan_nearest k neg mag place
  | infinity neg => exact isNan_word k neg (Nat.le_refl _)
  | nan _ _ => simp [Datum.isNaN] at h

theorem sum_notNaN {x y d : Datum} (h : x.sum y = some d) : d.isNaN = false := by
  unfold Datum.sum at h
  split at h <;> first
    | (cases h; done)
    | (cases h; rfl)
    | (split at h <;> cases h; rfl)

theorem product_notNaN {x y d : Datum} (h : x.product y = some d) : d.isNaN = false := by
  unfold Datum.product at h
  split at h <;> first
    | (cases h; done)
    | (cases h; rfl)
    | (split at h <;> cases h; rfl)

theorem quotient_notNaN {n : Nat} {x y d : Datum} (h : x.quotient n y = some d) : d.isNaN = false := by
  unfold Datum.quotient at h
  split at h <;> first
    | (cases h; done)
    | (cases h; rfl)
    | (dsimp only at h; split at h <;> first | (split at h <;> cases h <;> rfl) | (cases h; rfl))

theorem map_write_not {k : FloatKind} {o : Option Datum} {r : Nat} (hn : ∀ d, o = some d → d.isNaN = false) (h : o.map k.format.write = some r) : isNan k r = false := by
  cases o with
  | none => cases h
  | some d => cases h; exact isNan_write k d (hn d rfl)

theorem floatBits_not {op : BinOp} {k : FloatKind} {a b r : Nat} (h : floatBits op k a b = some r) : isNan k r = false := by
  unfold floatBits at h
  cases op <;> simp only at h <;> first | (cases h; done) | skip
  · exact map_write_not (fun _ => sum_notNaN) h
  · exact map_write_not (fun _ => sum_notNaN) h
  · exact map_write_not (fun _ => product_notNaN) h
  · exact map_write_not (fun _ => quotient_notNaN) h

theorem nan32 (t : Nat) : isNan .f32 ((t % 2) * 2 ^ 31 + 0x7f800000 + 1 + (t / 2) % (2 ^ 23 - 1)) = true := by
  have e1 : FloatKind.f32.format.infRung = 2139095040 := by decide +kernel
  have e2 : FloatKind.f32.format.signWeight = 2147483648 := by decide +kernel
  rw [isNan_eq, e1, e2]
  simp only [Nat.reducePow, Nat.reduceSub, decide_eq_true_eq]
  have h1 : t % 2 = 0 ∨ t % 2 = 1 := by omega
  generalize t % 2 = u at h1
  generalize hm : t / 2 % _ = m
  have hm' := Nat.mod_lt (t / 2) (show 8388607 > 0 by decide)
  rw [hm] at hm'
  rcases h1 with rfl | rfl <;> omega

theorem nan64 (t : Nat) : isNan .f64 ((t % 2) * 2 ^ 63 + 0x7ff0000000000000 + 1 + (t / 2) % (2 ^ 52 - 1)) = true := by
  have e1 : FloatKind.f64.format.infRung = 9218868437227405312 := by decide +kernel
  have e2 : FloatKind.f64.format.signWeight = 9223372036854775808 := by decide +kernel
  rw [isNan_eq, e1, e2]
  simp only [Nat.reducePow, Nat.reduceSub, decide_eq_true_eq]
  have h1 : t % 2 = 0 ∨ t % 2 = 1 := by omega
  generalize t % 2 = u at h1
  generalize hm : t / 2 % _ = m
  have hm' := Nat.mod_lt (t / 2) (show 4503599627370495 > 0 by decide)
  rw [hm] at hm'
  rcases h1 with rfl | rfl <;> omega

theorem cut_nanBits (k : FloatKind) (x y t : Nat) : isNan k ((Question.nanBits k x y).cut t) = true := by
  cases k
  · exact nan32 t
  · exact nan64 t

theorem cut_nanConv (k : FloatKind) (x t : Nat) : isNan k ((Question.nanConv k x).cut t) = true := by
  cases k
  · exact nan32 t
  · exact nan64 t

theorem cut_nanMinMax (k : FloatKind) (m : Bool) (x y t : Nat) : isNan k ((Question.nanMinMax k m x y).cut t) = true := by
  cases k
  · exact nan32 t
  · exact nan64 t

theorem isNan_neg (k : FloatKind) (b : Nat) : isNan k (Op.negFloat k b) = isNan k b := by
  rw [isNan_eq, isNan_eq]
  unfold Op.negFloat Format.signWeight
  rw [Nat.xor_mod_two_pow, Nat.mod_self, Nat.xor_zero]

theorem fneg_canon (k : FloatKind) (b : Nat) : fneg k (canon k b) = canon k (Op.negFloat k b) := by
  unfold fneg
  rw [isNan_canon]
  cases h : isNan k b
  · rw [canon_of_not h, canon_of_not (by rw [isNan_neg]; exact h)]; rfl
  · rw [canon_of_nan (b := Op.negFloat k b) (by rw [isNan_neg]; exact h)]; rfl

section
variable {P : Program}

/-- '+', '-', '*', '/' on floats. -/
theorem run_fop (op : BinOp) (t : TypeId) (k : FloatKind) (a b : Nat) (w : World) (ho : op = .add ∨ op = .sub ∨ op = .mul ∨ op = .quo) :
    ∃ r w', (binOp op t (.float k a) (.float k b)).run P w = .ok (.float k r) w' ∧ w'.hoo = w.hoo ∧ canon k r = fop op k (canon k a) (canon k b) := by
  unfold fop
  rw [floatBits_canon]
  cases h : floatBits op k a b with
  | some r => exact ⟨r, w, run_float_arith w op t k a b r h, rfl, canon_of_not (floatBits_not h)⟩
  | none =>
    refine ⟨(Question.nanBits k a b).cut (w.tape w.drawn (.nanBits k a b)), { w with drawn := w.drawn + 1 }, ?_, rfl, ?_⟩
    · unfold floatBits at h
      rcases ho with rfl | rfl | rfl | rfl <;> simp only at h <;> simp [binOp, Op.floatArith, h, Question.forced]
    · rw [canon_of_nan (cut_nanBits k a b _)]

theorem run_fcmp (op : BinOp) (t : TypeId) (k : FloatKind) (a b : Nat) (w : World) (ho : isCmp op = true) :
    (binOp op t (.float k a) (.float k b)).run P w = .ok (.bool (fcmp op k (canon k a) (canon k b))) w := by
  cases op <;> simp [isCmp] at ho <;> simp [binOp, Op.floatCmp, fcmp, order_canon]

theorem decode_canon_nan {k : FloatKind} {b : Nat} (h : isNan k b = true) : ∃ s t, k.decode b = .nan s t := read_nan h

theorem fconv_sound (s k : FloatKind) (b r : Nat) (w : World) (h : fconv s k (canon s b) = some r) :
    ∃ q w', (Conv.floatToFloat s b k).run P w = .ok (.float k q) w' ∧ w'.hoo = w.hoo ∧ canon k q = r := by
  unfold Conv.floatToFloat
  by_cases e : s = k
  · subst e
    refine ⟨b, w, by simp, rfl, ?_⟩
    cases s <;> simpa [fconv] using h
  · have h' : (match s.decode (canon s b) with
      | .nan _ _ => some (qnan k)
      | .infinity g => some (k.encode (.infinity g))
      | .number g m e => bif (k.decode (k.encode (.number g m e))).isInfinity then none else some (k.encode (.number g m e))) = some r := by
      cases s <;> cases k <;> first | (exact absurd rfl e) | exact h
    cases hn : isNan s b
    · rw [canon_of_not hn] at h'
      cases hd : s.decode b with
      | nan g t =>
        unfold isNan at hn
        unfold FloatKind.decode at hd
        rw [hd] at hn
        simp [Datum.isNaN] at hn
      | infinity g =>
        rw [hd] at h'
        simp only [Option.some.injEq] at h'
        exact ⟨k.encode (.infinity g), w, by simp [e], rfl, by rw [← h']; exact canon_of_not (isNan_write k _ rfl)⟩
      | number g m p =>
        rw [hd] at h'
        simp only at h'
        cases hi : (k.decode (k.encode (.number g m p))).isInfinity
        · rw [hi] at h'
          simp only [cond_false, Option.some.injEq] at h'
          exact ⟨k.encode (.number g m p), w, by simp [e, hi], rfl, by rw [← h']; exact canon_of_not (isNan_write k _ rfl)⟩
        · rw [hi] at h'
          simp at h'
    · rw [canon_of_nan hn] at h'
      obtain ⟨g, t, hd⟩ := decode_canon_nan hn
      obtain ⟨g', t', hd'⟩ := decode_canon_nan (isNan_qnan s)
      rw [hd'] at h'
      simp only [Option.some.injEq] at h'
      refine ⟨(Question.nanConv k b).cut (w.tape w.drawn (.nanConv k b)), { w with drawn := w.drawn + 1 }, ?_, rfl, ?_⟩
      · simp [e, hd, Question.forced]
      · rw [canon_of_nan (cut_nanConv k b _), ← h']

theorem toIntVal_not {f : FloatKind} {b : Nat} {k : IntKind} {n : Int} (h : floatToIntVal f (canon f b) k = some n) : canon f b = b := by
  cases hn : isNan f b
  · exact canon_of_not hn
  · rw [canon_of_nan hn] at h
    obtain ⟨g, t, hd⟩ := decode_canon_nan (isNan_qnan f)
    unfold floatToIntVal at h
    rw [hd] at h
    simp [Datum.toInt, Datum.integral] at h

theorem isNan_encode_number (k : FloatKind) (g : Bool) (m : Nat) (e : Int) : isNan k (k.encode (.number g m e)) = false := isNan_write k _ rfl
end
end Go.Ev

/-
  Memory: what loads, stores and allocations do to the invariant.
-/
namespace Go.Ev

theorem addr_add (b o n : Nat) : Addr.add ⟨b, o, none⟩ n = ⟨b, o + n, none⟩ := by
  unfold Addr.add
  split <;> simp_all

theorem getAt_eq {α : Type} (l : List α) (n : Nat) : getAt l n = l[n]? := by
  induction l generalizing n with
  | nil => simp [getAt]
  | cons a l ih => cases n <;> simp [getAt, ih]

theorem upd_cons (k : Nat) (c : Option Cells) (r : Ups) (g : Get) (id : Nat) : upd ((k, c) :: r) g id = if k = id then c else upd r g id := by
  simp only [upd]
  cases hb : Nat.beq k id
  · rw [if_neg (fun e => by subst e; simp at hb)]; rfl
  · rw [if_pos (Nat.eq_of_beq_eq_true hb)]; rfl

theorem upd_nil (g : Get) : upd [] g = g := by funext id; rfl

theorem upd_append (a b : Ups) (g : Get) : upd (a ++ b) g = upd a (upd b g) := by
  induction a with
  | nil => funext id; rfl
  | cons x a ih => obtain ⟨k, c⟩ := x; funext id; simp only [List.cons_append, upd_cons, ih]

/-- The cells of a value, as the evaluator has them and as the model has them. -/
theorem rv_cells {J : Im} {μ : Mu} {v : V} {g : Value} {cs : Cells} (h : Rv J μ v g) (hc : cellsOf v = some cs) :
    g.cells.size = cs.length ∧ (∀ (j : Nat) g', g.cells[j]? = some g' → g'.oneCell' = true) ∧ ∀ (j : Nat) v' g', cs[j]? = some v' → g.cells[j]? = some g' → Rv J μ v' g' := by
  have leaf : ∀ {v : V} {g : Value}, Rv J μ v g → g.cells = #[g] → g.oneCell' = true → cellsOf v = some [v] → cellsOf v = some cs →
      g.cells.size = cs.length ∧ (∀ (j : Nat) g', g.cells[j]? = some g' → g'.oneCell' = true) ∧ ∀ (j : Nat) v' g', cs[j]? = some v' → g.cells[j]? = some g' → Rv J μ v' g' := by
    intro v g h hg ho h1 h2
    rw [h1] at h2
    cases h2
    rw [hg]
    refine ⟨rfl, fun j g' hg' => ?_, fun j v' g' hv hg' => ?_⟩
    · cases j with
      | zero => simp at hg'; subst hg'; exact ho
      | succ j => simp at hg'
    · cases j with
      | zero => simp at hv hg'; subst hv; subst hg'; exact h
      | succ j => simp at hv
  cases h with
  | agg hs ho hp => simp only [cellsOf, Option.some.injEq] at hc; subst hc; exact ⟨hs, ho, hp⟩
  | und => simp [cellsOf] at hc
  | tup _ _ => simp [cellsOf] at hc
  | bool => exact leaf .bool rfl rfl rfl hc
  | int => exact leaf .int rfl rfl rfl hc
  | flt h => exact leaf (.flt h) rfl rfl rfl hc
  | str => exact leaf .str rfl rfl rfl hc
  | sl0 => exact leaf .sl0 rfl rfl rfl hc
  | sl a b c d e f => exact leaf (.sl a b c d e f) rfl rfl rfl hc
  | nil => exact leaf .nil rfl rfl rfl hc
  | ip a b c d => exact leaf (.ip a b c d) rfl rfl rfl hc
  | mp a => exact leaf (.mp a) rfl rfl rfl hc
  | ms a b c => exact leaf (.ms a b c) rfl rfl rfl hc
  | np => exact leaf .np rfl rfl rfl hc
  | fn a b c d => exact leaf (.fn a b c d) rfl rfl rfl hc

theorem rv_ofLeaf {J : Im} {μ : Mu} (g : Value) : Rv J μ (ofLeaf g) g := by
  unfold ofLeaf
  split <;> first
    | exact .bool | exact .int | exact .flt rfl | exact .str | exact .np | exact .nil | exact .und

theorem rv_ofVal {J : Im} {μ : Mu} (g : Value) : Rv J μ (ofVal g) g := by
  unfold ofVal
  split
  · rename_i cs
    cases hb : cs.toList.all Value.oneCell'
    · exact .und
    · refine .agg (by simp) (fun j g hg => ?_) fun j v g hv hg => ?_
      · exact List.all_eq_true.1 hb g (List.mem_of_getElem? (i := j) (by simpa using hg))
      · simp only [List.getElem?_map, Array.getElem?_toList, hg, Option.map_some, Option.some.injEq] at hv
        subst hv
        exact rv_ofLeaf g
  · exact .und
  · exact rv_ofLeaf g

section
variable {P : Program} {get : Get} {J : Im} {μ : Mu} {w : World}

theorem run_typeInfo {t : TypeId} {i : TypeInfo} (h : P.info? t = some i) (w : World) : (typeInfo t).run P w = .ok i w := by
  simp [typeInfo, h]

theorem run_sizeOf {t : TypeId} {n : Nat} (h : sizeT P t = some n) (w : World) : (sizeOf t).run P w = .ok n w := by
  unfold sizeT at h
  split at h
  · rename_i i hi; cases h; simp [sizeOf, run_typeInfo hi]
  · cases h

theorem run_isAgg {t : TypeId} {b : Bool} (h : isAggT P t = some b) (w : World) : (isAgg t).run P w = .ok b w := by
  unfold isAggT at h
  split at h
  · rename_i f hu; cases h; simp [isAgg, run_underlying hu]
  · rename_i n e hu; cases h; simp [isAgg, run_underlying hu]
  · rename_i d h1 h2 hu
    cases h
    cases d <;> simp_all [isAgg, run_underlying hu]
  · cases h

/-- A load out of memory that is known. -/
theorem loadFrom_sound {t : TypeId} {cs : Cells} {off blk o : Nat} {v : V} (h : loadFrom P t cs off = some v)
    (hm : ∀ (j : Nat) v, cs[j]? = some v → ∃ g, w.cell? ⟨blk, o + j, none⟩ = some g ∧ g.oneCell' = true ∧ Rv J μ v g) :
    ∃ g, (loadVar t ⟨blk, o + off, none⟩).run P w = .ok g w ∧ Rv J μ v g := by
  unfold loadFrom at h
  split at h
  · rename_i ha
    split at h
    · rename_i n hn
      cases hle : Nat.ble (off + n) cs.length
      · rw [hle] at h; simp at h
      · rw [hle] at h
        simp only [cond_true, Option.some.injEq] at h
        have hle' : off + n ≤ cs.length := Nat.le_of_ble_eq_true hle
        let f : Nat → Value := fun j => (w.cell? ⟨blk, o + off + j, none⟩).getD undef
        have hf : ∀ j, j < n → w.cell? ⟨blk, o + off + j, none⟩ = some (f j) ∧ (f j).oneCell' = true ∧ ∃ v, cs[off + j]? = some v ∧ Rv J μ v (f j) := by
          intro j hj
          have hlt : off + j < cs.length := by omega
          obtain ⟨g, hg, ho, hr⟩ := hm (off + j) cs[off + j] (by simp [List.getElem?_eq_getElem hlt])
          have e : o + (off + j) = o + off + j := by omega
          rw [e] at hg
          have : f j = g := by simp [f, hg]
          rw [this]
          exact ⟨hg, ho, cs[off + j], by simp [List.getElem?_eq_getElem hlt], hr⟩
        refine ⟨.agg ((List.range n).map f).toArray, ?_, ?_⟩
        · have hl := run_loadCells (P := P) w ⟨blk, o + off, none⟩ n f (fun j hj => by rw [addr_add]; exact (hf j hj).1)
          simp [loadVar, run_isAgg ha, run_sizeOf hn, hl]
        · subst h
          have hjn : ∀ (j : Nat) g, ((List.range n).map f).toArray[j]? = some g → j < n ∧ f j = g := by
            intro j g hg
            have hj : j < n := by
              rcases Nat.lt_or_ge j n with h' | h'
              · exact h'
              · simp [h'] at hg
            simp only [List.getElem?_toArray, List.getElem?_map, List.getElem?_range hj, Option.map_some, Option.some.injEq] at hg
            exact ⟨hj, hg⟩
          refine .agg (by simp; omega) (fun j g hg => ?_) fun j v g hv hg => ?_
          · obtain ⟨hj, rfl⟩ := hjn j g hg
            exact (hf j hj).2.1
          · obtain ⟨hj, rfl⟩ := hjn j g hg
            obtain ⟨_, _, u, hu, hr⟩ := hf j hj
            rw [List.getElem?_take_of_lt hj, List.getElem?_drop, hu] at hv
            cases hv
            exact hr
    · cases h
  · rename_i ha
    rw [getAt_eq] at h
    obtain ⟨g, hg, _, hr⟩ := hm off v h
    exact ⟨g, by simp [loadVar, run_isAgg ha, hg], hr⟩
  · cases h

/-- Where an object lies. -/
theorem Inv.at {id : Nat} {cs : Cells} {l : Loc} (hI : Inv get J μ w) (hg : get id = some cs) (hl : μ id = some l) :
    ∃ gc elem, J l.blk = none ∧ w.heap[l.blk]? = some (.cells gc elem (0, 0)) ∧ gc.size = l.size ∧ l.base + cs.length ≤ l.size ∧ (∀ (j : Nat) g, gc[j]? = some g → g.oneCell' = true) ∧
      ∀ (j : Nat) v, cs[j]? = some v → ∃ g, gc[l.base + j]? = some g ∧ Rv J μ v g := by
  obtain ⟨l', gc, elem, h1, h2, h3, h4, h5, h6, h7⟩ := hI.ob id cs hg
  rw [hl] at h1
  cases h1
  exact ⟨gc, elem, h2, h3, h4, h5, h6, h7⟩

theorem loadE_sound {t : TypeId} {a v : V} {ga : Value} (hI : Inv get J μ w) (h : loadE P get t a = some v) (ha : Rv J μ a ga) :
    ∃ g, (Instr.loadAt t ga).run P w = .ok g w ∧ Rv J μ v g := by
  unfold loadE at h
  split at h
  · rename_i id off
    cases ha with
    | mp hl =>
      rename_i l
      split at h
      · rename_i cs hg
        obtain ⟨gc, elem, _, hh, _, _, ho, hc⟩ := hI.at hg hl
        obtain ⟨g, h1, h2⟩ := loadFrom_sound (J := J) (μ := μ) (w := w) (blk := l.blk) (o := l.base) h (fun j v hv => by
          obtain ⟨g, hg, hr⟩ := hc j v hv
          exact ⟨g, cell?_at hh hg, ho _ _ hg, hr⟩)
        exact ⟨g, by simp [Instr.loadAt, Instr.sureAddr, h1], h2⟩
      · cases h
  · rename_i e off
    cases ha with
    | ip hj h1 h2 h3 =>
      rename_i c blk o gs
      obtain ⟨elem, fz, hh⟩ := hI.im _ _ hj
      obtain ⟨g, e1, e2⟩ := loadFrom_sound (J := J) (μ := μ) (w := w) (blk := blk) (o := o) h (fun j v hv =>
        ⟨gs j, cell?_at hh (h1 j v hv), (h3 j v hv).1, (h2 j v hv).mono (Im.le_refl _) (noMu_le _)⟩)
      exact ⟨g, by simp [Instr.loadAt, Instr.sureAddr, e1], e2⟩
  · cases h

/-- An object of one's own is written. -/
theorem Inv.write {id : Nat} {cs cs' : Cells} {l : Loc} {w' : World} {gc' : Array Value} {elem : TypeId} (hI : Inv get J μ w) (hg : get id = some cs) (hl : μ id = some l)
    (hw : ∀ b, b ≠ l.blk → w'.heap[b]? = w.heap[b]?) (hs : w'.heap.size = w.heap.size) (hos : w'.os = w.os ∧ (w'.output, w'.tape) = (w.output, w.tape)) (hb : w'.heap[l.blk]? = some (.cells gc' elem (0, 0))) (hz : gc'.size = l.size) (hn : l.base + cs'.length ≤ l.size) (ho : ∀ (j : Nat) g, gc'[j]? = some g → g.oneCell' = true)
    (hc : ∀ (j : Nat) v, cs'[j]? = some v → ∃ g, gc'[l.base + j]? = some g ∧ Rv J μ v g) :
    Inv (upd [(id, some cs')] get) J μ w' ∧ Ext get J μ w (upd [(id, some cs')] get) J μ w' := by
  have hJ : J l.blk = none := by obtain ⟨_, _, h, _⟩ := hI.at hg hl; exact h
  refine ⟨⟨fun b c hj => ?_, fun i ds hi => ?_, fun i i' m m' h1 h2 h3 h4 h5 => ?_⟩, ⟨Nat.le_of_eq hs.symm, Mu.le_refl _, Im.le_refl _, fun _ _ h h' => (by rw [h] at h'; cases h'), fun b _ hno => ?_, fun b ho => ?_, hos.1, hos.2⟩⟩
  · have : b ≠ l.blk := fun e => by rw [e, hJ] at hj; cases hj
    rw [hw b this]
    exact hI.im b c hj
  · rw [upd_cons, upd_nil] at hi
    split at hi
    · rename_i e
      subst e
      cases hi
      exact ⟨l, gc', elem, hl, hJ, hb, hz, hn, ho, hc⟩
    · rename_i hne
      obtain ⟨m, gc, e, h1, h2, h3, h4, h5, h6, h7⟩ := hI.ob i ds hi
      have : m.blk ≠ l.blk := fun e' => hne (hI.sep id i l m (by rw [hg]; simp) (by rw [hi]; simp) hl h1 e'.symm)
      exact ⟨m, gc, e, h1, h2, (by rw [hw _ this]; exact h3), h4, h5, h6, h7⟩
  · have live : ∀ i, upd [(id, some cs')] get i ≠ none → get i ≠ none := by
      intro i hi
      rw [upd_cons, upd_nil] at hi
      split at hi
      · rename_i e; subst e; rw [hg]; simp
      · exact hi
    exact hI.sep i i' m m' (live i h1) (live i' h2) h3 h4 h5
  · exact hw b fun e => hno ⟨id, l, by rw [hg]; simp, hl, e.symm⟩
  · obtain ⟨i, m, h1, h2, h3⟩ := ho
    refine .inl ⟨i, m, ?_, h2, h3⟩
    rw [upd_cons, upd_nil] at h1
    split at h1
    · rename_i e; subst e; rw [hg]; simp
    · exact h1

def putMu (μ : Mu) (id : Nat) (l : Loc) : Mu := fun i => if i = id then some l else μ i

theorem putMu_le {μ : Mu} {id : Nat} {l : Loc} (h : μ id = none) : Mu.le μ (putMu μ id l) := fun i m hm => by
  unfold putMu
  split
  · rename_i e; subst e; rw [h] at hm; cases hm
  · exact hm

theorem Inv.lt {id : Nat} {cs : Cells} {l : Loc} (hI : Inv get J μ w) (hg : get id = some cs) (hl : μ id = some l) : l.blk < w.heap.size := by
  obtain ⟨_, _, _, h, _⟩ := hI.at hg hl
  rcases Nat.lt_or_ge l.blk w.heap.size with h' | h'
  · exact h'
  · rw [Array.getElem?_eq_none h'] at h; cases h

theorem Inv.im_lt {b : Nat} {c : Array Value} (hI : Inv get J μ w) (hj : J b = some c) : b < w.heap.size := by
  obtain ⟨_, _, h⟩ := hI.im b c hj
  rcases Nat.lt_or_ge b w.heap.size with h' | h'
  · exact h'
  · rw [Array.getElem?_eq_none h'] at h; cases h

/-- A new object. -/
theorem Inv.alloc {id : Nat} {cs : Cells} {gc : Array Value} {elem : TypeId} (hI : Inv get J μ w) (hf : μ id = none) (hn : cs.length ≤ gc.size) (ho : ∀ (j : Nat) g, gc[j]? = some g → g.oneCell' = true)
    (hc : ∀ (j : Nat) v, cs[j]? = some v → ∃ g, gc[j]? = some g ∧ Rv J μ v g) :
    Inv (upd [(id, some cs)] get) J (putMu μ id ⟨w.heap.size, 0, gc.size⟩) (w.alloc (.cells gc elem)) ∧
      Ext get J μ w (upd [(id, some cs)] get) J (putMu μ id ⟨w.heap.size, 0, gc.size⟩) (w.alloc (.cells gc elem)) := by
  have hle := putMu_le (l := ⟨w.heap.size, 0, gc.size⟩) hf
  have old : ∀ b, b < w.heap.size → (w.alloc (.cells gc elem)).heap[b]? = w.heap[b]? := fun b hb => by
    simp only [World.alloc, Array.getElem?_push, if_neg (Nat.ne_of_lt hb)]
  have new : (w.alloc (.cells gc elem)).heap[w.heap.size]? = some (.cells gc elem (0, 0)) := by simp only [World.alloc, Array.getElem?_push, if_true]
  have live : ∀ i, i ≠ id → upd [(id, some cs)] get i = get i := fun i hi => by
    rw [upd_cons, upd_nil, if_neg (fun e => hi e.symm)]
  refine ⟨⟨fun b c hj => ?_, fun i ds hi => ?_, fun i i' m m' h1 h2 h3 h4 h5 => ?_⟩, ⟨by simp, hle, Im.le_refl _, fun _ _ h h' => (by rw [h] at h'; cases h'), fun b hb _ => old b hb, fun b ho => ?_, rfl, rfl⟩⟩
  · rw [old b (hI.im_lt hj)]
    exact hI.im b c hj
  · by_cases e : i = id
    · subst e
      rw [upd_cons, if_pos rfl] at hi
      cases hi
      refine ⟨⟨w.heap.size, 0, gc.size⟩, gc, elem, by simp [putMu], ?_, new, rfl, by simpa using hn, ho, fun j v hv => ?_⟩
      · cases hj : J w.heap.size with
        | none => rfl
        | some c => exact absurd (hI.im_lt hj) (Nat.lt_irrefl _)
      · obtain ⟨g, h1, h2⟩ := hc j v hv
        exact ⟨g, by simpa using h1, h2.mono (Im.le_refl _) hle⟩
    · rw [live i e] at hi
      obtain ⟨m, gc', e', h1, h2, h3, h4, h5, h6', h6⟩ := hI.ob i ds hi
      refine ⟨m, gc', e', by simp [putMu, e, h1], h2, (by rw [old _ (hI.lt hi h1)]; exact h3), h4, h5, h6', fun j v hv => ?_⟩
      obtain ⟨g, h7, h8⟩ := h6 j v hv
      exact ⟨g, h7, h8.mono (Im.le_refl _) hle⟩
  · have key : ∀ i m, i ≠ id → upd [(id, some cs)] get i ≠ none → putMu μ id ⟨w.heap.size, 0, gc.size⟩ i = some m → get i ≠ none ∧ μ i = some m ∧ m.blk < w.heap.size := by
      intro i m hi hl hm
      rw [live i hi] at hl
      simp only [putMu, if_neg hi] at hm
      cases hg : get i with
      | none => exact absurd hg hl
      | some ds => exact ⟨by simp, hm, hI.lt hg hm⟩
    by_cases e : i = id
    · by_cases e' : i' = id
      · rw [e, e']
      · obtain ⟨_, _, h⟩ := key i' m' e' h2 h4
        subst e
        simp [putMu] at h3
        subst h3
        dsimp only at h5
        omega
    · by_cases e' : i' = id
      · obtain ⟨_, _, h⟩ := key i m e h1 h3
        subst e'
        simp [putMu] at h4
        subst h4
        dsimp only at h5
        omega
      · obtain ⟨a1, a2, _⟩ := key i m e h1 h3
        obtain ⟨b1, b2, _⟩ := key i' m' e' h2 h4
        exact hI.sep i i' m m' a1 b1 a2 b2 h5
  · obtain ⟨i, m, h1, h2, h3⟩ := ho
    by_cases e : i = id
    · subst e
      simp [putMu] at h2
      subst h2
      exact .inr (Nat.le_of_eq h3)
    · rw [live i e] at h1
      simp only [putMu, if_neg e] at h2
      exact .inl ⟨i, m, h1, h2, h3⟩

/-- An object is forgotten. -/
theorem Inv.kill {id : Nat} (hI : Inv get J μ w) : Inv (upd [(id, none)] get) J μ w ∧ Ext get J μ w (upd [(id, none)] get) J μ w := by
  have sub : ∀ i c, upd [(id, none)] get i = some c → get i = some c := by
    intro i c h
    rw [upd_cons, upd_nil] at h
    split at h
    · cases h
    · exact h
  have sub' : ∀ i, upd [(id, none)] get i ≠ none → get i ≠ none := by
    intro i h h'
    cases hc : upd [(id, none)] get i with
    | none => exact h hc
    | some c => rw [sub i c hc] at h'; cases h'
  exact ⟨⟨hI.im, fun i ds hi => hI.ob i ds (sub i ds hi), fun i i' m m' h1 h2 h3 h4 h5 => hI.sep i i' m m' (sub' i h1) (sub' i' h2) h3 h4 h5⟩,
    ⟨Nat.le_refl _, Mu.le_refl _, Im.le_refl _, fun _ _ h h' => (by rw [h] at h'; cases h'), fun _ _ _ => rfl, fun b ⟨i, m, h1, h2, h3⟩ => .inl ⟨i, m, sub' i h1, h2, h3⟩, rfl, rfl⟩⟩
end
end Go.Ev

/-
  Each operation by itself: what the evaluator says of it holds of the model.
-/
namespace Go.Ev

/-- The value that an operation yields, and the state behind it. -/
def Good (get : Get) (J : Im) (μ : Mu) (w : World) (nid : Nat) (r : V × Ups × Nat) (g : Value) (w' : World) : Prop :=
  ∃ J' μ', Rv J' μ' r.1 g ∧ Inv (upd r.2.1 get) J' μ' w' ∧ Ext get J μ w (upd r.2.1 get) J' μ' w' ∧ ∀ i, (i < nid ∨ nid + r.2.2 ≤ i) → μ' i = μ i

theorem setCells_len (cs : Cells) (off : Nat) (vs : Cells) : (setCells cs off vs).length = cs.length := by
  have ho : ∀ (cs vs : Cells), (over cs vs).length = cs.length := by
    intro cs
    induction cs with
    | nil => intro vs; cases vs <;> rfl
    | cons c cs ih => intro vs; cases vs <;> simp [over, ih]
  induction cs generalizing off with
  | nil => cases off <;> simp [setCells, ho]
  | cons c cs ih => cases off <;> simp [setCells, ho, ih]

theorem over_get (cs vs : Cells) (j : Nat) (h : vs.length ≤ cs.length) : (over cs vs)[j]? = if j < vs.length then vs[j]? else cs[j]? := by
  induction cs generalizing vs j with
  | nil => cases vs <;> simp_all [over]
  | cons c cs ih =>
    cases vs with
    | nil => simp [over]
    | cons v vs =>
      simp only [over]
      cases j with
      | zero => simp
      | succ j => simp only [List.getElem?_cons_succ, List.length_cons, Nat.add_lt_add_iff_right]; exact ih vs j (by simpa using h)

theorem setCells_get (cs : Cells) (off : Nat) (vs : Cells) (j : Nat) (h : off + vs.length ≤ cs.length) :
    (setCells cs off vs)[j]? = if off ≤ j ∧ j < off + vs.length then vs[j - off]? else cs[j]? := by
  induction cs generalizing off j with
  | nil =>
    have h1 : off = 0 := by simp at h; omega
    have h2 : vs = [] := by
      cases vs with
      | nil => rfl
      | cons _ _ => simp at h
    subst h1; subst h2
    simp [setCells, over]
  | cons c cs ih =>
    cases off with
    | zero => simp only [setCells]; rw [over_get _ _ _ (by simpa using h)]; simp
    | succ n =>
      simp only [setCells]
      cases j with
      | zero => simp
      | succ j =>
        simp only [List.getElem?_cons_succ]
        rw [ih n j (by simp at h; omega)]
        have e : j + 1 - (n + 1) = j - n := by omega
        rw [e]
        by_cases hc : n ≤ j ∧ j < n + vs.length
        · rw [if_pos hc, if_pos ⟨by omega, by omega⟩]
        · rw [if_neg hc, if_neg (by omega)]

theorem foldset_get (l : List Value) (off : Nat) : ∀ (k : Nat) (cs : Array Value) (m : Nat), off + k + l.length ≤ cs.size →
    ((l.zipIdx k).foldl (fun cs (x : Value × Nat) => cs.setIfInBounds (off + x.2) x.1) cs).size = cs.size ∧
    ((l.zipIdx k).foldl (fun cs (x : Value × Nat) => cs.setIfInBounds (off + x.2) x.1) cs)[m]? = if off + k ≤ m ∧ m < off + k + l.length then l[m - (off + k)]? else cs[m]? := by
  induction l with
  | nil => intro k cs m _; simp; omega
  | cons a l ih =>
    intro k cs m h
    simp only [List.length_cons] at h
    simp only [List.zipIdx_cons, List.foldl_cons]
    obtain ⟨h1, h2⟩ := ih (k + 1) (cs.setIfInBounds (off + k) a) m (by simp; omega)
    refine ⟨by simpa using h1, ?_⟩
    rw [h2, Array.getElem?_setIfInBounds]
    by_cases e : m = off + k
    · subst e
      rw [if_neg (by omega), if_pos rfl, if_pos (by omega), if_pos (by simp)]
      simp
    · rw [if_neg (show ¬ (off + k = m) from fun h => e h.symm)]
      by_cases hc : off + (k + 1) ≤ m ∧ m < off + (k + 1) + l.length
      · rw [if_pos hc, if_pos (by simp; omega)]
        have e' : m - (off + k) = m - (off + (k + 1)) + 1 := by omega
        rw [e', List.getElem?_cons_succ]
      · rw [if_neg hc, if_neg (by simp; omega)]

section
variable {P : Program} {get : Get} {J : Im} {μ : Mu} {w : World}

theorem Good.same {nid : Nat} {v : V} {g : Value} (hI : Inv get J μ w) (h : Rv J μ v g) {w' : World} (hw : w'.hoo = w.hoo) : Good get J μ w nid (v, [], 0) g w' :=
  ⟨J, μ, h, by rw [upd_nil]; exact hI.heap hw, by rw [upd_nil]; exact Ext.heap hw, fun _ _ => rfl⟩

theorem Good.new {nid : Nat} {cs : Cells} {gc : Array Value} {elem : TypeId} {v : V} {g : Value} {w1 : World} (hI : Inv get J μ w) (hw : w1.hoo = w.hoo) (hf : μ nid = none) (hn : cs.length ≤ gc.size) (ho : ∀ (j : Nat) g, gc[j]? = some g → g.oneCell' = true)
    (hc : ∀ (j : Nat) v, cs[j]? = some v → ∃ g, gc[j]? = some g ∧ Rv J μ v g)
    (hv : Rv J (putMu μ nid ⟨w.heap.size, 0, gc.size⟩) v g) : Good get J μ w nid (v, [(nid, some cs)], 1) g (w1.alloc (.cells gc elem)) := by
  have hI1 := hI.heap hw
  have hE1 : Ext get J μ w get J μ w1 := Ext.heap hw
  obtain ⟨a, b⟩ := hI1.alloc (elem := elem) hf hn ho hc
  rw [← show w1.heap.size = w.heap.size by rw [hoo_heap hw]] at hv
  refine ⟨J, _, hv, a, hE1.trans b, fun i hi => ?_⟩
  simp only [putMu]
  rw [if_neg (by dsimp only at hi; omega)]

theorem rv_zero {t : TypeId} {z : Cells} (h : zeroCellsT P t = some z) : ∃ i zv, P.info? t = some i ∧ i.zero = some zv ∧ zv.cells.size = z.length ∧ (∀ (j : Nat) g, zv.cells[j]? = some g → g.oneCell' = true) ∧
    ∀ (j : Nat) v g, z[j]? = some v → zv.cells[j]? = some g → Rv J μ v g := by
  unfold zeroCellsT at h
  split at h
  · rename_i i hi
    split at h
    · rename_i zv hz
      obtain ⟨h1, ho, h2⟩ := rv_cells (J := J) (μ := μ) (rv_ofVal zv) h
      exact ⟨i, zv, hi, hz, h1, ho, h2⟩
    · cases h
  · cases h

theorem run_zeroValue {t : TypeId} {i : TypeInfo} {z : Value} (hi : P.info? t = some i) (hz : i.zero = some z) (w : World) : (zeroValue t).run P w = .ok z w := by
  simp [zeroValue, run_typeInfo hi, hz]

theorem some_of_size {α : Type} {a : Array α} {j n : Nat} (h : a.size = n) (hj : j < n) : ∃ x, a[j]? = some x := ⟨a[j]'(by omega), by simp [h, hj]⟩

theorem lt_of_some {α : Type} {l : List α} {j : Nat} {x : α} (h : l[j]? = some x) : j < l.length := by
  rcases Nat.lt_or_ge j l.length with h' | h'
  · exact h'
  · rw [List.getElem?_eq_none h'] at h; cases h

theorem allocE_sound {t : TypeId} {z : Cells} {nid : Nat} (hI : Inv get J μ w) (h : zeroCellsT P t = some z) (hf : μ nid = none) :
    ∃ g w', (Instr.alloc t true (.tuple #[])).run P w = .ok g w' ∧ Good get J μ w nid (.mp nid 0, [(nid, some z)], 1) g w' := by
  obtain ⟨i, zv, hi, hz, h1, ho, h2⟩ := rv_zero (J := J) (μ := μ) h
  refine ⟨.pointer (some ⟨w.heap.size, 0, none⟩), w.alloc (.cells zv.cells t), ?_, ?_⟩
  · simp [Instr.alloc, run_zeroValue hi hz, newVar, newRow]
  · refine Good.new hI rfl hf (Nat.le_of_eq h1.symm) ho (fun j v hv => ?_) ?_
    · obtain ⟨g, hg⟩ := some_of_size h1 (lt_of_some hv)
      exact ⟨g, hg, h2 j v g hv hg⟩
    · exact .mp (l := ⟨w.heap.size, 0, zv.cells.size⟩) (by simp [putMu])

theorem boxE_sound {t : TypeId} {v : V} {gv : Value} {cs : Cells} {nid : Nat} (hI : Inv get J μ w) (hv : Rv J μ v gv) (h : cellsOf v = some cs) (hf : μ nid = none) :
    ∃ g w', (Instr.box t gv).run P w = .ok g w' ∧ Good get J μ w nid (.mp nid 0, [(nid, some cs)], 1) g w' := by
  obtain ⟨h1, ho, h2⟩ := rv_cells hv h
  refine ⟨.pointer (some ⟨w.heap.size, 0, none⟩), w.alloc (.cells gv.cells t), ?_, ?_⟩
  · simp [Instr.box, newVar, newRow]
  · refine Good.new hI rfl hf (Nat.le_of_eq h1.symm) ho (fun j v hv => ?_) ?_
    · obtain ⟨g, hg⟩ := some_of_size h1 (lt_of_some hv)
      exact ⟨g, hg, h2 j v g hv hg⟩
    · exact .mp (l := ⟨w.heap.size, 0, gv.cells.size⟩) (by simp [putMu])

/-- Parts that are put into cells. -/
theorem fill_sound {place : Nat → Option (Nat × Nat)} : ∀ (parts : List (Nat × V)) (gparts : List (Nat × Value)) (cells : Cells) (gcells : Array Value) (out : Cells),
    gcells.size = cells.length → (∀ (j : Nat) g, gcells[j]? = some g → g.oneCell' = true) → (∀ (j : Nat) v g, cells[j]? = some v → gcells[j]? = some g → Rv J μ v g) →
    parts.length = gparts.length → (∀ (j : Nat) p q, parts[j]? = some p → gparts[j]? = some q → p.1 = q.1 ∧ Rv J μ p.2 q.2) →
    fillE place cells parts = some out →
    ∃ gout, Instr.fill place gcells gparts = some gout ∧ gout.size = out.length ∧ (∀ (j : Nat) g, gout[j]? = some g → g.oneCell' = true) ∧ ∀ (j : Nat) v g, out[j]? = some v → gout[j]? = some g → Rv J μ v g
  | [], [], cells, gcells, out, hs, ho, hr, _, _, h => by
    simp only [fillE, Option.some.injEq] at h
    subst h
    exact ⟨gcells, rfl, hs, ho, hr⟩
  | [], _ :: _, _, _, _, _, _, _, hl, _, _ => by simp at hl
  | _ :: _, [], _, _, _, _, _, _, hl, _, _ => by simp at hl
  | (i, v) :: parts, (i', g) :: gparts, cells, gcells, out, hs, ho, hr, hl, hp, h => by
    obtain ⟨e, hv⟩ := hp 0 _ _ rfl rfl
    dsimp only at e hv
    subst e
    simp only [fillE] at h
    cases hpl : place i with
    | none => rw [hpl] at h; cases h
    | some os =>
      obtain ⟨off, size⟩ := os
      rw [hpl] at h
      simp only at h
      cases hc : cellsOf v with
      | none => rw [hc] at h; cases h
      | some vs =>
        rw [hc] at h
        simp only at h
        cases hb : (Nat.beq vs.length size && Nat.ble (off + size) cells.length)
        · rw [hb] at h; cases h
        · rw [hb] at h
          simp only [cond_true] at h
          rw [Bool.and_eq_true] at hb
          have hz : vs.length = size := Nat.eq_of_beq_eq_true hb.1
          have hle : off + size ≤ cells.length := Nat.le_of_ble_eq_true hb.2
          obtain ⟨h1, ho', h2⟩ := rv_cells hv hc
          have hfold : (g.cells.zipIdx.foldl (fun cs (x : Value × Nat) => cs.setIfInBounds (off + x.2) x.1) gcells) = (g.cells.toList.zipIdx.foldl (fun cs (x : Value × Nat) => cs.setIfInBounds (off + x.2) x.1) gcells) := by
            rw [← Array.foldl_toList]
            simp
          have hg := foldset_get g.cells.toList off 0 gcells
          simp only [Array.length_toList, Nat.add_zero] at hg
          have hg' := fun m => hg m (by omega)
          obtain ⟨gout, h3, h4, h6, h5⟩ := fill_sound parts gparts (setCells cells off vs) (g.cells.zipIdx.foldl (fun cs (x : Value × Nat) => cs.setIfInBounds (off + x.2) x.1) gcells) out
            (by rw [hfold, (hg' 0).1, setCells_len, hs])
            (fun j q hq => by
              rw [hfold, (hg' j).2] at hq
              by_cases hj : off ≤ j ∧ j < off + g.cells.size
              · rw [if_pos hj, Array.getElem?_toList] at hq
                exact ho' _ _ hq
              · rw [if_neg hj] at hq
                exact ho _ _ hq)
            (fun j u q hu hq => by
              rw [hfold, (hg' j).2] at hq
              rw [setCells_get _ _ _ _ (by omega)] at hu
              by_cases hj : off ≤ j ∧ j < off + vs.length
              · rw [if_pos hj] at hu
                rw [if_pos (by omega), Array.getElem?_toList] at hq
                exact h2 _ _ _ hu hq
              · rw [if_neg hj] at hu
                rw [if_neg (by omega)] at hq
                exact hr _ _ _ hu hq)
            (by simpa using hl) (fun j p q hp' hq' => hp (j + 1) p q (by simpa using hp') (by simpa using hq')) h
          refine ⟨gout, ?_, h4, h6, h5⟩
          simp only [Instr.fill, hpl]
          rw [if_neg (by simp; omega)]
          exact h3

theorem run_places' (fs : List Go.Field) (h : fs.all (fun f => (sizeT P f.type).isSome) = true) (w : World) :
    (fs.mapM fun f => do pure (f.offset, ← sizeOf f.type) : Sem (List (Nat × Nat))).run P w = .ok (fs.map fun f => (f.offset, (sizeT P f.type).getD 0)) w := by
  induction fs with
  | nil => simp
  | cons f fs ih =>
    simp only [List.all_cons, Bool.and_eq_true] at h
    obtain ⟨n, hn⟩ := Option.isSome_iff_exists.1 h.1
    have := ih h.2
    simp only [bind_pure_comp] at this
    simp [List.mapM_cons, run_sizeOf hn, this, hn]

theorem buildE_sound {t : TypeId} {parts : List (Nat × V)} {gparts : Array (Nat × Value)} {v : V} (h : buildE P t parts = some v) (hl : parts.length = gparts.size)
    (hp : ∀ (j : Nat) p q, parts[j]? = some p → gparts[j]? = some q → p.1 = q.1 ∧ Rv J μ p.2 q.2) :
    ∃ g, (Instr.build t gparts).run P w = .ok g w ∧ Rv J μ v g := by
  unfold buildE at h
  split at h
  · cases h
  · rename_i z hz
    obtain ⟨i, zv, hi, hzv, h1, hzo, h2⟩ := rv_zero (J := J) (μ := μ) hz
    split at h
    · rename_i fs hu
      cases hb : fs.all fun f => (sizeT P f.type).isSome
      · rw [hb] at h; cases h
      · rw [hb] at h
        simp only [cond_true] at h
        split at h
        · rename_i cs hf
          cases h
          obtain ⟨gout, h3, h4, h6, h5⟩ := fill_sound parts gparts.toList z zv.cells cs h1 hzo h2 (by simpa using hl) (fun j p q hp' hq' => hp j p q hp' (by simpa using hq')) hf
          have hall : fs.toList.all (fun f => (sizeT P f.type).isSome) = true := by simpa using hb
          have hpl := run_places' fs.toList hall w
          have hplace : (fun x => (List.map (fun f => (f.offset, (sizeT P f.type).getD 0)) fs.toList).toArray[x]?) = placeS P fs := by
            funext x
            simp only [placeS, List.getElem?_toArray, List.getElem?_map, Array.getElem?_toList]
            cases hx : fs[x]? with
            | none => rfl
            | some f =>
              have hmem : f ∈ fs.toList := List.mem_of_getElem? (by simpa using hx)
              have := List.all_eq_true.1 hall f hmem
              obtain ⟨n, hn⟩ := Option.isSome_iff_exists.1 this
              simp [hn]
          simp only [bind_pure_comp] at hpl
          refine ⟨.agg gout, ?_, .agg h4 h6 h5⟩
          simp [Instr.build, run_zeroValue hi hzv, run_underlying hu, Array.mapM_eq_mapM_toList, hpl]
          have hplace' : (fun x : Nat => (Array.map (fun f : Go.Field => (f.offset, (sizeT P f.type).getD 0)) fs)[x]?) = placeS P fs := by
            rw [← hplace]
            funext x
            simp
          simp [Array.getElem?_map] at hplace'
          simp [hplace', h3]
        · cases h
    · rename_i n e hu
      split at h
      · rename_i m hm
        split at h
        · rename_i cs hf
          cases h
          obtain ⟨gout, h3, h4, h6, h5⟩ := fill_sound parts gparts.toList z zv.cells cs h1 hzo h2 (by simpa using hl) (fun j p q hp' hq' => hp j p q hp' (by simpa using hq')) hf
          refine ⟨.agg gout, ?_, .agg h4 h6 h5⟩
          simp [Instr.build, run_zeroValue hi hzv, run_underlying hu, run_sizeOf hm, h3]
        · cases h
      · cases h
    · cases h

theorem repCells_und (n : Nat) : (repCells n [V.und]).length = n ∧ ∀ (j : Nat) v, (repCells n [V.und])[j]? = some v → v = .und := by
  induction n with
  | zero => simp [repCells]
  | succ n ih =>
    refine ⟨by simp [repCells, ih.1], fun j v h => ?_⟩
    simp only [repCells, List.cons_append, List.nil_append] at h
    cases j with
    | zero => simp at h; exact h.symm
    | succ j => exact ih.2 j v (by simpa using h)

theorem buildSliceE_sound {t : TypeId} {len : Nat} {parts : List (Nat × V)} {gparts : Array (Nat × Value)} {nid : Nat} {r : V × Ups × Nat} (hI : Inv get J μ w) (h : buildSliceE P nid t len parts = some r)
    (hl : parts.length = gparts.size) (hp : ∀ (j : Nat) p q, parts[j]? = some p → gparts[j]? = some q → p.1 = q.1 ∧ Rv J μ p.2 q.2) (hf : ∀ i, nid ≤ i → i < nid + r.2.2 → μ i = none) :
    ∃ g w', (Instr.buildSlice t len gparts).run P w = .ok g w' ∧ Good get J μ w nid r g w' := by
  unfold buildSliceE at h
  split at h
  · rename_i e hu
    split at h
    · rename_i i z hi hzc
      obtain ⟨i', zv, hi', hz, hzs, hzo, _⟩ := rv_zero (J := J) (μ := μ) hzc
      rw [hi] at hi'
      cases hi'
      cases hb : (Nat.beq z.length i.size && Nat.ble (len * i.size) 16777216)
      · rw [hb] at h; cases h
      · rw [hb] at h
        simp only [cond_true] at h
        rw [Bool.and_eq_true] at hb
        have hzl : z.length = i.size := Nat.eq_of_beq_eq_true hb.1
        have hle : len * i.size ≤ 16777216 := Nat.le_of_ble_eq_true hb.2
        have hbig : ¬ (16777216 < len * i.size) := by omega
        have hs := fun w => run_sizeOf (P := P) (t := e) (n := i.size) (by simp [sizeT, hi]) w
        cases len with
        | zero =>
          -- no element: nothing that is looked at
          simp only at h
          split at h
          · cases h
            have hg0 : gparts.toList = [] := by
              have : gparts.size = 0 := by simpa using hl.symm
              exact List.length_eq_zero_iff.1 (by simpa using this)
            refine ⟨.slice (some ⟨w.heap.size, 0, none⟩) 0 0, w.alloc (.cells #[] e), ?_, ?_⟩
            · simp only [Instr.buildSlice, Sem.run_bind, run_underlying hu, Result.andThen_ok, hs]
              rw [if_neg (by simp), if_pos (by simp)]
              have hr0 : Array.range 0 = #[] := by apply Array.ext' ; simp
              simp [hg0, Instr.fill, newRow, hr0]
            · refine Good.new (w1 := w) (gc := #[]) hI rfl (hf nid (Nat.le_refl _) (by dsimp only; omega)) (Nat.le_refl _) (fun j g h => by simp at h) (fun j v hv => by simp at hv) ?_
              exact .ms (l := ⟨w.heap.size, 0, 0⟩) (by simp [putMu]) (Nat.le_refl _) (by simp)
          · cases h
        | succ len' =>
          simp only at h
          split at h
          · rename_i cs hfill
            cases h
            have hpos : 0 < (len' + 1) * i.size ∨ (len' + 1) * i.size = 0 := by omega
            have hlen : cs.length = (len' + 1) * i.size := by
              have key : ∀ (parts : List (Nat × V)) (a b : Cells), fillE (fun j => some (j * i.size, i.size)) a parts = some b → b.length = a.length := by
                intro parts
                induction parts with
                | nil => intro a b h; simp [fillE] at h; rw [h]
                | cons p parts ih =>
                  intro a b h
                  obtain ⟨k, v⟩ := p
                  simp only [fillE] at h
                  cases hc : cellsOf v with
                  | none => rw [hc] at h; cases h
                  | some vs =>
                    rw [hc] at h
                    simp only at h
                    cases hb : (Nat.beq vs.length i.size && Nat.ble (k * i.size + i.size) a.length)
                    · rw [hb] at h; cases h
                    · rw [hb] at h; rw [ih _ _ h, setCells_len]
              rw [key _ _ _ hfill, (repCells_und _).1]
            obtain ⟨gout, hres, h2, h6, h3⟩ : ∃ gout : Array Value, (Instr.buildSlice t (len' + 1) gparts).run P w = .ok (.slice (some ⟨w.heap.size, 0, none⟩) (len' + 1) (len' + 1)) (w.alloc (.cells gout e)) ∧ gout.size = cs.length ∧
                  (∀ (j : Nat) g, gout[j]? = some g → g.oneCell' = true) ∧ ∀ (j : Nat) v g, cs[j]? = some v → gout[j]? = some g → Rv J μ v g := by
              obtain ⟨u1, u2⟩ := repCells_und ((len' + 1) * i.size)
              rcases hpos with h0 | h0
              · have hzp : 0 < i.size := Nat.pos_of_mul_pos_left h0
                obtain ⟨gout, h1, h2, h6, h3⟩ := fill_sound (J := J) (μ := μ) parts gparts.toList (repCells ((len' + 1) * i.size) [.und]) ((Array.range ((len' + 1) * i.size)).map (zv.cells[· % zv.cells.size]!)) cs (by simp [u1])
                  (fun j g hg => by
                    simp only [Array.getElem?_map] at hg
                    cases hr : (Array.range ((len' + 1) * i.size))[j]? with
                    | none => rw [hr] at hg; cases hg
                    | some k =>
                      rw [hr] at hg
                      simp only [Option.map_some, Option.some.injEq] at hg
                      have hk : k % zv.cells.size < zv.cells.size := Nat.mod_lt _ (by omega)
                      refine hzo (k % zv.cells.size) g ?_
                      rw [← hg, getElem!_pos zv.cells _ hk]
                      exact Array.getElem?_eq_getElem hk)
                  (fun j v g hv _ => by rw [u2 j v hv]; exact .und) (by simpa using hl) (fun j p q hp' hq' => hp j p q hp' (by simpa using hq')) hfill
                refine ⟨gout, ?_, h2, h6, h3⟩
                simp only [Instr.buildSlice, Sem.run_bind, run_underlying hu, Result.andThen_ok, hs]
                rw [if_neg (by simpa using hbig), if_neg (by omega)]
                simp only [pure_bind, Sem.run_bind, run_zeroValue hi hz, Result.andThen_ok, h1]
                simp [newRow]
              · obtain ⟨gout, h1, h2, h6, h3⟩ := fill_sound (J := J) (μ := μ) parts gparts.toList (repCells ((len' + 1) * i.size) [.und]) ((Array.range ((len' + 1) * i.size)).map ((#[] : Array Value)[· % (#[] : Array Value).size]!)) cs (by simp [u1])
                  (fun j g hg => by rw [h0] at hg; simp at hg)
                  (fun j v g hv _ => by rw [u2 j v hv]; exact .und) (by simpa using hl) (fun j p q hp' hq' => hp j p q hp' (by simpa using hq')) hfill
                refine ⟨gout, ?_, h2, h6, h3⟩
                simp only [Instr.buildSlice, Sem.run_bind, run_underlying hu, Result.andThen_ok, hs]
                rw [if_neg (by simpa using hbig), if_pos h0]
                simp only [pure_bind, h1]
                simp [newRow]
            refine ⟨.slice (some ⟨w.heap.size, 0, none⟩) (len' + 1) (len' + 1), w.alloc (.cells gout e), hres, ?_⟩
            refine Good.new hI rfl (hf nid (Nat.le_refl _) (by dsimp only; omega)) (Nat.le_of_eq h2.symm) h6 (fun j v hv => ?_) ?_
            · obtain ⟨g, hg⟩ := some_of_size h2 (lt_of_some hv)
              exact ⟨g, hg, h3 j v g hv hg⟩
            · exact .ms (l := ⟨w.heap.size, 0, gout.size⟩) (by simp [putMu]) (Nat.le_refl _) (by dsimp only; omega)
          · cases h
    · cases h
  · cases h
end
end Go.Ev

/-
  More operations: stores, addresses, slices, arithmetic, conversions.
-/
namespace Go.Ev

theorem setCell_heap {w : World} {blk off : Nat} {gc : Array Value} {elem : TypeId} {fz : Nat × Nat} {v : Value} (h : w.heap[blk]? = some (.cells gc elem fz)) :
    (∀ b, b ≠ blk → (w.setCell ⟨blk, off, none⟩ v).heap[b]? = w.heap[b]?) ∧ (w.setCell ⟨blk, off, none⟩ v).heap[blk]? = some (.cells (gc.setIfInBounds off v) elem fz) := by
  refine ⟨fun b hb => ?_, ?_⟩
  · simp only [World.setCell, Array.getElem?_modify]
    rw [if_neg (fun e => hb e.symm)]
  · simp [World.setCell, Array.getElem?_modify, h]

section
variable {P : Program} {get : Get} {J : Im} {μ : Mu} {w : World}

theorem run_storeCells {blk off : Nat} {elem : TypeId} : ∀ (vs : List Value) (i : Nat) (w : World) (gc : Array Value), (∀ g ∈ vs, g.oneCell' = true) → w.heap[blk]? = some (.cells gc elem (0, 0)) → off + i + vs.length ≤ gc.size →
    ∃ gc' w', (storeCells ⟨blk, off, none⟩ vs i).run P w = .ok () w' ∧ (∀ b, b ≠ blk → w'.heap[b]? = w.heap[b]?) ∧ w'.heap.size = w.heap.size ∧ (w'.os = w.os ∧ (w'.output, w'.tape) = (w.output, w.tape)) ∧ w'.heap[blk]? = some (.cells gc' elem (0, 0)) ∧ gc'.size = gc.size ∧
      ∀ (j : Nat), gc'[j]? = if off + i ≤ j ∧ j < off + i + vs.length then vs[j - (off + i)]? else gc[j]?
  | [], i, w, gc, _, hb, _ => ⟨gc, w, by simp [storeCells], fun _ _ => rfl, rfl, ⟨rfl, rfl⟩, hb, rfl, fun j => by rw [if_neg (by simp only [List.length_nil]; omega)]⟩
  | v :: vs, i, w, gc, hv, hb, hl => by
    simp only [List.length_cons] at hl
    obtain ⟨h1, h2⟩ := setCell_heap (off := off + i) (v := v) hb
    have hcell : ∃ u, w.cell? ⟨blk, off + i, none⟩ = some u := ⟨gc[off + i]'(by omega), cell?_at hb (Array.getElem?_eq_getElem (by omega))⟩
    obtain ⟨u, hu⟩ := hcell
    have hfz : w.frozen? ⟨blk, off + i, none⟩ = false := by simp [World.frozen?, hb]
    obtain ⟨gc', w', e1, e2, e3, eo, e4, e5, e6⟩ := run_storeCells (off := off) vs (i + 1) (w.setCell ⟨blk, off + i, none⟩ v) (gc.setIfInBounds (off + i) v) (fun g hg => hv g (List.mem_cons_of_mem _ hg)) h2 (by simp; omega)
    refine ⟨gc', w', ?_, fun b hne => (by rw [e2 b hne, h1 b hne]), (by rw [e3]; simp), ⟨eo.1.trans rfl, eo.2.trans rfl⟩, e4, (by rw [e5]; simp), fun j => ?_⟩
    · simp only [storeCells, Sem.run_bind, addr_add, run_store P w _ v .plain (hv v List.mem_cons_self), hu, hfz]
      simpa using e1
    · rw [e6 j, Array.getElem?_setIfInBounds]
      by_cases e : j = off + i
      · subst e
        rw [if_neg (show ¬ (off + (i + 1) ≤ off + i ∧ off + i < off + (i + 1) + vs.length) by omega), if_pos rfl, if_pos (by omega), if_pos (by simp)]
        simp
      · rw [if_neg (show ¬ (off + i = j) from fun h => e h.symm)]
        by_cases hc : off + (i + 1) ≤ j ∧ j < off + (i + 1) + vs.length
        · rw [if_pos hc, if_pos (by simp; omega)]
          have e' : j - (off + i) = j - (off + (i + 1)) + 1 := by omega
          rw [e', List.getElem?_cons_succ]
        · rw [if_neg hc, if_neg (by simp; omega)]

theorem storeE_sound {t : TypeId} {a v : V} {ga gv : Value} {ups : Ups} {nid : Nat} (hI : Inv get J μ w) (h : storeE P get t a v = some ups) (ha : Rv J μ a ga) (hv : Rv J μ v gv) :
    ∃ w', (Instr.storeAt t ga gv).run P w = .ok () w' ∧ ∀ g, Good get J μ w nid (.und, ups, 0) g w' := by
  unfold storeE at h
  split at h
  · rename_i id off
    cases ha with
    | mp hl =>
      rename_i l
      split at h
      · rename_i cs hg
        split at h
        · rename_i vs n hc hn
          cases hb : (Nat.beq vs.length n && Nat.ble (off + n) cs.length)
          · rw [hb] at h; cases h
          · rw [hb] at h
            simp only [cond_true, Option.some.injEq] at h
            subst h
            rw [Bool.and_eq_true] at hb
            have hz : vs.length = n := Nat.eq_of_beq_eq_true hb.1
            have hle : off + n ≤ cs.length := Nat.le_of_ble_eq_true hb.2
            obtain ⟨h1, hone', h2⟩ := rv_cells hv hc
            obtain ⟨gc, elem, hJ, hh, hsz, hlen, hgo, hcs⟩ := hI.at hg hl
            have hone : ∀ g ∈ gv.cells.toList, g.oneCell' = true := by
              intro g hg'
              obtain ⟨j, hj⟩ := List.getElem?_of_mem hg'
              exact hone' j g (by simpa using hj)
            obtain ⟨gc', w', e1, e2, e3, eo, e4, e5, e6⟩ := run_storeCells (P := P) (off := l.base + off) gv.cells.toList 0 w gc hone hh (by simp; omega)
            refine ⟨w', ?_, fun g => ?_⟩
            · simp only [Instr.storeAt, Instr.sureAddr, storeVar, Sem.run_bind, run_sizeOf hn, Result.andThen_ok, pure_bind]
              rw [if_neg (by simp; omega)]
              simpa using e1
            · obtain ⟨a1, a2⟩ := hI.write (cs' := setCells cs off vs) (w' := w') (gc' := gc') hg hl e2 e3 eo e4 (by rw [e5, hsz]) (by rw [setCells_len]; exact hlen) (fun j q hq => by
                rw [e6] at hq
                split at hq
                · rw [Array.getElem?_toList] at hq; exact hone' _ _ hq
                · exact hgo _ _ hq) (fun j u hu => by
                rw [setCells_get _ _ _ _ (by omega)] at hu
                rw [e6]
                by_cases hj : off ≤ j ∧ j < off + vs.length
                · rw [if_pos hj] at hu
                  rw [if_pos (by simp; omega)]
                  have e : l.base + j - (l.base + off + 0) = j - off := by omega
                  rw [e, Array.getElem?_toList]
                  obtain ⟨g', hg'⟩ := some_of_size h1 (lt_of_some hu)
                  exact ⟨g', hg', h2 _ _ _ hu hg'⟩
                · rw [if_neg hj] at hu
                  rw [if_neg (by simp; omega)]
                  exact hcs j u hu)
              exact ⟨J, μ, .und, a1, a2, fun _ _ => rfl⟩
        · cases h
      · cases h
  · cases h

theorem fieldAddrE_sound {s : TypeId} {a v : V} {ga : Value} {f : Nat} (h : fieldAddrE P s a f = some v) (ha : Rv J μ a ga) :
    ∃ g, (Instr.fieldAt s ga f).run P w = .ok g w ∧ Rv J μ v g := by
  unfold fieldAddrE at h
  split at h
  · rename_i fs hu
    split at h
    · rename_i fl hf
      split at h
      · rename_i k hk
        split at h
        · rename_i id off
          cases h
          cases ha with
          | mp hl =>
            rename_i l
            refine ⟨.pointer (some ⟨l.blk, l.base + (off + fl.offset), none⟩), ?_, .mp hl⟩
            simp [Instr.fieldAt, run_underlying hu, hf, Instr.sureAddr, fieldPlace, run_sizeOf hk, addr_add, Nat.add_assoc]
        · rename_i e off
          cases h
          cases ha with
          | ip hj h1 h2 h3 =>
            rename_i c blk o gs
            refine ⟨.pointer (some ⟨blk, o + (off + fl.offset), none⟩), ?_, .ip hj h1 h2 h3⟩
            simp [Instr.fieldAt, run_underlying hu, hf, Instr.sureAddr, fieldPlace, run_sizeOf hk, addr_add, Nat.add_assoc]
        · cases h
      · cases h
    · cases h
  · cases h

theorem idx_some {α : Type} {l : List α} {i : Int} {a : α} (h : idx l i = some a) : ∃ k : Nat, i = (k : Int) ∧ l[k]? = some a := by
  unfold idx at h
  split at h
  · rename_i k; rw [getAt_eq] at h; exact ⟨k, rfl, h⟩
  · cases h

theorem natBelow_some {i : Int} {n k : Nat} (h : natBelow i n = some k) : i = (k : Int) ∧ k < n := by
  unfold natBelow at h
  split at h
  · rename_i m
    cases hb : Nat.blt m n
    · rw [hb] at h; cases h
    · rw [hb] at h
      simp only [cond_true, Option.some.injEq] at h
      subst h
      exact ⟨rfl, by simpa [Nat.blt_eq] using hb⟩
  · cases h

theorem indexAddrE_sound {t : TypeId} {a i v : V} {ga gi : Value} (h : indexAddrE P t a i = some v) (ha : Rv J μ a ga) (hi : Rv J μ i gi) :
    ∃ g, (Instr.indexAt t ga gi).run P w = .ok g w ∧ Rv J μ v g := by
  unfold indexAddrE at h
  split at h
  · rename_i kk i
    cases hi
    split at h
    · rename_i e hu
      split at h
      · rename_i n hn
        split at h
        · rename_i sz es
          split at h
          · rename_i c hc
            cases hb : Nat.beq sz n
            · rw [hb] at h; cases h
            · rw [hb] at h
              simp only [cond_true, Option.some.injEq] at h
              subst h
              have hz : sz = n := Nat.eq_of_beq_eq_true hb
              subst hz
              obtain ⟨k, rfl, hk⟩ := idx_some hc
              cases ha with
              | sl0 => simp at hk
              | sl hcap hj hsz h1 h2 h3 =>
                rename_i cap cc blk off gs
                have hkl := lt_of_some hk
                refine ⟨.pointer (some ⟨blk, off + k * sz + 0, none⟩), ?_, ?_⟩
                · simp [Instr.indexAt, asIntOf, run_underlying hu, run_sizeOf hn, addr_add, hkl]
                · exact .ip (c := cc) (gs := fun j => gs k j) hj (fun j v hv => h1 k j c v hk hv) (fun j v hv => h2 k j c v hk hv) (fun j v hv => h3 k j c v hk hv)
          · cases h
        · rename_i id off len sz
          split at h
          · rename_i k hk
            obtain ⟨rfl, hlt⟩ := natBelow_some hk
            cases hb : Nat.beq sz n
            · rw [hb] at h; cases h
            · rw [hb] at h
              simp only [cond_true, Option.some.injEq] at h
              subst h
              have hz : sz = n := Nat.eq_of_beq_eq_true hb
              subst hz
              cases ha with
              | ms hl hc hle =>
                rename_i l cap
                refine ⟨.pointer (some ⟨l.blk, l.base + (off + k * sz), none⟩), ?_, .mp hl⟩
                simp [Instr.indexAt, asIntOf, run_underlying hu, run_sizeOf hn, addr_add, hlt, Nat.add_assoc]
          · cases h
        · cases h
      · cases h
    · rename_i len e hu
      split at h
      · rename_i n hn
        split at h
        · rename_i k hk
          obtain ⟨rfl, hlt⟩ := natBelow_some hk
          split at h
          · rename_i id off
            cases h
            cases ha with
            | mp hl =>
              rename_i l
              refine ⟨.pointer (some ⟨l.blk, l.base + (off + k * n), none⟩), ?_, .mp hl⟩
              simp [Instr.indexAt, asIntOf, run_underlying hu, run_sizeOf hn, addr_add, hlt, Nat.add_assoc, Instr.sureAddr]
          · rename_i c off
            cases h
            cases ha with
            | ip hj h1 h2 h3 =>
              rename_i cc blk o gs
              refine ⟨.pointer (some ⟨blk, o + (off + k * n), none⟩), ?_, .ip hj h1 h2 h3⟩
              simp [Instr.indexAt, asIntOf, run_underlying hu, run_sizeOf hn, addr_add, hlt, Nat.add_assoc, Instr.sureAddr]
          · cases h
        · cases h
      · cases h
    · cases h
  · cases h

/-- A part of a value that lies in no memory. -/
theorem part_sound {t : TypeId} {cs : Cells} {gs : Array Value} {off : Nat} {v : V} (h : loadFrom P t cs off = some v) (hs : gs.size = cs.length) (ho : ∀ (j : Nat) g, gs[j]? = some g → g.oneCell' = true)
    (hr : ∀ (j : Nat) v g, cs[j]? = some v → gs[j]? = some g → Rv J μ v g) : ∃ g, (part t gs off).run P w = .ok g w ∧ Rv J μ v g := by
  unfold loadFrom at h
  split at h
  · rename_i ha
    split at h
    · rename_i n hn
      cases hle : Nat.ble (off + n) cs.length
      · rw [hle] at h; cases h
      · rw [hle] at h
        simp only [cond_true, Option.some.injEq] at h
        subst h
        have hle' : off + n ≤ cs.length := Nat.le_of_ble_eq_true hle
        refine ⟨.agg (gs.extract off (off + n)), by simp [part, run_isAgg ha, run_sizeOf hn], .agg (by simp only [Array.size_extract, List.length_take, List.length_drop]; omega) (fun j g hg => ?_) fun j v g hv hg => ?_⟩
        · rw [Array.getElem?_extract] at hg
          split at hg
          · exact ho _ _ hg
          · cases hg
        have hj : j < n := by
          have := lt_of_some hv
          simp at this
          omega
        rw [List.getElem?_take_of_lt hj, List.getElem?_drop] at hv
        rw [Array.getElem?_extract] at hg
        rw [if_pos (by omega)] at hg
        exact hr _ _ _ hv hg
    · cases h
  · rename_i ha
    rw [getAt_eq] at h
    obtain ⟨g, hg⟩ := some_of_size hs (lt_of_some h)
    exact ⟨g, by simp [part, run_isAgg ha, hg], hr _ _ _ h hg⟩
  · cases h

theorem indexE_sound {t : TypeId} {a i v : V} {ga gi : Value} (h : indexE P t a i = some v) (ha : Rv J μ a ga) (hi : Rv J μ i gi) :
    ∃ g, (Instr.index t ga gi).run P w = .ok g w ∧ Rv J μ v g := by
  unfold indexE at h
  split at h
  · rename_i kk i
    cases hi
    split at h
    · rename_i len e hu
      split at h
      · rename_i n k hn hk
        obtain ⟨rfl, hlt⟩ := natBelow_some hk
        split at h
        · rename_i cs
          cases ha with
          | agg hs ho hr =>
            obtain ⟨g, h1, h2⟩ := part_sound (w := w) h hs ho hr
            refine ⟨g, ?_, h2⟩
            simp [Instr.index, asIntOf, run_underlying hu, run_sizeOf hn, hlt, h1]
        · cases h
      · cases h
    · rename_i hu
      split at h
      · rename_i s
        split at h
        · rename_i b hb
          cases h
          cases ha
          obtain ⟨k, rfl, hk⟩ := idx_some hb
          have hk' : s[k]? = some b := by
            rw [Array.getElem?_toList] at hk
            have hlt : k < s.size := by
              rcases Nat.lt_or_ge k s.data.size with h' | h'
              · exact h'
              · rw [Array.getElem?_eq_none h'] at hk; cases hk
            rw [getElem?_pos s k hlt]
            have : s.data[k]? = some (s.data[k]'hlt) := by simp
            rw [this] at hk
            exact hk
          refine ⟨.int .u8 b.toNat, ?_, .int⟩
          simp [Instr.index, asIntOf, run_underlying hu, hk']
        · cases h
      · cases h
    · cases h
  · cases h
end
end Go.Ev

/-
  Slices, arithmetic, conversions, the builtin functions.
-/
namespace Go.Ev
section
variable {P : Program} {get : Get} {J : Im} {μ : Mu} {w : World}

theorem bound_sound {x : V} {g : Value} {n k : Nat} (h : bound x n = some k) (hr : Rv J μ x g) (m : Nat) (hm : n ≤ m) (code : BoundsCode) : (Instr.sliceBound g m code).run P w = .ok k w ∧ k ≤ n := by
  unfold bound at h
  split at h
  · rename_i kk i
    cases hr
    obtain ⟨rfl, hlt⟩ := natBelow_some h
    refine ⟨?_, by omega⟩
    have := run_sliceBound (P := P) w kk (k : Int) m code (by omega) (by omega)
    simpa using this
  · cases h

def RvO (J : Im) (μ : Mu) : Option V → Option Value → Prop
  | none, none => True
  | some v, some g => Rv J μ v g
  | _, _ => False

theorem bounds_sound {lo hi : Option V} {glo ghi : Option Value} {n cap h l : Nat} {b : Bool} (hh : boundHi hi n = some h) (hl : boundLo lo h = some l) (rl : RvO J μ lo glo) (rh : RvO J μ hi ghi) (hc : n ≤ cap) :
    (Instr.sliceBounds b n cap glo ghi none).run P w = .ok (l, h, cap) w ∧ l ≤ h ∧ h ≤ n := by
  have h1 : (match ghi with
      | some v => Instr.sliceBound v cap (if b then .sliceAcap else .sliceAlen)
      | none => pure n : Sem Nat).run P w = .ok h w ∧ h ≤ n := by
    unfold boundHi at hh
    cases hi <;> cases ghi <;> simp only [RvO] at rh
    · simp only [Option.some.injEq] at hh; subst hh; exact ⟨rfl, Nat.le_refl _⟩
    · exact bound_sound hh rh cap hc _
  have h2 : (match glo with
      | some v => Instr.sliceBound v h .sliceB
      | none => pure 0 : Sem Nat).run P w = .ok l w ∧ l ≤ h := by
    unfold boundLo at hl
    cases lo <;> cases glo <;> simp only [RvO] at rl
    · simp only [Option.some.injEq] at hl; subst hl; exact ⟨rfl, Nat.zero_le _⟩
    · exact bound_sound hl rl h (Nat.le_refl _) _
  refine ⟨?_, h2.2, h1.2⟩
  have h1' := h1.1
  have h2' := h2.1
  cases ghi <;> cases glo <;> simp_all [Instr.sliceBounds]

theorem sliceE_sound {t : TypeId} {a v : V} {lo hi mx : Option V} {ga : Value} {glo ghi gmx : Option Value} (h : sliceE P t a lo hi mx = some v) (ha : Rv J μ a ga) (rl : RvO J μ lo glo) (rh : RvO J μ hi ghi) (rm : RvO J μ mx gmx) :
    ∃ g, (Instr.sliceAt t ga glo ghi gmx).run P w = .ok g w ∧ Rv J μ v g := by
  unfold sliceE at h
  split at h
  · rename_i e hu
    split at h
    · rename_i n hn
      split at h
      · -- no third bound
        have hmx : gmx = none := by cases gmx <;> simp_all [RvO]
        subst hmx
        split at h
        · rename_i sz es
          split at h
          · rename_i hh hhi
            split at h
            · rename_i l hlo
              cases hb : Nat.beq sz n
              · rw [hb] at h; cases h
              · rw [hb] at h
                simp only [cond_true, Option.some.injEq] at h
                subst h
                have hz : sz = n := Nat.eq_of_beq_eq_true hb
                subst hz
                cases ha with
                | sl0 =>
                  rename_i a0 c
                  obtain ⟨h1, h2, h3⟩ := bounds_sound (P := P) (w := w) (cap := c) (b := true) hhi hlo rl rh (Nat.zero_le _)
                  simp only [List.length_nil] at h1 h3
                  refine ⟨_, by simp [Instr.sliceAt, run_underlying hu, Instr.slice, h1, run_sizeOf hn]; rfl, ?_⟩
                  have e1 : hh = 0 := by omega
                  have e2 : l = 0 := by omega
                  subst e1; subst e2
                  exact .sl0
                | sl hcap hj hsz k1 k2 k3 =>
                  rename_i cap cc blk off gs
                  obtain ⟨h1, h2, h3⟩ := bounds_sound (P := P) (w := w) (cap := cap) (b := true) hhi hlo rl rh hcap
                  refine ⟨_, by simp [Instr.sliceAt, run_underlying hu, Instr.slice, h1, run_sizeOf hn]; rfl, ?_⟩
                  by_cases hlt : l < hh
                  · rw [if_neg (by omega), addr_add]
                    have hlen : ((es.take hh).drop l).length = hh - l := by simp; omega
                    rw [← hlen]
                    have hget : ∀ (i : Nat) e', ((es.take hh).drop l)[i]? = some e' → es[l + i]? = some e' := by
                      intro i e' hi'
                      rw [List.getElem?_drop] at hi'
                      have : l + i < hh := by have := lt_of_some hi'; simp at this; omega
                      rwa [List.getElem?_take_of_lt this] at hi'
                    refine .sl (sz := sz) (c := cc) (gs := fun i j => gs (l + i) j) (by omega) hj (fun e' he' => ?_) (fun i j e' v' he' hv' => ?_) (fun i j e' v' he' hv' => ?_) (fun i j e' v' he' hv' => k3 (l + i) j e' v' (hget i e' he') hv')
                    · exact hsz e' (List.mem_of_mem_take (List.mem_of_mem_drop he'))
                    · have := k1 (l + i) j e' v' (hget i e' he') hv'
                      rw [Nat.add_mul] at this
                      rw [← this]
                      congr 1
                      omega
                    · exact k2 (l + i) j e' v' (hget i e' he') hv'
                  · have e1 : hh - l = 0 := by omega
                    have e2 : (es.take hh).drop l = [] := by
                      apply List.drop_eq_nil_of_le
                      simp; omega
                    rw [e1, e2]
                    exact .sl0
            · cases h
          · cases h
        · rename_i id off len sz
          split at h
          · rename_i hh hhi
            split at h
            · rename_i l hlo
              cases hb : Nat.beq sz n
              · rw [hb] at h; cases h
              · rw [hb] at h
                simp only [cond_true] at h
                have hz : sz = n := Nat.eq_of_beq_eq_true hb
                subst hz
                cases ha with
                | ms hl hc hle =>
                  rename_i m cap
                  obtain ⟨h1, h2, h3⟩ := bounds_sound (P := P) (w := w) (cap := cap) (b := true) hhi hlo rl rh hc
                  refine ⟨_, by simp [Instr.sliceAt, run_underlying hu, Instr.slice, h1, run_sizeOf hn]; rfl, ?_⟩
                  cases hlt : Nat.blt l hh
                  · rw [hlt] at h
                    simp only [cond_false, Option.some.injEq] at h
                    subst h
                    have hlt' : ¬ l < hh := fun hc => by
                      have hc' : Nat.blt l hh = true := by simpa [Nat.blt_eq] using hc
                      rw [hlt] at hc'
                      cases hc'
                    have e1 : hh - l = 0 := by omega
                    rw [e1]
                    exact .sl0
                  · rw [hlt] at h
                    simp only [cond_true, Option.some.injEq] at h
                    subst h
                    have hlt' : l < hh := by simpa [Nat.blt_eq] using hlt
                    rw [if_neg (by omega), addr_add, Nat.add_assoc]
                    refine .ms hl (by omega) ?_
                    have e : off + l * sz + (cap - l) * sz = off + cap * sz := by
                      rw [Nat.add_assoc, ← Nat.add_mul]
                      congr 2
                      omega
                    omega
            · cases h
          · cases h
        · cases h
      · -- [:0:0]
        rename_i k0
        split at h
        · rename_i k1
          have hgm : gmx = some (.int k0 0) := by
            cases gmx with
            | none => simp [RvO] at rm
            | some g => simp only [RvO] at rm; cases rm; rfl
          have hgh : ghi = some (.int k1 0) := by
            cases ghi with
            | none => simp [RvO] at rh
            | some g => simp only [RvO] at rh; cases rh; rfl
          have hgl : glo = none := by cases glo <;> simp_all [RvO]
          subst hgm; subst hgh; subst hgl
          have hb0 : ∀ (y : Nat) (code : BoundsCode), (Instr.sliceBound (.int k0 0) y code).run P w = .ok 0 w := fun y code => by
            have := run_sliceBound (P := P) w k0 0 y code (by omega) (by omega); simpa using this
          have hb1 : ∀ (y : Nat) (code : BoundsCode), (Instr.sliceBound (.int k1 0) y code).run P w = .ok 0 w := fun y code => by
            have := run_sliceBound (P := P) w k1 0 y code (by omega) (by omega); simpa using this
          have key : ∀ (a : Option Addr) (len cap : Nat), (Instr.sliceAt t (.slice a len cap) none (some (.int k1 0)) (some (.int k0 0))).run P w = .ok (.slice a 0 0) w := by
            intro a len cap
            simp [Instr.sliceAt, run_underlying hu, Instr.slice, Instr.sliceBounds, hb0, hb1, run_sizeOf hn]
          split at h
          · cases h
            cases ha with
            | sl0 => exact ⟨_, key _ _ _, .nil⟩
            | sl _ _ _ _ _ _ => exact ⟨_, key _ _ _, .nil⟩
          · cases h
            cases ha with
            | ms _ _ _ => exact ⟨_, key _ _ _, .nil⟩
          · cases h
            cases ha with
            | nil => exact ⟨_, key _ _ _, .nil⟩
          · cases h
        · cases h
      · cases h
    · cases h
  · rename_i hu
    split at h
    · have hmx : gmx = none := by cases gmx <;> simp_all [RvO]
      subst hmx
      split at h
      · rename_i s
        split at h
        · rename_i hh hhi
          split at h
          · rename_i l hlo
            cases h
            cases ha
            obtain ⟨h1, h2, h3⟩ := bounds_sound (P := P) (w := w) (cap := s.size) (b := false) hhi hlo rl rh (Nat.le_refl _)
            exact ⟨.string (s.extract l hh), by simp [Instr.sliceAt, run_underlying hu, Instr.slice, h1], .str⟩
          · cases h
        · cases h
      · cases h
    · cases h
  · cases h

theorem sameI_eq {a b : IntKind} (h : sameI a b = true) : a = b := of_decide_eq_true h
theorem sameF_eq {a b : FloatKind} (h : sameF a b = true) : a = b := of_decide_eq_true h

theorem binE_sound {op : BinOp} {t : TypeId} {x y v : V} {gx gy : Value} (h : binE op x y = some v) (hx : Rv J μ x gx) (hy : Rv J μ y gy) :
    ∃ g w', (binOp op t gx gy).run P w = .ok g w' ∧ w'.hoo = w.hoo ∧ Rv J μ v g := by
  unfold binE at h
  split at h
  · rename_i k a k' b
    cases hx; cases hy
    split at h
    · split at h
      · rename_i n
        cases h
        refine ⟨.int k (k.wrap (a * 2 ^ (min n k.bits))), w, ?_, rfl, .int⟩
        have : ¬ ((n : Int) < 0) := by omega
        simp [binOp, Op.shift, this]
      · cases h
    · split at h
      · rename_i n
        cases h
        refine ⟨.int k (a.fdiv (2 ^ (min n k.bits))), w, ?_, rfl, .int⟩
        have : ¬ ((n : Int) < 0) := by omega
        simp [binOp, Op.shift, this]
      · cases h
    · rename_i hn1 hn2
      cases hs : sameI k k'
      · rw [hs] at h; cases h
      · rw [hs] at h
        simp only [cond_true] at h
        have := sameI_eq hs
        subst this
        cases op <;> simp only [ibin] at h
        case add => cases h; exact ⟨.int k (k.wrap (a + b)), w, by simp [binOp, Op.intArith], rfl, .int⟩
        case sub => cases h; exact ⟨.int k (k.wrap (a - b)), w, by simp [binOp, Op.intArith], rfl, .int⟩
        case mul => cases h; exact ⟨.int k (k.wrap (a * b)), w, by simp [binOp, Op.intArith], rfl, .int⟩
        case quo =>
          cases hb : (b == 0)
          · rw [hb] at h
            cases h
            have h0 : b ≠ 0 := by simpa using hb
            exact ⟨.int k (k.wrap (a.tdiv b)), w, by simp [binOp, Op.intDiv, h0], rfl, .int⟩
          · rw [hb] at h; cases h
        case rem =>
          cases hb : (b == 0)
          · rw [hb] at h
            cases h
            have h0 : b ≠ 0 := by simpa using hb
            exact ⟨.int k (a.tmod b), w, by simp [binOp, Op.intDiv, h0], rfl, .int⟩
          · rw [hb] at h; cases h
        case and => cases h; exact ⟨.int k (ibits .and k a b), w, by simp [binOp, Op.intBits, ibits], rfl, .int⟩
        case or => cases h; exact ⟨.int k (ibits .or k a b), w, by simp [binOp, Op.intBits, ibits], rfl, .int⟩
        case xor => cases h; exact ⟨.int k (ibits .xor k a b), w, by simp [binOp, Op.intBits, ibits], rfl, .int⟩
        case andNot => cases h; exact ⟨.int k (ibits .andNot k a b), w, by simp [binOp, Op.intBits, ibits], rfl, .int⟩
        case shl => cases h
        case shr => cases h
        case eql => cases h; exact ⟨.bool (icmp .eql a b), w, by simp [binOp, Op.intCmp, icmp], rfl, .bool⟩
        case neq => cases h; exact ⟨.bool (icmp .neq a b), w, by simp [binOp, Op.intCmp, icmp], rfl, .bool⟩
        case lss => cases h; exact ⟨.bool (icmp .lss a b), w, by simp [binOp, Op.intCmp, icmp], rfl, .bool⟩
        case leq => cases h; exact ⟨.bool (icmp .leq a b), w, by simp [binOp, Op.intCmp, icmp], rfl, .bool⟩
        case gtr => cases h; exact ⟨.bool (icmp .gtr a b), w, by simp [binOp, Op.intCmp, icmp], rfl, .bool⟩
        case geq => cases h; exact ⟨.bool (icmp .geq a b), w, by simp [binOp, Op.intCmp, icmp], rfl, .bool⟩
  · rename_i k a k' b
    cases hs : sameF k k'
    · rw [hs] at h; cases h
    · rw [hs] at h
      simp only [cond_true] at h
      have := sameF_eq hs
      subst this
      cases hx with
      | flt ex =>
        rename_i bx
        cases hy with
        | flt ey =>
          rename_i by_
          subst ex; subst ey
          have arith : ∀ op, (op = .add ∨ op = .sub ∨ op = .mul ∨ op = .quo) → some (V.flt k (fop op k (canon k bx) (canon k by_))) = some v →
              ∃ g w', (binOp op t (.float k bx) (.float k by_)).run P w = .ok g w' ∧ w'.hoo = w.hoo ∧ Rv J μ v g := by
            intro op ho hv
            obtain ⟨r, w', h1, h2, h3⟩ := run_fop (P := P) op t k bx by_ w ho
            cases hv
            exact ⟨_, w', h1, h2, .flt h3.symm⟩
          have cmp : ∀ op, isCmp op = true → some (V.bool (fcmp op k (canon k bx) (canon k by_))) = some v →
              ∃ g w', (binOp op t (.float k bx) (.float k by_)).run P w = .ok g w' ∧ w'.hoo = w.hoo ∧ Rv J μ v g := by
            intro op ho hv
            cases hv
            exact ⟨_, w, run_fcmp op t k bx by_ w ho, rfl, .bool⟩
          cases op <;> simp only [fbin, isCmp, cond_true, cond_false] at h <;> first
            | (cases h; done)
            | exact arith _ (by simp) h
            | exact cmp _ rfl h
  · rename_i a b
    cases hx; cases hy
    cases op <;> simp only [sbin] at h
    case eql => cases h; exact ⟨.bool (a.toList == b.toList), w, by simp [binOp, Op.stringOp], rfl, .bool⟩
    case neq => cases h; exact ⟨.bool (!(a.toList == b.toList)), w, by simp [binOp, Op.stringOp], rfl, .bool⟩
    case add =>
      cases hb : Nat.ble (a.size + b.size) 9223372036854775807
      · rw [hb] at h; cases h
      · rw [hb] at h
        simp only [cond_true, Option.some.injEq] at h
        subst h
        have hle : a.size + b.size ≤ 9223372036854775807 := Nat.le_of_ble_eq_true hb
        refine ⟨.string (a ++ b), w, ?_, rfl, .str⟩
        have hm : IntKind.i64.max = 9223372036854775807 := by decide
        have : ¬ (9223372036854775807 < (a.size : Int) + (b.size : Int)) := by omega
        simp [binOp, Op.stringOp, hm, this]
    all_goals cases h
  · cases h

theorem run_equal_bool {t : TypeId} {a b : Bool} (h : P.underlying t = some .bool) (w : World) : (Op.equal t (.bool a) (.bool b)).run P w = .ok (a == b) w := by
  unfold Op.equal
  have : Op.maxDepth = (Op.maxDepth - 1) + 1 := rfl
  rw [this]
  exact run_equalIn_bool w _ t a b h

theorem binB_sound {op : BinOp} {t : TypeId} {x y v : V} {gx gy : Value} (h : binB P op t x y = some v) (hx : Rv J μ x gx) (hy : Rv J μ y gy) :
    ∃ g w', (binOp op t gx gy).run P w = .ok g w' ∧ w'.hoo = w.hoo ∧ Rv J μ v g := by
  unfold binB at h
  split at h
  · rename_i a b
    cases hx; cases hy
    split at h
    · rename_i hu
      cases h
      exact ⟨.bool (a == b), w, by simp [binOp, run_equal_bool hu], rfl, .bool⟩
    · cases h
  · rename_i a b
    cases hx; cases hy
    split at h
    · rename_i hu
      cases h
      exact ⟨.bool (!(a == b)), w, by simp [binOp, run_equal_bool hu], rfl, .bool⟩
    · cases h
  · exact binE_sound h hx hy

theorem unE_sound {op : UnOp} {x v : V} {gx : Value} (h : unE op x = some v) (hx : Rv J μ x gx) : ∃ g, (Op.unary op gx).run P w = .ok g w ∧ Rv J μ v g := by
  unfold unE at h
  split at h
  · rename_i k n
    cases h; cases hx
    exact ⟨.int k (k.wrap (0 - n)), by simp [Op.unary, Op.intArith], .int⟩
  · rename_i k b
    cases h
    cases hx with
    | flt e =>
      rename_i b'
      subst e
      exact ⟨.float k (Op.negFloat k b'), by simp [Op.unary], .flt (fneg_canon _ _)⟩
  · rename_i b
    cases h; cases hx
    exact ⟨.bool (!b), by simp [Op.unary], .bool⟩
  · cases h
end
end Go.Ev

/-
  Conversions, lengths, appends.
-/
namespace Go.Ev
section
variable {P : Program} {get : Get} {J : Im} {μ : Mu} {w : World}

theorem bytesOf_sound : ∀ (cs : Cells) (l : List UInt8), bytesOf cs = some l → ∃ ns : List Int, cs = ns.map (V.int .u8) ∧ l = ns.map fun n => UInt8.ofNat n.toNat
  | [], l, h => by simp [bytesOf] at h; subst h; exact ⟨[], rfl, rfl⟩
  | c :: r, l, h => by
    cases c <;> try (simp [bytesOf] at h; done)
    rename_i k n
    cases k <;> try (simp [bytesOf] at h; done)
    simp only [bytesOf] at h
    cases hr : bytesOf r with
    | none => rw [hr] at h; cases h
    | some l' =>
      rw [hr] at h
      simp only [Option.some.injEq] at h
      subst h
      obtain ⟨ns, e1, e2⟩ := bytesOf_sound r l' hr
      exact ⟨n :: ns, by rw [e1]; rfl, by rw [e2]; rfl⟩

theorem push_fold (ns : List Int) (s : ByteArray) : ns.foldl (fun r n => r.push (UInt8.ofNat n.toNat)) s = ⟨(s.data.toList ++ ns.map fun n => UInt8.ofNat n.toNat).toArray⟩ := by
  induction ns generalizing s with
  | nil => cases s; simp
  | cons n ns ih =>
    simp only [List.foldl_cons, ih, List.map_cons]
    congr 1
    simp [ByteArray.push]

theorem convE_sound {src dst : TypeId} {x v : V} {gx : Value} (hI : Inv get J μ w) (h : convE P get src dst x = some v) (hx : Rv J μ x gx) :
    ∃ g w', (convert src dst gx).run P w = .ok g w' ∧ w'.hoo = w.hoo ∧ Rv J μ v g := by
  unfold convE at h
  split at h
  · rename_i s k hs hd
    split at h
    · rename_i k' n
      cases h; cases hx
      refine ⟨.int k (k.wrap n), w, ?_, rfl, .int⟩
      cases s <;> simp [convert, run_underlying hs, run_underlying hd, Conv.intToInt]
    · rename_i f b
      split at h
      · rename_i n hn
        cases h
        cases hx with
        | flt e =>
          rename_i b'
          subst e
          rw [toIntVal_not hn] at hn
          exact ⟨.int k n, w, run_convert_float_int w src dst f k b' n (by rw [hs]; rfl) hd hn, rfl, .int⟩
      · cases h
    · cases h
  · rename_i s k hs hd
    split at h
    · rename_i k' n
      cases h; cases hx
      refine ⟨.float k (k.nearest n), w, ?_, rfl, .flt ?_⟩
      · cases s <;> simp [convert, run_underlying hs, run_underlying hd, Conv.intToFloat]
      · rw [canon_of_not]
        exact isNan_encode_number k _ _ _
    · rename_i f b
      split at h
      · rename_i r hr
        cases h
        cases hx with
        | flt e =>
          rename_i b'
          subst e
          obtain ⟨q, w', h1, h2, h3⟩ := fconv_sound (P := P) f k b' r w hr
          refine ⟨.float k q, w', ?_, h2, .flt h3.symm⟩
          cases s <;> simp [convert, run_underlying hs, run_underlying hd, h1]
      · cases h
    · cases h
  · rename_i e hs hd
    split at h
    · rename_i he
      split at h
      · rename_i id off len sz
        split at h
        · rename_i cs hg
          cases hb : (Nat.beq sz 1 && Nat.ble (off + len) cs.length)
          · rw [hb] at h; cases h
          · rw [hb] at h
            simp only [cond_true] at h
            rw [Bool.and_eq_true] at hb
            have hz : sz = 1 := Nat.eq_of_beq_eq_true hb.1
            have hle : off + len ≤ cs.length := Nat.le_of_ble_eq_true hb.2
            subst hz
            split at h
            · rename_i l hl
              cases h
              obtain ⟨ns, e1, e2⟩ := bytesOf_sound _ _ hl
              cases hx with
              | ms hloc hc hle' =>
                rename_i lc cap
                obtain ⟨gc, elem, _, hh, _, _, _, hcs⟩ := hI.at hg hloc
                have hlen : ns.length = len := by
                  have := congrArg List.length e1
                  simp at this
                  omega
                have hload : (loadCells ⟨lc.blk, lc.base + off, none⟩ len).run P w = .ok (ns.map (Value.int .u8)).toArray w := by
                  have := run_loadCells_list (P := P) w ⟨lc.blk, lc.base + off, none⟩ (ns.map (Value.int .u8)) (fun j v hv => by
                    rw [addr_add]
                    have hj := lt_of_some hv
                    simp at hj
                    have hcell : cs[off + j]? = some (V.int .u8 (ns[j]'hj)) := by
                      have := congrArg (fun l => l[j]?) e1
                      simp only [List.getElem?_take_of_lt (show j < len by omega), List.getElem?_drop, List.getElem?_map, List.getElem?_eq_getElem hj, Option.map_some] at this
                      exact this
                    obtain ⟨g, h1, h2⟩ := hcs _ _ hcell
                    cases h2
                    have ev : v = Value.int .u8 (ns[j]'hj) := by
                      simp [List.getElem?_map, List.getElem?_eq_getElem hj] at hv
                      exact hv.symm
                    rw [ev]
                    exact cell?_at hh (by rw [Nat.add_assoc]; exact h1))
                  rwa [List.length_map, hlen] at this
                refine ⟨.string ⟨l.toArray⟩, w, ?_, rfl, .str⟩
                rw [run_convert_bytes_string w src dst e _ _ _ hs he hd, run_bytesToString w _ len cap ns hload, push_fold]
                rw [e2]
                rfl
            · cases h
        · cases h
      · cases h
    · cases h
  · rename_i hs hd
    split at h
    · cases h; cases hx
      exact ⟨.string _, w, by simp [convert, run_underlying hs, run_underlying hd], rfl, .str⟩
    · cases h
  · cases h

theorem lenE_sound {t ty : TypeId} {x v : V} {gx : Value} {ts : Array TypeId} {gs : Array Value} (h : lenE P t x = some v) (hx : Rv J μ x gx) (ht : ts[0]? = some t) (hg : gs[0]? = some gx) :
    ∃ g, (Builtin.len_ ts ty gs).run P w = .ok g w ∧ Rv J μ v g := by
  unfold lenE at h
  split at h
  · rename_i e hu
    split at h
    · rename_i sz es
      cases h
      cases hx with
      | sl0 => exact ⟨goInt 0, by simp [Builtin.len_, ht, hg, run_underlying hu], .int⟩
      | sl _ _ _ _ _ _ => exact ⟨goInt es.length, by simp [Builtin.len_, ht, hg, run_underlying hu], .int⟩
    · cases h
      cases hx with
      | ms _ _ _ => rename_i len _ _ _; exact ⟨_, by simp [Builtin.len_, ht, hg, run_underlying hu]; rfl, .int⟩
    · cases h
      cases hx
      exact ⟨goInt 0, by simp [Builtin.len_, ht, hg, run_underlying hu], .int⟩
    · cases h
  · rename_i hu
    split at h
    · cases h
      cases hx
      exact ⟨_, by simp [Builtin.len_, ht, hg, run_underlying hu]; rfl, .int⟩
    · cases h
  · rename_i n e hu
    split at h
    · cases h
    · cases h
      exact ⟨goInt n, by cases gx <;> simp [Builtin.len_, ht, hg, run_underlying hu], .int⟩
  · cases h

theorem flatten_get {es : List (List V)} {sz : Nat} (hz : ∀ e ∈ es, e.length = sz) (hp : 0 < sz) (m : Nat) : es.flatten[m]? = (es[m / sz]?).bind (·[m % sz]?) := by
  induction es generalizing m with
  | nil => simp
  | cons e es ih =>
    have he : e.length = sz := hz e List.mem_cons_self
    simp only [List.flatten_cons]
    by_cases hm : m < sz
    · rw [List.getElem?_append_left (by omega), Nat.div_eq_of_lt hm, Nat.mod_eq_of_lt hm]
      simp
    · rw [List.getElem?_append_right (by omega), ih (fun e' h' => hz e' (List.mem_cons_of_mem _ h')) (m - e.length)]
      obtain ⟨k, rfl⟩ : ∃ k, m = sz + k := ⟨m - sz, by omega⟩
      rw [he, Nat.add_sub_cancel_left, Nat.add_comm sz k, Nat.add_div_right _ hp, Nat.add_mod_right]
      simp

theorem flatten_len {es : List (List V)} {sz : Nat} (hz : ∀ e ∈ es, e.length = sz) : es.flatten.length = es.length * sz := by
  induction es with
  | nil => simp
  | cons e es ih =>
    simp only [List.flatten_cons, List.length_append, List.length_cons, ih (fun e' h' => hz e' (List.mem_cons_of_mem _ h')), hz e List.mem_cons_self, Nat.add_mul]
    omega

/-- What is appended. -/
theorem src_sound {x : V} {gx : Value} {size n : Nat} {cs : Cells} (hI : Inv get J μ w) (h : srcE get x size = some (cs, n)) (hx : Rv J μ x gx) :
    ∃ gcs : Array Value, (Builtin.lenOf gx).run P w = .ok n w ∧ (∀ w' : World, w'.heap = w.heap → (Builtin.firstCells size n gx).run P w' = .ok gcs w') ∧ gcs.size = cs.length ∧ cs.length = n * size ∧
      (∀ (j : Nat) g, gcs[j]? = some g → g.oneCell' = true) ∧ ∀ (j : Nat) v g, cs[j]? = some v → gcs[j]? = some g → Rv J μ v g := by
  -- from known cells in one block
  have main : ∀ (blk o len cap : Nat) (cs : Cells), cs.length = n * size → (∀ (j : Nat) v, cs[j]? = some v → ∃ g, w.cell? ⟨blk, o + j, none⟩ = some g ∧ g.oneCell' = true ∧ Rv J μ v g) →
      ∃ gcs : Array Value, (∀ w' : World, w'.heap = w.heap → (Builtin.firstCells size n (.slice (some ⟨blk, o, none⟩) len cap)).run P w' = .ok gcs w') ∧ gcs.size = cs.length ∧
      (∀ (j : Nat) g, gcs[j]? = some g → g.oneCell' = true) ∧ ∀ (j : Nat) v g, cs[j]? = some v → gcs[j]? = some g → Rv J μ v g := by
    intro blk o len cap cs hl hc
    let f : Nat → Value := fun j => (w.cell? ⟨blk, o + j, none⟩).getD undef
    have hf : ∀ j, j < n * size → w.cell? ⟨blk, o + j, none⟩ = some (f j) ∧ (f j).oneCell' = true ∧ ∃ v, cs[j]? = some v ∧ Rv J μ v (f j) := by
      intro j hj
      obtain ⟨g, h1, h2, h3⟩ := hc j (cs[j]'(by omega)) (List.getElem?_eq_getElem (by omega))
      have : f j = g := by simp [f, h1]
      rw [this]
      exact ⟨h1, h2, cs[j]'(by omega), List.getElem?_eq_getElem (by omega), h3⟩
    refine ⟨((List.range (n * size)).map f).toArray, fun w' hw => ?_, by simp [hl], fun j g hg => ?_, fun j v g hv hg => ?_⟩
    · simp only [Builtin.firstCells]
      refine run_loadCells w' _ _ f fun j hj => ?_
      rw [addr_add]
      have := (hf j hj).1
      simpa [World.cell?, hw] using this
    · have hj : j < n * size := by
        rcases Nat.lt_or_ge j (n * size) with h' | h'
        · exact h'
        · simp [h'] at hg
      simp only [List.getElem?_toArray, List.getElem?_map, List.getElem?_range hj, Option.map_some, Option.some.injEq] at hg
      subst hg
      exact (hf j hj).2.1
    · have hj : j < n * size := by
        rcases Nat.lt_or_ge j (n * size) with h' | h'
        · exact h'
        · simp [h'] at hg
      simp only [List.getElem?_toArray, List.getElem?_map, List.getElem?_range hj, Option.map_some, Option.some.injEq] at hg
      subst hg
      obtain ⟨u, hu, hr⟩ := (hf j hj).2.2
      rw [hu] at hv
      cases hv
      exact hr
  have zero : ∀ (a : Option Addr) (c : Nat) (w' : World), (Builtin.firstCells size 0 (.slice a 0 c)).run P w' = .ok #[] w' := by
    intro a c w'
    cases a with
    | none => simp [Builtin.firstCells]
    | some a =>
      simp only [Builtin.firstCells, Nat.zero_mul]
      have := run_loadCells (P := P) w' a 0 (fun _ => undef) (fun j hj => by omega)
      simpa using this
  unfold srcE at h
  split at h
  · rename_i sz es
    cases hb : Nat.beq sz size
    · rw [hb] at h; cases h
    · rw [hb] at h
      simp only [cond_true, Option.some.injEq, Prod.mk.injEq] at h
      obtain ⟨rfl, rfl⟩ := h
      have hz : sz = size := Nat.eq_of_beq_eq_true hb
      subst hz
      cases hx with
      | sl0 =>
        refine ⟨#[], by simp [Builtin.lenOf], fun w' _ => zero _ _ w', by simp, by simp, fun j g hg => by simp at hg, fun j v g hv _ => by simp at hv⟩
      | sl hcap hj hsz h1 h2 h3 =>
        rename_i cap cc blk off gs
        obtain ⟨elem, fz, hh⟩ := hI.im _ _ hj
        have hfl := flatten_len hsz
        obtain ⟨gcs, e1, e2, e3, e4⟩ := main blk off es.length cap es.flatten hfl (fun j v hv => by
          have hp : 0 < sz := by
            rcases Nat.eq_zero_or_pos sz with h0 | h0
            · have := lt_of_some hv
              rw [hfl, h0] at this
              omega
            · exact h0
          rw [flatten_get hsz hp] at hv
          cases he : es[j / sz]? with
          | none => rw [he] at hv; cases hv
          | some e =>
            rw [he] at hv
            simp only [Option.bind_some] at hv
            have hcell := h1 _ _ e v he hv
            have ej : off + j / sz * sz + j % sz = off + j := by
              have := Nat.div_add_mod j sz
              rw [Nat.mul_comm] at this
              omega
            rw [ej] at hcell
            exact ⟨_, cell?_at hh hcell, (h3 _ _ e v he hv).1, (h2 _ _ e v he hv).mono (Im.le_refl _) (noMu_le _)⟩)
        exact ⟨gcs, by simp [Builtin.lenOf], e1, e2, hfl, e3, e4⟩
  · rename_i id off len sz
    split at h
    · rename_i ds hg
      cases hb : (Nat.beq sz size && Nat.ble (off + len * sz) ds.length)
      · rw [hb] at h; cases h
      · rw [hb] at h
        simp only [cond_true, Option.some.injEq, Prod.mk.injEq] at h
        rw [Bool.and_eq_true] at hb
        obtain ⟨rfl, rfl⟩ := h
        have hz : sz = size := Nat.eq_of_beq_eq_true hb.1
        subst hz
        have hle : off + len * sz ≤ ds.length := Nat.le_of_ble_eq_true hb.2
        cases hx with
        | ms hl hc hle' =>
          rename_i l cap
          obtain ⟨gc, elem, _, hh, _, _, hgo, hcs⟩ := hI.at hg hl
          have hlen : ((ds.drop off).take (len * sz)).length = len * sz := by simp; omega
          obtain ⟨gcs, e1, e2, e3, e4⟩ := main l.blk (l.base + off) len cap _ hlen (fun j v hv => by
            have hj := lt_of_some hv
            rw [hlen] at hj
            rw [List.getElem?_take_of_lt hj, List.getElem?_drop] at hv
            obtain ⟨g, k1, k3⟩ := hcs _ _ hv
            exact ⟨g, cell?_at hh (by rw [Nat.add_assoc]; exact k1), hgo _ _ k1, k3⟩)
          exact ⟨gcs, by simp [Builtin.lenOf], e1, e2, hlen, e3, e4⟩
    · cases h
  · simp only [Option.some.injEq, Prod.mk.injEq] at h
    obtain ⟨rfl, rfl⟩ := h
    cases hx
    exact ⟨#[], by simp [Builtin.lenOf], fun w' _ => zero _ _ w', by simp, by simp, fun j g hg => by simp at hg, fun j v g hv _ => by simp at hv⟩
  · cases h
end
end Go.Ev

/-
  append, max, min, make; the builtin functions together.
-/
namespace Go.Ev
section
variable {P : Program} {get : Get} {J : Im} {μ : Mu} {w : World}

theorem zeroCells_leaf {z : Array Value} {n : Nat} (hz : ∀ (j : Nat) g, z[j]? = some g → g.oneCell' = true) (j : Nat) (g : Value) (h : (Builtin.zeroCells z n)[j]? = some g) : g.oneCell' = true := by
  unfold Builtin.zeroCells at h
  simp only [Array.getElem?_map] at h
  cases hr : (Array.range (n * z.size))[j]? with
  | none => rw [hr] at h; cases h
  | some k =>
    rw [hr] at h
    simp only [Option.map_some, Option.some.injEq] at h
    have hpos : 0 < z.size := by
      rcases Nat.eq_zero_or_pos z.size with h0 | h0
      · rw [h0, Nat.mul_zero] at hr; simp at hr
      · exact h0
    have hk : k % z.size < z.size := Nat.mod_lt _ hpos
    refine hz (k % z.size) g ?_
    rw [← h, getElem!_pos z _ hk]
    exact Array.getElem?_eq_getElem hk

theorem append_leaf {a b : Array Value} (ha : ∀ (j : Nat) g, a[j]? = some g → g.oneCell' = true) (hb : ∀ (j : Nat) g, b[j]? = some g → g.oneCell' = true) (j : Nat) (g : Value) (h : (a ++ b)[j]? = some g) : g.oneCell' = true := by
  rw [Array.getElem?_append] at h
  split at h
  · exact ha _ _ h
  · exact hb _ _ h

theorem zeroCells_size (z : Array Value) (n : Nat) : (Builtin.zeroCells z n).size = n * z.size := by simp [Builtin.zeroCells]

/-- An append for which there is no room. -/
theorem run_append_grows {t u ty e e' : TypeId} {i : TypeInfo} {z : Value} {ts : Array TypeId} {gs : Array Value} {base : Option Addr} {sLen sCap n : Nat} {gx : Value} {olds news : Array Value}
    (ht : ts[0]? = some t) (hu' : ts[1]? = some u) (hs : gs[0]? = some (.slice base sLen sCap)) (hx : gs[1]? = some gx) (hut : P.underlying t = some (.slice e)) (huu : P.underlying u = some (.slice e'))
    (hi : P.info? e = some i) (hz : i.zero = some z) (hlen : (Builtin.lenOf gx).run P w = .ok n w) (hold : ∀ w' : World, w'.heap = w.heap → (Builtin.firstCells i.size sLen (.slice base sLen sCap)).run P w' = .ok olds w')
    (hnew : ∀ w' : World, w'.heap = w.heap → (Builtin.firstCells i.size n gx).run P w' = .ok news w') (hg : sCap < sLen + n) (hneed : sLen + n ≤ most) (hb : i.bytes ≤ 256) :
    ∃ cap, sLen + n ≤ cap ∧ (Builtin.append_ ts ty gs).run P w = .ok (.slice (some ⟨w.heap.size, 0, none⟩) (sLen + n) cap) (w.drew.alloc (.cells (olds ++ news ++ Builtin.zeroCells z.cells (cap - (sLen + n))) e)) := by
  unfold most at hneed
  have hn : ¬ (sLen + n ≤ sCap) := by omega
  have h63 : ¬ (9223372036854775807 < ((sLen : Int) + (n : Int))) := by omega
  have hm : IntKind.i64.max = 9223372036854775807 := by decide
  have h48 : ¬ (281474976710656 < Builtin.nextslicecap (sLen + n) sCap * i.bytes) := by
    have h1 := nextslicecap_le (need := sLen + n) (old := sCap) hg
    have h2 : Builtin.nextslicecap (sLen + n) sCap * i.bytes ≤ 2 * (sLen + n) * 256 := Nat.mul_le_mul h1 hb
    omega
  have e1 := hold w.drew rfl
  have e2 := hnew w.drew rfl
  refine ⟨(Question.appendCap (sLen + n) sCap e).cut (w.tape w.drawn (.appendCap (sLen + n) sCap e)), by simp [Question.cut], ?_⟩
  simp [Builtin.append_, ht, hu', hs, hx, run_underlying hut, run_underlying huu, run_sizeOf (show sizeT P e = some i.size by simp [sizeT, hi]), run_typeInfo hi, run_zeroValue hi hz, hlen, hn, h63, hm, h48, Question.forced, e1, e2, newRow]

/-- An append for which there is room. -/
theorem run_append_room {t u ty e e' : TypeId} {i : TypeInfo} {ts : Array TypeId} {gs : Array Value} {blk o : Nat} {sLen sCap n : Nat} {gx : Value} {news : Array Value} {w' : World}
    (ht : ts[0]? = some t) (hu' : ts[1]? = some u) (hs : gs[0]? = some (.slice (some ⟨blk, o, none⟩) sLen sCap)) (hx : gs[1]? = some gx) (hut : P.underlying t = some (.slice e)) (huu : P.underlying u = some (.slice e'))
    (hi : P.info? e = some i) (hlen : (Builtin.lenOf gx).run P w = .ok n w)
    (hnew : (Builtin.firstCells i.size n gx).run P w = .ok news w) (hg : sLen + n ≤ sCap) (hst : (storeCells ⟨blk, o + sLen * i.size, none⟩ news.toList).run P w = .ok () w') :
    (Builtin.append_ ts ty gs).run P w = .ok (.slice (some ⟨blk, o, none⟩) (sLen + n) sCap) w' := by
  simp [Builtin.append_, ht, hu', hs, hx, run_underlying hut, run_underlying huu, run_sizeOf (show sizeT P e = some i.size by simp [sizeT, hi]), hlen, hnew, hg, addr_add, hst]

theorem appendE_sound {t u ty e' : TypeId} {ts : Array TypeId} {gs : Array Value} {d x : V} {gd gx : Value} {nid : Nat} {r : V × Ups × Nat} (hI : Inv get J μ w) (h : appendE P get nid t d x = some r)
    (hd : Rv J μ d gd) (hx : Rv J μ x gx) (ht : ts[0]? = some t) (hu' : ts[1]? = some u) (hgd : gs[0]? = some gd) (hgx : gs[1]? = some gx) (huu : P.underlying u = some (.slice e'))
    (hf : ∀ i, nid ≤ i → i < nid + r.2.2 → μ i = none) :
    ∃ g w', (Builtin.append_ ts ty gs).run P w = .ok g w' ∧ Good get J μ w nid r g w' := by
  unfold appendE at h
  split at h
  · rename_i e hut
    split at h
    · rename_i i z hi hzc
      obtain ⟨i', zv, hi', hz, hzs, hzo, _⟩ := rv_zero (J := J) (μ := μ) hzc
      rw [hi] at hi'
      cases hi'
      cases hb : (Nat.ble i.bytes 256 && Nat.beq z.length i.size)
      · rw [hb] at h; cases h
      · rw [hb] at h
        simp only [cond_true] at h
        rw [Bool.and_eq_true] at hb
        have hb1 : i.bytes ≤ 256 := Nat.le_of_ble_eq_true hb.1
        have hb2 : z.length = i.size := Nat.eq_of_beq_eq_true hb.2
        split at h
        · rename_i cs n hsrc
          obtain ⟨gcs, k1, k2, k3, k4, k5, k6⟩ := src_sound (P := P) hI hsrc hx
          cases d with
          | nil =>
            -- onto nothing
            simp only at h
            cases hd with
            | nil =>
              rename_i a
              have zero : ∀ w' : World, (Builtin.firstCells i.size 0 (.slice a 0 0)).run P w' = .ok #[] w' := by
                intro w'
                cases a with
                | none => simp [Builtin.firstCells]
                | some a =>
                  simp only [Builtin.firstCells, Nat.zero_mul]
                  have := run_loadCells (P := P) w' a 0 (fun _ => undef) (fun j hj => by omega)
                  simpa using this
              cases n with
              | zero =>
                simp only at h
                cases h
                have hnil : gcs = #[] := by
                  apply Array.eq_empty_of_size_eq_zero
                  omega
                refine ⟨.slice a 0 0, w, ?_, Good.same hI .nil rfl⟩
                have hnew := k2 w rfl
                rw [hnil] at hnew
                cases a with
                | none => simp [Builtin.append_, ht, hu', hgd, hgx, run_underlying hut, run_underlying huu, run_sizeOf (show sizeT P e = some i.size by simp [sizeT, hi]), k1, hnew]
                | some a => simp [Builtin.append_, ht, hu', hgd, hgx, run_underlying hut, run_underlying huu, run_sizeOf (show sizeT P e = some i.size by simp [sizeT, hi]), k1, hnew, storeCells]
              | succ m =>
                simp only at h
                cases hle : Nat.ble (m + 1) most
                · rw [hle] at h; cases h
                · rw [hle] at h
                  simp only [cond_true, Option.some.injEq] at h
                  subst h
                  have hle' : m + 1 ≤ most := Nat.le_of_ble_eq_true hle
                  obtain ⟨cap, hc1, hrun⟩ := run_append_grows (P := P) (w := w) (ty := ty) (sLen := 0) (sCap := 0) (olds := #[]) ht hu' hgd hgx hut huu hi hz k1 (fun w' _ => zero w') k2 (by omega) (by omega) hb1
                  refine ⟨_, _, hrun, ?_⟩
                  have hsz : (#[] ++ gcs ++ Builtin.zeroCells zv.cells (cap - (0 + (m + 1)))).size = cap * i.size := by
                    rw [Array.size_append, Array.size_append, zeroCells_size, k3, k4, hzs, hb2]
                    simp only [List.size_toArray, List.length_nil, Nat.zero_add]
                    rw [← Nat.add_mul]
                    congr 1
                    omega
                  refine Good.new hI rfl (hf nid (Nat.le_refl _) (by dsimp only; omega)) (by rw [hsz, k4]; exact Nat.mul_le_mul_right _ (by omega)) (append_leaf (append_leaf (fun j g h => by simp at h) k5) (zeroCells_leaf hzo)) (fun j v hv => ?_) ?_
                  · obtain ⟨g, hg⟩ := some_of_size k3 (lt_of_some hv)
                    refine ⟨g, ?_, k6 j v g hv hg⟩
                    have hj : j < gcs.size := by rw [k3]; exact lt_of_some hv
                    rw [Array.getElem?_append_left (by simpa using hj)]
                    simpa using hg
                  · have := Rv.ms (J := J) (μ := putMu μ nid ⟨w.heap.size, 0, (#[] ++ gcs ++ Builtin.zeroCells zv.cells (cap - (0 + (m + 1)))).size⟩) (id := nid) (off := 0) (len := m + 1) (sz := i.size) (cap := cap) (l := ⟨w.heap.size, 0, (#[] ++ gcs ++ Builtin.zeroCells zv.cells (cap - (0 + (m + 1)))).size⟩) (by simp [putMu]) (by omega) (by dsimp only; rw [hsz]; omega)
                    simpa using this
          | ms id off len sz =>
            -- onto an object
            simp only at h
            split at h
            · rename_i ds hgt
              cases hbb : (Nat.beq sz i.size && Nat.ble (off + len * sz) ds.length && Nat.ble (len + n) most)
              · rw [hbb] at h; cases h
              · rw [hbb] at h
                simp only [cond_true, Option.some.injEq] at h
                subst h
                rw [Bool.and_eq_true, Bool.and_eq_true] at hbb
                have hz1 : sz = i.size := Nat.eq_of_beq_eq_true hbb.1.1
                have hle1 : off + len * sz ≤ ds.length := Nat.le_of_ble_eq_true hbb.1.2
                have hle2 : len + n ≤ most := Nat.le_of_ble_eq_true hbb.2
                subst hz1
                have hfr : μ nid = none := hf nid (Nat.le_refl _) (by dsimp only; omega)
                cases hd with
                | ms hl hc hle' =>
                  rename_i l cap
                  obtain ⟨gc, elem, hJn, hh, hsz, hlen, hgo, hcs⟩ := hI.at hgt hl
                  have hne : nid ≠ id := fun e => by rw [e, hl] at hfr; cases hfr
                  have hk := hI.kill (id := id)
                  have hol : ((ds.drop off).take (len * i.size)).length = len * i.size := by simp; omega
                  have hcat : ∀ (j : Nat) v, ((ds.drop off).take (len * i.size) ++ cs)[j]? = some v → (j < len * i.size ∧ ds[off + j]? = some v) ∨ (len * i.size ≤ j ∧ cs[j - len * i.size]? = some v) := by
                    intro j v hv
                    by_cases hj : j < len * i.size
                    · rw [List.getElem?_append_left (by rw [hol]; exact hj), List.getElem?_take_of_lt hj, List.getElem?_drop] at hv
                      exact .inl ⟨hj, hv⟩
                    · rw [List.getElem?_append_right (by rw [hol]; omega), hol] at hv
                      exact .inr ⟨by omega, hv⟩
                  have hcl : ((ds.drop off).take (len * i.size) ++ cs).length = (len + n) * i.size := by
                    rw [List.length_append, hol, k4, Nat.add_mul]
                  by_cases hroom : len + n ≤ cap
                  · -- in place
                    have hnew := k2 w rfl
                    have hmul : (len + n) * i.size ≤ cap * i.size := Nat.mul_le_mul_right _ hroom
                    rw [Nat.add_mul] at hmul
                    obtain ⟨gc', w', e1, e2, e3, eo, e4, e5, e6⟩ := run_storeCells (P := P) (blk := l.blk) (off := l.base + off + len * i.size) gcs.toList 0 w gc (fun g hg => by
                      obtain ⟨j, hj⟩ := List.getElem?_of_mem hg
                      exact k5 j g (by simpa using hj)) hh (by rw [hsz]; simp only [Array.length_toList]; omega)
                    refine ⟨_, w', run_append_room (P := P) (w := w) (ty := ty) ht hu' hgd hgx hut huu hi k1 hnew hroom e1, ?_⟩
                    -- first the object is written as a whole, then it is known by its new number
                    have hbase : ∀ (j : Nat), gc'[l.base + off + j]? = if len * i.size ≤ j ∧ j < len * i.size + gcs.size then gcs[j - len * i.size]? else gc[l.base + off + j]? := by
                      intro j
                      rw [e6]
                      simp only [Array.length_toList, Nat.add_zero]
                      by_cases hj : len * i.size ≤ j ∧ j < len * i.size + gcs.size
                      · rw [if_pos hj, if_pos (by omega), Array.getElem?_toList]
                        congr 1
                        omega
                      · rw [if_neg hj, if_neg (by omega)]
                    have hle := putMu_le (l := ⟨l.blk, l.base + off, l.size⟩) hfr
                    have hself : ∀ i', i' ≠ nid → putMu μ nid ⟨l.blk, l.base + off, l.size⟩ i' = μ i' := fun i' hi' => by simp [putMu, hi']
                    have hget : ∀ i', i' ≠ nid → ∀ c, upd [(nid, some ((ds.drop off).take (len * i.size) ++ cs)), (id, none)] get i' = some c → i' ≠ id ∧ get i' = some c := by
                      intro i' hi' c hc'
                      rw [upd_cons, if_neg (fun e => hi' e.symm), upd_cons, upd_nil] at hc'
                      split at hc'
                      · cases hc'
                      · rename_i hne'; exact ⟨fun e => hne' e.symm, hc'⟩
                    have hother : ∀ i' c m, i' ≠ id → get i' = some c → μ i' = some m → m.blk ≠ l.blk := by
                      intro i' c m hi' hc' hm' e'
                      exact hi' (hI.sep i' id m l (by rw [hc']; simp) (by rw [hgt]; simp) hm' hl e')
                    refine ⟨J, putMu μ nid ⟨l.blk, l.base + off, l.size⟩, ?_, ⟨fun b c hj => ?_, fun i' ds' hi' => ?_, fun a b la lb h1 h2 h3 h4 h5 => ?_⟩, ⟨Nat.le_of_eq e3.symm, hle, Im.le_refl _, fun _ _ h h' => (by rw [h] at h'; cases h'), fun b _ hno => ?_, fun b ho => ?_, eo.1, eo.2⟩, fun i' hi' => ?_⟩
                    · have := Rv.ms (J := J) (μ := putMu μ nid ⟨l.blk, l.base + off, l.size⟩) (id := nid) (off := 0) (len := len + n) (sz := i.size) (cap := cap) (l := ⟨l.blk, l.base + off, l.size⟩) (by simp [putMu]) hroom (by dsimp only; omega)
                      simpa using this
                    · have : b ≠ l.blk := fun e => by rw [e, hJn] at hj; cases hj
                      rw [e2 b this]
                      exact hI.im b c hj
                    · by_cases en : i' = nid
                      · subst en
                        rw [upd_cons, if_pos rfl] at hi'
                        cases hi'
                        refine ⟨⟨l.blk, l.base + off, l.size⟩, gc', elem, by simp [putMu], hJn, e4, by rw [e5, hsz], by dsimp only; rw [hcl, Nat.add_mul]; omega, fun j q hq => ?_, fun j v hv => ?_⟩
                        · rw [e6] at hq
                          split at hq
                          · rw [Array.getElem?_toList] at hq; exact k5 _ _ hq
                          · exact hgo _ _ hq
                        dsimp only
                        rw [hbase]
                        rcases hcat j v hv with ⟨hj, hv'⟩ | ⟨hj, hv'⟩
                        · rw [if_neg (by omega)]
                          obtain ⟨g, q1, q3⟩ := hcs _ _ hv'
                          exact ⟨g, by rw [Nat.add_assoc]; exact q1, q3.mono (Im.le_refl _) hle⟩
                        · have := lt_of_some hv'
                          rw [if_pos (by omega)]
                          obtain ⟨g, hg⟩ := some_of_size k3 this
                          exact ⟨g, hg, (k6 _ _ _ hv' hg).mono (Im.le_refl _) hle⟩
                      · obtain ⟨hni, hgi⟩ := hget i' en ds' hi'
                        obtain ⟨m, gc1, el1, q1, q2, q3, q4, q5, q6', q6⟩ := hI.ob i' ds' hgi
                        refine ⟨m, gc1, el1, by rw [hself i' en]; exact q1, q2, (by rw [e2 _ (hother i' ds' m hni hgi q1)]; exact q3), q4, q5, q6', fun j v hv => ?_⟩
                        obtain ⟨g, r1, r3⟩ := q6 j v hv
                        exact ⟨g, r1, r3.mono (Im.le_refl _) hle⟩
                    · have key : ∀ c lc, c ≠ nid → upd [(nid, some ((ds.drop off).take (len * i.size) ++ cs)), (id, none)] get c ≠ none → putMu μ nid ⟨l.blk, l.base + off, l.size⟩ c = some lc → c ≠ id ∧ get c ≠ none ∧ μ c = some lc ∧ lc.blk ≠ l.blk := by
                        intro c lc hc1 hc2 hc3
                        cases hq : upd [(nid, some ((ds.drop off).take (len * i.size) ++ cs)), (id, none)] get c with
                        | none => exact absurd hq hc2
                        | some q =>
                          obtain ⟨p1, p2⟩ := hget c hc1 q hq
                          rw [hself c hc1] at hc3
                          exact ⟨p1, by rw [p2]; simp, hc3, hother c q lc p1 p2 hc3⟩
                      by_cases ea : a = nid
                      · by_cases eb : b = nid
                        · rw [ea, eb]
                        · obtain ⟨_, _, _, q⟩ := key b lb eb h2 h4
                          subst ea
                          simp [putMu] at h3
                          subst h3
                          exact absurd h5.symm q
                      · by_cases eb : b = nid
                        · obtain ⟨_, _, _, q⟩ := key a la ea h1 h3
                          subst eb
                          simp [putMu] at h4
                          subst h4
                          exact absurd h5 q
                        · obtain ⟨_, q1, q2, _⟩ := key a la ea h1 h3
                          obtain ⟨_, q3, q4, _⟩ := key b lb eb h2 h4
                          exact hI.sep a b la lb q1 q3 q2 q4 h5
                    · exact e2 b fun e => hno ⟨id, l, by rw [hgt]; simp, hl, e.symm⟩
                    · obtain ⟨c, lc, h1, h2, h3⟩ := ho
                      by_cases en : c = nid
                      · subst en
                        simp [putMu] at h2
                        subst h2
                        exact .inl ⟨id, l, by rw [hgt]; simp, hl, h3⟩
                      · cases hq : upd [(nid, some ((ds.drop off).take (len * i.size) ++ cs)), (id, none)] get c with
                        | none => exact absurd hq h1
                        | some q =>
                          obtain ⟨p1, p2⟩ := hget c en q hq
                          rw [hself c en] at h2
                          exact .inl ⟨c, lc, by rw [p2]; simp, h2, h3⟩
                    · simp only [putMu]
                      rw [if_neg (by dsimp only at hi'; omega)]
                  · -- a new row
                    have hold : ∀ w' : World, w'.heap = w.heap → (Builtin.firstCells i.size len (.slice (some ⟨l.blk, l.base + off, none⟩) len cap)).run P w' = .ok (gc.extract (l.base + off) (l.base + off + len * i.size)) w' := by
                      intro w' hw'
                      simp only [Builtin.firstCells]
                      have hex : (gc.extract (l.base + off) (l.base + off + len * i.size)).toList.length = len * i.size := by simp; omega
                      have := run_loadCells_list (P := P) w' ⟨l.blk, l.base + off, none⟩ (gc.extract (l.base + off) (l.base + off + len * i.size)).toList (fun j v hv => by
                        rw [addr_add]
                        rw [Array.getElem?_toList, Array.getElem?_extract] at hv
                        split at hv
                        · exact cell?_at (by rw [hw']; exact hh) hv
                        · cases hv)
                      rw [hex] at this
                      rw [this, Array.toArray_toList]
                    obtain ⟨ncap, hc1, hrun⟩ := run_append_grows (P := P) (w := w) (ty := ty) ht hu' hgd hgx hut huu hi hz k1 hold k2 (by omega) hle2 hb1
                    refine ⟨_, _, hrun, ?_⟩
                    have hexs : (gc.extract (l.base + off) (l.base + off + len * i.size)).size = len * i.size := by simp; omega
                    have hsz' : (gc.extract (l.base + off) (l.base + off + len * i.size) ++ gcs ++ Builtin.zeroCells zv.cells (ncap - (len + n))).size = ncap * i.size := by
                      rw [Array.size_append, Array.size_append, zeroCells_size, k3, k4, hzs, hb2, hexs, ← Nat.add_mul, ← Nat.add_mul]
                      congr 1
                      omega
                    have hgood := Good.new (w1 := w.drew) (elem := e) (v := .ms nid 0 (len + n) i.size) (g := .slice (some ⟨w.heap.size, 0, none⟩) (len + n) ncap) (cs := (ds.drop off).take (len * i.size) ++ cs)
                      (gc := gc.extract (l.base + off) (l.base + off + len * i.size) ++ gcs ++ Builtin.zeroCells zv.cells (ncap - (len + n))) (nid := nid) hk.1 rfl hfr
                      (by rw [hsz', hcl]; exact Nat.mul_le_mul_right _ hc1) (append_leaf (append_leaf (fun j g h => by
                        rw [Array.getElem?_extract] at h
                        split at h
                        · exact hgo _ _ h
                        · cases h) k5) (zeroCells_leaf hzo)) (fun j v hv => by
                        rcases hcat j v hv with ⟨hj, hv'⟩ | ⟨hj, hv'⟩
                        · obtain ⟨g, q1, q3⟩ := hcs _ _ hv'
                          refine ⟨g, ?_, q3⟩
                          rw [Array.getElem?_append_left (by rw [Array.size_append, hexs]; omega), Array.getElem?_append_left (by rw [hexs]; exact hj), Array.getElem?_extract, if_pos (by omega), Nat.add_assoc]
                          exact q1
                        · have hlt := lt_of_some hv'
                          obtain ⟨g, hg⟩ := some_of_size k3 hlt
                          refine ⟨g, ?_, k6 _ _ _ hv' hg⟩
                          rw [Array.getElem?_append_left (by rw [Array.size_append, hexs]; omega), Array.getElem?_append_right (by rw [hexs]; exact hj), hexs]
                          exact hg)
                      (by
                        have := Rv.ms (J := J) (μ := putMu μ nid ⟨w.heap.size, 0, (gc.extract (l.base + off) (l.base + off + len * i.size) ++ gcs ++ Builtin.zeroCells zv.cells (ncap - (len + n))).size⟩) (id := nid) (off := 0) (len := len + n) (sz := i.size) (cap := ncap) (l := ⟨w.heap.size, 0, (gc.extract (l.base + off) (l.base + off + len * i.size) ++ gcs ++ Builtin.zeroCells zv.cells (ncap - (len + n))).size⟩) (by simp [putMu]) hc1 (by dsimp only; rw [hsz']; omega)
                        simpa using this)
                    obtain ⟨J', μ', g1, g2, g3, g4⟩ := hgood
                    exact ⟨J', μ', g1, by rw [show [(nid, some ((ds.drop off).take (len * i.size) ++ cs)), (id, none)] = [(nid, some ((ds.drop off).take (len * i.size) ++ cs))] ++ [(id, none)] from rfl, upd_append]; exact g2,
                      by rw [show [(nid, some ((ds.drop off).take (len * i.size) ++ cs)), (id, none)] = [(nid, some ((ds.drop off).take (len * i.size) ++ cs))] ++ [(id, none)] from rfl, upd_append]; exact hk.2.trans g3, g4⟩
            · cases h
          | _ => cases h
        · cases h
    · cases h
  · cases h
end
end Go.Ev

/-
  max, min; the functions without a body; the builtin functions together.
-/
namespace Go.Ev
open Ieee

def fsqrt (x : Nat) : Nat :=
  match FloatKind.f64.format.sqrt x with
  | some r => r
  | none => qnan .f64

def fint (way : Toward) (x : Nat) : Nat := bif isNan .f64 x then qnan .f64 else FloatKind.f64.encode ((FloatKind.f64.decode x).integral way)

def primBits (k : FloatKind) (args : List V) : Option V :=
  match k, args with
  | .f32, [.flt .f32 x] => bif isNan .f32 x then none else some (.int .u32 x)
  | .f64, [.flt .f64 x] => bif isNan .f64 x then none else some (.int .u64 x)
  | _, _ => none

def primFrom (k : FloatKind) (args : List V) : Option V :=
  match k, args with
  | .f32, [.int .u32 n] => some (.flt .f32 (canon .f32 (Int.toNat n)))
  | .f64, [.int .u64 n] => some (.flt .f64 (canon .f64 (Int.toNat n)))
  | _, _ => none

def primSqrt (args : List V) : Option V :=
  match args with
  | [.flt .f64 x] => some (.flt .f64 (fsqrt x))
  | _ => none

def primInt (way : Toward) (args : List V) : Option V :=
  match args with
  | [.flt .f64 x] => some (.flt .f64 (fint way x))
  | _ => none

def Rvs (J : Im) (μ : Mu) (vs : List V) (gs : Array Value) : Prop := gs.size = vs.length ∧ ∀ (j : Nat) v g, vs[j]? = some v → gs[j]? = some g → Rv J μ v g

def PrimOK (P : Program) (f : FuncId) (g : List V → Option V) : Prop :=
  ∀ (J : Im) (μ : Mu) (vs : List V) (gs : Array Value) (w : World) (v : V), Rvs J μ vs gs → g vs = some v → ∃ gv w', (callFunc f gs).run P w = .ok (.value gv) w' ∧ w'.hoo = w.hoo ∧ Rv J μ v gv

theorem Rvs.one {J : Im} {μ : Mu} {v : V} {gs : Array Value} (h : Rvs J μ [v] gs) : ∃ g, gs = #[g] ∧ Rv J μ v g := by
  obtain ⟨h1, h2⟩ := h
  have h1' : gs.size = 1 := h1
  refine ⟨gs[0]'(by omega), ?_, h2 0 v _ rfl (by simp [h1'])⟩
  apply Array.ext
  · simpa using h1'
  · intro i hi _
    have : i = 0 := by omega
    subst this
    simp

theorem prim_of {P : Program} {f : FuncId} {fn : Func} {e : Array Value → Sem Value} {g : List V → Option V} (hf : P.funcs[f]? = some fn) (hname : (fn.name == "runtime.NumGoroutine") = false)
    (hb : fn.body.isNone = true) (hn : Extern.findNext fn = none) (he : Extern.find fn = some e)
    (h : ∀ (J : Im) (μ : Mu) (vs : List V) (gs : Array Value) (w : World) (v : V), Rvs J μ vs gs → g vs = some v → ∃ gv w', (e gs).run P w = .ok gv w' ∧ w'.hoo = w.hoo ∧ Rv J μ v gv) : PrimOK P f g := by
  intro J μ vs gs w v hr hv
  obtain ⟨gv, w', h1, h2, h3⟩ := h J μ vs gs w v hr hv
  exact ⟨gv, w', by rw [run_callFunc_extern hf hname hb hn he, h1]; rfl, h2, h3⟩

theorem sqrt_canon (k : FloatKind) (x : Nat) : k.format.sqrt (canon k x) = k.format.sqrt x := by
  unfold Format.sqrt
  exact of_canon k (fun d => (d.root (k.format.fractionBits + 2)).map k.format.write) (fun _ _ _ _ => rfl) x

theorem root_notNaN {n : Nat} {x d : Datum} (h : x.root n = some d) : d.isNaN = false := by
  unfold Datum.root at h
  split at h
  · cases h
  · split at h <;> cases h
    rfl
  · split at h
    · cases h; rfl
    · split at h
      · cases h
      · cases h; rfl

theorem sqrt_sound {P : Program} (J : Im) (μ : Mu) (vs : List V) (gs : Array Value) (w : World) (v : V) (hr : Rvs J μ vs gs) (hv : primSqrt vs = some v) :
    ∃ gv w', (Extern.MathSqrt.sqrt gs).run P w = .ok gv w' ∧ w'.hoo = w.hoo ∧ Rv J μ v gv := by
  unfold primSqrt at hv
  split at hv
  · rename_i x
    cases hv
    obtain ⟨g, rfl, hg⟩ := hr.one
    cases hg with
    | flt e =>
      rename_i b
      subst e
      unfold fsqrt
      rw [sqrt_canon]
      have hrun : (Extern.MathSqrt.sqrt #[.float .f64 b]).run P w = (match FloatKind.f64.format.sqrt b with
        | some r => pure (.float .f64 r)
        | none => do pure (.float .f64 (← choose (.nanBits .f64 b b))) : Sem Value).run P w := rfl
      rw [hrun]
      cases hs : FloatKind.f64.format.sqrt b with
      | some r => exact ⟨.float .f64 r, w, by simp, rfl, .flt (canon_of_not (map_write_not (k := .f64) (fun _ => root_notNaN) hs)).symm⟩
      | none => exact ⟨.float .f64 ((Question.nanBits .f64 b b).cut (w.tape w.drawn (.nanBits .f64 b b))), { w with drawn := w.drawn + 1 }, by simp [Question.forced], rfl, .flt (canon_of_nan (cut_nanBits .f64 b b _)).symm⟩
  · cases hv

theorem integral_notNaN {way : Toward} {d : Datum} (h : d.isNaN = false) : (d.integral way).isNaN = false := by
  cases d <;> simp_all [Datum.integral, Datum.isNaN]

theorem isNan_quiet (s : Bool) (t : Nat) : isNan .f64 (FloatKind.f64.encode (.nan s (FloatKind.f64.format.quiet t))) = true := by
  have e1 : FloatKind.f64.format.infRung = 9218868437227405312 := by decide +kernel
  have e2 : FloatKind.f64.format.signWeight = 9223372036854775808 := by decide +kernel
  have e3 : FloatKind.f64.format.binade = 4503599627370496 := by decide +kernel
  have e4 : FloatKind.f64.format.quiet t = t ||| 2251799813685248 := rfl
  have hq : 0 < (t ||| 2251799813685248) % 4503599627370496 := by
    have h1 : ((t ||| 2251799813685248) % 2 ^ 52).testBit 51 = true := by
      rw [Nat.testBit_mod_two_pow, Nat.testBit_or]
      have : Nat.testBit 2251799813685248 51 = true := by decide +kernel
      simp [this]
    have h2 : (4503599627370496 : Nat) = 2 ^ 52 := by decide
    rw [h2]
    rcases Nat.eq_zero_or_pos ((t ||| 2251799813685248) % 2 ^ 52) with h0 | h0
    · rw [h0] at h1; simp at h1
    · exact h0
  have hlt := Nat.mod_lt (t ||| 2251799813685248) (show 4503599627370496 > 0 by decide)
  rw [isNan_eq, e1, e2]
  unfold FloatKind.encode Format.write
  simp only [e1, e3, e4]
  have hw := read_word FloatKind.f64.format s (rung := 9218868437227405312 + (t ||| 2251799813685248) % 4503599627370496) (by rw [e2]; omega)
  rw [e2] at hw
  rw [hw]
  simp only [decide_eq_true_eq]
  omega

theorem int_sound {P : Program} (name : String) (way : Toward) (J : Im) (μ : Mu) (vs : List V) (gs : Array Value) (w : World) (v : V) (hr : Rvs J μ vs gs) (hv : primInt way vs = some v) :
    ∃ gv w', (Extern.MathFloor.toIntegral name way gs).run P w = .ok gv w' ∧ w'.hoo = w.hoo ∧ Rv J μ v gv := by
  unfold primInt at hv
  split at hv
  · rename_i x
    cases hv
    obtain ⟨g, rfl, hg⟩ := hr.one
    cases hg with
    | flt e =>
      rename_i b
      subst e
      unfold fint
      rw [isNan_canon]
      have hrun : (Extern.MathFloor.toIntegral name way #[.float .f64 b]).run P w = (match FloatKind.f64.decode b with
        | .nan s t =>
          if FloatKind.f64.format.quiet t = t then pure (.float .f64 b) else do
          let kept ← choose (.extern "math.Floor,Ceil,Trunc,RoundToEven.signallingNaN kept" 2)
          pure (.float .f64 (if kept == 1 then b else FloatKind.f64.encode (.nan s (FloatKind.f64.format.quiet t))))
        | d => pure (.float .f64 (FloatKind.f64.encode (d.integral way))) : Sem Value).run P w := rfl
      rw [hrun]
      cases hn : isNan .f64 b
      · rw [canon_of_not hn]
        have hd : (FloatKind.f64.decode b).isNaN = false := hn
        refine ⟨.float .f64 (FloatKind.f64.encode ((FloatKind.f64.decode b).integral way)), w, ?_, rfl, .flt ?_⟩
        · cases hb : FloatKind.f64.decode b with
          | nan s t => rw [hb] at hd; simp [Datum.isNaN] at hd
          | number s m e => simp
          | infinity s => simp
        · exact (canon_of_not (isNan_write .f64 _ (integral_notNaN hd))).symm
      · obtain ⟨s, t, hb⟩ := decode_canon_nan hn
        by_cases hq : FloatKind.f64.format.quiet t = t
        · exact ⟨.float .f64 b, w, by simp [hb, hq], rfl, .flt (canon_of_nan hn).symm⟩
        · by_cases hk : (Question.extern "math.Floor,Ceil,Trunc,RoundToEven.signallingNaN kept" 2).cut (w.tape w.drawn (.extern "math.Floor,Ceil,Trunc,RoundToEven.signallingNaN kept" 2)) = 1
          · refine ⟨.float .f64 b, { w with drawn := w.drawn + 1 }, ?_, rfl, .flt (canon_of_nan hn).symm⟩
            simp [hb, hq, Question.forced, hk]
          · refine ⟨.float .f64 (FloatKind.f64.encode (.nan s (FloatKind.f64.format.quiet t))), { w with drawn := w.drawn + 1 }, ?_, rfl, .flt (canon_of_nan (isNan_quiet s t)).symm⟩
            simp [hb, hq, Question.forced, hk]
  · cases hv

theorem bits32_sound {P : Program} (J : Im) (μ : Mu) (vs : List V) (gs : Array Value) (w : World) (v : V) (hr : Rvs J μ vs gs) (hv : primBits .f32 vs = some v) :
    ∃ gv w', (Extern.MathFloatBits.float32bits gs).run P w = .ok gv w' ∧ w'.hoo = w.hoo ∧ Rv J μ v gv := by
  unfold primBits at hv
  split at hv
  · rename_i x
    obtain ⟨g, rfl, hg⟩ := hr.one
    cases hg with
    | flt e =>
      rename_i b
      subst e
      rw [isNan_canon] at hv
      cases hn : isNan .f32 b
      · rw [hn, canon_of_not hn] at hv
        cases hv
        exact ⟨.int .u32 b, w, rfl, rfl, .int⟩
      · rw [hn] at hv; cases hv
  · rename_i h; cases h
  · cases hv

/-- The bits, whatever they are. -/
def primBitsAny (args : List V) : Option V :=
  match args with
  | [.flt .f32 _] => some .und
  | _ => none

theorem bitsAny_sound {P : Program} (J : Im) (μ : Mu) (vs : List V) (gs : Array Value) (w : World) (v : V) (hr : Rvs J μ vs gs) (hv : primBitsAny vs = some v) :
    ∃ gv w', (Extern.MathFloatBits.float32bits gs).run P w = .ok gv w' ∧ w'.hoo = w.hoo ∧ Rv J μ v gv := by
  unfold primBitsAny at hv
  split at hv
  · cases hv
    obtain ⟨g, rfl, hg⟩ := hr.one
    cases hg with
    | flt e => exact ⟨_, w, rfl, rfl, .und⟩
  · cases hv

theorem bits64_sound {P : Program} (J : Im) (μ : Mu) (vs : List V) (gs : Array Value) (w : World) (v : V) (hr : Rvs J μ vs gs) (hv : primBits .f64 vs = some v) :
    ∃ gv w', (Extern.MathFloatBits.float64bits gs).run P w = .ok gv w' ∧ w'.hoo = w.hoo ∧ Rv J μ v gv := by
  unfold primBits at hv
  split at hv
  · rename_i h; cases h
  · rename_i x
    obtain ⟨g, rfl, hg⟩ := hr.one
    cases hg with
    | flt e =>
      rename_i b
      subst e
      rw [isNan_canon] at hv
      cases hn : isNan .f64 b
      · rw [hn, canon_of_not hn] at hv
        cases hv
        exact ⟨.int .u64 b, w, rfl, rfl, .int⟩
      · rw [hn] at hv; cases hv
  · cases hv

theorem from32_sound {P : Program} (J : Im) (μ : Mu) (vs : List V) (gs : Array Value) (w : World) (v : V) (hr : Rvs J μ vs gs) (hv : primFrom .f32 vs = some v) :
    ∃ gv w', (Extern.MathFloatBits.float32frombits gs).run P w = .ok gv w' ∧ w'.hoo = w.hoo ∧ Rv J μ v gv := by
  unfold primFrom at hv
  split at hv
  · obtain ⟨g, rfl, hg⟩ := hr.one
    cases hv; cases hg
    exact ⟨.float .f32 (Int.toNat _), w, rfl, rfl, .flt rfl⟩
  · rename_i h; cases h
  · cases hv

theorem from64_sound {P : Program} (J : Im) (μ : Mu) (vs : List V) (gs : Array Value) (w : World) (v : V) (hr : Rvs J μ vs gs) (hv : primFrom .f64 vs = some v) :
    ∃ gv w', (Extern.MathFloatBits.float64frombits gs).run P w = .ok gv w' ∧ w'.hoo = w.hoo ∧ Rv J μ v gv := by
  unfold primFrom at hv
  split at hv
  · rename_i h; cases h
  · obtain ⟨g, rfl, hg⟩ := hr.one
    cases hv; cases hg
    exact ⟨.float .f64 (Int.toNat _), w, rfl, rfl, .flt rfl⟩
  · cases hv

section
variable {P : Program} {get : Get} {J : Im} {μ : Mu} {w : World}

theorem max2E_sound {x y v : V} {gx gy : Value} (h : max2E x y = some v) (hx : Rv J μ x gx) (hy : Rv J μ y gy) : ∃ g w', (Builtin.max2 gx gy).run P w = .ok g w' ∧ w'.hoo = w.hoo ∧ Rv J μ v g := by
  unfold max2E at h
  split at h
  · rename_i k a k' b
    cases hs : sameI k k'
    · rw [hs] at h; cases h
    · rw [hs] at h
      cases h; cases hx; cases hy
      refine ⟨.int k (if b > a then b else a), w, by simp [Builtin.max2], rfl, ?_⟩
      by_cases hc : b > a
      · simp only [hc, decide_true, cond_true, if_true]; exact .int
      · simp only [hc, decide_false, cond_false, if_false]; exact .int
  · rename_i k a k' b
    cases hs : sameF k k'
    · rw [hs] at h; cases h
    · rw [hs] at h
      have hk := sameF_eq hs
      subst hk
      cases hx with
      | flt ex =>
        cases hy with
        | flt ey =>
          rename_i p q
          subst ex; subst ey
          simp only [cond_true, Option.some.injEq] at h
          rw [order_canon] at h
          subst h
          cases ho : k.format.order p q with
          | none =>
            exact ⟨.float k ((Question.nanMinMax k true p q).cut (w.tape w.drawn (.nanMinMax k true p q))), { w with drawn := w.drawn + 1 }, by simp [Builtin.max2, ho, Question.forced], rfl, .flt (canon_of_nan (cut_nanMinMax k true p q _)).symm⟩
          | some o =>
            cases o with
            | lt => exact ⟨.float k q, w, by simp [Builtin.max2, ho], rfl, .flt rfl⟩
            | gt => exact ⟨.float k p, w, by simp [Builtin.max2, ho], rfl, .flt rfl⟩
            | eq =>
              have hn : isNan k p = false := by
                cases hn : isNan k p
                · rfl
                · obtain ⟨s, t, e⟩ := read_nan hn
                  unfold Format.order at ho
                  rw [e] at ho
                  simp [Datum.order] at ho
              rw [canon_of_not hn]
              refine ⟨.float k (if (k.decode p).neg then q else p), w, by simp [Builtin.max2, ho], rfl, ?_⟩
              cases hneg : (k.decode p).neg
              · simp only [cond_false, Bool.false_eq_true, if_false]; exact .flt (canon_of_not hn).symm
              · simp only [cond_true, if_true]; exact .flt rfl
  · cases h

theorem min2E_sound {x y v : V} {gx gy : Value} (h : min2E x y = some v) (hx : Rv J μ x gx) (hy : Rv J μ y gy) : ∃ g w', (Builtin.min2 gx gy).run P w = .ok g w' ∧ w'.hoo = w.hoo ∧ Rv J μ v g := by
  unfold min2E at h
  split at h
  · rename_i k a k' b
    cases hs : sameI k k'
    · rw [hs] at h; cases h
    · rw [hs] at h
      cases h; cases hx; cases hy
      refine ⟨.int k (if b < a then b else a), w, by simp [Builtin.min2], rfl, ?_⟩
      by_cases hc : b < a
      · simp only [hc, decide_true, cond_true, if_true]; exact .int
      · simp only [hc, decide_false, cond_false, if_false]; exact .int
  · cases h

theorem Rvs.two {v u : V} {gs : Array Value} (h : Rvs J μ [v, u] gs) : ∃ g g', gs = #[g, g'] ∧ Rv J μ v g ∧ Rv J μ u g' := by
  obtain ⟨h1, h2⟩ := h
  have h1' : gs.size = 2 := h1
  refine ⟨gs[0]'(by omega), gs[1]'(by omega), ?_, h2 0 v _ rfl (by simp [h1']), h2 1 u _ rfl (by simp [h1'])⟩
  apply Array.ext
  · simpa using h1'
  · intro i hi _
    have : i = 0 ∨ i = 1 := by omega
    rcases this with rfl | rfl <;> simp

theorem Rvs.at {vs : List V} {gs : Array Value} {j : Nat} {v : V} (h : Rvs J μ vs gs) (hv : vs[j]? = some v) : ∃ g, gs[j]? = some g ∧ Rv J μ v g := by
  obtain ⟨g, hg⟩ := some_of_size h.1 (lt_of_some hv)
  exact ⟨g, hg, h.2 j v g hv hg⟩

theorem builtinE_sound {b : Builtin} {ts : List TypeId} {args : List V} {gs : Array Value} {ty : TypeId} {consts : Array Bool} {nid : Nat} {r : V × Ups × Nat} (hI : Inv get J μ w) (h : builtinE P get nid b ts args = some r)
    (hr : Rvs J μ args gs) (hf : ∀ i, nid ≤ i → i < nid + r.2.2 → μ i = none) :
    ∃ g w', (builtin b ts.toArray ty consts gs).run P w = .ok (.value g) w' ∧ Good get J μ w nid r g w' := by
  unfold builtinE at h
  split at h
  · split at h
    · rename_i t tl x _
      split at h
      · rename_i v hv
        cases h
        obtain ⟨gx, hgx, hrx⟩ := Rvs.at hr (j := 0) (v := x) rfl
        obtain ⟨g, h1, h2⟩ := lenE_sound (P := P) (w := w) (ty := ty) (ts := (t :: tl).toArray) hv hrx (by simp) hgx
        exact ⟨g, w, by simp only [builtin, Sem.run_bind, h1]; rfl, Good.same hI h2 rfl⟩
      · cases h
    · cases h
  · split at h
    · rename_i t u tl d x _
      split at h
      · rename_i e' hu
        obtain ⟨gd, hgd, hrd⟩ := Rvs.at hr (j := 0) (v := d) rfl
        obtain ⟨gx, hgx, hrx⟩ := Rvs.at hr (j := 1) (v := x) rfl
        obtain ⟨g, w', h1, h2⟩ := appendE_sound (P := P) (ty := ty) (ts := (t :: u :: tl).toArray) hI h hrd hrx (by simp) (by simp) hgd hgx hu hf
        exact ⟨g, w', by simp only [builtin, Sem.run_bind, h1]; rfl, h2⟩
      · cases h
    · cases h
  · split at h
    · rename_i x y
      split at h
      · rename_i v hv
        cases h
        obtain ⟨g, g', rfl, hx, hy⟩ := hr.two
        obtain ⟨q, w', h1, h2, h3⟩ := max2E_sound (P := P) (w := w) hv hx hy
        exact ⟨q, w', by simp only [builtin, Sem.run_bind, Builtin.max_]; simp [h1], Good.same hI h3 h2⟩
      · cases h
    · cases h
  · split at h
    · rename_i x y
      split at h
      · rename_i v hv
        cases h
        obtain ⟨g, g', rfl, hx, hy⟩ := hr.two
        obtain ⟨q, w', h1, h2, h3⟩ := min2E_sound (P := P) (w := w) hv hx hy
        exact ⟨q, w', by simp only [builtin, Sem.run_bind, Builtin.min_]; simp [h1], Good.same hI h3 h2⟩
      · cases h
    · cases h
  · cases h
end
end Go.Ev
