/-
  The abstract values of the evaluator, how they stand to the model's values, and the state's invariant: own objects by numbers, immutable memory.
-/
import Derived.Orders
import Derived.WalkKit
import Derived.WalkLawsBesides
import Derived.Laws.Externs
import Derived.Laws.FloatArith
namespace Go.Ev

/-- A value as the evaluator sees it. Floats: one not-a-number a kind. 'sl': an immutable slice by its elements (each its cells, so many); 'nil': a slice of length and capacity 0; 'ip': an address in immutable memory, what lies there; 'mp', 'ms': an address in, a slice of, an object of one's own; 'und': whatever. -/
inductive V where
  | bool (x : Bool)
  | int (k : IntKind) (n : Int)
  | flt (k : FloatKind) (x : Nat)
  | str (s : ByteArray)
  | agg (cs : List V)
  | tup (vs : List V)
  | sl (sz : Nat) (es : List (List V))
  | nil
  | ip (e : List V) (off : Nat)
  | mp (id off : Nat)
  | ms (id off len sz : Nat)
  | np
  | fn (f : FuncId) (first cap : List V)
  | und
  deriving Inhabited

abbrev Cells := List V

/-- No reference into an object of one's own; and one cell. -/
def noRefB : V → Bool
  | .bool _ | .int _ _ | .flt _ _ | .str _ | .sl _ _ | .nil | .ip _ _ | .np | .und => true
  | .fn _ [] [] => true
  | _ => false

/-- The one not-a-number of a kind. -/
def qnan : FloatKind → Nat
  | .f32 => 2143289344
  | .f64 => 9221120237041090561

def isNan (k : FloatKind) (b : Nat) : Bool := (k.format.read b).isNaN

def canon (k : FloatKind) (b : Nat) : Nat := bif isNan k b then qnan k else b

/-- Where an object of one's own lies: its block, where in it, the block's size. -/
structure Loc where
  blk : Nat
  base : Nat
  size : Nat

abbrev Mu := Nat → Option Loc
abbrev Im := Nat → Option (Array Value)
def noMu : Mu := fun _ => none

inductive Rv (J : Im) : Mu → V → Value → Prop where
  | bool {μ x} : Rv J μ (.bool x) (.bool x)
  | int {μ k n} : Rv J μ (.int k n) (.int k n)
  | flt {μ k x b} (h : x = canon k b) : Rv J μ (.flt k x) (.float k b)
  | str {μ s} : Rv J μ (.str s) (.string s)
  | agg {μ cs} {gs : Array Value} (hs : gs.size = cs.length) (ho : ∀ (j : Nat) g, gs[j]? = some g → g.oneCell' = true) (h : ∀ (j : Nat) v g, cs[j]? = some v → gs[j]? = some g → Rv J μ v g) : Rv J μ (.agg cs) (.agg gs)
  | tup {μ cs} {gs : Array Value} (hs : gs.size = cs.length) (h : ∀ (j : Nat) v g, cs[j]? = some v → gs[j]? = some g → Rv J μ v g) : Rv J μ (.tup cs) (.tuple gs)
  | sl0 {μ a c sz} : Rv J μ (.sl sz []) (.slice a 0 c)
  | sl {μ es cap c} {blk off sz : Nat} {gs : Nat → Nat → Value} (hc : es.length ≤ cap) (hj : J blk = some c) (hz : ∀ e ∈ es, e.length = sz)
      (h1 : ∀ (i j : Nat) e v, es[i]? = some e → e[j]? = some v → c[off + i * sz + j]? = some (gs i j))
      (h2 : ∀ (i j : Nat) e v, es[i]? = some e → e[j]? = some v → Rv J noMu v (gs i j)) (h3 : ∀ (i j : Nat) e v, es[i]? = some e → e[j]? = some v → (gs i j).oneCell' = true ∧ noRefB v = true) : Rv J μ (.sl sz es) (.slice (some ⟨blk, off, none⟩) es.length cap)
  | nil {μ a} : Rv J μ .nil (.slice a 0 0)
  | ip {μ e off c} {blk o : Nat} {gs : Nat → Value} (hj : J blk = some c)
      (h1 : ∀ (j : Nat) v, e[j]? = some v → c[o + j]? = some (gs j)) (h2 : ∀ (j : Nat) v, e[j]? = some v → Rv J noMu v (gs j)) (h3 : ∀ (j : Nat) v, e[j]? = some v → (gs j).oneCell' = true ∧ noRefB v = true) : Rv J μ (.ip e off) (.pointer (some ⟨blk, o + off, none⟩))
  | mp {μ id off l} (h : μ id = some l) : Rv J μ (.mp id off) (.pointer (some ⟨l.blk, l.base + off, none⟩))
  | ms {μ id off len sz l cap} (h : μ id = some l) (hc : len ≤ cap) (hl : l.base + off + cap * sz ≤ l.size) : Rv J μ (.ms id off len sz) (.slice (some ⟨l.blk, l.base + off, none⟩) len cap)
  | np {μ} : Rv J μ .np (.pointer none)
  | fn {μ f first cap} {g1 g2 : Array Value} (hs1 : g1.size = first.length) (hs2 : g2.size = cap.length)
      (h1 : ∀ (j : Nat) v g, first[j]? = some v → g1[j]? = some g → Rv J μ v g) (h2 : ∀ (j : Nat) v g, cap[j]? = some v → g2[j]? = some g → Rv J μ v g) : Rv J μ (.fn f first cap) (.func (.func f) g1 g2)
  | und {μ g} : Rv J μ .und g

def Im.le (J J' : Im) : Prop := ∀ b c, J b = some c → J' b = some c
def Mu.le (μ μ' : Mu) : Prop := ∀ i l, μ i = some l → μ' i = some l

theorem Im.le_refl (J : Im) : Im.le J J := fun _ _ h => h
theorem Im.le_trans {J J' J'' : Im} (h : Im.le J J') (h' : Im.le J' J'') : Im.le J J'' := fun b c hb => h' b c (h b c hb)
theorem Mu.le_refl (μ : Mu) : Mu.le μ μ := fun _ _ h => h
theorem Mu.le_trans {μ μ' μ'' : Mu} (h : Mu.le μ μ') (h' : Mu.le μ' μ'') : Mu.le μ μ'' := fun b c hb => h' b c (h b c hb)
theorem noMu_le (μ : Mu) : Mu.le noMu μ := fun i l h => by simp [noMu] at h

theorem Rv.mono {J J' : Im} {μ μ' : Mu} {v : V} {g : Value} (h : Rv J μ v g) (hJ : Im.le J J') (hμ : Mu.le μ μ') : Rv J' μ' v g := by
  induction h generalizing μ' with
  | bool => exact .bool
  | int => exact .int
  | flt h => exact .flt h
  | str => exact .str
  | agg hs ho _ ih => exact .agg hs ho fun j v g h1 h2 => ih j v g h1 h2 hμ
  | tup hs _ ih => exact .tup hs fun j v g h1 h2 => ih j v g h1 h2 hμ
  | sl0 => exact .sl0
  | sl hc hj hz h1 _ h3 ih => exact .sl hc (hJ _ _ hj) hz h1 (fun i j e v he hv => ih i j e v he hv (Mu.le_refl _)) h3
  | nil => exact .nil
  | ip hj h1 _ h3 ih => exact .ip (hJ _ _ hj) h1 (fun j v hv => ih j v hv (Mu.le_refl _)) h3
  | mp h => exact .mp (hμ _ _ h)
  | ms h hc hl => exact .ms (hμ _ _ h) hc hl
  | np => exact .np
  | fn hs1 hs2 _ _ ih1 ih2 => exact .fn hs1 hs2 (fun j v g a b => ih1 j v g a b hμ) (fun j v g a b => ih2 j v g a b hμ)
  | und => exact .und

/-- Memory, the system, what has been put out. -/
def _root_.Go.World.hoo (w : World) : Array Obj × Os × Array (Nat × ByteArray) × (Nat → Question → Nat) := (w.heap, w.os, w.output, w.tape)
theorem hoo_heap {w w' : World} (h : w'.hoo = w.hoo) : w'.heap = w.heap := congrArg (·.1) h
theorem hoo_os {w w' : World} (h : w'.hoo = w.hoo) : w'.os = w.os := congrArg (·.2.1) h
theorem hoo_out {w w' : World} (h : w'.hoo = w.hoo) : (w'.output, w'.tape) = (w.output, w.tape) := congrArg (·.2.2) h

/-- What an object holds, number by number. -/
abbrev Get := Nat → Option Cells

structure Inv (get : Get) (J : Im) (μ : Mu) (w : World) : Prop where
  im : ∀ b c, J b = some c → ∃ elem fz, w.heap[b]? = some (.cells c elem fz)
  ob : ∀ id cs, get id = some cs → ∃ l gc elem, μ id = some l ∧ J l.blk = none ∧ w.heap[l.blk]? = some (.cells gc elem (0, 0)) ∧ gc.size = l.size ∧ l.base + cs.length ≤ l.size ∧ (∀ (j : Nat) g, gc[j]? = some g → g.oneCell' = true) ∧
    ∀ (j : Nat) v, cs[j]? = some v → ∃ g, gc[l.base + j]? = some g ∧ Rv J μ v g
  sep : ∀ i i' l l', get i ≠ none → get i' ≠ none → μ i = some l → μ i' = some l' → l.blk = l'.blk → i = i'

/-- The blocks of the objects that live. -/
def Own (get : Get) (μ : Mu) (b : Nat) : Prop := ∃ id l, get id ≠ none ∧ μ id = some l ∧ l.blk = b

/-- From one state to a later one. -/
structure Ext (get : Get) (J : Im) (μ : Mu) (w : World) (get' : Get) (J' : Im) (μ' : Mu) (w' : World) : Prop where
  size : w.heap.size ≤ w'.heap.size
  mu : Mu.le μ μ'
  im : Im.le J J'
  imNew : ∀ b c, J' b = some c → J b = none → w.heap.size ≤ b
  frame : ∀ b, b < w.heap.size → ¬ Own get μ b → w'.heap[b]? = w.heap[b]?
  own : ∀ b, Own get' μ' b → Own get μ b ∨ w.heap.size ≤ b
  os : w'.os = w.os
  out : (w'.output, w'.tape) = (w.output, w.tape)

theorem Ext.refl (get : Get) (J : Im) (μ : Mu) (w : World) : Ext get J μ w get J μ w :=
  ⟨Nat.le_refl _, Mu.le_refl _, Im.le_refl _, fun _ _ h h' => (by rw [h] at h'; cases h'), fun _ _ _ => rfl, fun _ h => Or.inl h, rfl, rfl⟩

theorem Ext.trans {get get' get'' : Get} {J J' J'' : Im} {μ μ' μ'' : Mu} {w w' w'' : World} (h : Ext get J μ w get' J' μ' w') (h' : Ext get' J' μ' w' get'' J'' μ'' w'') : Ext get J μ w get'' J'' μ'' w'' := by
  refine ⟨Nat.le_trans h.size h'.size, Mu.le_trans h.mu h'.mu, Im.le_trans h.im h'.im, fun b c hb hn => ?_, fun b hb hn => ?_, fun b hb => ?_, h'.os.trans h.os, h'.out.trans h.out⟩
  · cases hj : J' b with
    | none => exact Nat.le_trans h.size (h'.imNew b c hb hj)
    | some c' => exact h.imNew b c' hj hn
  · rw [h'.frame b (Nat.lt_of_lt_of_le hb h.size) ?_, h.frame b hb hn]
    intro ho
    rcases h.own b ho with h1 | h1
    · exact hn h1
    · omega
  · rcases h'.own b hb with h1 | h1
    · exact h.own b h1
    · exact .inr (Nat.le_trans h.size h1)

theorem cell?_at {w : World} {b off : Nat} {c : Array Value} {elem : TypeId} {fz : Nat × Nat} {g : Value} (h : w.heap[b]? = some (.cells c elem fz)) (hg : c[off]? = some g) : w.cell? ⟨b, off, none⟩ = some g := by
  simp [World.cell?, h, hg]

/-- A draw more. -/
theorem Inv.heap {get : Get} {J : Im} {μ : Mu} {w w' : World} (h : Inv get J μ w) (hw : w'.hoo = w.hoo) : Inv get J μ w' :=
  ⟨fun b c hb => (by rw [hoo_heap hw]; exact h.im b c hb), fun id cs hi => (by rw [hoo_heap hw]; exact h.ob id cs hi), h.sep⟩

theorem Ext.heap {get : Get} {J : Im} {μ : Mu} {w w' : World} (hw : w'.hoo = w.hoo) : Ext get J μ w get J μ w' :=
  ⟨(by rw [hoo_heap hw]; exact Nat.le_refl _), Mu.le_refl _, Im.le_refl _, fun _ _ h h' => (by rw [h] at h'; cases h'), fun _ _ _ => (by rw [hoo_heap hw]), fun _ h => Or.inl h, hoo_os hw, hoo_out hw⟩

end Go.Ev
