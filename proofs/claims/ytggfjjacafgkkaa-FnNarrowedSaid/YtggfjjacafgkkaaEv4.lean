/-
  Memory: what loads, stores and allocations do to the invariant.
-/
import Derived.Test.YtggfjjacafgkkaaEv3
namespace Go.Ev

theorem addr_add (b o n : Nat) : Addr.add ⟨b, o, none⟩ n = ⟨b, o + n, none⟩ := by
  unfold Addr.add
  split <;> simp_all

theorem getAt_eq {α : Type} (l : List α) (n : Nat) : getAt l n = l[n]? := by
  induction l generalizing n with
  | nil => simp [getAt]
  | cons a l ih => cases n <;> simp [getAt, ih]

theorem upd_cons (k : Nat) (c : Option Cells) (r : Ups) (g : Get) (id : Nat) : upd ((k, c) :: r) g id = if k = id then c else upd r g id := by
  simp only [upd]
  cases hb : Nat.beq k id
  · rw [if_neg (fun e => by subst e; simp at hb)]; rfl
  · rw [if_pos (Nat.eq_of_beq_eq_true hb)]; rfl

theorem upd_nil (g : Get) : upd [] g = g := by funext id; rfl

theorem upd_append (a b : Ups) (g : Get) : upd (a ++ b) g = upd a (upd b g) := by
  induction a with
  | nil => funext id; rfl
  | cons x a ih => obtain ⟨k, c⟩ := x; funext id; simp only [List.cons_append, upd_cons, ih]

/-- The cells of a value, as the evaluator has them and as the model has them. -/
theorem rv_cells {J : Im} {μ : Mu} {v : V} {g : Value} {cs : Cells} (h : Rv J μ v g) (hc : cellsOf v = some cs) :
    g.cells.size = cs.length ∧ (∀ (j : Nat) g', g.cells[j]? = some g' → g'.oneCell' = true) ∧ ∀ (j : Nat) v' g', cs[j]? = some v' → g.cells[j]? = some g' → Rv J μ v' g' := by
  have leaf : ∀ {v : V} {g : Value}, Rv J μ v g → g.cells = #[g] → g.oneCell' = true → cellsOf v = some [v] → cellsOf v = some cs →
      g.cells.size = cs.length ∧ (∀ (j : Nat) g', g.cells[j]? = some g' → g'.oneCell' = true) ∧ ∀ (j : Nat) v' g', cs[j]? = some v' → g.cells[j]? = some g' → Rv J μ v' g' := by
    intro v g h hg ho h1 h2
    rw [h1] at h2
    cases h2
    rw [hg]
    refine ⟨rfl, fun j g' hg' => ?_, fun j v' g' hv hg' => ?_⟩
    · cases j with
      | zero => simp at hg'; subst hg'; exact ho
      | succ j => simp at hg'
    · cases j with
      | zero => simp at hv hg'; subst hv; subst hg'; exact h
      | succ j => simp at hv
  cases h with
  | agg hs ho hp => simp only [cellsOf, Option.some.injEq] at hc; subst hc; exact ⟨hs, ho, hp⟩
  | und => simp [cellsOf] at hc
  | tup _ _ => simp [cellsOf] at hc
  | bool => exact leaf .bool rfl rfl rfl hc
  | int => exact leaf .int rfl rfl rfl hc
  | flt h => exact leaf (.flt h) rfl rfl rfl hc
  | str => exact leaf .str rfl rfl rfl hc
  | sl0 => exact leaf .sl0 rfl rfl rfl hc
  | sl a b c d e f => exact leaf (.sl a b c d e f) rfl rfl rfl hc
  | nil => exact leaf .nil rfl rfl rfl hc
  | ip a b c d => exact leaf (.ip a b c d) rfl rfl rfl hc
  | mp a => exact leaf (.mp a) rfl rfl rfl hc
  | ms a b c => exact leaf (.ms a b c) rfl rfl rfl hc
  | np => exact leaf .np rfl rfl rfl hc
  | fn a b c d => exact leaf (.fn a b c d) rfl rfl rfl hc

theorem rv_ofLeaf {J : Im} {μ : Mu} (g : Value) : Rv J μ (ofLeaf g) g := by
  unfold ofLeaf
  split <;> first
    | exact .bool | exact .int | exact .flt rfl | exact .str | exact .np | exact .nil | exact .und

theorem rv_ofVal {J : Im} {μ : Mu} (g : Value) : Rv J μ (ofVal g) g := by
  unfold ofVal
  split
  · rename_i cs
    cases hb : cs.toList.all Value.oneCell'
    · exact .und
    · refine .agg (by simp) (fun j g hg => ?_) fun j v g hv hg => ?_
      · exact List.all_eq_true.1 hb g (List.mem_of_getElem? (i := j) (by simpa using hg))
      · simp only [List.getElem?_map, Array.getElem?_toList, hg, Option.map_some, Option.some.injEq] at hv
        subst hv
        exact rv_ofLeaf g
  · exact .und
  · exact rv_ofLeaf g

section
variable {P : Program} {get : Get} {J : Im} {μ : Mu} {w : World}

theorem run_typeInfo {t : TypeId} {i : TypeInfo} (h : P.info? t = some i) (w : World) : (typeInfo t).run P w = .ok i w := by
  simp [typeInfo, h]

theorem run_sizeOf {t : TypeId} {n : Nat} (h : sizeT P t = some n) (w : World) : (sizeOf t).run P w = .ok n w := by
  unfold sizeT at h
  split at h
  · rename_i i hi; cases h; simp [sizeOf, run_typeInfo hi]
  · cases h

theorem run_isAgg {t : TypeId} {b : Bool} (h : isAggT P t = some b) (w : World) : (isAgg t).run P w = .ok b w := by
  unfold isAggT at h
  split at h
  · rename_i f hu; cases h; simp [isAgg, run_underlying hu]
  · rename_i n e hu; cases h; simp [isAgg, run_underlying hu]
  · rename_i d h1 h2 hu
    cases h
    cases d <;> simp_all [isAgg, run_underlying hu]
  · cases h

/-- A load out of memory that is known. -/
theorem loadFrom_sound {t : TypeId} {cs : Cells} {off blk o : Nat} {v : V} (h : loadFrom P t cs off = some v)
    (hm : ∀ (j : Nat) v, cs[j]? = some v → ∃ g, w.cell? ⟨blk, o + j, none⟩ = some g ∧ g.oneCell' = true ∧ Rv J μ v g) :
    ∃ g, (loadVar t ⟨blk, o + off, none⟩).run P w = .ok g w ∧ Rv J μ v g := by
  unfold loadFrom at h
  split at h
  · rename_i ha
    split at h
    · rename_i n hn
      cases hle : Nat.ble (off + n) cs.length
      · rw [hle] at h; simp at h
      · rw [hle] at h
        simp only [cond_true, Option.some.injEq] at h
        have hle' : off + n ≤ cs.length := Nat.le_of_ble_eq_true hle
        let f : Nat → Value := fun j => (w.cell? ⟨blk, o + off + j, none⟩).getD undef
        have hf : ∀ j, j < n → w.cell? ⟨blk, o + off + j, none⟩ = some (f j) ∧ (f j).oneCell' = true ∧ ∃ v, cs[off + j]? = some v ∧ Rv J μ v (f j) := by
          intro j hj
          have hlt : off + j < cs.length := by omega
          obtain ⟨g, hg, ho, hr⟩ := hm (off + j) cs[off + j] (by simp [List.getElem?_eq_getElem hlt])
          have e : o + (off + j) = o + off + j := by omega
          rw [e] at hg
          have : f j = g := by simp [f, hg]
          rw [this]
          exact ⟨hg, ho, cs[off + j], by simp [List.getElem?_eq_getElem hlt], hr⟩
        refine ⟨.agg ((List.range n).map f).toArray, ?_, ?_⟩
        · have hl := run_loadCells (P := P) w ⟨blk, o + off, none⟩ n f (fun j hj => by rw [addr_add]; exact (hf j hj).1)
          simp [loadVar, run_isAgg ha, run_sizeOf hn, hl]
        · subst h
          have hjn : ∀ (j : Nat) g, ((List.range n).map f).toArray[j]? = some g → j < n ∧ f j = g := by
            intro j g hg
            have hj : j < n := by
              rcases Nat.lt_or_ge j n with h' | h'
              · exact h'
              · simp [h'] at hg
            simp only [List.getElem?_toArray, List.getElem?_map, List.getElem?_range hj, Option.map_some, Option.some.injEq] at hg
            exact ⟨hj, hg⟩
          refine .agg (by simp; omega) (fun j g hg => ?_) fun j v g hv hg => ?_
          · obtain ⟨hj, rfl⟩ := hjn j g hg
            exact (hf j hj).2.1
          · obtain ⟨hj, rfl⟩ := hjn j g hg
            obtain ⟨_, _, u, hu, hr⟩ := hf j hj
            rw [List.getElem?_take_of_lt hj, List.getElem?_drop, hu] at hv
            cases hv
            exact hr
    · cases h
  · rename_i ha
    rw [getAt_eq] at h
    obtain ⟨g, hg, _, hr⟩ := hm off v h
    exact ⟨g, by simp [loadVar, run_isAgg ha, hg], hr⟩
  · cases h

/-- Where an object lies. -/
theorem Inv.at {id : Nat} {cs : Cells} {l : Loc} (hI : Inv get J μ w) (hg : get id = some cs) (hl : μ id = some l) :
    ∃ gc elem, J l.blk = none ∧ w.heap[l.blk]? = some (.cells gc elem (0, 0)) ∧ gc.size = l.size ∧ l.base + cs.length ≤ l.size ∧ (∀ (j : Nat) g, gc[j]? = some g → g.oneCell' = true) ∧
      ∀ (j : Nat) v, cs[j]? = some v → ∃ g, gc[l.base + j]? = some g ∧ Rv J μ v g := by
  obtain ⟨l', gc, elem, h1, h2, h3, h4, h5, h6, h7⟩ := hI.ob id cs hg
  rw [hl] at h1
  cases h1
  exact ⟨gc, elem, h2, h3, h4, h5, h6, h7⟩

theorem loadE_sound {t : TypeId} {a v : V} {ga : Value} (hI : Inv get J μ w) (h : loadE P get t a = some v) (ha : Rv J μ a ga) :
    ∃ g, (Instr.loadAt t ga).run P w = .ok g w ∧ Rv J μ v g := by
  unfold loadE at h
  split at h
  · rename_i id off
    cases ha with
    | mp hl =>
      rename_i l
      split at h
      · rename_i cs hg
        obtain ⟨gc, elem, _, hh, _, _, ho, hc⟩ := hI.at hg hl
        obtain ⟨g, h1, h2⟩ := loadFrom_sound (J := J) (μ := μ) (w := w) (blk := l.blk) (o := l.base) h (fun j v hv => by
          obtain ⟨g, hg, hr⟩ := hc j v hv
          exact ⟨g, cell?_at hh hg, ho _ _ hg, hr⟩)
        exact ⟨g, by simp [Instr.loadAt, Instr.sureAddr, h1], h2⟩
      · cases h
  · rename_i e off
    cases ha with
    | ip hj h1 h2 h3 =>
      rename_i c blk o gs
      obtain ⟨elem, fz, hh⟩ := hI.im _ _ hj
      obtain ⟨g, e1, e2⟩ := loadFrom_sound (J := J) (μ := μ) (w := w) (blk := blk) (o := o) h (fun j v hv =>
        ⟨gs j, cell?_at hh (h1 j v hv), (h3 j v hv).1, (h2 j v hv).mono (Im.le_refl _) (noMu_le _)⟩)
      exact ⟨g, by simp [Instr.loadAt, Instr.sureAddr, e1], e2⟩
  · cases h

/-- An object of one's own is written. -/
theorem Inv.write {id : Nat} {cs cs' : Cells} {l : Loc} {w' : World} {gc' : Array Value} {elem : TypeId} (hI : Inv get J μ w) (hg : get id = some cs) (hl : μ id = some l)
    (hw : ∀ b, b ≠ l.blk → w'.heap[b]? = w.heap[b]?) (hs : w'.heap.size = w.heap.size) (hos : w'.os = w.os ∧ (w'.output, w'.tape) = (w.output, w.tape)) (hb : w'.heap[l.blk]? = some (.cells gc' elem (0, 0))) (hz : gc'.size = l.size) (hn : l.base + cs'.length ≤ l.size) (ho : ∀ (j : Nat) g, gc'[j]? = some g → g.oneCell' = true)
    (hc : ∀ (j : Nat) v, cs'[j]? = some v → ∃ g, gc'[l.base + j]? = some g ∧ Rv J μ v g) :
    Inv (upd [(id, some cs')] get) J μ w' ∧ Ext get J μ w (upd [(id, some cs')] get) J μ w' := by
  have hJ : J l.blk = none := by obtain ⟨_, _, h, _⟩ := hI.at hg hl; exact h
  refine ⟨⟨fun b c hj => ?_, fun i ds hi => ?_, fun i i' m m' h1 h2 h3 h4 h5 => ?_⟩, ⟨Nat.le_of_eq hs.symm, Mu.le_refl _, Im.le_refl _, fun _ _ h h' => (by rw [h] at h'; cases h'), fun b _ hno => ?_, fun b ho => ?_, hos.1, hos.2⟩⟩
  · have : b ≠ l.blk := fun e => by rw [e, hJ] at hj; cases hj
    rw [hw b this]
    exact hI.im b c hj
  · rw [upd_cons, upd_nil] at hi
    split at hi
    · rename_i e
      subst e
      cases hi
      exact ⟨l, gc', elem, hl, hJ, hb, hz, hn, ho, hc⟩
    · rename_i hne
      obtain ⟨m, gc, e, h1, h2, h3, h4, h5, h6, h7⟩ := hI.ob i ds hi
      have : m.blk ≠ l.blk := fun e' => hne (hI.sep id i l m (by rw [hg]; simp) (by rw [hi]; simp) hl h1 e'.symm)
      exact ⟨m, gc, e, h1, h2, (by rw [hw _ this]; exact h3), h4, h5, h6, h7⟩
  · have live : ∀ i, upd [(id, some cs')] get i ≠ none → get i ≠ none := by
      intro i hi
      rw [upd_cons, upd_nil] at hi
      split at hi
      · rename_i e; subst e; rw [hg]; simp
      · exact hi
    exact hI.sep i i' m m' (live i h1) (live i' h2) h3 h4 h5
  · exact hw b fun e => hno ⟨id, l, by rw [hg]; simp, hl, e.symm⟩
  · obtain ⟨i, m, h1, h2, h3⟩ := ho
    refine .inl ⟨i, m, ?_, h2, h3⟩
    rw [upd_cons, upd_nil] at h1
    split at h1
    · rename_i e; subst e; rw [hg]; simp
    · exact h1

def putMu (μ : Mu) (id : Nat) (l : Loc) : Mu := fun i => if i = id then some l else μ i

theorem putMu_le {μ : Mu} {id : Nat} {l : Loc} (h : μ id = none) : Mu.le μ (putMu μ id l) := fun i m hm => by
  unfold putMu
  split
  · rename_i e; subst e; rw [h] at hm; cases hm
  · exact hm

theorem Inv.lt {id : Nat} {cs : Cells} {l : Loc} (hI : Inv get J μ w) (hg : get id = some cs) (hl : μ id = some l) : l.blk < w.heap.size := by
  obtain ⟨_, _, _, h, _⟩ := hI.at hg hl
  rcases Nat.lt_or_ge l.blk w.heap.size with h' | h'
  · exact h'
  · rw [Array.getElem?_eq_none h'] at h; cases h

theorem Inv.im_lt {b : Nat} {c : Array Value} (hI : Inv get J μ w) (hj : J b = some c) : b < w.heap.size := by
  obtain ⟨_, _, h⟩ := hI.im b c hj
  rcases Nat.lt_or_ge b w.heap.size with h' | h'
  · exact h'
  · rw [Array.getElem?_eq_none h'] at h; cases h

/-- A new object. -/
theorem Inv.alloc {id : Nat} {cs : Cells} {gc : Array Value} {elem : TypeId} (hI : Inv get J μ w) (hf : μ id = none) (hn : cs.length ≤ gc.size) (ho : ∀ (j : Nat) g, gc[j]? = some g → g.oneCell' = true)
    (hc : ∀ (j : Nat) v, cs[j]? = some v → ∃ g, gc[j]? = some g ∧ Rv J μ v g) :
    Inv (upd [(id, some cs)] get) J (putMu μ id ⟨w.heap.size, 0, gc.size⟩) (w.alloc (.cells gc elem)) ∧
      Ext get J μ w (upd [(id, some cs)] get) J (putMu μ id ⟨w.heap.size, 0, gc.size⟩) (w.alloc (.cells gc elem)) := by
  have hle := putMu_le (l := ⟨w.heap.size, 0, gc.size⟩) hf
  have old : ∀ b, b < w.heap.size → (w.alloc (.cells gc elem)).heap[b]? = w.heap[b]? := fun b hb => by
    simp only [World.alloc, Array.getElem?_push, if_neg (Nat.ne_of_lt hb)]
  have new : (w.alloc (.cells gc elem)).heap[w.heap.size]? = some (.cells gc elem (0, 0)) := by simp only [World.alloc, Array.getElem?_push, if_true]
  have live : ∀ i, i ≠ id → upd [(id, some cs)] get i = get i := fun i hi => by
    rw [upd_cons, upd_nil, if_neg (fun e => hi e.symm)]
  refine ⟨⟨fun b c hj => ?_, fun i ds hi => ?_, fun i i' m m' h1 h2 h3 h4 h5 => ?_⟩, ⟨by simp, hle, Im.le_refl _, fun _ _ h h' => (by rw [h] at h'; cases h'), fun b hb _ => old b hb, fun b ho => ?_, rfl, rfl⟩⟩
  · rw [old b (hI.im_lt hj)]
    exact hI.im b c hj
  · by_cases e : i = id
    · subst e
      rw [upd_cons, if_pos rfl] at hi
      cases hi
      refine ⟨⟨w.heap.size, 0, gc.size⟩, gc, elem, by simp [putMu], ?_, new, rfl, by simpa using hn, ho, fun j v hv => ?_⟩
      · cases hj : J w.heap.size with
        | none => rfl
        | some c => exact absurd (hI.im_lt hj) (Nat.lt_irrefl _)
      · obtain ⟨g, h1, h2⟩ := hc j v hv
        exact ⟨g, by simpa using h1, h2.mono (Im.le_refl _) hle⟩
    · rw [live i e] at hi
      obtain ⟨m, gc', e', h1, h2, h3, h4, h5, h6', h6⟩ := hI.ob i ds hi
      refine ⟨m, gc', e', by simp [putMu, e, h1], h2, (by rw [old _ (hI.lt hi h1)]; exact h3), h4, h5, h6', fun j v hv => ?_⟩
      obtain ⟨g, h7, h8⟩ := h6 j v hv
      exact ⟨g, h7, h8.mono (Im.le_refl _) hle⟩
  · have key : ∀ i m, i ≠ id → upd [(id, some cs)] get i ≠ none → putMu μ id ⟨w.heap.size, 0, gc.size⟩ i = some m → get i ≠ none ∧ μ i = some m ∧ m.blk < w.heap.size := by
      intro i m hi hl hm
      rw [live i hi] at hl
      simp only [putMu, if_neg hi] at hm
      cases hg : get i with
      | none => exact absurd hg hl
      | some ds => exact ⟨by simp, hm, hI.lt hg hm⟩
    by_cases e : i = id
    · by_cases e' : i' = id
      · rw [e, e']
      · obtain ⟨_, _, h⟩ := key i' m' e' h2 h4
        subst e
        simp [putMu] at h3
        subst h3
        dsimp only at h5
        omega
    · by_cases e' : i' = id
      · obtain ⟨_, _, h⟩ := key i m e h1 h3
        subst e'
        simp [putMu] at h4
        subst h4
        dsimp only at h5
        omega
      · obtain ⟨a1, a2, _⟩ := key i m e h1 h3
        obtain ⟨b1, b2, _⟩ := key i' m' e' h2 h4
        exact hI.sep i i' m m' a1 b1 a2 b2 h5
  · obtain ⟨i, m, h1, h2, h3⟩ := ho
    by_cases e : i = id
    · subst e
      simp [putMu] at h2
      subst h2
      exact .inr (Nat.le_of_eq h3)
    · rw [live i e] at h1
      simp only [putMu, if_neg e] at h2
      exact .inl ⟨i, m, h1, h2, h3⟩

/-- An object is forgotten. -/
theorem Inv.kill {id : Nat} (hI : Inv get J μ w) : Inv (upd [(id, none)] get) J μ w ∧ Ext get J μ w (upd [(id, none)] get) J μ w := by
  have sub : ∀ i c, upd [(id, none)] get i = some c → get i = some c := by
    intro i c h
    rw [upd_cons, upd_nil] at h
    split at h
    · cases h
    · exact h
  have sub' : ∀ i, upd [(id, none)] get i ≠ none → get i ≠ none := by
    intro i h h'
    cases hc : upd [(id, none)] get i with
    | none => exact h hc
    | some c => rw [sub i c hc] at h'; cases h'
  exact ⟨⟨hI.im, fun i ds hi => hI.ob i ds (sub i ds hi), fun i i' m m' h1 h2 h3 h4 h5 => hI.sep i i' m m' (sub' i h1) (sub' i' h2) h3 h4 h5⟩,
    ⟨Nat.le_refl _, Mu.le_refl _, Im.le_refl _, fun _ _ h h' => (by rw [h] at h'; cases h'), fun _ _ _ => rfl, fun b ⟨i, m, h1, h2, h3⟩ => .inl ⟨i, m, sub' i h1, h2, h3⟩, rfl, rfl⟩⟩
end
end Go.Ev
