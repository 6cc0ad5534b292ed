/-
  Each operation by itself: what the evaluator says of it holds of the model.
-/
import Derived.Test.YtggfjjacafgkkaaEv4
namespace Go.Ev

/-- The value that an operation yields, and the state behind it. -/
def Good (get : Get) (J : Im) (μ : Mu) (w : World) (nid : Nat) (r : V × Ups × Nat) (g : Value) (w' : World) : Prop :=
  ∃ J' μ', Rv J' μ' r.1 g ∧ Inv (upd r.2.1 get) J' μ' w' ∧ Ext get J μ w (upd r.2.1 get) J' μ' w' ∧ ∀ i, (i < nid ∨ nid + r.2.2 ≤ i) → μ' i = μ i

theorem setCells_len (cs : Cells) (off : Nat) (vs : Cells) : (setCells cs off vs).length = cs.length := by
  have ho : ∀ (cs vs : Cells), (over cs vs).length = cs.length := by
    intro cs
    induction cs with
    | nil => intro vs; cases vs <;> rfl
    | cons c cs ih => intro vs; cases vs <;> simp [over, ih]
  induction cs generalizing off with
  | nil => cases off <;> simp [setCells, ho]
  | cons c cs ih => cases off <;> simp [setCells, ho, ih]

theorem over_get (cs vs : Cells) (j : Nat) (h : vs.length ≤ cs.length) : (over cs vs)[j]? = if j < vs.length then vs[j]? else cs[j]? := by
  induction cs generalizing vs j with
  | nil => cases vs <;> simp_all [over]
  | cons c cs ih =>
    cases vs with
    | nil => simp [over]
    | cons v vs =>
      simp only [over]
      cases j with
      | zero => simp
      | succ j => simp only [List.getElem?_cons_succ, List.length_cons, Nat.add_lt_add_iff_right]; exact ih vs j (by simpa using h)

theorem setCells_get (cs : Cells) (off : Nat) (vs : Cells) (j : Nat) (h : off + vs.length ≤ cs.length) :
    (setCells cs off vs)[j]? = if off ≤ j ∧ j < off + vs.length then vs[j - off]? else cs[j]? := by
  induction cs generalizing off j with
  | nil =>
    have h1 : off = 0 := by simp at h; omega
    have h2 : vs = [] := by
      cases vs with
      | nil => rfl
      | cons _ _ => simp at h
    subst h1; subst h2
    simp [setCells, over]
  | cons c cs ih =>
    cases off with
    | zero => simp only [setCells]; rw [over_get _ _ _ (by simpa using h)]; simp
    | succ n =>
      simp only [setCells]
      cases j with
      | zero => simp
      | succ j =>
        simp only [List.getElem?_cons_succ]
        rw [ih n j (by simp at h; omega)]
        have e : j + 1 - (n + 1) = j - n := by omega
        rw [e]
        by_cases hc : n ≤ j ∧ j < n + vs.length
        · rw [if_pos hc, if_pos ⟨by omega, by omega⟩]
        · rw [if_neg hc, if_neg (by omega)]

theorem foldset_get (l : List Value) (off : Nat) : ∀ (k : Nat) (cs : Array Value) (m : Nat), off + k + l.length ≤ cs.size →
    ((l.zipIdx k).foldl (fun cs (x : Value × Nat) => cs.setIfInBounds (off + x.2) x.1) cs).size = cs.size ∧
    ((l.zipIdx k).foldl (fun cs (x : Value × Nat) => cs.setIfInBounds (off + x.2) x.1) cs)[m]? = if off + k ≤ m ∧ m < off + k + l.length then l[m - (off + k)]? else cs[m]? := by
  induction l with
  | nil => intro k cs m _; simp; omega
  | cons a l ih =>
    intro k cs m h
    simp only [List.length_cons] at h
    simp only [List.zipIdx_cons, List.foldl_cons]
    obtain ⟨h1, h2⟩ := ih (k + 1) (cs.setIfInBounds (off + k) a) m (by simp; omega)
    refine ⟨by simpa using h1, ?_⟩
    rw [h2, Array.getElem?_setIfInBounds]
    by_cases e : m = off + k
    · subst e
      rw [if_neg (by omega), if_pos rfl, if_pos (by omega), if_pos (by simp)]
      simp
    · rw [if_neg (show ¬ (off + k = m) from fun h => e h.symm)]
      by_cases hc : off + (k + 1) ≤ m ∧ m < off + (k + 1) + l.length
      · rw [if_pos hc, if_pos (by simp; omega)]
        have e' : m - (off + k) = m - (off + (k + 1)) + 1 := by omega
        rw [e', List.getElem?_cons_succ]
      · rw [if_neg hc, if_neg (by simp; omega)]

section
variable {P : Program} {get : Get} {J : Im} {μ : Mu} {w : World}

theorem Good.same {nid : Nat} {v : V} {g : Value} (hI : Inv get J μ w) (h : Rv J μ v g) {w' : World} (hw : w'.hoo = w.hoo) : Good get J μ w nid (v, [], 0) g w' :=
  ⟨J, μ, h, by rw [upd_nil]; exact hI.heap hw, by rw [upd_nil]; exact Ext.heap hw, fun _ _ => rfl⟩

theorem Good.new {nid : Nat} {cs : Cells} {gc : Array Value} {elem : TypeId} {v : V} {g : Value} {w1 : World} (hI : Inv get J μ w) (hw : w1.hoo = w.hoo) (hf : μ nid = none) (hn : cs.length ≤ gc.size) (ho : ∀ (j : Nat) g, gc[j]? = some g → g.oneCell' = true)
    (hc : ∀ (j : Nat) v, cs[j]? = some v → ∃ g, gc[j]? = some g ∧ Rv J μ v g)
    (hv : Rv J (putMu μ nid ⟨w.heap.size, 0, gc.size⟩) v g) : Good get J μ w nid (v, [(nid, some cs)], 1) g (w1.alloc (.cells gc elem)) := by
  have hI1 := hI.heap hw
  have hE1 : Ext get J μ w get J μ w1 := Ext.heap hw
  obtain ⟨a, b⟩ := hI1.alloc (elem := elem) hf hn ho hc
  rw [← show w1.heap.size = w.heap.size by rw [hoo_heap hw]] at hv
  refine ⟨J, _, hv, a, hE1.trans b, fun i hi => ?_⟩
  simp only [putMu]
  rw [if_neg (by dsimp only at hi; omega)]

theorem rv_zero {t : TypeId} {z : Cells} (h : zeroCellsT P t = some z) : ∃ i zv, P.info? t = some i ∧ i.zero = some zv ∧ zv.cells.size = z.length ∧ (∀ (j : Nat) g, zv.cells[j]? = some g → g.oneCell' = true) ∧
    ∀ (j : Nat) v g, z[j]? = some v → zv.cells[j]? = some g → Rv J μ v g := by
  unfold zeroCellsT at h
  split at h
  · rename_i i hi
    split at h
    · rename_i zv hz
      obtain ⟨h1, ho, h2⟩ := rv_cells (J := J) (μ := μ) (rv_ofVal zv) h
      exact ⟨i, zv, hi, hz, h1, ho, h2⟩
    · cases h
  · cases h

theorem run_zeroValue {t : TypeId} {i : TypeInfo} {z : Value} (hi : P.info? t = some i) (hz : i.zero = some z) (w : World) : (zeroValue t).run P w = .ok z w := by
  simp [zeroValue, run_typeInfo hi, hz]

theorem some_of_size {α : Type} {a : Array α} {j n : Nat} (h : a.size = n) (hj : j < n) : ∃ x, a[j]? = some x := ⟨a[j]'(by omega), by simp [h, hj]⟩

theorem lt_of_some {α : Type} {l : List α} {j : Nat} {x : α} (h : l[j]? = some x) : j < l.length := by
  rcases Nat.lt_or_ge j l.length with h' | h'
  · exact h'
  · rw [List.getElem?_eq_none h'] at h; cases h

theorem allocE_sound {t : TypeId} {z : Cells} {nid : Nat} (hI : Inv get J μ w) (h : zeroCellsT P t = some z) (hf : μ nid = none) :
    ∃ g w', (Instr.alloc t true (.tuple #[])).run P w = .ok g w' ∧ Good get J μ w nid (.mp nid 0, [(nid, some z)], 1) g w' := by
  obtain ⟨i, zv, hi, hz, h1, ho, h2⟩ := rv_zero (J := J) (μ := μ) h
  refine ⟨.pointer (some ⟨w.heap.size, 0, none⟩), w.alloc (.cells zv.cells t), ?_, ?_⟩
  · simp [Instr.alloc, run_zeroValue hi hz, newVar, newRow]
  · refine Good.new hI rfl hf (Nat.le_of_eq h1.symm) ho (fun j v hv => ?_) ?_
    · obtain ⟨g, hg⟩ := some_of_size h1 (lt_of_some hv)
      exact ⟨g, hg, h2 j v g hv hg⟩
    · exact .mp (l := ⟨w.heap.size, 0, zv.cells.size⟩) (by simp [putMu])

theorem boxE_sound {t : TypeId} {v : V} {gv : Value} {cs : Cells} {nid : Nat} (hI : Inv get J μ w) (hv : Rv J μ v gv) (h : cellsOf v = some cs) (hf : μ nid = none) :
    ∃ g w', (Instr.box t gv).run P w = .ok g w' ∧ Good get J μ w nid (.mp nid 0, [(nid, some cs)], 1) g w' := by
  obtain ⟨h1, ho, h2⟩ := rv_cells hv h
  refine ⟨.pointer (some ⟨w.heap.size, 0, none⟩), w.alloc (.cells gv.cells t), ?_, ?_⟩
  · simp [Instr.box, newVar, newRow]
  · refine Good.new hI rfl hf (Nat.le_of_eq h1.symm) ho (fun j v hv => ?_) ?_
    · obtain ⟨g, hg⟩ := some_of_size h1 (lt_of_some hv)
      exact ⟨g, hg, h2 j v g hv hg⟩
    · exact .mp (l := ⟨w.heap.size, 0, gv.cells.size⟩) (by simp [putMu])

/-- Parts that are put into cells. -/
theorem fill_sound {place : Nat → Option (Nat × Nat)} : ∀ (parts : List (Nat × V)) (gparts : List (Nat × Value)) (cells : Cells) (gcells : Array Value) (out : Cells),
    gcells.size = cells.length → (∀ (j : Nat) g, gcells[j]? = some g → g.oneCell' = true) → (∀ (j : Nat) v g, cells[j]? = some v → gcells[j]? = some g → Rv J μ v g) →
    parts.length = gparts.length → (∀ (j : Nat) p q, parts[j]? = some p → gparts[j]? = some q → p.1 = q.1 ∧ Rv J μ p.2 q.2) →
    fillE place cells parts = some out →
    ∃ gout, Instr.fill place gcells gparts = some gout ∧ gout.size = out.length ∧ (∀ (j : Nat) g, gout[j]? = some g → g.oneCell' = true) ∧ ∀ (j : Nat) v g, out[j]? = some v → gout[j]? = some g → Rv J μ v g
  | [], [], cells, gcells, out, hs, ho, hr, _, _, h => by
    simp only [fillE, Option.some.injEq] at h
    subst h
    exact ⟨gcells, rfl, hs, ho, hr⟩
  | [], _ :: _, _, _, _, _, _, _, hl, _, _ => by simp at hl
  | _ :: _, [], _, _, _, _, _, _, hl, _, _ => by simp at hl
  | (i, v) :: parts, (i', g) :: gparts, cells, gcells, out, hs, ho, hr, hl, hp, h => by
    obtain ⟨e, hv⟩ := hp 0 _ _ rfl rfl
    dsimp only at e hv
    subst e
    simp only [fillE] at h
    cases hpl : place i with
    | none => rw [hpl] at h; cases h
    | some os =>
      obtain ⟨off, size⟩ := os
      rw [hpl] at h
      simp only at h
      cases hc : cellsOf v with
      | none => rw [hc] at h; cases h
      | some vs =>
        rw [hc] at h
        simp only at h
        cases hb : (Nat.beq vs.length size && Nat.ble (off + size) cells.length)
        · rw [hb] at h; cases h
        · rw [hb] at h
          simp only [cond_true] at h
          rw [Bool.and_eq_true] at hb
          have hz : vs.length = size := Nat.eq_of_beq_eq_true hb.1
          have hle : off + size ≤ cells.length := Nat.le_of_ble_eq_true hb.2
          obtain ⟨h1, ho', h2⟩ := rv_cells hv hc
          have hfold : (g.cells.zipIdx.foldl (fun cs (x : Value × Nat) => cs.setIfInBounds (off + x.2) x.1) gcells) = (g.cells.toList.zipIdx.foldl (fun cs (x : Value × Nat) => cs.setIfInBounds (off + x.2) x.1) gcells) := by
            rw [← Array.foldl_toList]
            simp
          have hg := foldset_get g.cells.toList off 0 gcells
          simp only [Array.length_toList, Nat.add_zero] at hg
          have hg' := fun m => hg m (by omega)
          obtain ⟨gout, h3, h4, h6, h5⟩ := fill_sound parts gparts (setCells cells off vs) (g.cells.zipIdx.foldl (fun cs (x : Value × Nat) => cs.setIfInBounds (off + x.2) x.1) gcells) out
            (by rw [hfold, (hg' 0).1, setCells_len, hs])
            (fun j q hq => by
              rw [hfold, (hg' j).2] at hq
              by_cases hj : off ≤ j ∧ j < off + g.cells.size
              · rw [if_pos hj, Array.getElem?_toList] at hq
                exact ho' _ _ hq
              · rw [if_neg hj] at hq
                exact ho _ _ hq)
            (fun j u q hu hq => by
              rw [hfold, (hg' j).2] at hq
              rw [setCells_get _ _ _ _ (by omega)] at hu
              by_cases hj : off ≤ j ∧ j < off + vs.length
              · rw [if_pos hj] at hu
                rw [if_pos (by omega), Array.getElem?_toList] at hq
                exact h2 _ _ _ hu hq
              · rw [if_neg hj] at hu
                rw [if_neg (by omega)] at hq
                exact hr _ _ _ hu hq)
            (by simpa using hl) (fun j p q hp' hq' => hp (j + 1) p q (by simpa using hp') (by simpa using hq')) h
          refine ⟨gout, ?_, h4, h6, h5⟩
          simp only [Instr.fill, hpl]
          rw [if_neg (by simp; omega)]
          exact h3

theorem run_places' (fs : List Go.Field) (h : fs.all (fun f => (sizeT P f.type).isSome) = true) (w : World) :
    (fs.mapM fun f => do pure (f.offset, ← sizeOf f.type) : Sem (List (Nat × Nat))).run P w = .ok (fs.map fun f => (f.offset, (sizeT P f.type).getD 0)) w := by
  induction fs with
  | nil => simp
  | cons f fs ih =>
    simp only [List.all_cons, Bool.and_eq_true] at h
    obtain ⟨n, hn⟩ := Option.isSome_iff_exists.1 h.1
    have := ih h.2
    simp only [bind_pure_comp] at this
    simp [List.mapM_cons, run_sizeOf hn, this, hn]

theorem buildE_sound {t : TypeId} {parts : List (Nat × V)} {gparts : Array (Nat × Value)} {v : V} (h : buildE P t parts = some v) (hl : parts.length = gparts.size)
    (hp : ∀ (j : Nat) p q, parts[j]? = some p → gparts[j]? = some q → p.1 = q.1 ∧ Rv J μ p.2 q.2) :
    ∃ g, (Instr.build t gparts).run P w = .ok g w ∧ Rv J μ v g := by
  unfold buildE at h
  split at h
  · cases h
  · rename_i z hz
    obtain ⟨i, zv, hi, hzv, h1, hzo, h2⟩ := rv_zero (J := J) (μ := μ) hz
    split at h
    · rename_i fs hu
      cases hb : fs.all fun f => (sizeT P f.type).isSome
      · rw [hb] at h; cases h
      · rw [hb] at h
        simp only [cond_true] at h
        split at h
        · rename_i cs hf
          cases h
          obtain ⟨gout, h3, h4, h6, h5⟩ := fill_sound parts gparts.toList z zv.cells cs h1 hzo h2 (by simpa using hl) (fun j p q hp' hq' => hp j p q hp' (by simpa using hq')) hf
          have hall : fs.toList.all (fun f => (sizeT P f.type).isSome) = true := by simpa using hb
          have hpl := run_places' fs.toList hall w
          have hplace : (fun x => (List.map (fun f => (f.offset, (sizeT P f.type).getD 0)) fs.toList).toArray[x]?) = placeS P fs := by
            funext x
            simp only [placeS, List.getElem?_toArray, List.getElem?_map, Array.getElem?_toList]
            cases hx : fs[x]? with
            | none => rfl
            | some f =>
              have hmem : f ∈ fs.toList := List.mem_of_getElem? (by simpa using hx)
              have := List.all_eq_true.1 hall f hmem
              obtain ⟨n, hn⟩ := Option.isSome_iff_exists.1 this
              simp [hn]
          simp only [bind_pure_comp] at hpl
          refine ⟨.agg gout, ?_, .agg h4 h6 h5⟩
          simp [Instr.build, run_zeroValue hi hzv, run_underlying hu, Array.mapM_eq_mapM_toList, hpl]
          have hplace' : (fun x : Nat => (Array.map (fun f : Go.Field => (f.offset, (sizeT P f.type).getD 0)) fs)[x]?) = placeS P fs := by
            rw [← hplace]
            funext x
            simp
          simp [Array.getElem?_map] at hplace'
          simp [hplace', h3]
        · cases h
    · rename_i n e hu
      split at h
      · rename_i m hm
        split at h
        · rename_i cs hf
          cases h
          obtain ⟨gout, h3, h4, h6, h5⟩ := fill_sound parts gparts.toList z zv.cells cs h1 hzo h2 (by simpa using hl) (fun j p q hp' hq' => hp j p q hp' (by simpa using hq')) hf
          refine ⟨.agg gout, ?_, .agg h4 h6 h5⟩
          simp [Instr.build, run_zeroValue hi hzv, run_underlying hu, run_sizeOf hm, h3]
        · cases h
      · cases h
    · cases h

theorem repCells_und (n : Nat) : (repCells n [V.und]).length = n ∧ ∀ (j : Nat) v, (repCells n [V.und])[j]? = some v → v = .und := by
  induction n with
  | zero => simp [repCells]
  | succ n ih =>
    refine ⟨by simp [repCells, ih.1], fun j v h => ?_⟩
    simp only [repCells, List.cons_append, List.nil_append] at h
    cases j with
    | zero => simp at h; exact h.symm
    | succ j => exact ih.2 j v (by simpa using h)

theorem buildSliceE_sound {t : TypeId} {len : Nat} {parts : List (Nat × V)} {gparts : Array (Nat × Value)} {nid : Nat} {r : V × Ups × Nat} (hI : Inv get J μ w) (h : buildSliceE P nid t len parts = some r)
    (hl : parts.length = gparts.size) (hp : ∀ (j : Nat) p q, parts[j]? = some p → gparts[j]? = some q → p.1 = q.1 ∧ Rv J μ p.2 q.2) (hf : ∀ i, nid ≤ i → i < nid + r.2.2 → μ i = none) :
    ∃ g w', (Instr.buildSlice t len gparts).run P w = .ok g w' ∧ Good get J μ w nid r g w' := by
  unfold buildSliceE at h
  split at h
  · rename_i e hu
    split at h
    · rename_i i z hi hzc
      obtain ⟨i', zv, hi', hz, hzs, hzo, _⟩ := rv_zero (J := J) (μ := μ) hzc
      rw [hi] at hi'
      cases hi'
      cases hb : (Nat.beq z.length i.size && Nat.ble (len * i.size) 16777216)
      · rw [hb] at h; cases h
      · rw [hb] at h
        simp only [cond_true] at h
        rw [Bool.and_eq_true] at hb
        have hzl : z.length = i.size := Nat.eq_of_beq_eq_true hb.1
        have hle : len * i.size ≤ 16777216 := Nat.le_of_ble_eq_true hb.2
        have hbig : ¬ (16777216 < len * i.size) := by omega
        have hs := fun w => run_sizeOf (P := P) (t := e) (n := i.size) (by simp [sizeT, hi]) w
        cases len with
        | zero =>
          -- no element: nothing that is looked at
          simp only at h
          split at h
          · cases h
            have hg0 : gparts.toList = [] := by
              have : gparts.size = 0 := by simpa using hl.symm
              exact List.length_eq_zero_iff.1 (by simpa using this)
            refine ⟨.slice (some ⟨w.heap.size, 0, none⟩) 0 0, w.alloc (.cells #[] e), ?_, ?_⟩
            · simp only [Instr.buildSlice, Sem.run_bind, run_underlying hu, Result.andThen_ok, hs]
              rw [if_neg (by simp), if_pos (by simp)]
              have hr0 : Array.range 0 = #[] := by apply Array.ext' ; simp
              simp [hg0, Instr.fill, newRow, hr0]
            · have hI' : Inv get J μ (w.alloc (.cells #[] e)) := by
                have old : ∀ b, b < w.heap.size → (w.alloc (.cells #[] e)).heap[b]? = w.heap[b]? := fun b hb => by
                  simp only [World.alloc, Array.getElem?_push, if_neg (Nat.ne_of_lt hb)]
                refine ⟨fun b c hj => by rw [old b (hI.im_lt hj)]; exact hI.im b c hj, fun id cs hg => ?_, hI.sep⟩
                obtain ⟨m, gc', e', h1, h2, h3, h4⟩ := hI.ob id cs hg
                exact ⟨m, gc', e', h1, h2, by rw [old _ (hI.lt hg h1)]; exact h3, h4⟩
              refine ⟨J, μ, .nil, by rw [upd_nil]; exact hI', by
                rw [upd_nil]
                exact ⟨by simp, Mu.le_refl _, Im.le_refl _, fun _ _ h h' => (by rw [h] at h'; cases h'), fun b hb _ => by simp only [World.alloc, Array.getElem?_push, if_neg (Nat.ne_of_lt hb)], fun _ h => Or.inl h, rfl, rfl⟩, fun _ _ => rfl⟩
          · cases h
        | succ len' =>
          simp only at h
          split at h
          · rename_i cs hfill
            cases h
            have hpos : 0 < (len' + 1) * i.size ∨ (len' + 1) * i.size = 0 := by omega
            have hlen : cs.length = (len' + 1) * i.size := by
              have key : ∀ (parts : List (Nat × V)) (a b : Cells), fillE (fun j => some (j * i.size, i.size)) a parts = some b → b.length = a.length := by
                intro parts
                induction parts with
                | nil => intro a b h; simp [fillE] at h; rw [h]
                | cons p parts ih =>
                  intro a b h
                  obtain ⟨k, v⟩ := p
                  simp only [fillE] at h
                  cases hc : cellsOf v with
                  | none => rw [hc] at h; cases h
                  | some vs =>
                    rw [hc] at h
                    simp only at h
                    cases hb : (Nat.beq vs.length i.size && Nat.ble (k * i.size + i.size) a.length)
                    · rw [hb] at h; cases h
                    · rw [hb] at h; rw [ih _ _ h, setCells_len]
              rw [key _ _ _ hfill, (repCells_und _).1]
            obtain ⟨gout, hres, h2, h6, h3⟩ : ∃ gout : Array Value, (Instr.buildSlice t (len' + 1) gparts).run P w = .ok (.slice (some ⟨w.heap.size, 0, none⟩) (len' + 1) (len' + 1)) (w.alloc (.cells gout e)) ∧ gout.size = cs.length ∧
                  (∀ (j : Nat) g, gout[j]? = some g → g.oneCell' = true) ∧ ∀ (j : Nat) v g, cs[j]? = some v → gout[j]? = some g → Rv J μ v g := by
              obtain ⟨u1, u2⟩ := repCells_und ((len' + 1) * i.size)
              rcases hpos with h0 | h0
              · have hzp : 0 < i.size := Nat.pos_of_mul_pos_left h0
                obtain ⟨gout, h1, h2, h6, h3⟩ := fill_sound (J := J) (μ := μ) parts gparts.toList (repCells ((len' + 1) * i.size) [.und]) ((Array.range ((len' + 1) * i.size)).map (zv.cells[· % zv.cells.size]!)) cs (by simp [u1])
                  (fun j g hg => by
                    simp only [Array.getElem?_map] at hg
                    cases hr : (Array.range ((len' + 1) * i.size))[j]? with
                    | none => rw [hr] at hg; cases hg
                    | some k =>
                      rw [hr] at hg
                      simp only [Option.map_some, Option.some.injEq] at hg
                      have hk : k % zv.cells.size < zv.cells.size := Nat.mod_lt _ (by omega)
                      refine hzo (k % zv.cells.size) g ?_
                      rw [← hg, getElem!_pos zv.cells _ hk]
                      exact Array.getElem?_eq_getElem hk)
                  (fun j v g hv _ => by rw [u2 j v hv]; exact .und) (by simpa using hl) (fun j p q hp' hq' => hp j p q hp' (by simpa using hq')) hfill
                refine ⟨gout, ?_, h2, h6, h3⟩
                simp only [Instr.buildSlice, Sem.run_bind, run_underlying hu, Result.andThen_ok, hs]
                rw [if_neg (by simpa using hbig), if_neg (by omega)]
                simp only [pure_bind, Sem.run_bind, run_zeroValue hi hz, Result.andThen_ok, h1]
                simp [newRow]
              · obtain ⟨gout, h1, h2, h6, h3⟩ := fill_sound (J := J) (μ := μ) parts gparts.toList (repCells ((len' + 1) * i.size) [.und]) ((Array.range ((len' + 1) * i.size)).map ((#[] : Array Value)[· % (#[] : Array Value).size]!)) cs (by simp [u1])
                  (fun j g hg => by rw [h0] at hg; simp at hg)
                  (fun j v g hv _ => by rw [u2 j v hv]; exact .und) (by simpa using hl) (fun j p q hp' hq' => hp j p q hp' (by simpa using hq')) hfill
                refine ⟨gout, ?_, h2, h6, h3⟩
                simp only [Instr.buildSlice, Sem.run_bind, run_underlying hu, Result.andThen_ok, hs]
                rw [if_neg (by simpa using hbig), if_pos h0]
                simp only [pure_bind, h1]
                simp [newRow]
            refine ⟨.slice (some ⟨w.heap.size, 0, none⟩) (len' + 1) (len' + 1), w.alloc (.cells gout e), hres, ?_⟩
            refine Good.new hI rfl (hf nid (Nat.le_refl _) (by dsimp only; omega)) (Nat.le_of_eq h2.symm) h6 (fun j v hv => ?_) ?_
            · obtain ⟨g, hg⟩ := some_of_size h2 (lt_of_some hv)
              exact ⟨g, hg, h3 j v g hv hg⟩
            · exact .ms (l := ⟨w.heap.size, 0, gout.size⟩) (by simp [putMu]) (Nat.le_refl _) (by dsimp only; omega)
          · cases h
    · cases h
  · cases h
end
end Go.Ev
