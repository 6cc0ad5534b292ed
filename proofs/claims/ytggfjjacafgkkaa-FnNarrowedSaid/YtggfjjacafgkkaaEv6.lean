/-
  More operations: stores, addresses, slices, arithmetic, conversions.
-/
import Derived.Test.YtggfjjacafgkkaaEv5
namespace Go.Ev

theorem setCell_heap {w : World} {blk off : Nat} {gc : Array Value} {elem : TypeId} {fz : Nat × Nat} {v : Value} (h : w.heap[blk]? = some (.cells gc elem fz)) :
    (∀ b, b ≠ blk → (w.setCell ⟨blk, off, none⟩ v).heap[b]? = w.heap[b]?) ∧ (w.setCell ⟨blk, off, none⟩ v).heap[blk]? = some (.cells (gc.setIfInBounds off v) elem fz) := by
  refine ⟨fun b hb => ?_, ?_⟩
  · simp only [World.setCell, Array.getElem?_modify]
    rw [if_neg (fun e => hb e.symm)]
  · simp [World.setCell, Array.getElem?_modify, h]

section
variable {P : Program} {get : Get} {J : Im} {μ : Mu} {w : World}

theorem run_storeCells {blk off : Nat} {elem : TypeId} : ∀ (vs : List Value) (i : Nat) (w : World) (gc : Array Value), (∀ g ∈ vs, g.oneCell' = true) → w.heap[blk]? = some (.cells gc elem (0, 0)) → off + i + vs.length ≤ gc.size →
    ∃ gc' w', (storeCells ⟨blk, off, none⟩ vs i).run P w = .ok () w' ∧ (∀ b, b ≠ blk → w'.heap[b]? = w.heap[b]?) ∧ w'.heap.size = w.heap.size ∧ (w'.os = w.os ∧ (w'.output, w'.tape) = (w.output, w.tape)) ∧ w'.heap[blk]? = some (.cells gc' elem (0, 0)) ∧ gc'.size = gc.size ∧
      ∀ (j : Nat), gc'[j]? = if off + i ≤ j ∧ j < off + i + vs.length then vs[j - (off + i)]? else gc[j]?
  | [], i, w, gc, _, hb, _ => ⟨gc, w, by simp [storeCells], fun _ _ => rfl, rfl, ⟨rfl, rfl⟩, hb, rfl, fun j => by rw [if_neg (by simp only [List.length_nil]; omega)]⟩
  | v :: vs, i, w, gc, hv, hb, hl => by
    simp only [List.length_cons] at hl
    obtain ⟨h1, h2⟩ := setCell_heap (off := off + i) (v := v) hb
    have hcell : ∃ u, w.cell? ⟨blk, off + i, none⟩ = some u := ⟨gc[off + i]'(by omega), cell?_at hb (Array.getElem?_eq_getElem (by omega))⟩
    obtain ⟨u, hu⟩ := hcell
    have hfz : w.frozen? ⟨blk, off + i, none⟩ = false := by simp [World.frozen?, hb]
    obtain ⟨gc', w', e1, e2, e3, eo, e4, e5, e6⟩ := run_storeCells (off := off) vs (i + 1) (w.setCell ⟨blk, off + i, none⟩ v) (gc.setIfInBounds (off + i) v) (fun g hg => hv g (List.mem_cons_of_mem _ hg)) h2 (by simp; omega)
    refine ⟨gc', w', ?_, fun b hne => (by rw [e2 b hne, h1 b hne]), (by rw [e3]; simp), ⟨eo.1.trans rfl, eo.2.trans rfl⟩, e4, (by rw [e5]; simp), fun j => ?_⟩
    · simp only [storeCells, Sem.run_bind, addr_add, run_store P w _ v .plain (hv v List.mem_cons_self), hu, hfz]
      simpa using e1
    · rw [e6 j, Array.getElem?_setIfInBounds]
      by_cases e : j = off + i
      · subst e
        rw [if_neg (show ¬ (off + (i + 1) ≤ off + i ∧ off + i < off + (i + 1) + vs.length) by omega), if_pos rfl, if_pos (by omega), if_pos (by simp)]
        simp
      · rw [if_neg (show ¬ (off + i = j) from fun h => e h.symm)]
        by_cases hc : off + (i + 1) ≤ j ∧ j < off + (i + 1) + vs.length
        · rw [if_pos hc, if_pos (by simp; omega)]
          have e' : j - (off + i) = j - (off + (i + 1)) + 1 := by omega
          rw [e', List.getElem?_cons_succ]
        · rw [if_neg hc, if_neg (by simp; omega)]

theorem storeE_sound {t : TypeId} {a v : V} {ga gv : Value} {ups : Ups} {nid : Nat} (hI : Inv get J μ w) (h : storeE P get t a v = some ups) (ha : Rv J μ a ga) (hv : Rv J μ v gv) :
    ∃ w', (Instr.storeAt t ga gv).run P w = .ok () w' ∧ ∀ g, Good get J μ w nid (.und, ups, 0) g w' := by
  unfold storeE at h
  split at h
  · rename_i id off
    cases ha with
    | mp hl =>
      rename_i l
      split at h
      · rename_i cs hg
        split at h
        · rename_i vs n hc hn
          cases hb : (Nat.beq vs.length n && Nat.ble (off + n) cs.length)
          · rw [hb] at h; cases h
          · rw [hb] at h
            simp only [cond_true, Option.some.injEq] at h
            subst h
            rw [Bool.and_eq_true] at hb
            have hz : vs.length = n := Nat.eq_of_beq_eq_true hb.1
            have hle : off + n ≤ cs.length := Nat.le_of_ble_eq_true hb.2
            obtain ⟨h1, hone', h2⟩ := rv_cells hv hc
            obtain ⟨gc, elem, hJ, hh, hsz, hlen, hgo, hcs⟩ := hI.at hg hl
            have hone : ∀ g ∈ gv.cells.toList, g.oneCell' = true := by
              intro g hg'
              obtain ⟨j, hj⟩ := List.getElem?_of_mem hg'
              exact hone' j g (by simpa using hj)
            obtain ⟨gc', w', e1, e2, e3, eo, e4, e5, e6⟩ := run_storeCells (P := P) (off := l.base + off) gv.cells.toList 0 w gc hone hh (by simp; omega)
            refine ⟨w', ?_, fun g => ?_⟩
            · simp only [Instr.storeAt, Instr.sureAddr, storeVar, Sem.run_bind, run_sizeOf hn, Result.andThen_ok, pure_bind]
              rw [if_neg (by simp; omega)]
              simpa using e1
            · obtain ⟨a1, a2⟩ := hI.write (cs' := setCells cs off vs) (w' := w') (gc' := gc') hg hl e2 e3 eo e4 (by rw [e5, hsz]) (by rw [setCells_len]; exact hlen) (fun j q hq => by
                rw [e6] at hq
                split at hq
                · rw [Array.getElem?_toList] at hq; exact hone' _ _ hq
                · exact hgo _ _ hq) (fun j u hu => by
                rw [setCells_get _ _ _ _ (by omega)] at hu
                rw [e6]
                by_cases hj : off ≤ j ∧ j < off + vs.length
                · rw [if_pos hj] at hu
                  rw [if_pos (by simp; omega)]
                  have e : l.base + j - (l.base + off + 0) = j - off := by omega
                  rw [e, Array.getElem?_toList]
                  obtain ⟨g', hg'⟩ := some_of_size h1 (lt_of_some hu)
                  exact ⟨g', hg', h2 _ _ _ hu hg'⟩
                · rw [if_neg hj] at hu
                  rw [if_neg (by simp; omega)]
                  exact hcs j u hu)
              exact ⟨J, μ, .und, a1, a2, fun _ _ => rfl⟩
        · cases h
      · cases h
  · cases h

theorem fieldAddrE_sound {s : TypeId} {a v : V} {ga : Value} {f : Nat} (h : fieldAddrE P s a f = some v) (ha : Rv J μ a ga) :
    ∃ g, (Instr.fieldAt s ga f).run P w = .ok g w ∧ Rv J μ v g := by
  unfold fieldAddrE at h
  split at h
  · rename_i fs hu
    split at h
    · rename_i fl hf
      split at h
      · rename_i k hk
        split at h
        · rename_i id off
          cases h
          cases ha with
          | mp hl =>
            rename_i l
            refine ⟨.pointer (some ⟨l.blk, l.base + (off + fl.offset), none⟩), ?_, .mp hl⟩
            simp [Instr.fieldAt, run_underlying hu, hf, Instr.sureAddr, fieldPlace, run_sizeOf hk, addr_add, Nat.add_assoc]
        · rename_i e off
          cases h
          cases ha with
          | ip hj h1 h2 h3 =>
            rename_i c blk o gs
            refine ⟨.pointer (some ⟨blk, o + (off + fl.offset), none⟩), ?_, .ip hj h1 h2 h3⟩
            simp [Instr.fieldAt, run_underlying hu, hf, Instr.sureAddr, fieldPlace, run_sizeOf hk, addr_add, Nat.add_assoc]
        · cases h
      · cases h
    · cases h
  · cases h

theorem idx_some {α : Type} {l : List α} {i : Int} {a : α} (h : idx l i = some a) : ∃ k : Nat, i = (k : Int) ∧ l[k]? = some a := by
  unfold idx at h
  split at h
  · rename_i k; rw [getAt_eq] at h; exact ⟨k, rfl, h⟩
  · cases h

theorem natBelow_some {i : Int} {n k : Nat} (h : natBelow i n = some k) : i = (k : Int) ∧ k < n := by
  unfold natBelow at h
  split at h
  · rename_i m
    cases hb : Nat.blt m n
    · rw [hb] at h; cases h
    · rw [hb] at h
      simp only [cond_true, Option.some.injEq] at h
      subst h
      exact ⟨rfl, by simpa [Nat.blt_eq] using hb⟩
  · cases h

theorem indexAddrE_sound {t : TypeId} {a i v : V} {ga gi : Value} (h : indexAddrE P t a i = some v) (ha : Rv J μ a ga) (hi : Rv J μ i gi) :
    ∃ g, (Instr.indexAt t ga gi).run P w = .ok g w ∧ Rv J μ v g := by
  unfold indexAddrE at h
  split at h
  · rename_i kk i
    cases hi
    split at h
    · rename_i e hu
      split at h
      · rename_i n hn
        split at h
        · rename_i sz es
          split at h
          · rename_i c hc
            cases hb : Nat.beq sz n
            · rw [hb] at h; cases h
            · rw [hb] at h
              simp only [cond_true, Option.some.injEq] at h
              subst h
              have hz : sz = n := Nat.eq_of_beq_eq_true hb
              subst hz
              obtain ⟨k, rfl, hk⟩ := idx_some hc
              cases ha with
              | sl0 => simp at hk
              | sl hcap hj hsz h1 h2 h3 =>
                rename_i cap cc blk off gs
                have hkl := lt_of_some hk
                refine ⟨.pointer (some ⟨blk, off + k * sz + 0, none⟩), ?_, ?_⟩
                · simp [Instr.indexAt, asIntOf, run_underlying hu, run_sizeOf hn, addr_add, hkl]
                · exact .ip (c := cc) (gs := fun j => gs k j) hj (fun j v hv => h1 k j c v hk hv) (fun j v hv => h2 k j c v hk hv) (fun j v hv => h3 k j c v hk hv)
          · cases h
        · rename_i id off len sz
          split at h
          · rename_i k hk
            obtain ⟨rfl, hlt⟩ := natBelow_some hk
            cases hb : Nat.beq sz n
            · rw [hb] at h; cases h
            · rw [hb] at h
              simp only [cond_true, Option.some.injEq] at h
              subst h
              have hz : sz = n := Nat.eq_of_beq_eq_true hb
              subst hz
              cases ha with
              | ms hl hc hle =>
                rename_i l cap
                refine ⟨.pointer (some ⟨l.blk, l.base + (off + k * sz), none⟩), ?_, .mp hl⟩
                simp [Instr.indexAt, asIntOf, run_underlying hu, run_sizeOf hn, addr_add, hlt, Nat.add_assoc]
          · cases h
        · cases h
      · cases h
    · rename_i len e hu
      split at h
      · rename_i n hn
        split at h
        · rename_i k hk
          obtain ⟨rfl, hlt⟩ := natBelow_some hk
          split at h
          · rename_i id off
            cases h
            cases ha with
            | mp hl =>
              rename_i l
              refine ⟨.pointer (some ⟨l.blk, l.base + (off + k * n), none⟩), ?_, .mp hl⟩
              simp [Instr.indexAt, asIntOf, run_underlying hu, run_sizeOf hn, addr_add, hlt, Nat.add_assoc, Instr.sureAddr]
          · rename_i c off
            cases h
            cases ha with
            | ip hj h1 h2 h3 =>
              rename_i cc blk o gs
              refine ⟨.pointer (some ⟨blk, o + (off + k * n), none⟩), ?_, .ip hj h1 h2 h3⟩
              simp [Instr.indexAt, asIntOf, run_underlying hu, run_sizeOf hn, addr_add, hlt, Nat.add_assoc, Instr.sureAddr]
          · cases h
        · cases h
      · cases h
    · cases h
  · cases h

/-- A part of a value that lies in no memory. -/
theorem part_sound {t : TypeId} {cs : Cells} {gs : Array Value} {off : Nat} {v : V} (h : loadFrom P t cs off = some v) (hs : gs.size = cs.length) (ho : ∀ (j : Nat) g, gs[j]? = some g → g.oneCell' = true)
    (hr : ∀ (j : Nat) v g, cs[j]? = some v → gs[j]? = some g → Rv J μ v g) : ∃ g, (part t gs off).run P w = .ok g w ∧ Rv J μ v g := by
  unfold loadFrom at h
  split at h
  · rename_i ha
    split at h
    · rename_i n hn
      cases hle : Nat.ble (off + n) cs.length
      · rw [hle] at h; cases h
      · rw [hle] at h
        simp only [cond_true, Option.some.injEq] at h
        subst h
        have hle' : off + n ≤ cs.length := Nat.le_of_ble_eq_true hle
        refine ⟨.agg (gs.extract off (off + n)), by simp [part, run_isAgg ha, run_sizeOf hn], .agg (by simp only [Array.size_extract, List.length_take, List.length_drop]; omega) (fun j g hg => ?_) fun j v g hv hg => ?_⟩
        · rw [Array.getElem?_extract] at hg
          split at hg
          · exact ho _ _ hg
          · cases hg
        have hj : j < n := by
          have := lt_of_some hv
          simp at this
          omega
        rw [List.getElem?_take_of_lt hj, List.getElem?_drop] at hv
        rw [Array.getElem?_extract] at hg
        rw [if_pos (by omega)] at hg
        exact hr _ _ _ hv hg
    · cases h
  · rename_i ha
    rw [getAt_eq] at h
    obtain ⟨g, hg⟩ := some_of_size hs (lt_of_some h)
    exact ⟨g, by simp [part, run_isAgg ha, hg], hr _ _ _ h hg⟩
  · cases h

theorem indexE_sound {t : TypeId} {a i v : V} {ga gi : Value} (h : indexE P t a i = some v) (ha : Rv J μ a ga) (hi : Rv J μ i gi) :
    ∃ g, (Instr.index t ga gi).run P w = .ok g w ∧ Rv J μ v g := by
  unfold indexE at h
  split at h
  · rename_i kk i
    cases hi
    split at h
    · rename_i len e hu
      split at h
      · rename_i n k hn hk
        obtain ⟨rfl, hlt⟩ := natBelow_some hk
        split at h
        · rename_i cs
          cases ha with
          | agg hs ho hr =>
            obtain ⟨g, h1, h2⟩ := part_sound (w := w) h hs ho hr
            refine ⟨g, ?_, h2⟩
            simp [Instr.index, asIntOf, run_underlying hu, run_sizeOf hn, hlt, h1]
        · cases h
      · cases h
    · rename_i hu
      split at h
      · rename_i s
        split at h
        · rename_i b hb
          cases h
          cases ha
          obtain ⟨k, rfl, hk⟩ := idx_some hb
          have hk' : s[k]? = some b := by
            rw [Array.getElem?_toList] at hk
            have hlt : k < s.size := by
              rcases Nat.lt_or_ge k s.data.size with h' | h'
              · exact h'
              · rw [Array.getElem?_eq_none h'] at hk; cases hk
            rw [getElem?_pos s k hlt]
            have : s.data[k]? = some (s.data[k]'hlt) := by simp
            rw [this] at hk
            exact hk
          refine ⟨.int .u8 b.toNat, ?_, .int⟩
          simp [Instr.index, asIntOf, run_underlying hu, hk']
        · cases h
      · cases h
    · cases h
  · cases h
end
end Go.Ev
