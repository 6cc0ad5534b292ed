/-
  append, max, min, make; the builtin functions together.
-/
import Derived.Test.YtggfjjacafgkkaaEv8
namespace Go.Ev
section
variable {P : Program} {get : Get} {J : Im} {μ : Mu} {w : World}

theorem zeroCells_leaf {z : Array Value} {n : Nat} (hz : ∀ (j : Nat) g, z[j]? = some g → g.oneCell' = true) (j : Nat) (g : Value) (h : (Builtin.zeroCells z n)[j]? = some g) : g.oneCell' = true := by
  unfold Builtin.zeroCells at h
  simp only [Array.getElem?_map] at h
  cases hr : (Array.range (n * z.size))[j]? with
  | none => rw [hr] at h; cases h
  | some k =>
    rw [hr] at h
    simp only [Option.map_some, Option.some.injEq] at h
    have hpos : 0 < z.size := by
      rcases Nat.eq_zero_or_pos z.size with h0 | h0
      · rw [h0, Nat.mul_zero] at hr; simp at hr
      · exact h0
    have hk : k % z.size < z.size := Nat.mod_lt _ hpos
    refine hz (k % z.size) g ?_
    rw [← h, getElem!_pos z _ hk]
    exact Array.getElem?_eq_getElem hk

theorem append_leaf {a b : Array Value} (ha : ∀ (j : Nat) g, a[j]? = some g → g.oneCell' = true) (hb : ∀ (j : Nat) g, b[j]? = some g → g.oneCell' = true) (j : Nat) (g : Value) (h : (a ++ b)[j]? = some g) : g.oneCell' = true := by
  rw [Array.getElem?_append] at h
  split at h
  · exact ha _ _ h
  · exact hb _ _ h

theorem zeroCells_size (z : Array Value) (n : Nat) : (Builtin.zeroCells z n).size = n * z.size := by simp [Builtin.zeroCells]

/-- An append for which there is no room. -/
theorem run_append_grows {t u ty e e' : TypeId} {i : TypeInfo} {z : Value} {ts : Array TypeId} {gs : Array Value} {base : Option Addr} {sLen sCap n : Nat} {gx : Value} {olds news : Array Value}
    (ht : ts[0]? = some t) (hu' : ts[1]? = some u) (hs : gs[0]? = some (.slice base sLen sCap)) (hx : gs[1]? = some gx) (hut : P.underlying t = some (.slice e)) (huu : P.underlying u = some (.slice e'))
    (hi : P.info? e = some i) (hz : i.zero = some z) (hlen : (Builtin.lenOf gx).run P w = .ok n w) (hold : ∀ w' : World, w'.heap = w.heap → (Builtin.firstCells i.size sLen (.slice base sLen sCap)).run P w' = .ok olds w')
    (hnew : ∀ w' : World, w'.heap = w.heap → (Builtin.firstCells i.size n gx).run P w' = .ok news w') (hg : sCap < sLen + n) (hneed : sLen + n ≤ most) (hb : i.bytes ≤ 256) :
    ∃ cap, sLen + n ≤ cap ∧ (Builtin.append_ ts ty gs).run P w = .ok (.slice (some ⟨w.heap.size, 0, none⟩) (sLen + n) cap) (w.drew.alloc (.cells (olds ++ news ++ Builtin.zeroCells z.cells (cap - (sLen + n))) e)) := by
  unfold most at hneed
  have hn : ¬ (sLen + n ≤ sCap) := by omega
  have h63 : ¬ (9223372036854775807 < ((sLen : Int) + (n : Int))) := by omega
  have hm : IntKind.i64.max = 9223372036854775807 := by decide
  have h48 : ¬ (281474976710656 < Builtin.nextslicecap (sLen + n) sCap * i.bytes) := by
    have h1 := nextslicecap_le (need := sLen + n) (old := sCap) hg
    have h2 : Builtin.nextslicecap (sLen + n) sCap * i.bytes ≤ 2 * (sLen + n) * 256 := Nat.mul_le_mul h1 hb
    omega
  have e1 := hold w.drew rfl
  have e2 := hnew w.drew rfl
  refine ⟨(Question.appendCap (sLen + n) sCap e).cut (w.tape w.drawn (.appendCap (sLen + n) sCap e)), by simp [Question.cut], ?_⟩
  simp [Builtin.append_, ht, hu', hs, hx, run_underlying hut, run_underlying huu, run_sizeOf (show sizeT P e = some i.size by simp [sizeT, hi]), run_typeInfo hi, run_zeroValue hi hz, hlen, hn, h63, hm, h48, Question.forced, e1, e2, newRow]

/-- An append for which there is room. -/
theorem run_append_room {t u ty e e' : TypeId} {i : TypeInfo} {ts : Array TypeId} {gs : Array Value} {blk o : Nat} {sLen sCap n : Nat} {gx : Value} {news : Array Value} {w' : World}
    (ht : ts[0]? = some t) (hu' : ts[1]? = some u) (hs : gs[0]? = some (.slice (some ⟨blk, o, none⟩) sLen sCap)) (hx : gs[1]? = some gx) (hut : P.underlying t = some (.slice e)) (huu : P.underlying u = some (.slice e'))
    (hi : P.info? e = some i) (hlen : (Builtin.lenOf gx).run P w = .ok n w)
    (hnew : (Builtin.firstCells i.size n gx).run P w = .ok news w) (hg : sLen + n ≤ sCap) (hst : (storeCells ⟨blk, o + sLen * i.size, none⟩ news.toList).run P w = .ok () w') :
    (Builtin.append_ ts ty gs).run P w = .ok (.slice (some ⟨blk, o, none⟩) (sLen + n) sCap) w' := by
  simp [Builtin.append_, ht, hu', hs, hx, run_underlying hut, run_underlying huu, run_sizeOf (show sizeT P e = some i.size by simp [sizeT, hi]), hlen, hnew, hg, addr_add, hst]

theorem appendE_sound {t u ty e' : TypeId} {ts : Array TypeId} {gs : Array Value} {d x : V} {gd gx : Value} {nid : Nat} {r : V × Ups × Nat} (hI : Inv get J μ w) (h : appendE P get nid t d x = some r)
    (hd : Rv J μ d gd) (hx : Rv J μ x gx) (ht : ts[0]? = some t) (hu' : ts[1]? = some u) (hgd : gs[0]? = some gd) (hgx : gs[1]? = some gx) (huu : P.underlying u = some (.slice e'))
    (hf : ∀ i, nid ≤ i → i < nid + r.2.2 → μ i = none) :
    ∃ g w', (Builtin.append_ ts ty gs).run P w = .ok g w' ∧ Good get J μ w nid r g w' := by
  unfold appendE at h
  split at h
  · rename_i e hut
    split at h
    · rename_i i z hi hzc
      obtain ⟨i', zv, hi', hz, hzs, hzo, _⟩ := rv_zero (J := J) (μ := μ) hzc
      rw [hi] at hi'
      cases hi'
      cases hb : (Nat.ble i.bytes 256 && Nat.beq z.length i.size)
      · rw [hb] at h; cases h
      · rw [hb] at h
        simp only [cond_true] at h
        rw [Bool.and_eq_true] at hb
        have hb1 : i.bytes ≤ 256 := Nat.le_of_ble_eq_true hb.1
        have hb2 : z.length = i.size := Nat.eq_of_beq_eq_true hb.2
        split at h
        · rename_i cs n hsrc
          obtain ⟨gcs, k1, k2, k3, k4, k5, k6⟩ := src_sound (P := P) hI hsrc hx
          cases d with
          | nil =>
            -- onto nothing
            simp only at h
            cases hd with
            | nil =>
              rename_i a
              have zero : ∀ w' : World, (Builtin.firstCells i.size 0 (.slice a 0 0)).run P w' = .ok #[] w' := by
                intro w'
                cases a with
                | none => simp [Builtin.firstCells]
                | some a =>
                  simp only [Builtin.firstCells, Nat.zero_mul]
                  have := run_loadCells (P := P) w' a 0 (fun _ => undef) (fun j hj => by omega)
                  simpa using this
              cases n with
              | zero =>
                simp only at h
                cases h
                have hnil : gcs = #[] := by
                  apply Array.eq_empty_of_size_eq_zero
                  omega
                refine ⟨.slice a 0 0, w, ?_, Good.same hI .nil rfl⟩
                have hnew := k2 w rfl
                rw [hnil] at hnew
                cases a with
                | none => simp [Builtin.append_, ht, hu', hgd, hgx, run_underlying hut, run_underlying huu, run_sizeOf (show sizeT P e = some i.size by simp [sizeT, hi]), k1, hnew]
                | some a => simp [Builtin.append_, ht, hu', hgd, hgx, run_underlying hut, run_underlying huu, run_sizeOf (show sizeT P e = some i.size by simp [sizeT, hi]), k1, hnew, storeCells]
              | succ m =>
                simp only at h
                cases hle : Nat.ble (m + 1) most
                · rw [hle] at h; cases h
                · rw [hle] at h
                  simp only [cond_true, Option.some.injEq] at h
                  subst h
                  have hle' : m + 1 ≤ most := Nat.le_of_ble_eq_true hle
                  obtain ⟨cap, hc1, hrun⟩ := run_append_grows (P := P) (w := w) (ty := ty) (sLen := 0) (sCap := 0) (olds := #[]) ht hu' hgd hgx hut huu hi hz k1 (fun w' _ => zero w') k2 (by omega) (by omega) hb1
                  refine ⟨_, _, hrun, ?_⟩
                  have hsz : (#[] ++ gcs ++ Builtin.zeroCells zv.cells (cap - (0 + (m + 1)))).size = cap * i.size := by
                    rw [Array.size_append, Array.size_append, zeroCells_size, k3, k4, hzs, hb2]
                    simp only [List.size_toArray, List.length_nil, Nat.zero_add]
                    rw [← Nat.add_mul]
                    congr 1
                    omega
                  refine Good.new hI rfl (hf nid (Nat.le_refl _) (by dsimp only; omega)) (by rw [hsz, k4]; exact Nat.mul_le_mul_right _ (by omega)) (append_leaf (append_leaf (fun j g h => by simp at h) k5) (zeroCells_leaf hzo)) (fun j v hv => ?_) ?_
                  · obtain ⟨g, hg⟩ := some_of_size k3 (lt_of_some hv)
                    refine ⟨g, ?_, k6 j v g hv hg⟩
                    have hj : j < gcs.size := by rw [k3]; exact lt_of_some hv
                    rw [Array.getElem?_append_left (by simpa using hj)]
                    simpa using hg
                  · have := Rv.ms (J := J) (μ := putMu μ nid ⟨w.heap.size, 0, (#[] ++ gcs ++ Builtin.zeroCells zv.cells (cap - (0 + (m + 1)))).size⟩) (id := nid) (off := 0) (len := m + 1) (sz := i.size) (cap := cap) (l := ⟨w.heap.size, 0, (#[] ++ gcs ++ Builtin.zeroCells zv.cells (cap - (0 + (m + 1)))).size⟩) (by simp [putMu]) (by omega) (by dsimp only; rw [hsz]; omega)
                    simpa using this
          | ms id off len sz =>
            -- onto an object
            simp only at h
            split at h
            · rename_i ds hgt
              cases hbb : (Nat.beq sz i.size && Nat.ble (off + len * sz) ds.length && Nat.ble (len + n) most)
              · rw [hbb] at h; cases h
              · rw [hbb] at h
                simp only [cond_true, Option.some.injEq] at h
                subst h
                rw [Bool.and_eq_true, Bool.and_eq_true] at hbb
                have hz1 : sz = i.size := Nat.eq_of_beq_eq_true hbb.1.1
                have hle1 : off + len * sz ≤ ds.length := Nat.le_of_ble_eq_true hbb.1.2
                have hle2 : len + n ≤ most := Nat.le_of_ble_eq_true hbb.2
                subst hz1
                have hfr : μ nid = none := hf nid (Nat.le_refl _) (by dsimp only; omega)
                cases hd with
                | ms hl hc hle' =>
                  rename_i l cap
                  obtain ⟨gc, elem, hJn, hh, hsz, hlen, hgo, hcs⟩ := hI.at hgt hl
                  have hne : nid ≠ id := fun e => by rw [e, hl] at hfr; cases hfr
                  have hk := hI.kill (id := id)
                  have hol : ((ds.drop off).take (len * i.size)).length = len * i.size := by simp; omega
                  have hcat : ∀ (j : Nat) v, ((ds.drop off).take (len * i.size) ++ cs)[j]? = some v → (j < len * i.size ∧ ds[off + j]? = some v) ∨ (len * i.size ≤ j ∧ cs[j - len * i.size]? = some v) := by
                    intro j v hv
                    by_cases hj : j < len * i.size
                    · rw [List.getElem?_append_left (by rw [hol]; exact hj), List.getElem?_take_of_lt hj, List.getElem?_drop] at hv
                      exact .inl ⟨hj, hv⟩
                    · rw [List.getElem?_append_right (by rw [hol]; omega), hol] at hv
                      exact .inr ⟨by omega, hv⟩
                  have hcl : ((ds.drop off).take (len * i.size) ++ cs).length = (len + n) * i.size := by
                    rw [List.length_append, hol, k4, Nat.add_mul]
                  by_cases hroom : len + n ≤ cap
                  · -- in place
                    have hnew := k2 w rfl
                    have hmul : (len + n) * i.size ≤ cap * i.size := Nat.mul_le_mul_right _ hroom
                    rw [Nat.add_mul] at hmul
                    obtain ⟨gc', w', e1, e2, e3, eo, e4, e5, e6⟩ := run_storeCells (P := P) (blk := l.blk) (off := l.base + off + len * i.size) gcs.toList 0 w gc (fun g hg => by
                      obtain ⟨j, hj⟩ := List.getElem?_of_mem hg
                      exact k5 j g (by simpa using hj)) hh (by rw [hsz]; simp only [Array.length_toList]; omega)
                    refine ⟨_, w', run_append_room (P := P) (w := w) (ty := ty) ht hu' hgd hgx hut huu hi k1 hnew hroom e1, ?_⟩
                    -- first the object is written as a whole, then it is known by its new number
                    have hbase : ∀ (j : Nat), gc'[l.base + off + j]? = if len * i.size ≤ j ∧ j < len * i.size + gcs.size then gcs[j - len * i.size]? else gc[l.base + off + j]? := by
                      intro j
                      rw [e6]
                      simp only [Array.length_toList, Nat.add_zero]
                      by_cases hj : len * i.size ≤ j ∧ j < len * i.size + gcs.size
                      · rw [if_pos hj, if_pos (by omega), Array.getElem?_toList]
                        congr 1
                        omega
                      · rw [if_neg hj, if_neg (by omega)]
                    have hle := putMu_le (l := ⟨l.blk, l.base + off, l.size⟩) hfr
                    have hself : ∀ i', i' ≠ nid → putMu μ nid ⟨l.blk, l.base + off, l.size⟩ i' = μ i' := fun i' hi' => by simp [putMu, hi']
                    have hget : ∀ i', i' ≠ nid → ∀ c, upd [(nid, some ((ds.drop off).take (len * i.size) ++ cs)), (id, none)] get i' = some c → i' ≠ id ∧ get i' = some c := by
                      intro i' hi' c hc'
                      rw [upd_cons, if_neg (fun e => hi' e.symm), upd_cons, upd_nil] at hc'
                      split at hc'
                      · cases hc'
                      · rename_i hne'; exact ⟨fun e => hne' e.symm, hc'⟩
                    have hother : ∀ i' c m, i' ≠ id → get i' = some c → μ i' = some m → m.blk ≠ l.blk := by
                      intro i' c m hi' hc' hm' e'
                      exact hi' (hI.sep i' id m l (by rw [hc']; simp) (by rw [hgt]; simp) hm' hl e')
                    refine ⟨J, putMu μ nid ⟨l.blk, l.base + off, l.size⟩, ?_, ⟨fun b c hj => ?_, fun i' ds' hi' => ?_, fun a b la lb h1 h2 h3 h4 h5 => ?_⟩, ⟨Nat.le_of_eq e3.symm, hle, Im.le_refl _, fun _ _ h h' => (by rw [h] at h'; cases h'), fun b _ hno => ?_, fun b ho => ?_, eo.1, eo.2⟩, fun i' hi' => ?_⟩
                    · have := Rv.ms (J := J) (μ := putMu μ nid ⟨l.blk, l.base + off, l.size⟩) (id := nid) (off := 0) (len := len + n) (sz := i.size) (cap := cap) (l := ⟨l.blk, l.base + off, l.size⟩) (by simp [putMu]) hroom (by dsimp only; omega)
                      simpa using this
                    · have : b ≠ l.blk := fun e => by rw [e, hJn] at hj; cases hj
                      rw [e2 b this]
                      exact hI.im b c hj
                    · by_cases en : i' = nid
                      · subst en
                        rw [upd_cons, if_pos rfl] at hi'
                        cases hi'
                        refine ⟨⟨l.blk, l.base + off, l.size⟩, gc', elem, by simp [putMu], hJn, e4, by rw [e5, hsz], by dsimp only; rw [hcl, Nat.add_mul]; omega, fun j q hq => ?_, fun j v hv => ?_⟩
                        · rw [e6] at hq
                          split at hq
                          · rw [Array.getElem?_toList] at hq; exact k5 _ _ hq
                          · exact hgo _ _ hq
                        dsimp only
                        rw [hbase]
                        rcases hcat j v hv with ⟨hj, hv'⟩ | ⟨hj, hv'⟩
                        · rw [if_neg (by omega)]
                          obtain ⟨g, q1, q3⟩ := hcs _ _ hv'
                          exact ⟨g, by rw [Nat.add_assoc]; exact q1, q3.mono (Im.le_refl _) hle⟩
                        · have := lt_of_some hv'
                          rw [if_pos (by omega)]
                          obtain ⟨g, hg⟩ := some_of_size k3 this
                          exact ⟨g, hg, (k6 _ _ _ hv' hg).mono (Im.le_refl _) hle⟩
                      · obtain ⟨hni, hgi⟩ := hget i' en ds' hi'
                        obtain ⟨m, gc1, el1, q1, q2, q3, q4, q5, q6', q6⟩ := hI.ob i' ds' hgi
                        refine ⟨m, gc1, el1, by rw [hself i' en]; exact q1, q2, (by rw [e2 _ (hother i' ds' m hni hgi q1)]; exact q3), q4, q5, q6', fun j v hv => ?_⟩
                        obtain ⟨g, r1, r3⟩ := q6 j v hv
                        exact ⟨g, r1, r3.mono (Im.le_refl _) hle⟩
                    · have key : ∀ c lc, c ≠ nid → upd [(nid, some ((ds.drop off).take (len * i.size) ++ cs)), (id, none)] get c ≠ none → putMu μ nid ⟨l.blk, l.base + off, l.size⟩ c = some lc → c ≠ id ∧ get c ≠ none ∧ μ c = some lc ∧ lc.blk ≠ l.blk := by
                        intro c lc hc1 hc2 hc3
                        cases hq : upd [(nid, some ((ds.drop off).take (len * i.size) ++ cs)), (id, none)] get c with
                        | none => exact absurd hq hc2
                        | some q =>
                          obtain ⟨p1, p2⟩ := hget c hc1 q hq
                          rw [hself c hc1] at hc3
                          exact ⟨p1, by rw [p2]; simp, hc3, hother c q lc p1 p2 hc3⟩
                      by_cases ea : a = nid
                      · by_cases eb : b = nid
                        · rw [ea, eb]
                        · obtain ⟨_, _, _, q⟩ := key b lb eb h2 h4
                          subst ea
                          simp [putMu] at h3
                          subst h3
                          exact absurd h5.symm q
                      · by_cases eb : b = nid
                        · obtain ⟨_, _, _, q⟩ := key a la ea h1 h3
                          subst eb
                          simp [putMu] at h4
                          subst h4
                          exact absurd h5 q
                        · obtain ⟨_, q1, q2, _⟩ := key a la ea h1 h3
                          obtain ⟨_, q3, q4, _⟩ := key b lb eb h2 h4
                          exact hI.sep a b la lb q1 q3 q2 q4 h5
                    · exact e2 b fun e => hno ⟨id, l, by rw [hgt]; simp, hl, e.symm⟩
                    · obtain ⟨c, lc, h1, h2, h3⟩ := ho
                      by_cases en : c = nid
                      · subst en
                        simp [putMu] at h2
                        subst h2
                        exact .inl ⟨id, l, by rw [hgt]; simp, hl, h3⟩
                      · cases hq : upd [(nid, some ((ds.drop off).take (len * i.size) ++ cs)), (id, none)] get c with
                        | none => exact absurd hq h1
                        | some q =>
                          obtain ⟨p1, p2⟩ := hget c en q hq
                          rw [hself c en] at h2
                          exact .inl ⟨c, lc, by rw [p2]; simp, h2, h3⟩
                    · simp only [putMu]
                      rw [if_neg (by dsimp only at hi'; omega)]
                  · -- a new row
                    have hold : ∀ w' : World, w'.heap = w.heap → (Builtin.firstCells i.size len (.slice (some ⟨l.blk, l.base + off, none⟩) len cap)).run P w' = .ok (gc.extract (l.base + off) (l.base + off + len * i.size)) w' := by
                      intro w' hw'
                      simp only [Builtin.firstCells]
                      have hex : (gc.extract (l.base + off) (l.base + off + len * i.size)).toList.length = len * i.size := by simp; omega
                      have := run_loadCells_list (P := P) w' ⟨l.blk, l.base + off, none⟩ (gc.extract (l.base + off) (l.base + off + len * i.size)).toList (fun j v hv => by
                        rw [addr_add]
                        rw [Array.getElem?_toList, Array.getElem?_extract] at hv
                        split at hv
                        · exact cell?_at (by rw [hw']; exact hh) hv
                        · cases hv)
                      rw [hex] at this
                      rw [this, Array.toArray_toList]
                    obtain ⟨ncap, hc1, hrun⟩ := run_append_grows (P := P) (w := w) (ty := ty) ht hu' hgd hgx hut huu hi hz k1 hold k2 (by omega) hle2 hb1
                    refine ⟨_, _, hrun, ?_⟩
                    have hexs : (gc.extract (l.base + off) (l.base + off + len * i.size)).size = len * i.size := by simp; omega
                    have hsz' : (gc.extract (l.base + off) (l.base + off + len * i.size) ++ gcs ++ Builtin.zeroCells zv.cells (ncap - (len + n))).size = ncap * i.size := by
                      rw [Array.size_append, Array.size_append, zeroCells_size, k3, k4, hzs, hb2, hexs, ← Nat.add_mul, ← Nat.add_mul]
                      congr 1
                      omega
                    have hgood := Good.new (w1 := w.drew) (elem := e) (v := .ms nid 0 (len + n) i.size) (g := .slice (some ⟨w.heap.size, 0, none⟩) (len + n) ncap) (cs := (ds.drop off).take (len * i.size) ++ cs)
                      (gc := gc.extract (l.base + off) (l.base + off + len * i.size) ++ gcs ++ Builtin.zeroCells zv.cells (ncap - (len + n))) (nid := nid) hk.1 rfl hfr
                      (by rw [hsz', hcl]; exact Nat.mul_le_mul_right _ hc1) (append_leaf (append_leaf (fun j g h => by
                        rw [Array.getElem?_extract] at h
                        split at h
                        · exact hgo _ _ h
                        · cases h) k5) (zeroCells_leaf hzo)) (fun j v hv => by
                        rcases hcat j v hv with ⟨hj, hv'⟩ | ⟨hj, hv'⟩
                        · obtain ⟨g, q1, q3⟩ := hcs _ _ hv'
                          refine ⟨g, ?_, q3⟩
                          rw [Array.getElem?_append_left (by rw [Array.size_append, hexs]; omega), Array.getElem?_append_left (by rw [hexs]; exact hj), Array.getElem?_extract, if_pos (by omega), Nat.add_assoc]
                          exact q1
                        · have hlt := lt_of_some hv'
                          obtain ⟨g, hg⟩ := some_of_size k3 hlt
                          refine ⟨g, ?_, k6 _ _ _ hv' hg⟩
                          rw [Array.getElem?_append_left (by rw [Array.size_append, hexs]; omega), Array.getElem?_append_right (by rw [hexs]; exact hj), hexs]
                          exact hg)
                      (by
                        have := Rv.ms (J := J) (μ := putMu μ nid ⟨w.heap.size, 0, (gc.extract (l.base + off) (l.base + off + len * i.size) ++ gcs ++ Builtin.zeroCells zv.cells (ncap - (len + n))).size⟩) (id := nid) (off := 0) (len := len + n) (sz := i.size) (cap := ncap) (l := ⟨w.heap.size, 0, (gc.extract (l.base + off) (l.base + off + len * i.size) ++ gcs ++ Builtin.zeroCells zv.cells (ncap - (len + n))).size⟩) (by simp [putMu]) hc1 (by dsimp only; rw [hsz']; omega)
                        simpa using this)
                    obtain ⟨J', μ', g1, g2, g3, g4⟩ := hgood
                    exact ⟨J', μ', g1, by rw [show [(nid, some ((ds.drop off).take (len * i.size) ++ cs)), (id, none)] = [(nid, some ((ds.drop off).take (len * i.size) ++ cs))] ++ [(id, none)] from rfl, upd_append]; exact g2,
                      by rw [show [(nid, some ((ds.drop off).take (len * i.size) ++ cs)), (id, none)] = [(nid, some ((ds.drop off).take (len * i.size) ++ cs))] ++ [(id, none)] from rfl, upd_append]; exact hk.2.trans g3, g4⟩
            · cases h
          | _ => cases h
        · cases h
    · cases h
  · cases h
end
end Go.Ev
