/-
  Flat objects stay flat; a region in the text's order.
-/
import Derived.Test.YtggfjjacafgkkaaEv13
namespace Go.Ev

theorem memB_cons (n k : Nat) (l : List Nat) : memB n (k :: l) = true ↔ k = n ∨ memB n l = true := by
  simp only [memB]
  cases h : Nat.beq k n
  · simp only [cond_false]
    refine ⟨.inr, fun h' => h'.resolve_left fun e => ?_⟩
    subst e; simp at h
  · simp only [cond_true, true_iff]
    exact .inl (Nat.eq_of_beq_eq_true h)

theorem memB_iff (n : Nat) (l : List Nat) : memB n l = true ↔ n ∈ l := by
  induction l with
  | nil => simp [memB]
  | cons k l ih => rw [memB_cons, ih, List.mem_cons]; exact ⟨fun h => h.imp Eq.symm id, fun h => h.imp Eq.symm id⟩

theorem memB_filter (n k : Nat) (l : List Nat) : memB n (l.filter fun j => !Nat.beq j k) = true ↔ memB n l = true ∧ n ≠ k := by
  rw [memB_iff, memB_iff, List.mem_filter]
  have : (!Nat.beq n k) = true ↔ n ≠ k := by
    cases h : Nat.beq n k
    · simp only [Bool.not_false, true_iff]; exact fun e => by subst e; simp at h
    · simp only [Bool.not_true, Bool.false_eq_true, false_iff]; exact fun h' => h' (Nat.eq_of_beq_eq_true h)
  rw [this]

theorem flat_cons {fl : List Nat} {flag : Bool} {id : Nat} {cs : Cells} {rest : Ups} {get : Get} (h : FlatInv fl (upd rest get)) (hc : flag = true → ∀ v ∈ cs, noRefB v = true) :
    FlatInv (flatUps fl flag ((id, some cs) :: rest)) (upd ((id, some cs) :: rest) get) := by
  intro i hi ds hds
  rw [upd_cons] at hds
  cases flag
  · simp only [flatUps, cond_false] at hi
    obtain ⟨h1, h2⟩ := (memB_filter _ _ _).1 hi
    rw [if_neg (fun e => h2 e.symm)] at hds
    exact h i h1 ds hds
  · by_cases e : id = i
    · rw [if_pos e] at hds
      cases hds
      exact hc rfl
    · rw [if_neg e] at hds
      refine h i ?_ ds hds
      simp only [flatUps, cond_true] at hi
      cases hm : memB id fl
      · rw [hm] at hi
        exact ((memB_cons _ _ _).1 hi).resolve_left e
      · rw [hm] at hi; exact hi

theorem flat_kill {fl : List Nat} {id : Nat} {get : Get} (h : FlatInv fl get) : FlatInv fl (upd [(id, none)] get) := by
  intro i hi ds hds
  rw [upd_cons, upd_nil] at hds
  split at hds
  · cases hds
  · exact h i hi ds hds

theorem setCells_mem (cs : Cells) (off : Nat) (vs : Cells) (v : V) (h : v ∈ setCells cs off vs) : v ∈ cs ∨ v ∈ vs := by
  have ho : ∀ (cs vs : Cells) (v : V), v ∈ over cs vs → v ∈ cs ∨ v ∈ vs := by
    intro cs
    induction cs with
    | nil => intro vs v h; cases vs <;> simp [over] at h
    | cons c cs ih =>
      intro vs v h
      cases vs with
      | nil => simp [over] at h; exact .inl (by simpa using h)
      | cons u vs =>
        simp only [over, List.mem_cons] at h
        rcases h with rfl | h
        · exact .inr List.mem_cons_self
        · rcases ih vs v h with h | h
          · exact .inl (List.mem_cons_of_mem _ h)
          · exact .inr (List.mem_cons_of_mem _ h)
  induction cs generalizing off with
  | nil => cases off <;> exact ho _ _ _ (by simpa [setCells] using h)
  | cons c cs ih =>
    cases off with
    | zero => exact ho _ _ _ (by simpa [setCells] using h)
    | succ n =>
      simp only [setCells, List.mem_cons] at h
      rcases h with rfl | h
      · exact .inl List.mem_cons_self
      · rcases ih n h with h | h
        · exact .inl (List.mem_cons_of_mem _ h)
        · exact .inr h

theorem noRef_cells {v : V} {cs : Cells} (h : cellsOf v = some cs) (hn : noRefV v = true) : ∀ u ∈ cs, noRefB u = true := by
  cases v with
  | agg ds => simp only [cellsOf, Option.some.injEq] at h; subst h; exact List.all_eq_true.1 hn
  | tup _ => simp [cellsOf] at h
  | und => simp [cellsOf] at h
  | _ => simp only [cellsOf, Option.some.injEq] at h; subst h; intro u hu; simp at hu; subst hu; exact hn

section
variable {get : Get} {J : Im} {μ : Mu} {w : World} {ev : Operand → V} {ρ : Operand → Value}

theorem append_flat {E : Env} {fl : List Nat} {nid : Nat} {t : TypeId} {d x : V} {gx : Value} {res : V × Ups × Nat} (hfl : FlatInv fl get) (h : appendE E.P get nid t d x = some res) (hx : Rv J μ x gx) (flag : Bool)
    (hd : flag = true → d = .nil ∨ ∃ id off len sz, d = .ms id off len sz ∧ memB id fl = true) (hxf : flag = true → x = .nil ∨ (∃ sz es, x = .sl sz es) ∨ ∃ id off len sz, x = .ms id off len sz ∧ memB id fl = true) :
    FlatInv (flatUps fl flag res.2.1) (upd res.2.1 get) := by
  -- the cells of what is appended
  have src : ∀ (n m : Nat) (cs : Cells), srcE get x n = some (cs, m) → flag = true → ∀ v ∈ cs, noRefB v = true := by
    intro n m cs hs hflag v hv
    rcases hxf hflag with rfl | ⟨sz, es, rfl⟩ | ⟨id, off, len, sz, rfl, hm⟩
    · simp only [srcE, Option.some.injEq, Prod.mk.injEq] at hs
      rw [← hs.1] at hv
      cases hv
    · simp only [srcE] at hs
      cases hb : Nat.beq sz n
      · rw [hb] at hs; cases hs
      · rw [hb] at hs
        simp only [cond_true, Option.some.injEq, Prod.mk.injEq] at hs
        rw [← hs.1, List.mem_flatten] at hv
        obtain ⟨e, he, hve⟩ := hv
        cases hx with
        | sl0 => cases he
        | sl _ _ _ _ _ h3 =>
          obtain ⟨i, hi⟩ := List.getElem?_of_mem he
          obtain ⟨j, hj⟩ := List.getElem?_of_mem hve
          exact (h3 i j e v hi hj).2
    · simp only [srcE] at hs
      cases hg : get id with
      | none => rw [hg] at hs; cases hs
      | some ds =>
        rw [hg] at hs
        simp only at hs
        cases hb : (Nat.beq sz n && Nat.ble (off + len * sz) ds.length)
        · rw [hb] at hs; cases hs
        · rw [hb] at hs
          simp only [cond_true, Option.some.injEq, Prod.mk.injEq] at hs
          rw [← hs.1] at hv
          exact hfl id hm ds hg v (List.mem_of_mem_drop (List.mem_of_mem_take hv))
  unfold appendE at h
  split at h
  · split at h
    · rename_i i z _ _
      cases hb : (Nat.ble i.bytes 256 && Nat.beq z.length i.size)
      · rw [hb] at h; cases h
      · rw [hb] at h
        simp only [cond_true] at h
        split at h
        · rename_i cs n hsrc
          cases d with
          | nil =>
            simp only at h
            cases n with
            | zero => simp only at h; cases h; simpa [flatUps, upd_nil] using hfl
            | succ m =>
              simp only at h
              cases hle : Nat.ble (m + 1) most
              · rw [hle] at h; cases h
              · rw [hle] at h
                cases h
                exact flat_cons (by simpa [upd_nil] using hfl) fun hf => src _ _ cs hsrc hf
          | ms id off len sz =>
            simp only at h
            split at h
            · rename_i ds hg
              cases hbb : (Nat.beq sz i.size && Nat.ble (off + len * sz) ds.length && Nat.ble (len + n) most)
              · rw [hbb] at h; cases h
              · rw [hbb] at h
                cases h
                refine flat_cons (flat_kill hfl) fun hf v hv => ?_
                rcases List.mem_append.1 hv with hv | hv
                · rcases hd hf with hd' | ⟨id', _, _, _, hd', hm⟩
                  · cases hd'
                  · cases hd'
                    exact hfl id hm ds hg v (List.mem_of_mem_drop (List.mem_of_mem_take hv))
                · exact src _ _ cs hsrc hf v hv
            · cases h
          | _ => cases h
        · cases h
    · cases h
  · cases h

theorem flag_sound {E : Env} {fl : List Nat} {nid : Nat} {o : Oper} {res : V × Ups × Nat} (hfl : FlatInv fl get) (hev : ∀ x, Rv J μ (ev x) (ρ x)) (h : opE E get fl nid ev o = some res)
    (hnc : ∀ c f, o.op = .call c → c.callee ≠ .value f) : FlatInv (flatUps fl (flagE fl ev o res.2.1) res.2.1) (upd res.2.1 get) := by
  have nil : ∀ (v : V) (b : Bool), FlatInv (flatUps fl b (v, ([] : Ups), 0).2.1) (upd (v, ([] : Ups), 0).2.1 get) := fun v b => by simpa [flatUps, upd_nil] using hfl
  have nil' : res.2.1 = [] → FlatInv (flatUps fl (flagE fl ev o res.2.1) res.2.1) (upd res.2.1 get) := by
    intro e
    rw [e]
    simpa [flatUps, upd_nil] using hfl
  have one' : ∀ {v : Option V}, one v = some res → res.2.1 = [] := by
    intro v hv
    unfold one at hv
    split at hv
    · cases hv; rfl
    · cases hv
  unfold opE at h
  split at h <;> (try (cases h; done)) <;> rename_i hop
  · cases h; exact nil _ _
  · cases h; exact nil _ _
  · split at h
    · rename_i z hz
      cases h
      refine flat_cons (by simpa [upd_nil] using hfl) fun hf => ?_
      simp only [flagE, hop] at hf
      exact List.all_eq_true.1 hf
    · cases h
  · split at h
    · rename_i cs hc
      cases h
      refine flat_cons (by simpa [upd_nil] using hfl) fun hf => ?_
      simp only [flagE, hop] at hf
      exact List.all_eq_true.1 hf
    · cases h
  · exact nil' (one' h)
  · rename_i t len ps
    unfold buildSliceE at h
    split at h
    · split at h
      · rename_i i z _ _
        cases hb : (Nat.beq z.length i.size && Nat.ble (len * i.size) 16777216)
        · rw [hb] at h; cases h
        · rw [hb] at h
          simp only [cond_true] at h
          cases len with
          | zero =>
            simp only at h
            split at h
            · cases h; exact nil _ _
            · cases h
          | succ len =>
            simp only at h
            split at h
            · cases h
              refine flat_cons (by simpa [upd_nil] using hfl) fun hf => ?_
              simp only [flagE, hop] at hf
              exact List.all_eq_true.1 hf
            · cases h
      · cases h
    · cases h
  · exact nil' (one' h)
  · rename_i t a x
    split at h
    · rename_i ups hu
      cases h
      unfold storeE at hu
      split at hu
      · rename_i id off ha
        split at hu
        · rename_i cs hg
          split at hu
          · rename_i vs n hc hn
            cases hb : (Nat.beq vs.length n && Nat.ble (off + n) cs.length)
            · rw [hb] at hu; cases hu
            · rw [hb] at hu
              cases hu
              refine flat_cons (by simpa [upd_nil] using hfl) fun hf v hv => ?_
              simp only [flagE, hop, ha, Bool.and_eq_true] at hf
              rcases setCells_mem _ _ _ _ hv with hv | hv
              · exact hfl id hf.1 cs hg v hv
              · exact noRef_cells hc hf.2 v hv
          · cases hu
        · cases hu
      · cases hu
    · cases h
  · split at h <;> (try (cases h; done)) <;> cases h <;> exact nil _ _
  · exact nil' (one' h)
  · exact nil' (one' h)
  · exact nil' (one' h)
  · cases h; exact nil _ _
  · exact nil' (one' h)
  · exact nil' (one' h)
  · exact nil' (one' h)
  · exact nil' (one' h)
  · split at h
    · exact nil' (one' h)
    · cases h
  · rename_i c
    split at h
    · rename_i b hb
      unfold builtinE at h
      split at h
      · split at h
        · split at h
          · cases h; exact nil _ _
          · cases h
        · cases h
      · split at h
        · rename_i t u tl d x tl' _ harg
          split at h
          · have hx : ∃ gx, Rv J μ x gx := by
              have hr := rvs_map hev c.args
              rw [harg] at hr
              obtain ⟨gx, _, h2⟩ := Rvs.at hr (j := 1) (v := x) rfl
              exact ⟨gx, h2⟩
            obtain ⟨gx, hx⟩ := hx
            have hfe : flagE fl ev o res.2.1 = (flagD fl d && flagX fl x) := by
              simp only [flagE, hop, hb, harg]
            refine append_flat hfl h hx _ (fun hf => ?_) (fun hf => ?_)
            · rw [hfe, Bool.and_eq_true] at hf
              have h1 := hf.1
              unfold flagD at h1
              split at h1
              · exact .inl rfl
              · exact .inr ⟨_, _, _, _, rfl, h1⟩
              · cases h1
            · rw [hfe, Bool.and_eq_true] at hf
              have h1 := hf.2
              unfold flagX at h1
              split at h1
              · exact .inl rfl
              · exact .inr (.inl ⟨_, _, rfl⟩)
              · exact .inr (.inr ⟨_, _, _, _, rfl, h1⟩)
              · cases h1
          · cases h
        · cases h
      · split at h
        · split at h
          · cases h; exact nil _ _
          · cases h
        · cases h
      · split at h
        · split at h
          · cases h; exact nil _ _
          · cases h
        · cases h
      · cases h
    · rename_i f hcal
      exact absurd hcal (hnc c f hop)
    · cases h

theorem opE_sound2 {E : Env} {a : Act} {fl : List Nat} {nid : Nat} {o : Oper} {res : V × Ups × Nat} (hS : SOK E) (hI : Inv get J μ w) (hfl : FlatInv fl get) (hev : ∀ x, Rv J μ (ev x) (a.eval x))
    (h : opE E get fl nid ev o = some res) (hf : ∀ i, nid ≤ i → i < nid + res.2.2 → μ i = none) :
    ExecRes E.P ((execOp a.eval o).run E.P w) fun g w' => Good get J μ w nid res g w' ∧ FlatInv (flatUps fl (flagE fl ev o res.2.1) res.2.1) (upd res.2.1 get) := by
  have h1 := opE_sound hS hI hfl hev h hf
  have mono : ∀ {r : Result Next} {Φ Ψ : Value → World → Prop}, ExecRes E.P r Φ → (∀ g w', Φ g w' → Ψ g w') → ExecRes E.P r Ψ := by
    intro r Φ Ψ hr hm
    rcases hr with ⟨g, w', h1, h2⟩ | ⟨w', h1, h2⟩ | ⟨f, args, w', h1, h2⟩
    · exact .inl ⟨g, w', h1, hm _ _ h2⟩
    · exact .inr (.inl ⟨w', h1, hm _ _ h2⟩)
    · exact .inr (.inr ⟨f, args, w', h1, h2.mono fun e w'' ⟨g, q1, q2⟩ => ⟨g, q1, hm _ _ q2⟩⟩)
  refine mono h1 fun g w' ⟨hg, hv⟩ => ⟨hg, ?_⟩
  by_cases hc : ∃ c f, o.op = .call c ∧ c.callee = .value f
  · have := hv hc
    obtain ⟨c, f, e1, e2⟩ := hc
    have : flagE fl ev o res.2.1 = anyUps res.2.1 := by simp only [flagE, e1, e2]
    rw [this]
    assumption
  · exact flag_sound hfl hev h fun c f h1 h2 => hc ⟨c, f, h1, h2⟩
end

/-! Only the operands count -/

theorem map_congr_op {xs : Array Operand} {ev ev' : Operand → V} (h : ∀ x ∈ xs, ev x = ev' x) : xs.toList.map ev = xs.toList.map ev' :=
  List.map_congr_left fun x hx => h x (Array.mem_toList_iff.1 hx)

theorem parts_congr {ps : Array (Nat × Operand)} {ev ev' : Operand → V} (h : ∀ x ∈ ps.map (·.2), ev x = ev' x) : partsE ev ps.toList = partsE ev' ps.toList :=
  List.map_congr_left fun p hp => by rw [h p.2 (Array.mem_map.2 ⟨p, Array.mem_toList_iff.1 hp, rfl⟩)]

theorem opE_congr (E : Env) (get : Get) (fl : List Nat) (nid : Nat) {ev ev' : Operand → V} (o : Oper) (h : ∀ x ∈ o.op.operands, ev x = ev' x) : opE E get fl nid ev o = opE E get fl nid ev' o := by
  obtain ⟨dst, op, type, pos, after, guard⟩ := o
  cases op <;> simp only [Op.operands] at h <;> simp only [opE]
  case build t ps => rw [parts_congr (ev := ev) (ev' := ev') fun x hx => h x (by simpa using hx)]
  case buildSlice t n ps => rw [parts_congr (ev := ev) (ev' := ev') fun x hx => h x (by simpa using hx)]
  case makeFunc fn first captured =>
    have h1 : first.toList.map ev = first.toList.map ev' := map_congr_op fun x hx => h x (by simp [hx])
    have h2 : captured.toList.map ev = captured.toList.map ev' := map_congr_op fun x hx => h x (by simp [hx])
    cases fn <;> simp only [h1, h2]
  case call c =>
    have h1 : c.args.toList.map ev = c.args.toList.map ev' := map_congr_op fun x hx => h x (by simp [Call.operands, hx])
    rw [h1]
    split
    · rfl
    · rename_i f hf
      rw [h f (by simp [Call.operands, hf])]
    · rfl
  case slice t x lo hi mx =>
    have hx := h x (by simp)
    have h1 : optE ev lo = optE ev' lo := by cases lo <;> simp [optE]; exact h _ (by simp)
    have h2 : optE ev hi = optE ev' hi := by cases hi <;> simp [optE]; exact h _ (by simp)
    have h3 : optE ev mx = optE ev' mx := by cases mx <;> simp [optE]; exact h _ (by simp)
    rw [hx, h1, h2, h3]
  all_goals (first | rfl | (simp_all; done))

theorem flagE_congr (fl : List Nat) (ups : Ups) {ev ev' : Operand → V} (o : Oper) (h : ∀ x ∈ o.op.operands, ev x = ev' x) : flagE fl ev o ups = flagE fl ev' o ups := by
  obtain ⟨dst, op, type, pos, after, guard⟩ := o
  cases op <;> simp only [Op.operands] at h <;> simp only [flagE]
  case store t a x => rw [h a (by simp), h x (by simp)]
  case call c =>
    have h1 : c.args.toList.map ev = c.args.toList.map ev' := map_congr_op fun x hx => h x (by simp [Call.operands, hx])
    rw [h1]
/-! Conditions ahead -/

theorem fixL_eq {z v : V} (h : chkL z v = true) : fixL z v = v := by
  unfold chkL at h
  unfold fixL
  split at h
  · cases v <;> simp [isBo] at h; rfl
  · cases v <;> simp [isI] at h
    rw [sameI_eq h]; rfl
  · cases v <;> simp [isFl] at h
    rw [sameF_eq h]; rfl
  · cases v <;> simp [isSt] at h; rfl
  · rfl

theorem fixCs_eq : ∀ (zs : List V) (i : Nat) (cs : List V), chkCs zs i cs = true → fixCs zs i cs = cs.drop i
  | [], i, cs, h => by
    have : cs.length = i := Nat.eq_of_beq_eq_true h
    simp [fixCs, this]
  | z :: zs, i, cs, h => by
    simp only [chkCs, Bool.and_eq_true] at h
    have ih := fixCs_eq zs (i + 1) cs h.2
    have hlt : i < cs.length := by
      have : ∀ (zs : List V) (j : Nat), chkCs zs j cs = true → j ≤ cs.length := by
        intro zs
        induction zs with
        | nil => intro j hj; exact Nat.le_of_eq (Nat.eq_of_beq_eq_true hj).symm
        | cons z zs ih => intro j hj; simp only [chkCs, Bool.and_eq_true] at hj; exact Nat.le_of_succ_le (ih (j + 1) hj.2)
      exact this zs (i + 1) h.2
    rw [fixCs, ih, fixL_eq h.1, List.drop_eq_getElem_cons hlt]
    congr 1
    simp [cellAt, getAt_eq, hlt]

theorem fixV_eq {P : Program} {t : TypeId} {v : V} (h : chkV P t v = true) : fixV P t v = v := by
  unfold chkV at h
  unfold fixV
  split at h
  · split at h
    · rw [Bool.and_eq_true] at h
      have := fixCs_eq _ 0 _ h.2
      cases v with
      | agg cs => rw [this]; rfl
      | _ => simp [isAg] at h
    · rfl
  · split at h
    · exact fixL_eq h
    · rfl
  · rfl

theorem fixTs_eq {P : Program} : ∀ (ts : List TypeId) (i : Nat) (vs : List V), chkTs P ts i vs = true → fixTs P ts i vs = vs.drop i
  | [], i, vs, h => by
    have : vs.length = i := Nat.eq_of_beq_eq_true h
    simp [fixTs, this]
  | t :: ts, i, vs, h => by
    simp only [chkTs, Bool.and_eq_true] at h
    have ih := fixTs_eq ts (i + 1) vs h.2
    have hlt : i < vs.length := by
      have : ∀ (ts : List TypeId) (j : Nat), chkTs P ts j vs = true → j ≤ vs.length := by
        intro ts
        induction ts with
        | nil => intro j hj; exact Nat.le_of_eq (Nat.eq_of_beq_eq_true hj).symm
        | cons z zs ih => intro j hj; simp only [chkTs, Bool.and_eq_true] at hj; exact Nat.le_of_succ_le (ih (j + 1) hj.2)
      exact this ts (i + 1) h.2
    rw [fixTs, ih, fixV_eq h.1, List.drop_eq_getElem_cons hlt]
    congr 1
    simp [cellAt, getAt_eq, hlt]

theorem fixT_eq {P : Program} {t : TypeId} {v : V} (h : chkT P t v = true) : fixT P t v = v := by
  unfold chkT at h
  unfold fixT
  split at h
  · split at h
    · rfl
    · rw [Bool.and_eq_true] at h
      have := fixTs_eq _ 0 _ h.2
      cases v with
      | tup vs => rw [this]; rfl
      | _ => simp [isTu] at h
  · exact fixV_eq h

theorem hoist_eq {P : Program} {t : TypeId} {r : Option V} {c : Bool} {v : V} {ups : Ups} {m : Nat} (h : hoist P t r = some (c, v, ups, m)) (hc : c = true) : r = some v ∧ ups = [] ∧ m = 0 := by
  unfold hoist at h
  simp only [Option.some.injEq, Prod.mk.injEq] at h
  obtain ⟨h1, h2, h3, h4⟩ := h
  rw [hc, Bool.and_eq_true] at h1
  cases r with
  | none => exact absurd h1.1 (by simp)
  | some u =>
    have := fixT_eq h1.2
    rw [this] at h2
    subst h2
    exact ⟨rfl, h3.symm, h4.symm⟩

theorem resH_eq {r : Res} {c : Bool} {v : V} {ups : Ups} {m : Nat} (h : resH r = some (c, v, ups, m)) : r = some (v, ups, m) := by
  unfold resH at h
  split at h
  · cases h; rfl
  · cases h

theorem inB_spec {i : Int} {n : Nat} (h : inB i n = true) : ∃ k, i = Int.ofNat k ∧ k < n := by
  unfold inB at h
  rw [Bool.and_eq_true, decide_eq_true_eq, decide_eq_true_eq] at h
  cases i with
  | ofNat k => exact ⟨k, rfl, Int.ofNat_lt.1 h.2⟩
  | negSucc k => exact absurd h.1 (by omega)

theorem natBelow_inB {i : Int} {n : Nat} (h : inB i n = true) : natBelow i n = some i.toNat := by
  obtain ⟨k, rfl, h2⟩ := inB_spec h
  have : Nat.blt k n = true := by simpa [Nat.blt_eq] using h2
  unfold natBelow
  simp only [this, cond_true]
  rfl

theorem indexAddrH_eq {P : Program} {t : TypeId} {a i : V} {c : Bool} {v : V} {ups : Ups} {m : Nat} (h : indexAddrH P t a i = some (c, v, ups, m)) (hc : c = true) : indexAddrE P t a i = some v ∧ ups = [] ∧ m = 0 := by
  subst hc
  unfold indexAddrH oneH at h
  unfold indexAddrE
  split at h
  · rename_i k i
    split at h
    · rename_i e hu
      simp only [hu]
      split at h
      · rename_i n hn
        simp only [hn]
        split at h
        · rename_i sz es
          simp only [Option.some.injEq, Prod.mk.injEq, Bool.and_eq_true] at h
          obtain ⟨⟨h1', h1⟩, h2, h3, h4⟩ := h
          obtain ⟨k, rfl, g2⟩ := inB_spec h1
          have hk : (Int.ofNat k).toNat = k := rfl
          rw [hk] at h2
          simp only [idx, getAt_eq, List.getElem?_eq_getElem g2, h1', cond_true, Option.getD_some] at h2 ⊢
          exact ⟨by rw [← h2], h3.symm, h4.symm⟩
        · simp only [Option.some.injEq, Prod.mk.injEq, Bool.and_eq_true] at h
          obtain ⟨⟨h1', h1⟩, h2, h3, h4⟩ := h
          simp only [natBelow_inB h1, h1', cond_true]
          exact ⟨by rw [← h2], h3.symm, h4.symm⟩
        · cases h
      · cases h
    · rename_i len e hu
      simp only [hu]
      split at h
      · rename_i n hn
        simp only [hn]
        split at h
        · simp only [Option.some.injEq, Prod.mk.injEq] at h
          obtain ⟨h1, h2, h3, h4⟩ := h
          simp only [natBelow_inB h1]
          exact ⟨by rw [← h2], h3.symm, h4.symm⟩
        · simp only [Option.some.injEq, Prod.mk.injEq] at h
          obtain ⟨h1, h2, h3, h4⟩ := h
          simp only [natBelow_inB h1]
          exact ⟨by rw [← h2], h3.symm, h4.symm⟩
        · cases h
      · cases h
    · cases h
  · cases h

theorem bnd_hi {hi : Option V} {n : Nat} (h : bndC hi n = true) : boundHi hi n = some (bndV hi n) := by
  unfold bndC at h
  split at h
  · rfl
  · rename_i k i
    simp only [boundHi, bound, natBelow_inB h, bndV]
  · cases h

theorem bnd_lo {lo : Option V} {n : Nat} (h : bndC lo n = true) : boundLo lo n = some (bndV lo 0) := by
  unfold bndC at h
  split at h
  · rfl
  · rename_i k i
    simp only [boundLo, bound, natBelow_inB h, bndV]
  · cases h

theorem sliceH_eq {P : Program} {t : TypeId} {a : V} {lo hi mx : Option V} {c : Bool} {v : V} {ups : Ups} {m : Nat} (h : sliceH P t a lo hi mx = some (c, v, ups, m)) (hc : c = true) : sliceE P t a lo hi mx = some v ∧ ups = [] ∧ m = 0 := by
  subst hc
  unfold sliceH oneH at h
  split at h
  · rename_i e sz es hu
    split at h
    · rename_i n hn
      simp only [Option.some.injEq, Prod.mk.injEq, Bool.and_eq_true] at h
      obtain ⟨⟨h1'', h1, h1'⟩, h2, h3, h4⟩ := h
      unfold sliceE
      simp only [hu, hn, bnd_hi h1, bnd_lo h1', h1'', cond_true]
      exact ⟨by rw [← h2], h3.symm, h4.symm⟩
    · cases h
  · split at h
    · rename_i u hu
      cases h
      exact ⟨hu, rfl, rfl⟩
    · cases h

theorem binH_eq {P : Program} {op : BinOp} {t : TypeId} {x y : V} {c : Bool} {v : V} {ups : Ups} {m : Nat} (h : binH P op t x y = some (c, v, ups, m)) (hc : c = true) : binB P op t x y = some v ∧ ups = [] ∧ m = 0 := by
  subst hc
  unfold binH oneH at h
  split at h
  · simp only [Option.some.injEq, Prod.mk.injEq, Bool.and_eq_true, Bool.not_eq_true'] at h
    obtain ⟨⟨h1, h1'⟩, h2, h3, h4⟩ := h
    simp only [binB, binE, h1, cond_true, ibin, h1', cond_false]
    exact ⟨by rw [← h2], h3.symm, h4.symm⟩
  · simp only [Option.some.injEq, Prod.mk.injEq, Bool.and_eq_true, Bool.not_eq_true'] at h
    obtain ⟨⟨h1, h1'⟩, h2, h3, h4⟩ := h
    simp only [binB, binE, h1, cond_true, ibin, h1', cond_false]
    exact ⟨by rw [← h2], h3.symm, h4.symm⟩
  · rename_i k a k' b
    simp only [Option.some.injEq, Prod.mk.injEq, decide_eq_true_eq] at h
    obtain ⟨h1, h2, h3, h4⟩ := h
    cases b with
    | ofNat q => exact ⟨by rw [← h2]; rfl, h3.symm, h4.symm⟩
    | negSucc q => exact absurd h1 (by omega)
  · rename_i k a k' b
    simp only [Option.some.injEq, Prod.mk.injEq, decide_eq_true_eq] at h
    obtain ⟨h1, h2, h3, h4⟩ := h
    cases b with
    | ofNat q => exact ⟨by rw [← h2]; rfl, h3.symm, h4.symm⟩
    | negSucc q => exact absurd h1 (by omega)
  · split at h
    · rename_i u hu
      cases h
      exact ⟨hu, rfl, rfl⟩
    · cases h

theorem convH_eq {P : Program} {get : Get} {s d : TypeId} {x : V} {c : Bool} {v : V} {ups : Ups} {m : Nat} (h : convH P get s d x = some (c, v, ups, m)) (hc : c = true) : convE P get s d x = some v ∧ ups = [] ∧ m = 0 := by
  subst hc
  unfold convH oneH at h
  split at h
  · rename_i hs hd
    simp only [Option.some.injEq, Prod.mk.injEq] at h
    obtain ⟨h1, h2, h3, h4⟩ := h
    unfold convE
    simp only [hs, hd]
    obtain ⟨n, hn⟩ := Option.isSome_iff_exists.1 h1
    rw [hn] at h2 ⊢
    exact ⟨by rw [← h2]; rfl, h3.symm, h4.symm⟩
  · rename_i hs hd
    simp only [Option.some.injEq, Prod.mk.injEq] at h
    obtain ⟨h1, h2, h3, h4⟩ := h
    unfold convE
    simp only [hs, hd]
    obtain ⟨n, hn⟩ := Option.isSome_iff_exists.1 h1
    rw [hn] at h2 ⊢
    exact ⟨by rw [← h2]; rfl, h3.symm, h4.symm⟩
  · split at h
    · rename_i u hu
      cases h
      exact ⟨hu, rfl, rfl⟩
    · cases h

theorem storeH_eq {P : Program} {get : Get} {t : TypeId} {a x : V} {c : Bool} {v : V} {ups : Ups} {m : Nat} (h : storeH P get t a x = some (c, v, ups, m)) (hc : c = true) : storeE P get t a x = some ups ∧ v = .und ∧ m = 0 := by
  subst hc
  unfold storeH at h
  unfold storeE
  split at h
  · split at h
    · rename_i hg
      simp only [hg]
      split at h
      · rename_i vs n hv hn
        simp only [Option.some.injEq, Prod.mk.injEq] at h
        obtain ⟨h1, h2, h3, h4⟩ := h
        simp only [hv, hn, h1, cond_true]
        exact ⟨by rw [← h3], h2.symm, h4.symm⟩
      · cases h
    · cases h
  · cases h

theorem appendH_eq {P : Program} {get : Get} {nid : Nat} {t : TypeId} {d x : V} {c : Bool} {v : V} {ups : Ups} {m : Nat} (h : appendH P get nid t d x = some (c, v, ups, m)) (hc : c = true) : appendE P get nid t d x = some (v, ups, m) := by
  subst hc
  unfold appendH at h
  split at h
  · split at h
    · rename_i e hu
      split at h
      · rename_i i z hi hz
        split at h
        · rename_i ds cs hg hg'
          simp only [Option.some.injEq, Prod.mk.injEq, Bool.and_eq_true] at h
          obtain ⟨⟨⟨⟨h1, h2⟩, h3, h4⟩, ⟨h5, h6⟩, h7⟩, h8, h9, h10⟩ := h
          unfold appendE srcE
          simp only [hu, hi, hz, hg, hg', h1, h2, h3, h4, h5, h6, h7, Bool.and_true, cond_true]
          rw [← h8, ← h9, ← h10]
        · cases h
      · cases h
    · cases h
  · split at h
    · rename_i e hu
      split at h
      · rename_i i z hi hz
        split at h
        · rename_i ds hg
          simp only [Option.some.injEq, Prod.mk.injEq, Bool.and_eq_true] at h
          obtain ⟨⟨⟨⟨h1, h2⟩, h3⟩, ⟨h5, h6⟩, h7⟩, h8, h9, h10⟩ := h
          unfold appendE srcE
          simp only [hu, hi, hz, hg, h1, h2, h3, h5, h6, h7, Bool.and_true, cond_true]
          rw [← h8, ← h9, ← h10]
        · cases h
      · cases h
    · cases h
  · split at h
    · rename_i hr
      cases h
      exact hr
    · cases h

theorem callH_eq {P : Program} {t : TypeId} {get : Get} {fl : List Nat} {s : Summ} {args : List V} {c : Bool} {v : V} {ups : Ups} {m : Nat} (h : callH P t get fl s args = some (c, v, ups, m)) (hc : c = true) : callS get fl s args = some (v, ups, m) := by
  unfold callH at h
  split at h
  · obtain ⟨h1, rfl, rfl⟩ := hoist_eq h hc
    simp only [callS, Summ.base, h1]
  · unfold callS
    simp only [Summ.base]
    cases ha : args.all noRefV
    · rw [ha] at h
      simp only [cond_false] at h ⊢
      split at h
      · rename_i c' v' ups' m' hh
        cases hp : plainT v'
        · rw [hp] at h; cases h
        · rw [hp] at h
          simp only [cond_true, Option.some.injEq, Prod.mk.injEq] at h
          obtain ⟨rfl, rfl, rfl, rfl⟩ := h
          obtain ⟨h1, rfl, rfl⟩ := hoist_eq hh hc
          simp only [h1, hp, cond_true]
      · cases h
    · rw [ha] at h
      simp only [cond_true] at h ⊢
      obtain ⟨h1, rfl, rfl⟩ := hoist_eq h hc
      simp only [h1]
  · rename_i q g
    unfold callS
    simp only [Summ.base]
    cases ha : args.all noRefV
    · rw [ha] at h
      simp only [cond_false] at h ⊢
      split at h
      · rename_i c' v' ups' m' hh
        cases hp : plainT v'
        · rw [hp] at h; cases h
        · rw [hp] at h
          simp only [cond_true, Option.some.injEq, Prod.mk.injEq] at h
          obtain ⟨rfl, rfl, rfl, rfl⟩ := h
          rw [Bool.and_eq_true] at hc
          obtain ⟨h1, rfl, rfl⟩ := hoist_eq hh hc.1
          simp only [h1, hp, hc.2, cond_true]
      · cases h
    · rw [ha] at h
      simp only [cond_true] at h ⊢
      split at h
      · rename_i c' v' ups' m' hh
        simp only [Option.some.injEq, Prod.mk.injEq] at h
        obtain ⟨rfl, rfl, rfl, rfl⟩ := h
        rw [Bool.and_eq_true] at hc
        obtain ⟨h1, rfl, rfl⟩ := hoist_eq hh hc.1
        simp only [h1, hc.2, cond_true]
      · cases h
  · rename_i q g
    unfold callS
    simp only [Summ.base]
    split at h
    · cases hb : (memB _ fl && List.all _ noRefV)
      · rw [hb] at h; cases h
      · rw [hb] at h
        simp only [cond_true] at h ⊢
        split at h
        · rename_i hg
          try simp only [hg]
          split at h
          · rename_i hgr
            simp only [Option.some.injEq, Prod.mk.injEq] at h
            obtain ⟨rfl, rfl, rfl, rfl⟩ := h
            simp only [hc, cond_true, hgr]
          · cases h
        · cases h
    · cases h
  · exact resH_eq h

theorem opH_eq {E : Env} {get : Get} {fl : List Nat} {nid : Nat} {ev : Operand → V} {o : Oper} {c : Bool} {v : V} {ups : Ups} {m : Nat} (h : opH E get fl nid ev o = some (c, v, ups, m)) (hc : c = true) : opE E get fl nid ev o = some (v, ups, m) := by
  unfold opH at h
  split at h <;> (try (exact resH_eq h)) <;> rename_i hop <;> unfold opE <;> simp only [hop]
  · obtain ⟨h1, rfl, rfl⟩ := hoist_eq h hc; simp only [h1, one]
  · obtain ⟨h1, rfl, rfl⟩ := hoist_eq h hc; simp only [h1, one]
  · obtain ⟨h1, rfl, rfl⟩ := indexAddrH_eq h hc; simp only [h1, one]
  · obtain ⟨h1, rfl, rfl⟩ := sliceH_eq h hc; simp only [h1, one]
  · obtain ⟨h1, rfl, rfl⟩ := binH_eq h hc; simp only [h1, one]
  · obtain ⟨h1, rfl, rfl⟩ := convH_eq h hc; simp only [h1, one]
  · obtain ⟨h1, rfl, rfl⟩ := storeH_eq h hc; simp only [h1]
  · split at h
    · rename_i hb
      simp only [hb, builtinE]
      split at h
      · rename_i ht ha
        split at h
        · rename_i hu
          simp only [ht, ha, hu]
          exact appendH_eq h hc
        · cases h
      · cases h
    · rename_i b hna hb
      simp only [hb]
      exact resH_eq h
    · rename_i f hf
      simp only [hf]
      split at h
      · split at h
        · exact callH_eq h hc
        · cases h
      · cases h
    · cases h
end Go.Ev
