/-
  Regions whose order is open: one operation more, in any order.
-/
import Derived.Test.YtggfjjacafgkkaaEv18
namespace Go.Ev

section
variable {α : Type} {E : Env} {n : Nat} {all : Array Oper} {nx : Nat} {fl0 : List Nat} {R0 : Nat → V} {g0 : Get} {rc : Nat → Rec} {J0 : Im} {μ0 : Mu} {w0 : World}

/-- The state behind those operations that a set holds. -/
structure SimL (n : Nat) (all : Array Oper) (nx : Nat) (fl0 : List Nat) (R0 : Nat → V) (g0 : Get) (rc : Nat → Rec) (J0 : Im) (μ0 : Mu) (w0 : World) (L : Nat → Bool) (J : Im) (μ : Mu) (a : Act) (w : World) : Prop where
  regs : ∀ t, Rv J μ (SR rc R0 L all.size t) (a.tmps.getD t undef)
  size : a.tmps.size = n
  defers : a.defers = []
  inv : Inv (SG rc g0 L all.size) J μ w
  fresh : ∀ i, nx ≤ i → (∀ k, k < all.size → L k = true → i ≠ nx + k) → μ i = none
  flat : FlatInv fl0 (SG rc g0 L all.size)
  head : ∀ k, k < all.size → L k = true → HeadOK fl0 (rc k)
  ext : Ext g0 J0 μ0 w0 (SG rc g0 L all.size) J μ w

def Closed (rc : Nat → Rec) (N : Nat) (L : Nat → Bool) : Prop := ∀ j, j < N → L j = true → ∀ m, memB m (rc j).d.anc = true → L m = true

theorem pres_get {k j : Nat} (h : j < k) : (pres rc k)[j]? = some (rc j).d := by simp [pres, h]

/-- Two operations of which neither must come ahead of the other. -/
theorem quiet_two (hs : ∀ k, k < all.size → Step E n all nx fl0 R0 g0 rc k) {L : Nat → Bool} (hc : Closed rc all.size L) {k : Nat} (hk : k < all.size) (hL : L k = false) (ha : ∀ m, memB m (rc k).d.anc = true → L m = true) {o : Oper} (ho : all[k]? = some o)
    {j : Nat} (hj : j < all.size) (hne : L j ≠ decide (j < k)) : ∃ oj, all[j]? = some oj ∧ oj.dst = (rc j).dst ∧ (∀ t, oj.dst = some t → t ∉ o.looksAt all) ∧ disj (rc j).d.wr (rc k).d.foot = true := by
  obtain ⟨oj, sj⟩ := hs j hj
  obtain ⟨ok, sk⟩ := hs k hk
  have e : ok = o := by
    have := sk.at_
    rw [ho] at this
    exact (Option.some.inj this).symm
  subst e
  refine ⟨oj, sj.at_, sj.dst.symm, ?_⟩
  rcases Nat.lt_trichotomy j k with h | h | h
  · rcases sk.quiet j _ (pres_get h) with q | ⟨q1, q2, q3, p, q4, q5⟩
    · rw [ha j q] at hne
      simp [h] at hne
    · have e : p = oj := by
        rw [sj.at_] at q4
        exact (Option.some.inj q4).symm
      subst e
      exact ⟨fun t ht => (Oper.apart_spec q5).1 t ht, q1⟩
  · subst h
    rw [hL] at hne
    simp at hne
  · rcases sj.quiet k _ (pres_get h) with q | ⟨q1, q2, q3, p, q4, q5⟩
    · have : L j = false := by
        cases hLj : L j
        · rfl
        · have := hc j hj hLj k q
          rw [hL] at this; cases this
      rw [this] at hne
      have : ¬ j < k := by omega
      simp [this] at hne
    · have e : p = ok := by
        rw [ho] at q4
        exact (Option.some.inj q4).symm
      subst e
      exact ⟨fun t ht => (Oper.apart_spec q5).2.2 t ht, q2⟩

theorem quiet_later (hs : ∀ k, k < all.size → Step E n all nx fl0 R0 g0 rc k) {L : Nat → Bool} (hc : Closed rc all.size L) {k : Nat} (hL : L k = false) {o : Oper} (ho : all[k]? = some o)
    {j : Nat} (hkj : k < j) (hj : j < all.size) (hLj : L j = true) : (∀ t, o.dst = some t → (rc j).dst ≠ some t) ∧ disj (rc j).d.wr (rc k).d.wr = true := by
  obtain ⟨oj, sj⟩ := hs j hj
  rcases sj.quiet k _ (pres_get hkj) with q | ⟨q1, q2, q3, p, q4, q5⟩
  · have := hc j hj hLj k q
    rw [hL] at this; cases this
  · have e : p = o := by
      rw [ho] at q4
      exact (Option.some.inj q4).symm
    subst e
    refine ⟨fun t ht => ?_, q3⟩
    rw [sj.dst]
    exact (Oper.apart_spec q5).2.1 t ht

theorem SR_look (hs : ∀ k, k < all.size → Step E n all nx fl0 R0 g0 rc k) {L : Nat → Bool} (hc : Closed rc all.size L) {k : Nat} (hk : k < all.size) (hL : L k = false) (ha : ∀ m, memB m (rc k).d.anc = true → L m = true) {o : Oper} (ho : all[k]? = some o)
    {t : Nat} (ht : t ∈ o.looksAt all) : SR rc R0 L all.size t = SR rc R0 (fun _ => true) k t := by
  refine SS_at (Nat.le_of_lt hk) fun j hj hw => ?_
  apply Classical.byContradiction
  intro hne
  obtain ⟨oj, h1, h2, h3, h4⟩ := quiet_two hs hc hk hL ha ho hj hne
  unfold wrR at hw
  split at hw
  · rename_i hd
    exact h3 t (h2.trans hd) ht
  · exact hw rfl

theorem SG_foot (hs : ∀ k, k < all.size → Step E n all nx fl0 R0 g0 rc k) {L : Nat → Bool} (hc : Closed rc all.size L) {k : Nat} (hk : k < all.size) (hL : L k = false) (ha : ∀ m, memB m (rc k).d.anc = true → L m = true) :
    restr (rc k).d.foot (SG rc g0 L all.size) = restr (rc k).d.foot (SG rc g0 (fun _ => true) k) := by
  obtain ⟨o, sk⟩ := hs k hk
  funext id
  unfold restr
  cases hm : memB id (rc k).d.foot
  · rfl
  · simp only [cond_true]
    refine SS_at (Nat.le_of_lt hk) fun j hj hw => ?_
    apply Classical.byContradiction
    intro hne
    obtain ⟨oj, h1, h2, h3, h4⟩ := quiet_two hs hc hk hL ha sk.at_ hj hne
    obtain ⟨_, sj⟩ := hs j hj
    refine disj_spec h4 ?_ hm
    rw [sj.wr]
    cases hb : memB id ((rc j).ups.map (·.1))
    · exact absurd (lk_none.2 hb) hw
    · rfl

theorem eval_look (hs : ∀ k, k < all.size → Step E n all nx fl0 R0 g0 rc k) {L : Nat → Bool} (hc : Closed rc all.size L) {k : Nat} (hk : k < all.size) (hL : L k = false) (ha : ∀ m, memB m (rc k).d.anc = true → L m = true) {o : Oper} (ho : all[k]? = some o) :
    ∀ x ∈ o.op.operands, evalF (SR rc R0 L all.size) x = evalF (SR rc R0 (fun _ => true) k) x := by
  intro x hx
  cases x with
  | tmp t =>
    refine SR_look hs hc hk hL ha ho ?_
    unfold Oper.looksAt
    rw [List.mem_append]
    refine .inl (List.mem_filterMap.2 ⟨.tmp t, by simpa using hx, rfl⟩)
  | _ => rfl

theorem evalF_sound {J : Im} {μ : Mu} {R : Nat → V} {a : Act} (h : ∀ t, Rv J μ (R t) (a.tmps.getD t undef)) (x : Operand) : Rv J μ (evalF R x) (a.eval x) := by
  cases x with
  | tmp t => exact h t
  | const v => exact rv_ofVal v
  | global g => exact .und
  | func f => exact .fn rfl rfl (fun j v g hv => by simp at hv) (fun j v g hv => by simp at hv)

theorem head_of {c : Rec} {get : Get} (h : FlatInv (flatUps fl0 c.flag c.ups) (upd c.ups get)) (hk : keepsFlat fl0 c.flag c.ups = true) : HeadOK fl0 c := by
  refine ⟨fun id cs rest hu hf v hv => ?_, hk⟩
  rw [hu, hf] at h
  refine h id ?_ cs (by rw [upd_cons, if_pos rfl]) v hv
  simp only [flatUps, cond_true]
  cases hm : memB id fl0
  · exact (memB_cons _ _ _).2 (.inl rfl)
  · exact hm

theorem stepL_sound (hS : SOK E) (hs : ∀ k, k < all.size → Step E n all nx fl0 R0 g0 rc k) {L : Nat → Bool} (hc : Closed rc all.size L) {k : Nat} (hk : k < all.size) (hL : L k = false) (ha : ∀ m, memB m (rc k).d.anc = true → L m = true)
    {J : Im} {μ : Mu} {a : Act} {w : World} {Q : Exit → Act → World → Prop} {X : Act → World → Prop} (sim : SimL n all nx fl0 R0 g0 rc J0 μ0 w0 L J μ a w)
    (hX : ∀ J' μ' a' w', SimL n all nx fl0 R0 g0 rc J0 μ0 w0 (fun j => L j || Nat.beq j k) J' μ' a' w' → X a' w') : wpOp E.P all Q k X a w := by
  obtain ⟨o, sk⟩ := hs k hk
  have ho := sk.at_
  -- what the state is behind it
  have fin : ∀ (J' : Im) (μ' : Mu) (g : Value) (w' : World), Rv J' μ' (rc k).v g → Inv (upd (rc k).ups (SG rc g0 L all.size)) J' μ' w' → Ext (SG rc g0 L all.size) J μ w (upd (rc k).ups (SG rc g0 L all.size)) J' μ' w' →
      (∀ i, nx ≤ i → i ≠ nx + k → μ' i = μ i) → HeadOK fl0 (rc k) → X (a.put o.dst g) w' := by
    intro J' μ' g w' h1 h2 h3 h4 h5
    have hSR : ∀ t, SR rc R0 (fun j => L j || Nat.beq j k) all.size t = (wrR rc k t).getD (SR rc R0 L all.size t) := fun t => by
      refine SS_add hL all.size hk fun j hkj hj hLj hw => ?_
      obtain ⟨q1, q2⟩ := quiet_later hs hc hL ho hkj hj hLj
      unfold wrR at hw ⊢
      split at hw
      · rename_i hd
        rw [sk.dst] at hd
        exact if_neg (q1 t hd)
      · exact absurd rfl hw
    have hSG : SG rc g0 (fun j => L j || Nat.beq j k) all.size = upd (rc k).ups (SG rc g0 L all.size) := by
      funext id
      rw [upd_lk]
      refine SS_add hL all.size hk fun j hkj hj hLj hw => ?_
      obtain ⟨q1, q2⟩ := quiet_later hs hc hL ho hkj hj hLj
      obtain ⟨_, sj⟩ := hs j hj
      unfold wrG at hw ⊢
      rw [lk_none]
      cases hb : memB id ((rc j).ups.map (·.1))
      · rfl
      · exfalso
        refine disj_spec q2 (by rw [sj.wr]; exact hb) ?_
        rw [sk.wr]
        cases hb' : memB id ((rc k).ups.map (·.1))
        · exact absurd (lk_none.2 hb') hw
        · rfl
    refine hX J' μ' _ w' ⟨fun t => ?_, ?_, ?_, by rw [hSG]; exact h2, fun i hi hn => ?_, by rw [hSG]; exact h5.flat0 sim.flat, fun j hj hLj => ?_, by rw [hSG]; exact sim.ext.trans h3⟩
    · rw [hSR t]
      have old := (sim.regs t).mono h3.im h3.mu
      unfold wrR
      rw [sk.dst]
      cases hd : o.dst with
      | none => simpa [Act.put] using old
      | some d =>
        have hlt := sk.lt d hd
        simp only [Option.some.injEq, Act.put]
        split
        · rename_i e
          subst e
          have : (a.tmps.setIfInBounds d g).getD d undef = g := by simp [Array.getD, sim.size, hlt]
          rw [this]
          exact h1
        · rename_i e
          have : (a.tmps.setIfInBounds d g).getD t undef = a.tmps.getD t undef := by
            have h1 : (a.tmps.setIfInBounds d g)[t]? = a.tmps[t]? := Array.getElem?_setIfInBounds_ne e
            rw [Array.getD_eq_getD_getElem?, Array.getD_eq_getD_getElem?, h1]
          rw [this]
          exact old
    · cases o.dst <;> simp [Act.put, sim.size]
    · cases o.dst <;> simp [Act.put, sim.defers]
    · rw [h4 i hi (hn k hk (by simp))]
      exact sim.fresh i hi fun j hj hLj => hn j hj (by simp [hLj])
    · cases hLj' : L j
      · have : j = k := by
          simp only [hLj', Bool.false_or] at hLj
          exact Nat.eq_of_beq_eq_true hLj
        subst this
        exact h5
      · exact sim.head j hj hLj'
  have same : HeadOK fl0 (rc k) → (rc k).ups = [] → ∀ g, Rv J μ (rc k).v g → X (a.put o.dst g) w := fun hh hu g hv => by
    refine fin J μ g w hv ?_ ?_ (fun _ _ _ => rfl) hh
    · rw [hu, upd_nil]; exact sim.inv
    · rw [hu, upd_nil]; exact Ext.refl _ _ _ _
  have nilHead : (rc k).ups = [] → HeadOK fl0 (rc k) := fun hu => ⟨fun id cs rest h => (by rw [hu] at h; cases h), by rw [hu]; rfl⟩
  have guardL : ∀ j want t, o.guard = some (j, want) → guardT all.toList j = some t → t ∈ o.looksAt all := by
    intro j want t hg ht
    unfold Oper.looksAt
    rw [List.mem_append]
    refine .inr ?_
    unfold guardT at ht
    rw [getAt_eq, Array.getElem?_toList] at ht
    simp only [hg]
    cases hj : all[j]? with
    | none => rw [hj] at ht; cases ht
    | some oj =>
      rw [hj] at ht
      simp only at ht
      simp [ht]
  have guardR : ∀ j want t b, o.guard = some (j, want) → guardT all.toList j = some t → SR rc R0 (fun _ => true) k t = .bool b → Region.wanted o (yielded all a.tmps) = (b == want) := by
    intro j want t b hg ht hb
    have htl : t ∈ o.looksAt all := by
      unfold Oper.looksAt
      rw [List.mem_append]
      refine .inr ?_
      unfold guardT at ht
      rw [getAt_eq, Array.getElem?_toList] at ht
      simp only [hg]
      cases hj : all[j]? with
      | none => rw [hj] at ht; cases ht
      | some oj =>
        rw [hj] at ht
        simp only at ht
        simp [ht]
    have hbv : a.tmps.getD t undef = .bool b := by
      have := sim.regs t
      rw [SR_look hs hc hk hL ha ho htl, hb] at this
      generalize a.tmps.getD t undef = g at this
      cases this
      rfl
    exact guard_spec hg ht hbv (undef_lt hbv)
  unfold wpOp
  simp only [ho]
  rcases sk.act with ⟨hv, hu, j, want, t, hg, ht, hb⟩ | ⟨hg, hact⟩
  · have hw : Region.wanted o (yielded all a.tmps) = false := by
      rcases hb with hb | hb
      · rw [guardR j want t _ hg ht hb]
        cases want <;> rfl
      · exact guard_undef hg ht (by have := sim.regs t; rw [SR_look hs hc hk hL ha ho (guardL j want t hg ht), hb] at this; exact this)
    rw [hw]
    simp only [Bool.false_eq_true, if_false]
    exact same (nilHead hu) hu undef (by rw [hv]; exact rv_undef)
  · have hw : Region.wanted o (yielded all a.tmps) = true := by
      rcases hg with hg | ⟨j, want, t, hg, ht, hb⟩
      · simp [Region.wanted, hg]
      · rw [guardR j want t _ hg ht hb]
        cases want <;> rfl
    simp only [hw, if_true]
    refine .inl ?_
    have hops := eval_look hs hc hk hL ha ho
    have hev := evalF_sound sim.regs
    rcases hact with ⟨q, p1, p2, t, hop, ht, hv, hu⟩ | ⟨m, hoe, hm, hkf, hfl⟩
    · rw [hop] at hops
      simp only [Op.operands] at hops
      have hb : a.eval q = .bool t := by
        have := hev q
        rw [hops q (by simp), ht] at this
        generalize a.eval q = gq at this
        cases this
        rfl
      refine wp_of_res (Φ := fun g w' => g = a.eval (if t then p1 else p2) ∧ w' = w) (.inl ⟨a.eval (if t then p1 else p2), w, ?_, rfl, rfl⟩) ?_
      · unfold execOp
        rw [hop]
        simp only [Sem.run_bind, hb, asBool, Sem.run_pure, Result.andThen_ok]
        cases t <;> rfl
      · rintro g w' ⟨rfl, rfl⟩
        refine same (nilHead hu) hu _ ?_
        rw [hv, ← hops (if t then p1 else p2) (by cases t <;> simp)]
        exact hev _
    · rw [← SG_foot hs hc hk hL ha, ← opE_congr E _ _ _ o hops] at hoe
      rw [← flagE_congr _ _ o hops] at hfl
      have hres := opE_sound2 hS (Inv.restr (rc k).d.foot sim.inv) (flat_restr _ sim.flat) hev hoe (fun i hi hi' => sim.fresh i (by dsimp only at hi'; omega) fun j hj hLj => by
        dsimp only at hi'
        have : i = nx + k := by omega
        subst this
        intro e
        have : j = k := by omega
        subst this
        rw [hL] at hLj; cases hLj)
      refine wp_of_res hres ?_
      rintro g w' ⟨⟨J', μ', g1, g2, g3, g4⟩, hflat⟩
      obtain ⟨m1, m2⟩ := merge sim.inv rfl g2 g3
      refine fin J' μ' g w' g1 m1 m2 (fun i hi hne => g4 i ?_) (head_of (get := restr (rc k).d.foot (SG rc g0 L all.size)) ?_ hkf)
      · dsimp only
        omega
      · rw [hfl]; exact hflat
end
end Go.Ev
