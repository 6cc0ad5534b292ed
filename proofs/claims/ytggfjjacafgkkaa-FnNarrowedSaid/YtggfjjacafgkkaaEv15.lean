/-
  A region in the text's order.
-/
import Derived.Test.YtggfjjacafgkkaaEv14
namespace Go.Ev

structure Sim (n : Nat) (s : St) (J : Im) (μ : Mu) (a : Act) (w : World) : Prop where
  regs : ∀ t, Rv J μ (look s.r t) (a.tmps.getD t undef)
  size : a.tmps.size = n
  defers : a.defers = []
  inv : Inv s.get J μ w
  fresh : ∀ i, s.nx ≤ i → μ i = none
  flat : FlatInv s.fl s.get

theorem look_cons (k : Nat) (v : V) (r : Regs) (t : Nat) : look ((k, v) :: r) t = if k = t then v else look r t := by
  simp only [look]
  cases hb : Nat.beq k t
  · rw [if_neg (fun e => by subst e; simp at hb)]; rfl
  · rw [if_pos (Nat.eq_of_beq_eq_true hb)]; rfl

theorem evalO_sound {J : Im} {μ : Mu} {r : Regs} {a : Act} (h : ∀ t, Rv J μ (look r t) (a.tmps.getD t undef)) (x : Operand) : Rv J μ (evalO r x) (a.eval x) := by
  cases x with
  | tmp t => exact h t
  | const v => exact rv_ofVal v
  | global g => exact .und
  | func f => exact .fn rfl rfl (fun j v g hv => by simp at hv) (fun j v g hv => by simp at hv)

/-- A register is known anew: what it is known to be. -/
theorem regs_set {J : Im} {μ : Mu} {r : Regs} {a : Act} {t : Nat} {v : V} (h : ∀ t, Rv J μ (look r t) (a.tmps.getD t undef)) (hv : Rv J μ v (a.tmps.getD t undef)) : ∀ t', Rv J μ (look ((t, v) :: r) t') (a.tmps.getD t' undef) := by
  intro t'
  rw [look_cons]
  split
  · rename_i e; subst e; exact hv
  · exact h t'

section
variable {α : Type}

theorem putK_sound {n : Nat} {dst : Option Nat} {v : V} {r : Regs} {K : Regs → Option α} {x : α} {J : Im} {μ : Mu} {a : Act} {g : Value} (h : putK n dst v r K = some x) (hr : ∀ t, Rv J μ (look r t) (a.tmps.getD t undef))
    (hs : a.tmps.size = n) (hv : Rv J μ v g) : ∃ r', K r' = some x ∧ (∀ t, Rv J μ (look r' t) ((a.put dst g).tmps.getD t undef)) ∧ (a.put dst g).tmps.size = n ∧ (a.put dst g).defers = a.defers := by
  unfold putK at h
  cases dst with
  | none => exact ⟨r, h, hr, hs, rfl⟩
  | some d =>
    simp only at h
    cases hb : Nat.blt d n
    · rw [hb] at h; cases h
    · rw [hb] at h
      have hd : d < n := by simpa [Nat.blt_eq] using hb
      refine ⟨(d, v) :: r, h, fun t => ?_, by simp [Act.put, hs], rfl⟩
      rw [look_cons]
      split
      · rename_i e
        subst e
        simp only [Act.put]
        have : (a.tmps.setIfInBounds d g).getD d undef = g := by
          simp [Array.getD, hs, hd]
        rw [this]
        exact hv
      · rename_i e
        have : (a.tmps.setIfInBounds d g).getD t undef = a.tmps.getD t undef := by
          have h1 : (a.tmps.setIfInBounds d g)[t]? = a.tmps[t]? := Array.getElem?_setIfInBounds_ne e
          rw [Array.getD_eq_getD_getElem?, Array.getD_eq_getD_getElem?, h1]
        simp only [Act.put]
        rw [this]
        exact hr t

theorem res_of_call {P : Program} {r : Result Next} {Φ : Value → World → Prop} (h : CallRes P r Φ) : ExecRes P r Φ := by
  rcases h with ⟨g, w', h1, h2⟩ | ⟨f', args', w', h1, h2⟩
  · exact .inl ⟨g, w', h1, h2⟩
  · exact .inr (.inr ⟨f', args', w', h1, h2⟩)

/-- What a call of a function that is walked into does. -/
def CallOK (P : Program) (call : Call α) : Prop :=
  ∀ f args os nx fl K x, call f args os nx fl K = some x → ∀ (J : Im) (μ : Mu) (gs : Array Value) (w : World), Inv (upd os noGet) J μ w → (∀ i, nx ≤ i → μ i = none) → FlatInv fl (upd os noGet) → Rvs J μ args gs →
    CallRes P ((callFunc f gs).run P w) fun g w' => ∃ v os' nx' fl' J' μ', K v os' nx' fl' = some x ∧ Rv J' μ' v g ∧ Inv (upd os' noGet) J' μ' w' ∧ (∀ i, nx' ≤ i → μ' i = none) ∧ FlatInv fl' (upd os' noGet) ∧
      Ext (upd os noGet) J μ w (upd os' noGet) J' μ' w'

theorem regs_mono {J J' : Im} {μ μ' : Mu} {r : Regs} {a : Act} (h : ∀ t, Rv J μ (look r t) (a.tmps.getD t undef)) (hJ : Im.le J J') (hμ : Mu.le μ μ') : ∀ t, Rv J' μ' (look r t) (a.tmps.getD t undef) := fun t => (h t).mono hJ hμ

theorem upd_os (ups os : Ups) : upd ups (upd os noGet) = upd (ups ++ os) noGet := by rw [upd_append]

theorem stepK_sound {E : Env} {call : Call α} {n : Nat} {o : Oper} {s : St} {K : St → Option α} {x : α} {J : Im} {μ : Mu} {a : Act} {w : World} {next : Act → World → Prop} {Q : Exit → Act → World → Prop}
    (hS : SOK E) (hC : CallOK E.P call) (h : stepK E call n o s K = some x) (hs : Sim n s J μ a w)
    (hn : ∀ s' J' μ' a' w', K s' = some x → Sim n s' J' μ' a' w' → Ext s.get J μ w s'.get J' μ' w' → next a' w') : o.wp E.P a w next Q := by
  obtain ⟨r, os, nx, fl⟩ := s
  have hev := evalO_sound hs.regs
  -- an operation that yields a value where it stands
  have fin : ∀ (g : Value) (w' : World) (v : V) (ups : Ups) (m : Nat) (fl' : List Nat), Good (upd os noGet) J μ w nx (v, ups, m) g w' → FlatInv fl' (upd ups (upd os noGet)) →
      putK n o.dst v r (fun r' => K ⟨r', ups ++ os, nx + m, fl'⟩) = some x → next (a.put o.dst g) w' := by
    rintro g w' v ups m fl' ⟨J', μ', g1, g2, g3, g4⟩ hfl hp
    obtain ⟨r', k1, k2, k3, k4⟩ := putK_sound hp (regs_mono hs.regs g3.im g3.mu) hs.size g1
    refine hn ⟨r', ups ++ os, nx + m, fl'⟩ J' μ' _ w' k1 ⟨k2, k3, by rw [k4]; exact hs.defers, ?_, fun i hi => ?_, ?_⟩ ?_
    · simpa [St.get, upd_os] using g2
    · rw [g4 i (.inr hi)]
      exact hs.fresh i (by dsimp only at hi ⊢; omega)
    · simpa [St.get, upd_os] using hfl
    · simpa [St.get, upd_os] using g3
  unfold stepK at h
  simp only at h
  split at h
  · -- pick
    rename_i c p q hop
    split at h
    · rename_i t ht
      have hb : a.eval c = .bool t := by
        have := hev c
        rw [ht] at this
        generalize a.eval c = gc at this
        cases this
        rfl
      have hrun : ∀ z : Operand, (if t then p else q) = z → putK n o.dst (evalO r z) r (fun r => K ⟨r, os, nx, fl⟩) = some x → o.wp E.P a w next Q := by
        intro z hz hp
        refine wp_of_res (Φ := fun g w' => g = a.eval z ∧ w' = w) (.inl ⟨a.eval z, w, ?_, rfl, rfl⟩) ?_
        · unfold execOp
          rw [hop]
          simp only [Sem.run_bind, hb, asBool, Sem.run_pure, Result.andThen_ok]
          cases t <;> simp at hz <;> subst hz <;> rfl
        · rintro g w' ⟨rfl, rfl⟩
          exact fin _ w' (evalO r z) [] 0 fl (Good.same hs.inv (hev z) rfl) (by rw [upd_nil]; exact hs.flat) hp
      cases t
      · exact hrun q rfl h
      · exact hrun p rfl h
    · cases h
  · -- a call
    rename_i f args ts hop
    split at h
    · rename_i fid first cap hfe
      have hF := hev f
      rw [hfe] at hF
      generalize hgf : a.eval f = gf at hF
      cases hF with
      | fn k1 k2 k3 k4 =>
        rename_i g1 g2
        have hr : Rvs J μ (first ++ args.toList.map (evalO r) ++ cap) (g1 ++ args.map a.eval ++ g2) := rvs_append (rvs_append ⟨k1, k3⟩ (rvs_map hev args)) ⟨k2, k4⟩
        have hrun : (execOp a.eval o).run E.P w = (callFunc fid (g1 ++ args.map a.eval ++ g2)).run E.P w := by
          unfold execOp
          rw [hop]
          simp only [Sem.run_bind, resolve, hgf, Deferred.ofValue, Sem.run_pure, Result.andThen_ok, invoke]
        split at h
        · rename_i su hsu
          split at h
          · rename_i c v ups m hcs
            cases hcc : c
            · rw [hcc] at h; cases h
            rw [hcc] at h
            simp only [cond_true] at h
            have hc := callS_sound (nid := nx) (hS fid su hsu) hs.inv hs.flat hr (callH_eq hcs hcc)
            have hc' := res_of_call hc
            rw [← hrun] at hc'
            refine wp_of_res hc' ?_
            rintro g w' ⟨q1, q2⟩
            exact fin g w' v ups m _ q1 q2 h
          · cases h
        · have hc := hC _ _ _ _ _ _ _ h J μ _ w hs.inv hs.fresh hs.flat hr
          have hc' := res_of_call hc
          rw [← hrun] at hc'
          refine wp_of_res hc' ?_
          rintro g w' ⟨v, os', nx', fl', J', μ', p1, p2, p3, p4, p5, p6⟩
          obtain ⟨r', q1, q2, q3, q4⟩ := putK_sound p1 (regs_mono hs.regs p6.im p6.mu) hs.size p2
          exact hn ⟨r', os', nx', fl'⟩ J' μ' _ w' q1 ⟨q2, q3, by rw [q4]; exact hs.defers, p3, p4, p5⟩ p6
    · cases h
  · rename_i hnp hnc
    split at h
    · rename_i c v ups m hoH
      cases hcc : c
      · rw [hcc] at h; cases h
      rw [hcc] at h
      simp only [cond_true] at h
      have ho := opH_eq hoH hcc
      have hres := opE_sound (nid := nx) hS hs.inv hs.flat hev ho (fun i hi _ => hs.fresh i hi)
      refine wp_of_res hres fun g w' hg => fin g w' v ups m _ hg.1 ?_ h
      exact flag_sound hs.flat hev ho fun c f hc hcal => by
        obtain ⟨cal, args, ts⟩ := c
        dsimp only at hcal
        subst hcal
        exact hnc f args ts hc
    · cases h

theorem guard_spec {ops : Array Oper} {o : Oper} {j t : Nat} {want b : Bool} {a : Act} (hg : o.guard = some (j, want)) (ht : guardT ops.toList j = some t) (hb : a.tmps.getD t undef = .bool b) (hlt : t < a.tmps.size) :
    Region.wanted o (yielded ops a.tmps) = (b == want) := by
  unfold guardT at ht
  rw [getAt_eq, Array.getElem?_toList] at ht
  have h1 : a.tmps[t]? = some (.bool b) := by
    rw [Array.getD_eq_getD_getElem?] at hb
    rw [Array.getElem?_eq_getElem hlt] at hb ⊢
    simpa using hb
  cases ho : ops[j]? with
  | none => rw [ho] at ht; cases ht
  | some oj =>
    rw [ho] at ht
    simp only at ht
    simp only [Region.wanted, hg, yielded, ho, Option.bind_some, ht, h1]
    cases b <;> cases want <;> rfl

theorem rv_undef {J : Im} {μ : Mu} : Rv J μ (.tup []) undef := .tup rfl fun j v g hv => by simp at hv

theorem guard_undef {ops : Array Oper} {o : Oper} {j t : Nat} {want : Bool} {J : Im} {μ : Mu} {a : Act} (hg : o.guard = some (j, want)) (ht : guardT ops.toList j = some t) (hb : Rv J μ (.tup []) (a.tmps.getD t undef)) :
    Region.wanted o (yielded ops a.tmps) = false := by
  unfold guardT at ht
  rw [getAt_eq, Array.getElem?_toList] at ht
  cases ho : ops[j]? with
  | none => rw [ho] at ht; cases ht
  | some oj =>
    rw [ho] at ht
    simp only at ht
    simp only [Region.wanted, hg, yielded, ho, Option.bind_some, ht]
    rw [Array.getD_eq_getD_getElem?] at hb
    cases hx : a.tmps[t]? with
    | none => rfl
    | some g =>
      rw [hx] at hb
      simp only [Option.getD_some] at hb
      cases hb
      rfl

theorem undef_lt {a : Act} {t : Nat} {b : Bool} (hb : a.tmps.getD t undef = .bool b) : t < a.tmps.size := by
  rcases Nat.lt_or_ge t a.tmps.size with h | h
  · exact h
  · rw [Array.getD_eq_getD_getElem?, Array.getElem?_eq_none h] at hb
    simp [undef] at hb

theorem opsK_sound {E : Env} {call : Call α} {n : Nat} {ops : Array Oper} {K : St → Option α} {x : α} {Q : Exit → Act → World → Prop} (hS : SOK E) (hC : CallOK E.P call) : ∀ (rest : List Oper) (k : Nat) (s : St) (J : Im) (μ : Mu) (a : Act) (w : World),
    (∀ j, rest[j]? = ops[k + j]?) → opsK E call n ops.toList rest s K = some x → Sim n s J μ a w →
    (∀ s' J' μ' a' w', K s' = some x → Sim n s' J' μ' a' w' → Ext s.get J μ w s'.get J' μ' w' → Q .normal a' w') → wpOps E.P ops Q (List.range' k rest.length) a w
  | [], k, s, J, μ, a, w, _, h, hs, hq => by
    simp only [List.length_nil, List.range'_zero, wpOps]
    exact hq s J μ a w h hs (Ext.refl _ _ _ _)
  | o :: rest, k, s, J, μ, a, w, hl, h, hs, hq => by
    have ho : ops[k]? = some o := by simpa using (hl 0).symm
    have hl' : ∀ j, rest[j]? = ops[k + 1 + j]? := fun j => by
      have := hl (j + 1)
      rw [show k + 1 + j = k + (j + 1) by omega]
      simpa using this
    have go : ∀ (s1 : St) J1 μ1 a1 w1, opsK E call n ops.toList rest s1 K = some x → Sim n s1 J1 μ1 a1 w1 → Ext s.get J μ w s1.get J1 μ1 w1 → wpOps E.P ops Q (List.range' (k + 1) rest.length) a1 w1 := by
      intro s1 J1 μ1 a1 w1 h1 hs1 he1
      exact opsK_sound hS hC rest (k + 1) s1 J1 μ1 a1 w1 hl' h1 hs1 fun s' J' μ' a' w' p1 p2 p3 => hq s' J' μ' a' w' p1 p2 (he1.trans p3)
    rw [List.length_cons, List.range'_succ, wpOps_cons]
    unfold wpOp
    simp only [ho]
    unfold opsK at h
    cases hg : o.guard with
    | none =>
      rw [hg] at h
      simp only at h
      have hw : Region.wanted o (yielded ops a.tmps) = true := by simp [Region.wanted, hg]
      simp only [hw, if_true]
      exact .inl (stepK_sound hS hC h hs fun s' J' μ' a' w' p1 p2 p3 => go s' J' μ' a' w' p1 p2 p3)
    | some jw =>
      obtain ⟨j, want⟩ := jw
      rw [hg] at h
      simp only at h
      split at h
      · cases h
      · rename_i t ht
        obtain ⟨r, os, nx, fl⟩ := s
        simp only at h
        split at h
        · rename_i b hb
          have hbv : a.tmps.getD t undef = .bool b := by
            have := hs.regs t
            rw [hb] at this
            generalize a.tmps.getD t undef = g at this
            cases this
            rfl
          have hw := guard_spec hg ht hbv (undef_lt hbv)
          have hs1 : Sim n ⟨(t, .bool b) :: r, os, nx, fl⟩ J μ a w := ⟨regs_set hs.regs (by rw [hbv]; exact .bool), hs.size, hs.defers, hs.inv, hs.fresh, hs.flat⟩
          rw [hw]
          have run : stepK E call n o ⟨(t, .bool b) :: r, os, nx, fl⟩ (fun s => opsK E call n ops.toList rest s K) = some x → o.wp E.P a w (wpOps E.P ops Q (List.range' (k + 1) rest.length)) Q := fun h1 =>
            stepK_sound hS hC h1 hs1 fun s' J' μ' a' w' p1 p2 p3 => go s' J' μ' a' w' p1 p2 p3
          have skip : putK n o.dst (.tup []) ((t, .bool b) :: r) (fun r => opsK E call n ops.toList rest ⟨r, os, nx, fl⟩ K) = some x → wpOps E.P ops Q (List.range' (k + 1) rest.length) (a.put o.dst undef) w := fun h1 => by
            obtain ⟨r', q1, q2, q3, q4⟩ := putK_sound (g := undef) h1 hs1.regs hs.size rv_undef
            exact go ⟨r', os, nx, fl⟩ J μ _ w q1 ⟨q2, q3, by rw [q4]; exact hs.defers, hs.inv, hs.fresh, hs.flat⟩ (Ext.refl _ _ _ _)
          cases b <;> cases want <;> simp only [cond_true, cond_false] at h
          · simp only [BEq.rfl, if_true]
            exact .inl (run h)
          · simpa using skip h
          · simpa using skip h
          · simp only [BEq.rfl, if_true]
            exact .inl (run h)
        · rename_i hb
          have hw := guard_undef hg ht (by have := hs.regs t; dsimp only at this; rw [hb] at this; exact this)
          rw [hw]
          simp only [Bool.false_eq_true, if_false]
          obtain ⟨r', q1, q2, q3, q4⟩ := putK_sound (g := undef) h hs.regs hs.size rv_undef
          exact go ⟨r', os, nx, fl⟩ J μ _ w q1 ⟨q2, q3, by rw [q4]; exact hs.defers, hs.inv, hs.fresh, hs.flat⟩ (Ext.refl _ _ _ _)
        · cases h

theorem region_sound {E : Env} {call : Call α} {n : Nat} {ops : Array Oper} {id : Nat} {K : St → Option α} {x : α} {Q : Exit → Act → World → Prop} {s : St} {J : Im} {μ : Mu} {a : Act} {w : World} (hS : SOK E) (hC : CallOK E.P call)
    (h : opsK E call n ops.toList ops.toList s K = some x) (hs : Sim n s J μ a w)
    (hq : ∀ s' J' μ' a' w', K s' = some x → Sim n s' J' μ' a' w' → Ext s.get J μ w s'.get J' μ' w' → Q .normal a' w') : (Code.region id ops false).wp E.P Q a w := by
  refine wp_region ?_
  have := opsK_sound (ops := ops) hS hC ops.toList 0 s J μ a w (fun j => by simp) h hs hq
  rw [List.range_eq_range']
  simpa using this
end
end Go.Ev
