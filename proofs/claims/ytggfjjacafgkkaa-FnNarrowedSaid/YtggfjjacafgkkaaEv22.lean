/-
  Control: bodies and calls.
-/
import Derived.Test.YtggfjjacafgkkaaEv21
namespace Go.Ev

section
variable {α : Type} {E : Env} {call : Call α} {f : FuncId} {n : Nat} {x : α}

/-- What is claimed of a piece of code: from where it stands to what is behind it. -/
def ExecOK (E : Env) (call : Call α) (f : FuncId) (n : Nat) (c : Code) : Prop :=
  ∀ (id : Nat) (s : St) (K : Cont α) (x : α) (J : Im) (μ : Mu) (a : Act) (w : World) (Q : Exit → Act → World → Prop), exec E call f n c id s K = some x → Sim n s J μ a w →
    (∀ e s' J' μ' a' w', K e s' = some x → Sim n s' J' μ' a' w' → Ext s.get J μ w s'.get J' μ' w' → Q e.out a' w') → c.wp E.P Q a w

theorem loop_sound {c : Code} (ih : ExecOK E call f n c) (id base : Nat) (ks : List Nat) (K : Cont α) (fuel : Nat) {s : St} {J0 J : Im} {μ0 μ : Mu} {a : Act} {w0 w : World} {get0 : Get} {Q : Exit → Act → World → Prop}
    (hb : ∀ i, base ≤ i → μ0 i = none) (h : loopN (exec E call f n c id) base ks fuel s K = some x) (hs : Sim n s J μ a w) (he : Ext get0 J0 μ0 w0 s.get J μ w)
    (hq : ∀ e s' J' μ' a' w', K e s' = some x → Sim n s' J' μ' a' w' → Ext get0 J0 μ0 w0 s'.get J' μ' w' → Q e.out a' w') : (Code.loop c).wp E.P Q a w := by
  refine wp_loop_fuel (fun m a w => ∃ s J μ, loopN (exec E call f n c id) base ks m s K = some x ∧ Sim n s J μ a w ∧ Ext get0 J0 μ0 w0 s.get J μ w) fuel ⟨s, J, μ, h, hs, he⟩ ?_
  rintro m a w ⟨s, J, μ, h, hs, he⟩
  cases m with
  | zero => cases h
  | succ m =>
    refine ih id s _ x J μ a w _ h hs fun e s' J' μ' a' w' hk hs' he' => ?_
    have he2 := he.trans he'
    cases e with
    | normal =>
      obtain ⟨μ2, q1, q2⟩ := norm_sound (base := base) (ks := ks) hs' hb he2
      exact ⟨m, Nat.lt_succ_self m, _, J', μ2, hk, q1, q2⟩
    | exit id' => exact hq (.exit id') s' J' μ' a' w' hk hs' he2
    | ret => exact hq .ret s' J' μ' a' w' hk hs' he2

theorem exec_sound (hP : E.P.follows .mixedOrders = true) (hS : SOK E) (hC : CallOK E.P call) (c : Code) : ExecOK E call f n c := by
  induction c with
  | skip =>
    intro id s K x J μ a w Q h hs hq
    exact wp_skip (hq .normal s J μ a w h hs (Ext.refl _ _ _ _))
  | region rid ops draw =>
    intro id s K x J μ a w Q h hs hq
    cases draw with
    | false => exact region_sound hS hC h hs fun s' J' μ' a' w' hk hs' he => hq .normal s' J' μ' a' w' hk hs' he
    | true =>
      obtain ⟨r, os, nx, fl⟩ := s
      exact draw_sound hP hS h hs fun s' J' μ' a' w' hk hs' he => hq .normal s' J' μ' a' w' hk hs' he
  | seq p q ihp ihq =>
    intro id s K x J μ a w Q h hs hq
    refine wp_seq (ihp id s _ x J μ a w _ h hs fun e s' J' μ' a' w' hk hs' he => ?_)
    cases e with
    | normal => exact ihq id s' K x J' μ' a' w' Q hk hs' fun e s2 J2 μ2 a2 w2 hk2 hs2 he2 => hq e s2 J2 μ2 a2 w2 hk2 hs2 (he.trans he2)
    | exit id' => exact hq (.exit id') s' J' μ' a' w' hk hs' he
    | ret => exact hq .ret s' J' μ' a' w' hk hs' he
  | cond o p q ihp ihq =>
    intro id s K x J μ a w Q h hs hq
    unfold exec at h
    split at h
    · rename_i b hb
      have hv : a.eval o = .bool b := by
        have := evalO_sound hs.regs o
        rw [hb] at this
        generalize a.eval o = g at this
        cases this
        rfl
      refine wp_cond_split hv (fun ht => ?_) (fun hf => ?_)
      · subst ht
        exact ihp id s K x J μ a w Q h hs hq
      · subst hf
        exact ihq id s K x J μ a w Q h hs hq
    · cases h
  | block bid b ih =>
    intro id s K x J μ a w Q h hs hq
    refine wp_block (ih bid s _ x J μ a w _ h hs fun e s' J' μ' a' w' hk hs' he => ?_)
    cases e with
    | normal => exact hq .normal s' J' μ' a' w' hk hs' he
    | exit id' =>
      simp only [blockK] at hk
      simp only [Ex.out, Exit.inBlock]
      cases hb : Nat.beq id' bid
      · rw [hb] at hk
        rw [if_neg (fun e => by subst e; simp at hb)]
        exact hq (.exit id') s' J' μ' a' w' hk hs' he
      · rw [hb] at hk
        rw [if_pos (Nat.eq_of_beq_eq_true hb)]
        exact hq .normal s' J' μ' a' w' hk hs' he
    | ret => exact hq .ret s' J' μ' a' w' hk hs' he
  | loop b ih =>
    intro id s K x J μ a w Q h hs hq
    obtain ⟨μ2, q1, q2⟩ := norm_sound (base := s.nx) (ks := E.keep f id) hs hs.fresh (Ext.refl s.get J μ w)
    exact loop_sound ih id s.nx (E.keep f id) K E.fuel hs.fresh h q1 q2 hq
  | exit eid =>
    intro id s K x J μ a w Q h hs hq
    exact wp_exit (hq (.exit eid) s J μ a w h hs (Ext.refl _ _ _ _))
  | ret =>
    intro id s K x J μ a w Q h hs hq
    exact wp_ret (hq .ret s J μ a w h hs (Ext.refl _ _ _ _))
  | _ =>
    intro id s K x J μ a w Q h hs hq
    cases h
end

def namesOK (P : Program) : Bool := P.funcs.all fun f => !(f.name == "runtime.NumGoroutine")

theorem names_spec {P : Program} (h : namesOK P = true) {f : FuncId} {fn : Func} (hf : P.funcs[f]? = some fn) : (fn.name == "runtime.NumGoroutine") = false := by
  unfold namesOK at h
  rw [Array.all_eq_true_iff_forall_mem] at h
  have := h fn (Array.mem_of_getElem? hf)
  simpa using this

theorem loadVar_sound {P : Program} {get : Get} {J : Im} {μ : Mu} {w : World} {t : TypeId} {a v : V} {ga : Value} (hI : Inv get J μ w) (h : loadE P get t a = some v) (ha : Rv J μ a ga) :
    ∃ g, (do loadVar t (← asAddr ga) : Sem Value).run P w = .ok g w ∧ Rv J μ v g := by
  obtain ⟨g, h1, h2⟩ := loadE_sound hI h ha
  refine ⟨g, ?_, h2⟩
  rw [← h1]
  unfold loadE at h
  split at h
  · cases ha; rfl
  · cases ha; rfl
  · cases h

theorem resE_sound {P : Program} {get : Get} {J : Im} {μ : Mu} {w : World} {r : Regs} {tmps : Array Value} (hI : Inv get J μ w) (hr : ∀ t, Rv J μ (look r t) (tmps.getD t undef)) : ∀ (l : List ResultVar) (vs : List V), resE P get r l = some vs →
    ∃ gs : List Value, (l.mapM (m := Sem) fun
      | .tmp t => pure (tmps.getD t undef)
      | .cell a t => do loadVar t (← asAddr (tmps.getD a undef))).run P w = .ok gs w ∧ gs.length = vs.length ∧ ∀ (j : Nat) v g, vs[j]? = some v → gs[j]? = some g → Rv J μ v g
  | [], vs, h => by
    simp only [resE, Option.some.injEq] at h
    subst h
    exact ⟨[], rfl, rfl, fun j v g hv => by simp at hv⟩
  | .tmp t :: l, vs, h => by
    simp only [resE] at h
    split at h
    · rename_i us hu
      cases h
      obtain ⟨gs, h1, h2, h3⟩ := resE_sound hI hr l us hu
      refine ⟨tmps.getD t undef :: gs, ?_, by simp [h2], fun j v g hv hg => ?_⟩
      · rw [List.mapM_cons]
        simp only [Sem.run_bind, Sem.run_pure, Result.andThen_ok, h1]
      · cases j with
        | zero =>
          simp only [List.getElem?_cons_zero, Option.some.injEq] at hv hg
          subst hv; subst hg
          exact hr t
        | succ j => exact h3 j v g (by simpa using hv) (by simpa using hg)
    · cases h
  | .cell c t :: l, vs, h => by
    simp only [resE] at h
    split at h
    · rename_i u us hl hu
      cases h
      obtain ⟨gs, h1, h2, h3⟩ := resE_sound hI hr l us hu
      obtain ⟨g0, g1, g2⟩ := loadVar_sound hI hl (hr c)
      refine ⟨g0 :: gs, ?_, by simp [h2], fun j v g hv hg => ?_⟩
      · rw [List.mapM_cons]
        simp only [Sem.run_bind] at g1 ⊢
        simp only [g1, Sem.run_pure, Result.andThen_ok, h1]
      · cases j with
        | zero =>
          simp only [List.getElem?_cons_zero, Option.some.injEq] at hv hg
          subst hv; subst hg
          exact g2
        | succ j => exact h3 j v g (by simpa using hv) (by simpa using hg)
    · cases h

theorem results_sound {P : Program} {get : Get} {J : Im} {μ : Mu} {w : World} {r : Regs} {tmps : Array Value} {fn : Func} {vs : List V} (hI : Inv get J μ w) (hr : ∀ t, Rv J μ (look r t) (tmps.getD t undef)) (h : resE P get r fn.results.toList = some vs) :
    ∃ g, (results fn tmps).run P w = .ok g w ∧ Rv J μ (oneOr vs) g := by
  obtain ⟨gs, h1, h2, h3⟩ := resE_sound hI hr _ _ h
  have key : (fn.results.mapM fun
      | .tmp t => pure (tmps.getD t undef)
      | .cell a t => do loadVar t (← asAddr (tmps.getD a undef)) : Sem (Array Value)).run P w = .ok gs.toArray w := by
    rw [Array.mapM_eq_mapM_toList, Sem.run_map, h1]
    rfl
  refine ⟨if h : gs.toArray.size = 1 then gs.toArray[0] else .tuple gs.toArray, ?_, ?_⟩
  · unfold results
    rw [Sem.run_bind]
    refine (congrArg (fun r => Result.andThen r _) key).trans ?_
    rfl
  · split
    · rename_i hz
      have hz' : gs.length = 1 := by simpa using hz
      obtain ⟨v, rfl⟩ := List.length_eq_one_iff.1 (h2.symm.trans hz')
      refine h3 0 v _ rfl ?_
      rw [List.getElem?_eq_getElem (by omega)]
      rfl
    · rename_i hz
      have hz' : gs.length ≠ 1 := by simpa using hz
      have ho : oneOr vs = .tup vs := by
        match vs, h2 with
        | [], _ => rfl
        | [_], h2 => exact absurd (by simpa using h2) hz'
        | _ :: _ :: _, _ => rfl
      rw [ho]
      exact .tup (by simp [h2]) fun j v g hv hg => h3 j v g hv (by simpa using hg)

theorem look_args (l : List V) : ∀ (i t : Nat), look (args0 l i) t = if i ≤ t then (l[t - i]?).getD .und else .und := by
  induction l with
  | nil => intro i t; simp [args0, look]
  | cons v l ih =>
    intro i t
    rw [args0, look_cons, ih]
    by_cases h : i = t
    · subst h; simp
    · rw [if_neg h]
      by_cases h1 : i + 1 ≤ t
      · have h2 : i ≤ t := by omega
        rw [if_pos h1, if_pos h2, show t - i = (t - (i + 1)) + 1 by omega]
        simp
      · have h2 : ¬ i ≤ t := by omega
        rw [if_neg h1, if_neg h2]

theorem args_sound {J : Im} {μ : Mu} {args : List V} {gs : Array Value} (hr : Rvs J μ args gs) (m : Nat) (t : Nat) : Rv J μ (look (args0 args 0) t) ((gs ++ Array.replicate m undef).getD t undef) := by
  rw [look_args]
  simp only [Nat.zero_le, if_true, Nat.sub_zero]
  cases h : args[t]? with
  | none => exact .und
  | some v =>
    obtain ⟨g, hg, hv⟩ := Rvs.at hr h
    have : (gs ++ Array.replicate m undef).getD t undef = g := by
      rw [Array.getD_eq_getD_getElem?, Array.getElem?_append]
      have hlt : t < gs.size := (Array.getElem?_eq_some_iff.1 hg).1
      rw [if_pos hlt, hg]
      rfl
    rw [this]
    exact hv

theorem callN_calls {α : Type} {E : Env} (hP : E.P.follows .mixedOrders = true) (hS : SOK E) {d : Nat} (hC : CallOK E.P (callN E (α := α) d)) {f : FuncId} {args : List V} {os : Ups} {nx : Nat} {fl : List Nat} {K : V → Ups → Nat → List Nat → Option α} {x : α}
    (h : callN E (d + 1) f args os nx fl K = some x) {J : Im} {μ : Mu} {gs : Array Value} {w : World} (hI : Inv (upd os noGet) J μ w) (hf : ∀ i, nx ≤ i → μ i = none) (hfl : FlatInv fl (upd os noGet)) (hr : Rvs J μ args gs) :
    Calls E.P f gs w fun e w' => ∃ g, e = .returned g ∧ ∃ v os' nx' fl' J' μ', K v os' nx' fl' = some x ∧ Rv J' μ' v g ∧ Inv (upd os' noGet) J' μ' w' ∧ (∀ i, nx' ≤ i → μ' i = none) ∧ FlatInv fl' (upd os' noGet) ∧
      Ext (upd os noGet) J μ w (upd os' noGet) J' μ' w' := by
  unfold callN at h
  split at h
  · rename_i fn hfn
    split at h
    · rename_i c hc
      cases hb : Nat.ble args.length fn.ntmps
      · rw [hb] at h; cases h
      · rw [hb] at h
        simp only [cond_true] at h
        have hle := Nat.le_of_ble_eq_true hb
        refine calls_of_wp hfn hc (exec_sound hP hS hC c 0 _ _ x J μ _ w _ h ⟨fun t => args_sound hr _ t, ?_, rfl, hI, hf, hfl⟩ fun e s' J' μ' a' w' hk hs' he => ?_)
        · simp [hr.1]; omega
        · have fin : (match s' with
              | ⟨r, os, nx, fl⟩ =>
                match resE E.P (upd os noGet) r fn.results.toList with
                | some vs => K (oneOr vs) os nx fl
                | none => none) = some x → a'.defers = [] ∧ ∃ v, (results fn a'.tmps).run E.P w' = .ok v w' ∧ ∃ g, Ending.returned v = .returned g ∧ ∃ v os' nx' fl' J' μ', K v os' nx' fl' = some x ∧ Rv J' μ' v g ∧ Inv (upd os' noGet) J' μ' w' ∧ (∀ i, nx' ≤ i → μ' i = none) ∧ FlatInv fl' (upd os' noGet) ∧
                  Ext (upd os noGet) J μ w (upd os' noGet) J' μ' w' := by
            intro hk
            obtain ⟨r', os', nx', fl'⟩ := s'
            dsimp only at hk
            split at hk
            · rename_i vs hvs
              obtain ⟨g, g1, g2⟩ := results_sound hs'.inv hs'.regs hvs
              exact ⟨hs'.defers, g, g1, g, rfl, _, os', nx', fl', J', μ', hk, g2, hs'.inv, hs'.fresh, hs'.flat, he⟩
            · cases hk
          cases e with
          | normal => exact fin hk
          | exit id => cases hk
          | ret => exact fin hk
    · cases h
  · cases h

theorem callN_sound {α : Type} {E : Env} (hP : E.P.follows .mixedOrders = true) (hN : namesOK E.P = true) (hS : SOK E) : ∀ d, CallOK E.P (callN E (α := α) d)
  | 0 => fun f args os nx fl K x h => by cases h
  | d + 1 => by
    intro f args os nx fl K x h J μ gs w hI hf hfl hr
    have hB : Bodied E.P f := by
      unfold callN at h
      split at h
      · rename_i fn hfn
        split at h
        · rename_i c hc
          exact ⟨fn, hfn, names_spec hN hfn, by rw [hc]; rfl⟩
        · cases h
      · cases h
    exact .inr ⟨f, gs, w, run_enter hB gs w, callN_calls hP hS (callN_sound hP hN hS d) h hI hf hfl hr⟩
end Go.Ev
