/-
  One operation of a region.
-/
import Derived.Test.YtggfjjacafgkkaaEv12
namespace Go.Ev

/-- What an operation comes to. -/
def ExecRes (P : Program) (r : Result Next) (Φ : Value → World → Prop) : Prop :=
  (∃ g w', r = .ok (.value g) w' ∧ Φ g w') ∨ (∃ w', r = .ok .skip w' ∧ Φ undef w') ∨ (∃ f args w', r = .ok (.enter f args) w' ∧ Calls P f args w' fun e w'' => ∃ g, e = .returned g ∧ Φ g w'')

theorem wp_of_res {P : Program} {o : Oper} {a : Act} {w : World} {next : Act → World → Prop} {Q : Exit → Act → World → Prop} {Φ : Value → World → Prop} (h : ExecRes P ((execOp a.eval o).run P w) Φ)
    (hn : ∀ g w', Φ g w' → next (a.put o.dst g) w') : o.wp P a w next Q := by
  unfold Oper.wp
  rcases h with ⟨g, w', h, hp⟩ | ⟨w', h, hp⟩ | ⟨f, args, w', h, hc⟩
  · rw [h]; exact hn g w' hp
  · rw [h]; exact hn undef w' hp
  · rw [h]
    exact hc.mono fun e w'' ⟨g, he, hp⟩ => by subst he; exact hn g w'' hp

section
variable {P : Program} {get : Get} {J : Im} {μ : Mu} {w : World} {ev : Operand → V} {ρ : Operand → Value}

theorem rvs_map (hev : ∀ x, Rv J μ (ev x) (ρ x)) (xs : Array Operand) : Rvs J μ (xs.toList.map ev) (xs.map ρ) := by
  refine ⟨by simp, fun j v g hv hg => ?_⟩
  rw [List.getElem?_map, Array.getElem?_toList] at hv
  rw [Array.getElem?_map] at hg
  cases hx : xs[j]? with
  | none => rw [hx] at hv; cases hv
  | some x =>
    rw [hx] at hv hg
    simp only [Option.map_some, Option.some.injEq] at hv hg
    subst hv; subst hg
    exact hev x

theorem rvs_append {a b : List V} {x y : Array Value} (h : Rvs J μ a x) (h' : Rvs J μ b y) : Rvs J μ (a ++ b) (x ++ y) := by
  refine ⟨by simp [h.1, h'.1], fun j v g hv hg => ?_⟩
  rw [List.getElem?_append] at hv
  rw [Array.getElem?_append, h.1] at hg
  split at hv
  · rename_i hj
    rw [if_pos hj] at hg
    exact h.2 j v g hv hg
  · rename_i hj
    rw [if_neg hj] at hg
    exact h'.2 _ v g hv hg

theorem parts_rel (hev : ∀ x, Rv J μ (ev x) (ρ x)) (ps : Array (Nat × Operand)) : (partsE ev ps.toList).length = (ps.map fun (i, x) => (i, ρ x)).size ∧
    ∀ (j : Nat) p q, (partsE ev ps.toList)[j]? = some p → (ps.map fun (i, x) => (i, ρ x))[j]? = some q → p.1 = q.1 ∧ Rv J μ p.2 q.2 := by
  refine ⟨by simp [partsE], fun j p q hp hq => ?_⟩
  unfold partsE at hp
  rw [List.getElem?_map, Array.getElem?_toList] at hp
  rw [Array.getElem?_map] at hq
  cases hx : ps[j]? with
  | none => rw [hx] at hp; cases hp
  | some x =>
    rw [hx] at hp hq
    simp only [Option.map_some, Option.some.injEq] at hp hq
    subst hp; subst hq
    exact ⟨rfl, hev x.2⟩

theorem opt_rel (hev : ∀ x, Rv J μ (ev x) (ρ x)) (o : Option Operand) : RvO J μ (optE ev o) (o.map ρ) := by
  cases o with
  | none => trivial
  | some x => exact hev x

theorem eqGuard_run {op : BinOp} {t : TypeId} {x y : Operand} {vx vy v : V} {gx gy : Value} (h : binB P op t vx vy = some v) (hx : Rv J μ vx gx) (hy : Rv J μ vy gy) (w : World) : (eqGuard op t x y gx gy).run P w = .ok () w := by
  unfold binB binE at h
  split at h <;> (try split at h) <;> first
    | (cases h; done)
    | (cases hx; cases hy; simp [eqGuard]; done)
    | (cases hx; cases hy; rename_i op _ _ _ _ _ _ _; cases op <;> simp [eqGuard]; done)
    | (cases hx; cases hy; cases op <;> simp [eqGuard])

theorem opE_sound {E : Env} {a : Act} {fl : List Nat} {nid : Nat} {o : Oper} {res : V × Ups × Nat} (hS : SOK E) (hI : Inv get J μ w) (hfl : FlatInv fl get) (hev : ∀ x, Rv J μ (ev x) (a.eval x))
    (h : opE E get fl nid ev o = some res) (hf : ∀ i, nid ≤ i → i < nid + res.2.2 → μ i = none) :
    ExecRes E.P ((execOp a.eval o).run E.P w) fun g w' => Good get J μ w nid res g w' ∧ ((∃ c f, o.op = .call c ∧ c.callee = .value f) → FlatInv (flatUps fl (anyUps res.2.1) res.2.1) (upd res.2.1 get)) := by
  have nov : (∀ c f, o.op = .call c → c.callee ≠ .value f) → ∀ {r : Result Next}, ExecRes E.P r (fun g w' => Good get J μ w nid res g w') →
      ExecRes E.P r fun g w' => Good get J μ w nid res g w' ∧ ((∃ c f, o.op = .call c ∧ c.callee = .value f) → FlatInv (flatUps fl (anyUps res.2.1) res.2.1) (upd res.2.1 get)) := by
    intro hn r hr
    have hx : (∃ c f, o.op = .call c ∧ c.callee = .value f) → FlatInv (flatUps fl (anyUps res.2.1) res.2.1) (upd res.2.1 get) := fun ⟨c, f, h1, h2⟩ => absurd h2 (hn c f h1)
    rcases hr with ⟨g, w', h1, h2⟩ | ⟨w', h1, h2⟩ | ⟨f, args, w', h1, h2⟩
    · exact .inl ⟨g, w', h1, h2, hx⟩
    · exact .inr (.inl ⟨w', h1, h2, hx⟩)
    · exact .inr (.inr ⟨f, args, w', h1, h2.mono fun e w'' ⟨g, q1, q2⟩ => ⟨g, q1, q2, hx⟩⟩)
  have val : ∀ {s : Sem Value} {v : V}, (∃ g w', s.run E.P w = .ok g w' ∧ w'.hoo = w.hoo ∧ Rv J μ v g) → ExecRes E.P ((do pure (.value (← s)) : Sem Next).run E.P w) fun g w' => Good get J μ w nid (v, [], 0) g w' := by
    rintro s v ⟨g, w', h1, h2, h3⟩
    exact .inl ⟨g, w', by simp [h1], Good.same hI h3 h2⟩
  have val' : ∀ {s : Sem Value} {v : V}, (∃ g, s.run E.P w = .ok g w ∧ Rv J μ v g) → ExecRes E.P ((do pure (.value (← s)) : Sem Next).run E.P w) fun g w' => Good get J μ w nid (v, [], 0) g w' := by
    rintro s v ⟨g, h1, h3⟩
    exact val ⟨g, w, h1, rfl, h3⟩
  have gd : ∀ {s : Sem Value} {res : V × Ups × Nat}, (∃ g w', s.run E.P w = .ok g w' ∧ Good get J μ w nid res g w') → ExecRes E.P ((do pure (.value (← s)) : Sem Next).run E.P w) fun g w' => Good get J μ w nid res g w' := by
    rintro s res ⟨g, w', h1, h2⟩
    exact .inl ⟨g, w', by simp [h1], h2⟩
  have one' : ∀ {v : Option V}, one v = some res → ∃ u, v = some u ∧ res = (u, [], 0) := by
    intro v hv
    unfold one at hv
    split at hv
    · cases hv; exact ⟨_, rfl, rfl⟩
    · cases hv
  unfold opE at h
  unfold execOp
  split at h <;> (try (cases h; done)) <;> rename_i hop
  all_goals (first | (refine nov ?_ ?_; · (intro c f hc; rw [hop] at hc; cases hc; done)) | skip)
  all_goals rw [hop]
  · cases h; exact .inl ⟨_, w, rfl, Good.same hI (hev _) rfl⟩
  · cases h; exact .inl ⟨_, w, rfl, Good.same hI (hev _) rfl⟩
  · split at h
    · rename_i z hz
      cases h
      exact gd (allocE_sound hI hz (hf nid (Nat.le_refl _) (by dsimp only; omega)))
    · cases h
  · split at h
    · rename_i cs hc
      cases h
      exact gd (boxE_sound hI (hev _) hc (hf nid (Nat.le_refl _) (by dsimp only; omega)))
    · cases h
  · obtain ⟨u, hu, rfl⟩ := one' h
    obtain ⟨p1, p2⟩ := parts_rel hev _
    exact val' (buildE_sound hu p1 p2)
  · obtain ⟨p1, p2⟩ := parts_rel hev _
    exact gd (buildSliceE_sound hI h p1 p2 hf)
  · obtain ⟨u, hu, rfl⟩ := one' h
    exact val' (loadE_sound hI hu (hev _))
  · split at h
    · rename_i ups hu
      cases h
      obtain ⟨w', h1, h2⟩ := storeE_sound (nid := nid) hI hu (hev _) (hev _)
      exact .inr (.inl ⟨w', by simp [h1], h2 undef⟩)
    · cases h
  · rename_i x
    have hx := hev x
    split at h <;> (try (cases h; done)) <;> rename_i hxe <;> rw [hxe] at hx <;> cases h
    all_goals
      refine .inl ⟨a.eval x, w, ?_, Good.same hI hx rfl⟩
      dsimp only
      generalize a.eval x = gx at hx ⊢
      cases hx
      rfl
  · rename_i op t x y t'
    obtain ⟨u, hu, rfl⟩ := one' h
    obtain ⟨g, w', h1, h2, h3⟩ := binB_sound (P := E.P) (w := w) (t := t) hu (hev x) (hev y)
    refine val ⟨g, w', ?_, h2, h3⟩
    simp only [Sem.run_bind, eqGuard_run hu (hev x) (hev y) w, Result.andThen_ok, h1]
  · obtain ⟨u, hu, rfl⟩ := one' h
    exact val' (unE_sound hu (hev _))
  · obtain ⟨u, hu, rfl⟩ := one' h
    exact val (convE_sound hI hu (hev _))
  · rename_i f first cap
    cases h
    refine val' ⟨.func (.func f) (first.map a.eval) (cap.map a.eval), rfl, ?_⟩
    have h1 := rvs_map hev first
    have h2 := rvs_map hev cap
    exact .fn h1.1 h2.1 h1.2 h2.2
  · obtain ⟨u, hu, rfl⟩ := one' h
    exact val' (sliceE_sound hu (hev _) (opt_rel hev _) (opt_rel hev _) (opt_rel hev _))
  · obtain ⟨u, hu, rfl⟩ := one' h
    exact val' (fieldAddrE_sound hu (hev _))
  · obtain ⟨u, hu, rfl⟩ := one' h
    exact val' (indexAddrE_sound hu (hev _) (hev _))
  · obtain ⟨u, hu, rfl⟩ := one' h
    exact val' (indexE_sound hu (hev _) (hev _))
  · rename_i x i
    split at h
    · rename_i vs hvs
      obtain ⟨u, hu, rfl⟩ := one' h
      have hx := hev x
      rw [hvs] at hx
      dsimp only
      generalize a.eval x = gx at hx ⊢
      cases hx with
      | tup hs hp =>
        rw [getAt_eq] at hu
        obtain ⟨g, hg⟩ := some_of_size hs (lt_of_some hu)
        exact val' ⟨g, by simp [Instr.extract, hg], hp _ _ _ hu hg⟩
    · cases h
  · rename_i c
    split at h
    · rename_i b hb
      rw [← hop]
      refine nov (fun c' f hc => by rw [hop] at hc; cases hc; rw [hb]; intro hh; cases hh) ?_
      rw [hop]
      have hr := rvs_map hev c.args
      obtain ⟨g, w', h1, h2⟩ := builtinE_sound (P := E.P) (ty := o.type) (consts := c.args.map fun | .const _ => true | _ => false) hI h hr hf
      refine .inl ⟨g, w', ?_, h2⟩
      rw [Array.toArray_toList] at h1
      simp only [Sem.run_bind, resolve, hb, Sem.run_pure, Result.andThen_ok, invoke]
      exact h1
    · rename_i f hcal
      have hF := hev f
      split at h
      · rename_i fid first cap hfe
        rw [hfe] at hF
        generalize hgf : a.eval f = gf at hF
        cases hF with
        | fn k1 k2 k3 k4 =>
          rename_i g1 g2
          split at h
          · rename_i s hs
            have hr : Rvs J μ (first ++ c.args.toList.map (ev) ++ cap) (g1 ++ c.args.map a.eval ++ g2) := rvs_append (rvs_append ⟨k1, k3⟩ (rvs_map hev c.args)) ⟨k2, k4⟩
            have hc := callS_sound (nid := nid) (hS fid s hs) hI hfl hr h
            have hrun : (do let d ← resolve a.eval c o.type; invoke d.target d.args : Sem Next).run E.P w = (callFunc fid (g1 ++ c.args.map a.eval ++ g2)).run E.P w := by
              simp only [Sem.run_bind, resolve, hcal, hgf, Deferred.ofValue, Sem.run_pure, Result.andThen_ok, invoke]
            rw [hrun]
            rcases hc with ⟨g, w', h1, h2, h3⟩ | ⟨f', args, w', h1, h2⟩
            · exact .inl ⟨g, w', h1, h2, fun _ => h3⟩
            · exact .inr (.inr ⟨f', args, w', h1, h2.mono fun e w'' ⟨g, q1, q2, q3⟩ => ⟨g, q1, q2, fun _ => q3⟩⟩)
          · cases h
      · cases h
    · cases h
end
end Go.Ev
