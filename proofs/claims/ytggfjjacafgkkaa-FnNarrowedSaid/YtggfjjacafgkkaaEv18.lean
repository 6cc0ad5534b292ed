/-
  Regions whose order is open: any order comes to the same.
-/
import Derived.Test.YtggfjjacafgkkaaEv17
namespace Go.Ev

theorem disj_spec {a b : List Nat} (h : disj a b = true) {id : Nat} (h1 : memB id a = true) (h2 : memB id b = true) : False := by
  unfold disj at h
  have := List.all_eq_true.1 h id ((memB_iff _ _).1 h1)
  rw [h2] at this
  cases this

theorem Inv.restr {get : Get} {J : Im} {μ : Mu} {w : World} (ids : List Nat) (h : Inv get J μ w) : Inv (restr ids get) J μ w := by
  have hr : ∀ id cs, Ev.restr ids get id = some cs → get id = some cs := fun id cs hi => by
    unfold Ev.restr at hi
    cases hm : memB id ids
    · rw [hm] at hi; cases hi
    · rw [hm] at hi; exact hi
  refine ⟨h.im, fun id cs hi => h.ob id cs (hr id cs hi), fun i i' l l' h1 h2 => h.sep i i' l l' ?_ ?_⟩
  · cases hg : Ev.restr ids get i with
    | none => exact absurd hg h1
    | some cs => rw [hr i cs hg]; simp
  · cases hg : Ev.restr ids get i' with
    | none => exact absurd hg h2
    | some cs => rw [hr i' cs hg]; simp

theorem flat_restr {fl : List Nat} {get : Get} (ids : List Nat) (h : FlatInv fl get) : FlatInv fl (restr ids get) := by
  intro id hm cs hc
  refine h id hm cs ?_
  unfold restr at hc
  cases hm : memB id ids
  · rw [hm] at hc; cases hc
  · rw [hm] at hc; exact hc

/-- What has been done with a part of the objects has been done with all. -/
theorem merge {get get' : Get} {ids : List Nat} {u : Ups} {J J' : Im} {μ μ' : Mu} {w w' : World} (hI : Inv get J μ w) (hg' : get' = upd u (restr ids get)) (h1 : Inv get' J' μ' w') (h2 : Ext (restr ids get) J μ w get' J' μ' w') :
    Inv (upd u get) J' μ' w' ∧ Ext get J μ w (upd u get) J' μ' w' := by
  subst hg'
  -- an object that is not looked at
  have out : ∀ id, lk u id = none → memB id ids = false → upd u get id = get id := fun id hl _ => by rw [upd_lk, hl]; rfl
  have inn : ∀ id, (lk u id ≠ none ∨ memB id ids = true) → upd u get id = upd u (restr ids get) id := fun id h => by
    rw [upd_lk, upd_lk]
    cases hl : lk u id with
    | some c => rfl
    | none =>
      have hm := h.resolve_left fun hn => hn hl
      simp [restr, hm]
  have dec : ∀ id, (lk u id = none ∧ memB id ids = false) ∨ (lk u id ≠ none ∨ memB id ids = true) := fun id => by
    cases hl : lk u id with
    | some c => exact .inr (.inl (by simp))
    | none =>
      cases hm : memB id ids
      · exact .inl ⟨rfl, rfl⟩
      · exact .inr (.inr rfl)
  have nown : ∀ id cs l, get id = some cs → memB id ids = false → μ id = some l → ¬ Own (restr ids get) μ l.blk := by
    rintro id cs l hg hm hl ⟨id', l', h1', h2', h3'⟩
    have hm' : memB id' ids = true := by
      unfold restr at h1'
      cases hm' : memB id' ids
      · rw [hm'] at h1'; simp at h1'
      · rfl
    have hg2 : get id' ≠ none := by unfold restr at h1'; rw [hm'] at h1'; simpa using h1'
    have := hI.sep id id' l l' (by rw [hg]; simp) hg2 hl h2' h3'.symm
    subst this
    rw [hm] at hm'; cases hm'
  have frame : ∀ id cs l, get id = some cs → memB id ids = false → μ id = some l → w'.heap[l.blk]? = w.heap[l.blk]? ∧ l.blk < w.heap.size := fun id cs l hg hm hl =>
    ⟨h2.frame l.blk (hI.lt hg hl) (nown id cs l hg hm hl), hI.lt hg hl⟩
  refine ⟨⟨h1.im, fun id cs hi => ?_, fun i i' l l' hi hi' hl hl' hb => ?_⟩, ⟨h2.size, h2.mu, h2.im, h2.imNew, fun b hb hn => ?_, fun b hb => ?_, h2.os, h2.out⟩⟩
  · rcases dec id with ⟨d1, d2⟩ | d
    · rw [out id d1 d2] at hi
      obtain ⟨l, gc, elem, k1, k2, k3, k4, k5, k6, k7⟩ := hI.ob id cs hi
      obtain ⟨f1, f2⟩ := frame id cs l hi d2 k1
      refine ⟨l, gc, elem, h2.mu _ _ k1, ?_, by rw [f1]; exact k3, k4, k5, k6, fun j v hv => ?_⟩
      · cases hj : J' l.blk with
        | none => rfl
        | some c =>
          have := h2.imNew _ _ hj k2
          omega
      · obtain ⟨g, g1, g2⟩ := k7 j v hv
        exact ⟨g, g1, g2.mono h2.im h2.mu⟩
    · rw [inn id d] at hi
      exact h1.ob id cs hi
  · -- two objects in one block
    have cross : ∀ i i' l l', lk u i = none → memB i ids = false → (lk u i' ≠ none ∨ memB i' ids = true) → upd u get i ≠ none → upd u get i' ≠ none → μ' i = some l → μ' i' = some l' → l.blk = l'.blk → False := by
      intro i i' l l' d1 d2 d' hi hi' hl hl' hb
      rw [out i d1 d2] at hi
      rw [inn i' d'] at hi'
      cases hg : get i with
      | none => exact hi hg
      | some cs =>
        obtain ⟨l0, gc, elem, k1, k2, k3, k4, k5, k6, k7⟩ := hI.ob i cs hg
        have : l0 = l := by
          have := h2.mu _ _ k1
          rw [hl] at this
          exact (Option.some.inj this).symm
        subst this
        rcases h2.own l0.blk ⟨i', l', hi', hl', hb.symm⟩ with ho | ho
        · exact nown i cs l0 hg d2 k1 ho
        · have := hI.lt hg k1
          omega
    rcases dec i with ⟨d1, d2⟩ | d
    · rcases dec i' with ⟨e1, e2⟩ | e
      · rw [out i d1 d2] at hi
        rw [out i' e1 e2] at hi'
        cases hg : get i with
        | none => exact absurd hg hi
        | some cs =>
          cases hg' : get i' with
          | none => exact absurd hg' hi'
          | some cs' =>
            obtain ⟨l0, _, _, k1, _⟩ := hI.ob i cs hg
            obtain ⟨l1, _, _, m1, _⟩ := hI.ob i' cs' hg'
            have q0 := h2.mu _ _ k1
            have q1 := h2.mu _ _ m1
            rw [hl] at q0
            rw [hl'] at q1
            cases q0
            cases q1
            exact hI.sep i i' _ _ hi hi' k1 m1 hb
      · exact (cross i i' l l' d1 d2 e hi hi' hl hl' hb).elim
    · rcases dec i' with ⟨e1, e2⟩ | e
      · exact (cross i' i l' l e1 e2 d hi' hi hl' hl hb.symm).elim
      · rw [inn i d] at hi
        rw [inn i' e] at hi'
        exact h1.sep i i' l l' hi hi' hl hl' hb
  · refine h2.frame b hb fun ⟨id, l, q1, q2, q3⟩ => hn ⟨id, l, ?_, q2, q3⟩
    unfold restr at q1
    cases hm : memB id ids
    · rw [hm] at q1; simp at q1
    · rw [hm] at q1; simpa using q1
  · obtain ⟨id, l, q1, q2, q3⟩ := hb
    rcases dec id with ⟨d1, d2⟩ | d
    · rw [out id d1 d2] at q1
      cases hg : get id with
      | none => exact absurd hg q1
      | some cs =>
        obtain ⟨l0, _, _, k1, _⟩ := hI.ob id cs hg
        have q0 := h2.mu _ _ k1
        rw [q2] at q0
        cases q0
        exact .inl ⟨id, l, by rw [hg]; simp, k1, q3⟩
    · rw [inn id d] at q1
      rcases h2.own b ⟨id, l, q1, q2, q3⟩ with ⟨id', l', r1, r2, r3⟩ | ho
      · refine .inl ⟨id', l', ?_, r2, r3⟩
        unfold restr at r1
        cases hm : memB id' ids
        · rw [hm] at r1; simp at r1
        · rw [hm] at r1; simpa using r1
      · exact .inr ho

/-- An object that an operation has made or written is flat where it is told to be. -/
def HeadOK (fl0 : List Nat) (c : Rec) : Prop := (∀ id cs rest, c.ups = (id, some cs) :: rest → c.flag = true → ∀ v ∈ cs, noRefB v = true) ∧ keepsFlat fl0 c.flag c.ups = true

theorem HeadOK.flat {fl0 fl : List Nat} {c : Rec} {get : Get} (h : HeadOK fl0 c) (hf : FlatInv fl get) : FlatInv (flatUps fl c.flag c.ups) (upd c.ups get) := by
  obtain ⟨h1, h2⟩ := h
  intro id hm cs hc
  cases hu : c.ups with
  | nil =>
    rw [hu] at hm hc
    rw [upd_nil] at hc
    exact hf id hm cs hc
  | cons p rest =>
    obtain ⟨k, x⟩ := p
    rw [hu] at hm hc
    rw [hu] at h2
    simp only [keepsFlat, Bool.and_eq_true] at h2
    rw [upd_cons] at hc
    have tail : upd rest get id = some cs → get id = some cs := fun ht => by
      rw [upd_lk] at ht
      cases hl : lk rest id with
      | none => rw [hl] at ht; exact ht
      | some c' =>
        rw [hl] at ht
        simp only [Option.getD_some] at ht
        subst ht
        exfalso
        have : ∀ (u : Ups), u.all (fun p => p.2.isNone) = true → lk u id ≠ some (some cs) := by
          intro u hu hl
          induction u with
          | nil => cases hl
          | cons q u ih =>
            obtain ⟨k', c'⟩ := q
            simp only [List.all_cons, Bool.and_eq_true] at hu
            simp only [lk] at hl
            split at hl
            · cases hl; exact absurd hu.1 (by simp)
            · exact ih hu.2 hl
        exact this rest h2.2 hl
    by_cases e : k = id
    · rw [if_pos e] at hc
      cases hfl : c.flag
      · rw [hfl] at hm
        simp only [flatUps, cond_false] at hm
        exact absurd e.symm ((memB_filter _ _ _).1 hm).2
      · subst hc
        exact h1 k cs rest hu hfl
    · rw [if_neg e] at hc
      refine hf id ?_ cs (tail hc)
      cases hfl : c.flag
      · rw [hfl] at hm
        exact ((memB_filter _ _ _).1 hm).1
      · rw [hfl] at hm
        simp only [flatUps, cond_true] at hm
        cases hk : memB k fl
        · rw [hk] at hm
          exact ((memB_cons _ _ _).1 hm).resolve_left e
        · rw [hk] at hm; exact hm

theorem HeadOK.flat0 {fl0 : List Nat} {c : Rec} {get : Get} (h : HeadOK fl0 c) (hf : FlatInv fl0 get) : FlatInv fl0 (upd c.ups get) := by
  have h' := h.flat hf
  obtain ⟨h1, h2⟩ := h
  intro id hm cs hc
  refine h' id ?_ cs hc
  cases hu : c.ups with
  | nil => exact hm
  | cons p rest =>
    obtain ⟨k, x⟩ := p
    rw [hu] at h2
    simp only [keepsFlat, Bool.and_eq_true] at h2
    cases hfl : c.flag
    · rw [hfl] at h2
      simp only [flatUps, cond_false]
      refine (memB_filter _ _ _).2 ⟨hm, fun e => ?_⟩
      subst e
      rw [hm] at h2
      simp at h2
    · simp only [flatUps, cond_true]
      cases hk : memB k fl0
      · exact (memB_cons _ _ _).2 (.inr hm)
      · exact hm
end Go.Ev
