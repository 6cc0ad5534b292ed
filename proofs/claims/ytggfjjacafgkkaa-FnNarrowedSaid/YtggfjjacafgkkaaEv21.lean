/-
  Control: what a body comes to, by the evaluator.
-/
import Derived.Test.YtggfjjacafgkkaaEv20
namespace Go.Ev

def Ex.out : Ex → Exit
  | .normal => .normal
  | .exit id => .exit id
  | .ret => .ret

theorem least {p : Nat → Prop} (h : ∃ m, p m) : ∃ m, p m ∧ ∀ k, p k → m ≤ k := by
  obtain ⟨m, hm⟩ := h
  induction m using Nat.strongRecOn with
  | _ m ih =>
    by_cases h : ∃ k, k < m ∧ p k
    · obtain ⟨k, hk, hp⟩ := h
      exact ih k hk hp
    · exact ⟨m, hm, fun k hk => Nat.le_of_not_lt fun hlt => h ⟨k, hlt, hk⟩⟩

/-- A loop that is left in time. -/
theorem wp_loop_fuel {P : Program} {Q : Exit → Act → World → Prop} {c : Code} {a : Act} {w : World} (I : Nat → Act → World → Prop) (m : Nat) (h₀ : I m a w)
    (round : ∀ m a w, I m a w → c.wp P (Exit.then (fun a' w' => ∃ k, k < m ∧ I k a' w') Q) a w) : (Code.loop c).wp P Q a w := by
  have hc : ∀ a w, ∃ m, (∃ k, I k a w) → I m a w ∧ ∀ k, I k a w → m ≤ k := fun a w => by
    by_cases h : ∃ k, I k a w
    · obtain ⟨m, h1, h2⟩ := least h
      exact ⟨m, fun _ => ⟨h1, h2⟩⟩
    · exact ⟨0, fun h' => absurd h' h⟩
  refine wp_loop (fun a w => ∃ k, I k a w) (fun a w => Classical.choose (hc a w)) ⟨m, h₀⟩ fun a w hI => ?_
  obtain ⟨h1, h2⟩ := Classical.choose_spec (hc a w) hI
  refine wp_mono (round _ a w h1) fun e a' w' hq => ?_
  cases e with
  | normal =>
    obtain ⟨k, hk, hI'⟩ := hq
    obtain ⟨_, h4⟩ := Classical.choose_spec (hc a' w') ⟨k, hI'⟩
    exact ⟨⟨k, hI'⟩, Nat.lt_of_le_of_lt (h4 k hI') hk⟩
  | _ => exact hq

/-! Numbers anew at a loop's head -/

theorem posOf_spec {id : Nat} : ∀ (l : List Nat) (i k : Nat), posOf id l i = some k → i ≤ k ∧ l[k - i]? = some id
  | [], i, k, h => by cases h
  | a :: l, i, k, h => by
    simp only [posOf] at h
    cases hb : Nat.beq a id
    · rw [hb] at h
      obtain ⟨h1, h2⟩ := posOf_spec l (i + 1) k h
      refine ⟨by omega, ?_⟩
      rw [show k - i = (k - (i + 1)) + 1 by omega]
      simpa using h2
    · rw [hb] at h
      simp only [cond_true, Option.some.injEq] at h
      subst h
      exact ⟨Nat.le_refl _, by simp [Nat.eq_of_beq_eq_true hb]⟩

def muN (base : Nat) (ids : List Nat) (μ : Mu) : Mu := fun i => if i < base then μ i else (ids[i - base]?).bind μ

theorem rnId_spec {base : Nat} {ids : List Nat} {μ : Mu} {id k : Nat} (h : rnId base ids id = some k) : muN base ids μ k = μ id := by
  unfold rnId at h
  cases hb : Nat.blt id base
  · rw [hb] at h
    obtain ⟨h1, h2⟩ := posOf_spec _ _ _ h
    have : ¬ k < base := by omega
    simp [muN, this, h2]
  · rw [hb] at h
    simp only [cond_true, Option.some.injEq] at h
    subst h
    have : id < base := by simpa [Nat.blt_eq] using hb
    simp [muN, this]

section
variable {base : Nat} {ids : List Nat} {J : Im} {μ : Mu}

theorem rnL_sound {v : V} {g : Value} (h : Rv J μ v g) : Rv J (muN base ids μ) (rnL base ids v) g := by
  cases v with
  | mp id off =>
    simp only [rnL]
    split
    · rename_i k hk
      cases h with
      | mp hl => exact .mp (by rw [rnId_spec hk]; exact hl)
    · exact .und
  | ms id off len sz =>
    simp only [rnL]
    split
    · rename_i k hk
      cases h with
      | ms hl hc hz => exact .ms (by rw [rnId_spec hk]; exact hl) hc hz
    · exact .und
  | agg _ => exact .und
  | tup _ => exact .und
  | fn f a b =>
    cases a with
    | nil =>
      cases b with
      | nil => exact noRef_any h rfl
      | cons _ _ => exact .und
    | cons _ _ => exact .und
  | _ => exact noRef_any h rfl

theorem map_rel {f : V → V} (hf : ∀ v g, Rv J μ v g → Rv J (muN base ids μ) (f v) g) {cs : List V} {gs : Array Value} (h : ∀ (j : Nat) v g, cs[j]? = some v → gs[j]? = some g → Rv J μ v g) :
    ∀ (j : Nat) v g, (cs.map f)[j]? = some v → gs[j]? = some g → Rv J (muN base ids μ) v g := by
  intro j v g hv hg
  rw [List.getElem?_map] at hv
  cases hc : cs[j]? with
  | none => rw [hc] at hv; cases hv
  | some u =>
    rw [hc] at hv
    simp only [Option.map_some, Option.some.injEq] at hv
    subst hv
    exact hf u g (h j u g hc hg)

theorem rnV_sound {v : V} {g : Value} (h : Rv J μ v g) : Rv J (muN base ids μ) (rnV base ids v) g := by
  cases v with
  | agg cs =>
    cases h with
    | agg hs ho hp => exact .agg (by simp [hs]) ho (map_rel (fun v g => rnL_sound) hp)
  | fn f a b =>
    cases h with
    | fn h1 h2 h3 h4 => exact .fn (by simp [h1]) (by simp [h2]) (map_rel (fun v g => rnL_sound) h3) (map_rel (fun v g => rnL_sound) h4)
  | tup _ => exact .und
  | _ => exact rnL_sound h
end

theorem dedup_mem {a : Nat} : ∀ {l : List Nat}, a ∈ dedup l → a ∈ l
  | [], h => by cases h
  | b :: l, h => by
    simp only [dedup, List.mem_cons, List.mem_filter] at h
    rcases h with rfl | h
    · exact List.mem_cons_self
    · exact List.mem_cons_of_mem _ (dedup_mem h.1)

theorem dedup_nodup : ∀ l : List Nat, (dedup l).Nodup
  | [] => List.nodup_nil
  | a :: l => by
    simp only [dedup, List.nodup_cons, List.mem_filter]
    refine ⟨fun h => ?_, (dedup_nodup l).filter _⟩
    simp at h

theorem look_map (f : Nat → V) : ∀ (ks : List Nat) (t : Nat), look (ks.map fun t => (t, f t)) t = f t ∨ look (ks.map fun t => (t, f t)) t = .und
  | [], t => .inr rfl
  | k :: ks, t => by
    rw [List.map_cons, look_cons]
    split
    · rename_i e; subst e; exact .inl rfl
    · exact look_map f ks t

theorem rnObjs_spec {get : Get} {fl : List Nat} {base : Nat} {ids : List Nat} : ∀ (l : List (Nat × Nat)) (k : Nat) (c : Option Cells), lk (rnObjs get fl base ids l) k = some c → ∃ id cs, (k, id) ∈ l ∧ get id = some cs ∧ c = some (rnCells base ids fl id cs)
  | [], k, c, h => by cases h
  | (k', id) :: l, k, c, h => by
    simp only [rnObjs] at h
    cases hg : get id with
    | none =>
      rw [hg] at h
      obtain ⟨id', cs, h1, h2, h3⟩ := rnObjs_spec l k c h
      exact ⟨id', cs, List.mem_cons_of_mem _ h1, h2, h3⟩
    | some cs =>
      rw [hg] at h
      simp only [lk] at h
      split at h
      · rename_i e
        subst e
        cases h
        exact ⟨id, cs, List.mem_cons_self, hg, rfl⟩
      · obtain ⟨id', cs, h1, h2, h3⟩ := rnObjs_spec l k c h
        exact ⟨id', cs, List.mem_cons_of_mem _ h1, h2, h3⟩

theorem norm_sound {n : Nat} {s : St} {J J0 : Im} {μ μ0 : Mu} {a : Act} {w w0 : World} {get0 : Get} {base : Nat} {ks : List Nat} (hs : Sim n s J μ a w) (hb : ∀ i, base ≤ i → μ0 i = none) (he : Ext get0 J0 μ0 w0 s.get J μ w) :
    ∃ μ', Sim n (norm base ks s) J μ' a w ∧ Ext get0 J0 μ0 w0 (norm base ks s).get J μ' w := by
  obtain ⟨r, os, nx, fl⟩ := s
  have hinv := hs.inv
  have hfl := hs.flat
  unfold St.get at hinv hfl he
  dsimp only at hinv hfl he
  unfold norm St.get
  simp only
  generalize hget : upd os noGet = get at hinv hfl he ⊢
  generalize hids : dedup ((reach get fl ((ks.flatMap fun t => refsV (look r t)) ++ (List.range base).flatMap (innerOf get fl))).filter fun id => Nat.ble base id && (get id).isSome) = ids
  have hnd : ids.Nodup := by rw [← hids]; exact dedup_nodup _
  have hge : ∀ id ∈ ids, base ≤ id := by
    intro id hid
    rw [← hids] at hid
    have := dedup_mem hid
    rw [List.mem_filter, Bool.and_eq_true] at this
    exact Nat.le_of_ble_eq_true this.2.1
  generalize hpairs : ((List.range base).map fun k => (k, k)) ++ (ids.zipIdx base).map (fun x => (x.2, x.1)) = pairs
  have hp : ∀ k id, (k, id) ∈ pairs → (k < base ∧ id = k) ∨ (base ≤ k ∧ ids[k - base]? = some id) := by
    intro k id h
    rw [← hpairs, List.mem_append] at h
    rcases h with h | h
    · obtain ⟨k', h1, h2⟩ := List.mem_map.1 h
      cases h2
      exact .inl ⟨List.mem_range.1 h1, rfl⟩
    · obtain ⟨x, h1, h2⟩ := List.mem_map.1 h
      obtain ⟨y, i⟩ := x
      cases h2
      have := List.mk_mem_zipIdx_iff_le_and_getElem?_sub.1 h1
      exact .inr this
  have hfun : ∀ k id id', (k, id) ∈ pairs → (k, id') ∈ pairs → id = id' := by
    intro k id id' h h'
    rcases hp k id h with ⟨h1, h2⟩ | ⟨h1, h2⟩ <;> rcases hp k id' h' with ⟨h3, h4⟩ | ⟨h3, h4⟩
    · rw [h2, h4]
    · omega
    · omega
    · rw [h2] at h4; exact Option.some.inj h4
  have hinj : ∀ k k' id, (k, id) ∈ pairs → (k', id) ∈ pairs → k = k' := by
    intro k k' id h h'
    rcases hp k id h with ⟨h1, h2⟩ | ⟨h1, h2⟩ <;> rcases hp k' id h' with ⟨h3, h4⟩ | ⟨h3, h4⟩
    · omega
    · have := hge id (List.mem_of_getElem? h4); omega
    · have := hge id (List.mem_of_getElem? h2); omega
    · have : k - base = k' - base := (List.getElem?_inj (lt_of_some h2) hnd).1 (h2.trans h4.symm)
      omega
  have hmu : ∀ k id, (k, id) ∈ pairs → muN base ids μ k = μ id := by
    intro k id h
    unfold muN
    rcases hp k id h with ⟨h1, h2⟩ | ⟨h1, h2⟩
    · subst h2; simp [h1]
    · have : ¬ k < base := by omega
      simp [this, h2]
  have hobj : ∀ k cs', upd (rnObjs get fl base ids pairs) noGet k = some cs' → ∃ id cs, (k, id) ∈ pairs ∧ get id = some cs ∧ cs' = rnCells base ids fl id cs := by
    intro k cs' h
    rw [upd_lk] at h
    cases hl : lk (rnObjs get fl base ids pairs) k with
    | none => rw [hl] at h; cases h
    | some c =>
      rw [hl] at h
      simp only [Option.getD_some] at h
      subst h
      obtain ⟨id, cs, h1, h2, h3⟩ := rnObjs_spec _ _ _ hl
      exact ⟨id, cs, h1, h2, Option.some.inj h3⟩
  have hcell : ∀ id cs, get id = some cs → ∀ (j : Nat) v, (rnCells base ids fl id cs)[j]? = some v → ∃ u, cs[j]? = some u ∧ ∀ g, Rv J μ u g → Rv J (muN base ids μ) v g := by
    intro id cs hg j v hv
    unfold rnCells at hv
    cases hm : memB id fl
    · rw [hm] at hv
      simp only [cond_false, List.getElem?_map] at hv
      cases hc : cs[j]? with
      | none => rw [hc] at hv; cases hv
      | some u =>
        rw [hc] at hv
        simp only [Option.map_some, Option.some.injEq] at hv
        subst hv
        exact ⟨u, rfl, fun g hu => rnL_sound hu⟩
    · rw [hm] at hv
      simp only [cond_true] at hv
      exact ⟨v, hv, fun g hu => noRef_any hu (hfl id hm cs hg v (List.mem_of_getElem? hv))⟩
  have hlen : ∀ id cs, (rnCells base ids fl id cs).length = cs.length := by
    intro id cs
    unfold rnCells
    cases memB id fl <;> simp
  refine ⟨muN base ids μ, ⟨fun t => ?_, hs.size, hs.defers, ?_, fun i hi => ?_, ?_⟩, ?_⟩
  · dsimp only
    rcases look_map (fun t => rnV base ids (look r t)) ks t with h | h <;> rw [h]
    · exact rnV_sound (hs.regs t)
    · exact .und
  · unfold St.get
    dsimp only
    refine ⟨hinv.im, fun k cs' h => ?_, fun k k' l l' h h' hl hl' hbk => ?_⟩
    · obtain ⟨id, cs, p1, p2, rfl⟩ := hobj k cs' h
      obtain ⟨l, gc, elem, k1, k2, k3, k4, k5, k6, k7⟩ := hinv.ob id cs p2
      refine ⟨l, gc, elem, by rw [hmu k id p1]; exact k1, k2, k3, k4, by rw [hlen]; exact k5, k6, fun j v hv => ?_⟩
      obtain ⟨u, hu, hr⟩ := hcell id cs p2 j v hv
      obtain ⟨g, g1, g2⟩ := k7 j u hu
      exact ⟨g, g1, hr g g2⟩
    · cases hg : upd (rnObjs get fl base ids pairs) noGet k with
      | none => exact absurd hg h
      | some cs =>
        cases hg' : upd (rnObjs get fl base ids pairs) noGet k' with
        | none => exact absurd hg' h'
        | some cs' =>
          obtain ⟨id, ds, p1, p2, _⟩ := hobj k cs hg
          obtain ⟨id', ds', p1', p2', _⟩ := hobj k' cs' hg'
          rw [hmu k id p1] at hl
          rw [hmu k' id' p1'] at hl'
          have := hinv.sep id id' l l' (by rw [p2]; simp) (by rw [p2']; simp) hl hl' hbk
          subst this
          exact hinj k k' id p1 p1'
  · dsimp only at hi
    unfold muN
    have h1 : ¬ i < base := by omega
    have h2 : ids[i - base]? = none := List.getElem?_eq_none (by omega)
    simp [h1, h2]
  · unfold St.get
    dsimp only
    intro k hk cs' hc v hv
    obtain ⟨id, cs, p1, p2, rfl⟩ := hobj k cs' hc
    rw [memB_iff, List.mem_map] at hk
    obtain ⟨⟨k1, id1⟩, q1, q2⟩ := hk
    dsimp only at q2
    subst q2
    rw [List.mem_filter, Bool.and_eq_true] at q1
    have := hfun _ _ _ p1 q1.1
    subst this
    have hm : memB id fl = true := q1.2.1
    have : rnCells base ids fl id cs = cs := by simp [rnCells, hm]
    rw [this] at hv
    exact hfl id hm cs p2 v hv
  · refine ⟨he.size, fun i l hl => ?_, he.im, he.imNew, he.frame, fun b hb' => ?_, he.os, he.out⟩
    · have hlt : i < base := by
        rcases Nat.lt_or_ge i base with h | h
        · exact h
        · rw [hb i h] at hl; cases hl
      simp [muN, hlt, he.mu i l hl]
    · obtain ⟨k, l, q1, q2, q3⟩ := hb'
      cases hg : upd (rnObjs get fl base ids pairs) noGet k with
      | none => exact absurd hg q1
      | some cs' =>
        obtain ⟨id, cs, p1, p2, _⟩ := hobj k cs' hg
        refine he.own b ⟨id, l, by rw [p2]; simp, ?_, q3⟩
        rw [← hmu k id p1]
        exact q2
end Go.Ev
