/-
  Regions whose order is open: all orders.
-/
import Derived.Test.YtggfjjacafgkkaaEv19
namespace Go.Ev

def cntL (L : Nat → Bool) : Nat → Nat
  | 0 => 0
  | m + 1 => cntL L m + if L m = true then 0 else 1

theorem cntL_agree {L L' : Nat → Bool} : ∀ N, (∀ j, j < N → L j = L' j) → cntL L N = cntL L' N
  | 0, _ => rfl
  | N + 1, h => by simp only [cntL, h N (Nat.lt_succ_self N), cntL_agree N fun j hj => h j (Nat.lt_succ_of_lt hj)]

theorem beq_ne {a b : Nat} (h : a ≠ b) : Nat.beq a b = false := by
  cases hb : Nat.beq a b
  · rfl
  · exact absurd (Nat.eq_of_beq_eq_true hb) h

theorem cntL_add {L : Nat → Bool} {k : Nat} (hL : L k = false) : ∀ N, k < N → cntL (fun j => L j || Nat.beq j k) N + 1 = cntL L N
  | 0, h => by omega
  | N + 1, h => by
    by_cases e : k = N
    · subst e
      have : cntL (fun j => L j || Nat.beq j k) k = cntL L k := cntL_agree k fun j hj => by simp [beq_ne (Nat.ne_of_lt hj)]
      simp only [cntL, this, hL, Nat.beq_refl]
      simp
    · have ih := cntL_add hL N (by omega)
      simp only [cntL, beq_ne (fun h : N = k => e h.symm), Bool.or_false]
      omega

theorem cntL_zero {L : Nat → Bool} : ∀ N, cntL L N = 0 → ∀ j, j < N → L j = true
  | 0, _, j, hj => by omega
  | N + 1, h, j, hj => by
    simp only [cntL] at h
    by_cases e : j = N
    · subst e
      cases hl : L j
      · rw [hl] at h; simp at h
      · rfl
    · exact cntL_zero N (by omega) j (by omega)

theorem cntL_le {L : Nat → Bool} : ∀ N, cntL L N ≤ N
  | 0 => Nat.le_refl _
  | N + 1 => by
    have := cntL_le (L := L) N
    simp only [cntL]
    split <;> omega

section
variable {α : Type} {E : Env} {n : Nat} {all : Array Oper} {nx : Nat} {fl0 : List Nat} {R0 : Nat → V} {g0 : Get} {rc : Nat → Rec} {J0 : Im} {μ0 : Mu} {w0 : World}

def LL (listed : Array Bool) : Nat → Bool := fun j => listed.getD j false

theorem LL_set {listed : Array Bool} {k : Nat} (h : k < listed.size) : LL (listed.setIfInBounds k true) = fun j => LL listed j || Nat.beq j k := by
  funext j
  unfold LL
  by_cases e : k = j
  · subst e
    simp [h]
  · rw [getD_set_ne false e, beq_ne (fun h : j = k => e h.symm), Bool.or_false]

theorem flat_all {L : Nat → Bool} {g : Get} (h0 : FlatInv fl0 g) (hh : ∀ k, k < all.size → HeadOK fl0 (rc k)) : ∀ m, m ≤ all.size → FlatInv (SF rc fl0 m) (SG rc g (fun _ => true) m)
  | 0, _ => h0
  | m + 1, hm => by
    have ih := flat_all (L := L) h0 hh m (by omega)
    have := (hh m (by omega)).flat ih
    simp only [SF]
    have e : SG rc g (fun _ => true) (m + 1) = upd (rc m).ups (SG rc g (fun _ => true) m) := by
      funext id
      rw [upd_lk]
      simp only [SG, SS, if_true, wrG]
    rw [e]
    exact this

theorem any_sound (hS : SOK E) (hs : ∀ k, k < all.size → Step E n all nx fl0 R0 g0 rc k) {Q : Exit → Act → World → Prop}
    (hQ : ∀ J μ a w, (∀ t, Rv J μ (SR rc R0 (fun _ => true) all.size t) (a.tmps.getD t undef)) → a.tmps.size = n → a.defers = [] → Inv (SG rc g0 (fun _ => true) all.size) J μ w → (∀ i, nx + all.size ≤ i → μ i = none) →
      (∀ k, k < all.size → HeadOK fl0 (rc k)) → Ext g0 J0 μ0 w0 (SG rc g0 (fun _ => true) all.size) J μ w → Q .normal a w) :
    ∀ (fuel : Nat) (listed : Array Bool) (J : Im) (μ : Mu) (a : Act) (w : World), listed.size = all.size → Closed rc all.size (LL listed) → cntL (LL listed) all.size ≤ fuel → SimL n all nx fl0 R0 g0 rc J0 μ0 w0 (LL listed) J μ a w →
      wpAny E.P .any all Q fuel listed a w := by
  -- nothing is ready: all is listed
  have done : ∀ listed : Array Bool, listed.size = all.size → Region.ready .any all listed = [] → ∀ j, j < all.size → LL listed j = true := by
    intro listed hsz hr j
    induction j using Nat.strongRecOn with
    | _ j ih =>
      intro hj
      cases hL : LL listed j
      · exfalso
        obtain ⟨o, sk⟩ := hs j hj
        have hm : j ∈ Region.ready .any all listed := by
          rw [mem_ready]
          refine ⟨?_, o, sk.at_, fun e he hb => ?_⟩
          · unfold LL at hL
            have hlt : j < listed.size := by omega
            simpa [Array.getD, hlt] using hL
          · obtain ⟨h1, _⟩ := (anc_spec _ _ sk.anc).1 e (Array.mem_toList_iff.2 he) hb
            exact ih e.on h1 (by omega)
        rw [hr] at hm
        cases hm
      · rfl
  have fin : ∀ (listed : Array Bool) (J : Im) (μ : Mu) (a : Act) (w : World), (∀ j, j < all.size → LL listed j = true) → SimL n all nx fl0 R0 g0 rc J0 μ0 w0 (LL listed) J μ a w → Q .normal a w := by
    intro listed J μ a w hall sim
    have e1 : SR rc R0 (LL listed) all.size = SR rc R0 (fun _ => true) all.size := by
      funext t
      exact SS_agree _ fun j hj _ => hall j hj
    have e2 : SG rc g0 (LL listed) all.size = SG rc g0 (fun _ => true) all.size := by
      funext t
      exact SS_agree _ fun j hj _ => hall j hj
    refine hQ J μ a w (by rw [← e1]; exact sim.regs) sim.size sim.defers (by rw [← e2]; exact sim.inv) (fun i hi => sim.fresh i (by omega) fun k hk _ => by omega) (fun k hk => sim.head k hk (hall k hk)) (by rw [← e2]; exact sim.ext)
  intro fuel
  induction fuel with
  | zero =>
    intro listed J μ a w hsz hc hf sim
    have hall := cntL_zero all.size (by omega : cntL (LL listed) all.size = 0)
    refine ⟨?_, fin listed J μ a w hall sim⟩
    cases hr : Region.ready .any all listed with
    | nil => rfl
    | cons k ks =>
      exfalso
      have hm : k ∈ Region.ready .any all listed := by rw [hr]; exact List.mem_cons_self
      rw [mem_ready] at hm
      obtain ⟨h0, o, ho, _⟩ := hm
      have hk : k < all.size := (Array.getElem?_eq_some_iff.1 ho).1
      have := hall k hk
      unfold LL at this
      have hlt : k < listed.size := by omega
      simp [Array.getD, hlt] at this h0
      rw [this] at h0
      cases h0
  | succ fuel ih =>
    intro listed J μ a w hsz hc hf sim
    refine ⟨fun hr => fin listed J μ a w (done listed hsz hr) sim, fun k hk => ?_⟩
    rw [mem_ready] at hk
    obtain ⟨h0, o, ho, hall⟩ := hk
    have hk : k < all.size := (Array.getElem?_eq_some_iff.1 ho).1
    have hlt : k < listed.size := by omega
    have hL : LL listed k = false := by
      unfold LL
      simp [Array.getD, hlt] at h0 ⊢
      exact h0
    have ha : ∀ m, memB m (rc k).d.anc = true → LL listed m = true := by
      intro m hm
      obtain ⟨o', sk⟩ := hs k hk
      have e : o' = o := by
        have := sk.at_
        rw [ho] at this
        exact (Option.some.inj this).symm
      subst e
      obtain ⟨e, he, hb, hme⟩ := (anc_spec _ _ sk.anc).2 m hm
      have hon : LL listed e.on = true := hall e (Array.mem_toList_iff.1 he) hb
      rcases hme with rfl | ⟨d, hd, hmd⟩
      · exact hon
      · have hlt' : e.on < k := by
          have := (anc_spec _ _ sk.anc).1 e he hb
          exact this.1
        rw [pres_get hlt'] at hd
        cases hd
        exact hc e.on (by omega) hon m hmd
    refine stepL_sound hS hs hc hk hL ha sim fun J' μ' a' w' sim' => ?_
    refine ih _ J' μ' a' w' (by simp [hsz]) ?_ ?_ (by rw [LL_set hlt]; exact sim')
    · rw [LL_set hlt]
      intro j hj hLj m hm
      by_cases e : j = k
      · subst e
        simp [ha m hm]
      · simp only [beq_ne e, Bool.or_false] at hLj
        simp [hc j hj hLj m hm]
    · rw [LL_set hlt]
      have := cntL_add hL all.size hk
      omega
end

theorem draw_sound {α : Type} {E : Env} {n : Nat} {ops : Array Oper} {id nx : Nat} {r : Regs} {os : Ups} {fl : List Nat} {K : St → Option α} {x : α} {Q : Exit → Act → World → Prop} {J : Im} {μ : Mu} {a : Act} {w : World}
    (hP : E.P.follows .mixedOrders = true) (hS : SOK E) (h : drawK E n ops nx fl ops.toList 0 [] r os fl K = some x) (hs : Sim n ⟨r, os, nx, fl⟩ J μ a w)
    (hq : ∀ s' J' μ' a' w', K s' = some x → Sim n s' J' μ' a' w' → Ext (upd os noGet) J μ w s'.get J' μ' w' → Q .normal a' w') : (Code.region id ops true).wp E.P Q a w := by
  refine wp_region_any hP ?_
  obtain ⟨rc, r', os', t1, t2, t3, t4⟩ := drawK_trace (all := ops) (R0 := look r) (g0 := upd os noGet) (fl0 := fl) (nx := nx) ops.toList 0 (fun _ => ⟨⟨[], [], []⟩, none, .und, [], false⟩) r os fl (fun j => by simp) (fun k hk => by omega) rfl rfl rfl h
  simp only [Nat.zero_add, Array.length_toList] at t1 t2 t3 t4
  have hz : ∀ j, LL (Array.replicate ops.size false) j = false := fun j => by
    unfold LL
    rw [Array.getD_eq_getD_getElem?, Array.getElem?_replicate]
    split <;> rfl
  refine any_sound (J0 := J) (μ0 := μ) (w0 := w) hS t1 (fun J' μ' a' w' q1 q2 q3 q4 q5 q6 q7 => ?_) ops.size _ J μ a _ (by simp) (fun j _ hL => by rw [hz] at hL; cases hL) (cntL_le _) ?_
  · refine hq ⟨r', os', nx + ops.size, SF rc fl ops.size⟩ J' μ' a' w' t4 ⟨by dsimp only; rw [t2]; exact q1, q2, q3, by unfold St.get; rw [t3]; exact q4, q5, ?_⟩ (by unfold St.get; rw [t3]; exact q7)
    unfold St.get
    rw [t3]
    exact flat_all (all := ops) (L := fun _ => true) hs.flat q6 ops.size (Nat.le_refl _)
  · have e1 : SR rc (look r) (LL (Array.replicate ops.size false)) ops.size = look r := by
      funext t
      have : ∀ m, SS (wrR rc) (look r) (LL (Array.replicate ops.size false)) m t = look r t := by
        intro m
        induction m with
        | zero => rfl
        | succ m ih => simp only [SS, hz, Bool.false_eq_true, if_false]; exact ih
      exact this _
    have e2 : SG rc (upd os noGet) (LL (Array.replicate ops.size false)) ops.size = upd os noGet := by
      funext t
      have : ∀ m, SS (wrG rc) (upd os noGet) (LL (Array.replicate ops.size false)) m t = upd os noGet t := by
        intro m
        induction m with
        | zero => rfl
        | succ m ih => simp only [SS, hz, Bool.false_eq_true, if_false]; exact ih
      exact this _
    exact ⟨by rw [e1]; exact hs.regs, hs.size, hs.defers, by rw [e2]; exact hs.inv.heap rfl, fun i hi _ => hs.fresh i hi, by rw [e2]; exact hs.flat, fun k _ hL => (by rw [hz] at hL; cases hL), by rw [e2]; exact Ext.heap rfl⟩
end Go.Ev
