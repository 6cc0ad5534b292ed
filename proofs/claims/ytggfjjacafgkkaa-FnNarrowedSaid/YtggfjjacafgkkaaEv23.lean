/-
  What a run of the evaluator says of a function.
-/
import Derived.Test.YtggfjjacafgkkaaEv22
namespace Go.Ev

section
variable {E : Env}

theorem runPure_calls (hP : E.P.follows .mixedOrders = true) (hN : namesOK E.P = true) (hS : SOK E) {d : Nat} {f : FuncId} {vs : List V} {v : V} (h : runPure E d f vs = some v) {J : Im} {gs : Array Value} {w : World} (hI : ImOK J w) (hr : Rvs J noMu vs gs) :
    Calls E.P f gs w fun e w' => ∃ gv J', e = .returned gv ∧ Rv J' noMu v gv ∧ ImOK J' w' ∧ Im.le J J' ∧ (∀ b c, J' b = some c → J b = none → w.heap.size ≤ b) ∧ w.heap.size ≤ w'.heap.size ∧ (∀ b, b < w.heap.size → w'.heap[b]? = w.heap[b]?) ∧ w'.os = w.os ∧ (w'.output, w'.tape) = (w.output, w.tape) := by
  have hno : ∀ b, ¬ Own (upd [] noGet) noMu b := fun b ⟨id, l, h1, h2, h3⟩ => by cases h2
  have hInv : Inv (upd [] noGet) J noMu w := ⟨hI, fun id cs hc => (by cases hc), fun i i' l l' h1 => absurd rfl h1⟩
  cases d with
  | zero => cases h
  | succ d =>
    refine (callN_calls hP hS (callN_sound hP hN hS d) h hInv (fun _ _ => rfl) (fun id hm => by cases hm) hr).mono ?_
    rintro e w' ⟨g, he, u, os', nx', fl', J', μ', hk, hg, hI', hf', hfl', hext⟩
    simp only [Option.some.injEq] at hk
    subst hk
    refine ⟨g, liveIm (upd os' noGet) J' μ' w', he, deepT_sound fl' hI' hfl' hg, live_ok hI', Im.le_trans hext.im (live_le _ _ _ _), fun b c hb hn => ?_, hext.size, fun b hb => hext.frame b hb (hno b), hext.os, hext.out⟩
    cases hj : J' b with
    | some c' => exact hext.imNew b c' hj hn
    | none =>
      unfold liveIm at hb
      rw [hj] at hb
      simp only at hb
      split at hb
      · rename_i ho
        exact (hext.own b ho).resolve_left (hno b)
      · cases hb

theorem pure_of_run (hP : E.P.follows .mixedOrders = true) (hN : namesOK E.P = true) (hS : SOK E) (d : Nat) {f : FuncId} {g : List V → Option V} (h : ∀ vs v, g vs = some v → runPure E d f vs = some v) : PureOK E.P f g :=
  fun _ vs _ _ v hI hr hv => runPure_calls hP hN hS (h vs v hv) hI hr

theorem only_upd (cs : Cells) : upd [(0, some cs)] noGet = only cs := by
  funext id
  rw [upd_cons, upd_nil]
  unfold only
  by_cases h : id = 0
  · subst h; rfl
  · rw [if_neg (fun e => h e.symm), if_neg h]
    rfl

theorem obj_of_run (hP : E.P.follows .mixedOrders = true) (hN : namesOK E.P = true) (hS : SOK E) (d : Nat) {f : FuncId} {g : Cells → List V → Option (V × Cells)} (h : ∀ cs rest r, g cs rest = some r → runObj E d f cs rest = some r) : ObjOK E.P f g := by
  intro J μ cs rest gs w v cs' hI hμ hflat hr _ hg
  have hrun := h cs rest (v, cs') hg
  cases d with
  | zero => cases hrun
  | succ d =>
    have hfl0 : FlatInv [0] (upd [(0, some cs)] noGet) := by
      rw [only_upd]
      intro id hm ds hds u hu
      unfold only at hds
      split at hds
      · cases hds; exact hflat u hu
      · cases hds
    refine (callN_calls hP hS (callN_sound hP hN hS d) hrun (by rw [only_upd]; exact hI) hμ hfl0 hr).mono ?_
    rintro e w' ⟨gv, he, u, os', nx', fl', J', μ', hk, hgv, hI', hf', hfl', hext⟩
    rw [only_upd] at hext
    cases h0 : upd os' noGet 0 with
    | none => rw [h0] at hk; cases hk
    | some ds =>
      rw [h0] at hk
      simp only at hk
      cases hb : (memB 0 fl' && plainT u)
      · rw [hb] at hk; cases hk
      · rw [hb] at hk
        simp only [cond_true, Option.some.injEq, Prod.mk.injEq] at hk
        obtain ⟨rfl, rfl⟩ := hk
        rw [Bool.and_eq_true] at hb
        have sub : ∀ id c, only ds id = some c → upd os' noGet id = some c := by
          intro id c hc
          unfold only at hc
          split at hc
          · rename_i e; subst e; cases hc; exact h0
          · cases hc
        have ne : ∀ id, only ds id ≠ none → upd os' noGet id ≠ none := by
          intro id hn
          cases hc : only ds id with
          | none => exact absurd hc hn
          | some c => rw [sub id c hc]; simp
        refine ⟨gv, J', μ', he, plainT_any hgv hb.2, ⟨hI'.im, fun id c hc => hI'.ob id c (sub id c hc), fun i i' l l' h1 h2 => hI'.sep i i' l l' (ne i h1) (ne i' h2)⟩, ⟨hext.size, hext.mu, hext.im, hext.imNew, hext.frame, fun b hb => ?_, hext.os, hext.out⟩, ?_⟩
        · obtain ⟨id, l, q1, q2, q3⟩ := hb
          exact hext.own b ⟨id, l, ne id q1, q2, q3⟩
        · exact hfl' 0 hb.1 ds h0
end
end Go.Ev
