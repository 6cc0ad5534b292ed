/-
  Regions whose order is open: the evaluator's record of the text's order.
-/
import Derived.Test.YtggfjjacafgkkaaEv16
namespace Go.Ev

section
variable {α : Type} {E : Env} {n : Nat} {all : Array Oper} {nx : Nat} {fl0 : List Nat} {R0 : Nat → V} {g0 : Get}

theorem putK_spec {dst : Option Nat} {v : V} {r : Regs} {K : Regs → Option α} {x : α} (h : putK n dst v r K = some x) : K (pushR dst v r) = some x ∧ ∀ d, dst = some d → d < n := by
  unfold putK at h
  cases dst with
  | none => exact ⟨h, fun d hd => by cases hd⟩
  | some d =>
    simp only at h
    cases hb : Nat.blt d n
    · rw [hb] at h; cases h
    · rw [hb] at h
      exact ⟨h, fun d' hd => by cases hd; simpa [Nat.blt_eq] using hb⟩

theorem drawK_trace {K : St → Option α} {x : α} : ∀ (rest : List Oper) (i : Nat) (rc : Nat → Rec) (r : Regs) (os : Ups) (fl : List Nat), (∀ j, rest[j]? = all[i + j]?) → (∀ k, k < i → Step E n all nx fl0 R0 g0 rc k) →
    look r = SR rc R0 (fun _ => true) i → upd os noGet = SG rc g0 (fun _ => true) i → fl = SF rc fl0 i → drawK E n all nx fl0 rest i (pres rc i) r os fl K = some x →
    ∃ rc' r' os', (∀ k, k < i + rest.length → Step E n all nx fl0 R0 g0 rc' k) ∧ look r' = SR rc' R0 (fun _ => true) (i + rest.length) ∧ upd os' noGet = SG rc' g0 (fun _ => true) (i + rest.length) ∧
      K ⟨r', os', nx + (i + rest.length), SF rc' fl0 (i + rest.length)⟩ = some x
  | [], i, rc, r, os, fl, _, hs, hr, ho, hf, h => by
    subst hf
    exact ⟨rc, r, os, hs, hr, ho, h⟩
  | o :: rest, i, rc, r, os, fl, hl, hs, hr, ho, hf, h => by
    have hat : all[i]? = some o := by simpa using (hl 0).symm
    have hl' : ∀ j, rest[j]? = all[i + 1 + j]? := fun j => by
      have := hl (j + 1)
      rw [show i + 1 + j = i + (j + 1) by omega]
      simpa using this
    -- one record more
    have cont : ∀ (c : Rec) (r1 : Regs), StepP E n all nx fl0 i (SR rc R0 (fun _ => true) i) (SG rc g0 (fun _ => true) i) (pres rc i) o c → look r1 = look r →
        drawK E n all nx fl0 rest (i + 1) (pres rc i ++ [c.d]) (pushR o.dst c.v r1) (c.ups ++ os) (flatUps fl c.flag c.ups) K = some x →
        ∃ rc' r' os', (∀ k, k < i + (o :: rest).length → Step E n all nx fl0 R0 g0 rc' k) ∧ look r' = SR rc' R0 (fun _ => true) (i + (o :: rest).length) ∧ upd os' noGet = SG rc' g0 (fun _ => true) (i + (o :: rest).length) ∧
          K ⟨r', os', nx + (i + (o :: rest).length), SF rc' fl0 (i + (o :: rest).length)⟩ = some x := by
      intro c r1 hc hr1 hd
      let rc1 : Nat → Rec := fun k => if k = i then c else rc k
      have e1 : ∀ j, j < i → rc j = rc1 j := fun j hj => by simp [rc1, Nat.ne_of_lt hj]
      have e2 : rc1 i = c := by simp [rc1]
      have hsR : SR rc1 R0 (fun _ => true) i = SR rc R0 (fun _ => true) i := (SR_congr e1).symm
      have hsG : SG rc1 g0 (fun _ => true) i = SG rc g0 (fun _ => true) i := (SG_congr e1).symm
      have hp : pres rc1 i = pres rc i := (pres_congr e1).symm
      have hlen : i + (o :: rest).length = i + 1 + rest.length := by simp only [List.length_cons]; omega
      rw [hlen]
      refine drawK_trace rest (i + 1) rc1 (pushR o.dst c.v r1) (c.ups ++ os) (flatUps fl c.flag c.ups) hl' (fun k hk => ?_) ?_ ?_ ?_ ?_
      · by_cases hki : k = i
        · subst hki
          refine ⟨o, ?_⟩
          rw [hsR, hsG, hp, e2]
          exact hc
        · exact Step_congr (fun j hj => e1 j (by omega)) (hs k (by omega))
      · rw [look_putF (hr1.trans hr) o.dst]
        funext t
        simp only [SR, SS, if_true, wrR, e2, hc.dst]
        rw [show SS (wrR rc1) R0 (fun _ => true) i t = SS (wrR rc) R0 (fun _ => true) i t from congrFun hsR t]
      · funext id
        rw [upd_append, upd_lk]
        simp only [SG, SS, if_true, wrG, e2]
        rw [show SS (wrG rc1) g0 (fun _ => true) i id = SS (wrG rc) g0 (fun _ => true) i id from congrFun hsG id, ho]
      · simp only [SF, e2]
        rw [← SF_congr e1, ← hf]
      · have : pres rc1 (i + 1) = pres rc i ++ [c.d] := by
          rw [← hp]
          simp only [pres, List.range_succ, List.map_append, List.map_cons, List.map_nil, e2]
        rw [this]
        exact hd
    have hq : ∀ {d : DRec}, quietAll all o d 0 (pres rc i) = true → ∀ j e, (pres rc i)[j]? = some e → Quiet all o d j e := fun h j e he => by
      have := quiet_spec _ 0 h j e he
      simpa using this
    unfold drawK at h
    split at h
    · cases h
    rename_i anc hanc
    -- it runs
    have run : ∀ (r1 : Regs), look r1 = look r → (o.guard = none ∨ ∃ j want t, o.guard = some (j, want) ∧ guardT all.toList j = some t ∧ look r t = .bool want) →
        (match o.op with
        | .pick c a b =>
          bif quietAll all o ⟨anc, [], []⟩ 0 (pres rc i) then
            match evalO r1 c with
            | .bool t =>
              bif t then putK n o.dst (evalO r1 a) r1 fun r => drawK E n all nx fl0 rest (i + 1) (pres rc i ++ [⟨anc, [], []⟩]) r os fl K
              else putK n o.dst (evalO r1 b) r1 fun r => drawK E n all nx fl0 rest (i + 1) (pres rc i ++ [⟨anc, [], []⟩]) r os fl K
            | _ => none
          else none
        | _ =>
          match opH E (restr (footE (upd os noGet) fl0 (evalO r1) o) (upd os noGet)) fl0 (nx + i) (evalO r1) o with
          | some (c, v, ups, m) =>
            bif c then
             (bif Nat.ble m 1 && keepsFlat fl0 (flagE fl0 (evalO r1) o ups) ups && quietAll all o ⟨anc, footE (upd os noGet) fl0 (evalO r1) o, ups.map (·.1)⟩ 0 (pres rc i) then
              putK n o.dst v r1 fun r' => drawK E n all nx fl0 rest (i + 1) (pres rc i ++ [⟨anc, footE (upd os noGet) fl0 (evalO r1) o, ups.map (·.1)⟩]) r' (ups ++ os) (flatUps fl (flagE fl0 (evalO r1) o ups) ups) K
             else none)
            else none
          | none => none) = some x →
        ∃ rc' r' os', (∀ k, k < i + (o :: rest).length → Step E n all nx fl0 R0 g0 rc' k) ∧ look r' = SR rc' R0 (fun _ => true) (i + (o :: rest).length) ∧ upd os' noGet = SG rc' g0 (fun _ => true) (i + (o :: rest).length) ∧
          K ⟨r', os', nx + (i + (o :: rest).length), SF rc' fl0 (i + (o :: rest).length)⟩ = some x := by
      intro r1 hr1 hg h
      have hR : evalO r1 = evalF (SR rc R0 (fun _ => true) i) := by unfold evalO; rw [hr1, hr]
      have hg' : o.guard = none ∨ ∃ j want t, o.guard = some (j, want) ∧ guardT all.toList j = some t ∧ SR rc R0 (fun _ => true) i t = .bool want := by rw [hr] at hg; exact hg
      split at h
      · rename_i c a b hop
        cases hqa : quietAll all o ⟨anc, [], []⟩ 0 (pres rc i)
        · rw [hqa] at h; cases h
        rw [hqa] at h
        simp only [cond_true] at h
        split at h
        · rename_i t ht
          have fin : ∀ z : Operand, (if t then a else b) = z → putK n o.dst (evalO r1 z) r1 (fun r => drawK E n all nx fl0 rest (i + 1) (pres rc i ++ [⟨anc, [], []⟩]) r os fl K) = some x → _ := fun z hz hp => by
            obtain ⟨p1, p2⟩ := putK_spec hp
            refine cont ⟨⟨anc, [], []⟩, o.dst, evalO r1 z, [], false⟩ r1 ⟨hat, rfl, p2, hanc, hq hqa, rfl, .inr ⟨hg', .inl ⟨c, a, b, t, hop, by rw [← hR]; exact ht, ?_, rfl⟩⟩⟩ hr1 ?_
            · rw [hz, ← hR]
            · simpa [flatUps] using p1
          cases t
          · exact fin b rfl h
          · exact fin a rfl h
        · cases h
      · split at h
        · rename_i c v ups m hoH
          cases hcc : c
          · rw [hcc] at h; cases h
          rw [hcc] at h
          simp only [cond_true] at h
          have hoe := opH_eq hoH hcc
          cases hc : (Nat.ble m 1 && keepsFlat fl0 (flagE fl0 (evalO r1) o ups) ups && quietAll all o ⟨anc, footE (upd os noGet) fl0 (evalO r1) o, ups.map (·.1)⟩ 0 (pres rc i))
          · rw [hc] at h; cases h
          rw [hc] at h
          simp only [cond_true] at h
          rw [Bool.and_eq_true, Bool.and_eq_true] at hc
          obtain ⟨⟨c1, c2⟩, c3⟩ := hc
          obtain ⟨p1, p2⟩ := putK_spec h
          refine cont ⟨⟨anc, footE (upd os noGet) fl0 (evalO r1) o, ups.map (·.1)⟩, o.dst, v, ups, flagE fl0 (evalO r1) o ups⟩ r1 ⟨hat, rfl, p2, hanc, hq c3, rfl, .inr ⟨hg', .inr ⟨m, ?_, Nat.le_of_ble_eq_true c1, c2, ?_⟩⟩⟩ hr1 p1
          · rw [← hR, ← ho]; exact hoe
          · rw [← hR]
        · cases h
    -- it is skipped
    have skip : ∀ (r1 : Regs) (j t : Nat) (want : Bool), look r1 = look r → o.guard = some (j, want) → guardT all.toList j = some t → (look r t = .bool (!want) ∨ look r t = .tup []) →
        (bif quietAll all o ⟨anc, [], []⟩ 0 (pres rc i) then putK n o.dst (.tup []) r1 fun r => drawK E n all nx fl0 rest (i + 1) (pres rc i ++ [⟨anc, [], []⟩]) r os fl K else none) = some x →
        ∃ rc' r' os', (∀ k, k < i + (o :: rest).length → Step E n all nx fl0 R0 g0 rc' k) ∧ look r' = SR rc' R0 (fun _ => true) (i + (o :: rest).length) ∧ upd os' noGet = SG rc' g0 (fun _ => true) (i + (o :: rest).length) ∧
          K ⟨r', os', nx + (i + (o :: rest).length), SF rc' fl0 (i + (o :: rest).length)⟩ = some x := by
      intro r1 j t want hr1 hg ht hb h
      cases hqa : quietAll all o ⟨anc, [], []⟩ 0 (pres rc i)
      · rw [hqa] at h; cases h
      rw [hqa] at h
      simp only [cond_true] at h
      obtain ⟨p1, p2⟩ := putK_spec h
      refine cont ⟨⟨anc, [], []⟩, o.dst, .tup [], [], false⟩ r1 ⟨hat, rfl, p2, hanc, hq hqa, rfl, .inl ⟨rfl, rfl, j, want, t, hg, ht, ?_⟩⟩ hr1 ?_
      · rw [← hr]; exact hb
      · simpa [flatUps] using p1
    cases hg : o.guard with
    | none =>
      simp only [hg] at h
      exact run r rfl (.inl hg) h
    | some jw =>
      obtain ⟨j, want⟩ := jw
      simp only [hg] at h
      split at h
      · cases h
      · rename_i t ht
        split at h
        · rename_i b hb
          have hs' := look_same hb
          cases b <;> cases want <;> simp only [cond_true, cond_false] at h
          · exact run _ hs' (.inr ⟨j, false, t, hg, ht, hb⟩) h
          · exact skip _ j t true hs' hg ht (.inl hb) h
          · exact skip _ j t false hs' hg ht (.inl hb) h
          · exact run _ hs' (.inr ⟨j, true, t, hg, ht, hb⟩) h
        · rename_i hb
          exact skip r j t want rfl hg ht (.inr hb) h
        · cases h
end
end Go.Ev
