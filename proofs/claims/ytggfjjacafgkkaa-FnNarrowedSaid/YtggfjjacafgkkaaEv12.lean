/-
  What is handed to functions that only look; what is told of called functions.
-/
import Derived.Test.YtggfjjacafgkkaaEv11
namespace Go.Ev

def FlatInv (fl : List Nat) (get : Get) : Prop := ∀ id, memB id fl = true → ∀ cs, get id = some cs → ∀ v ∈ cs, noRefB v = true

/-- Immutable memory is as it is told. -/
def ImOK (J : Im) (w : World) : Prop := ∀ b c, J b = some c → ∃ elem fz, w.heap[b]? = some (.cells c elem fz)

theorem noRef_any {J : Im} {μ μ' : Mu} {v : V} {g : Value} (h : Rv J μ v g) (hn : noRefB v = true) : Rv J μ' v g := by
  cases h with
  | bool => exact .bool
  | int => exact .int
  | flt h => exact .flt h
  | str => exact .str
  | agg _ _ _ => simp [noRefB] at hn
  | tup _ _ => simp [noRefB] at hn
  | sl0 => exact .sl0
  | sl a b c d e f => exact .sl a b c d e f
  | nil => exact .nil
  | ip a b c d => exact .ip a b c d
  | mp _ => simp [noRefB] at hn
  | ms _ _ _ => simp [noRefB] at hn
  | np => exact .np
  | fn h1 h2 h3 h4 =>
    rename_i f first cap g1 g2
    cases first <;> cases cap <;> simp [noRefB] at hn
    exact .fn h1 h2 (fun j v g hv => by simp at hv) (fun j v g hv => by simp at hv)
  | und => exact .und

theorem noRefV_any {J : Im} {μ μ' : Mu} {v : V} {g : Value} (h : Rv J μ v g) (hn : noRefV v = true) : Rv J μ' v g := by
  cases v with
  | agg cs =>
    cases h with
    | agg hs ho hp => exact .agg hs ho fun j v g hv hg => noRef_any (hp j v g hv hg) (List.all_eq_true.1 hn v (List.mem_of_getElem? hv))
  | _ => exact noRef_any h hn

theorem plainB_any {J J' : Im} {μ μ' : Mu} {v : V} {g : Value} (h : Rv J μ v g) (hn : plainB v = true) : Rv J' μ' v g := by
  cases h with
  | bool => exact .bool
  | int => exact .int
  | flt h => exact .flt h
  | str => exact .str
  | np => exact .np
  | und => exact .und
  | fn h1 h2 h3 h4 =>
    rename_i f first cap g1 g2
    cases first <;> cases cap <;> simp [plainB] at hn
    exact .fn h1 h2 (fun j v g hv => by simp at hv) (fun j v g hv => by simp at hv)
  | _ => simp [plainB] at hn

theorem plainV_any {J J' : Im} {μ μ' : Mu} {v : V} {g : Value} (h : Rv J μ v g) (hn : plainV v = true) : Rv J' μ' v g := by
  cases v with
  | agg cs =>
    cases h with
    | agg hs ho hp => exact .agg hs ho fun j v g hv hg => plainB_any (hp j v g hv hg) (List.all_eq_true.1 hn v (List.mem_of_getElem? hv))
  | _ => exact plainB_any h hn

theorem plainT_any {J J' : Im} {μ μ' : Mu} {v : V} {g : Value} (h : Rv J μ v g) (hn : plainT v = true) : Rv J' μ' v g := by
  cases v with
  | tup cs =>
    cases h with
    | tup hs hp => exact .tup hs fun j v g hv hg => plainV_any (hp j v g hv hg) (List.all_eq_true.1 hn v (List.mem_of_getElem? hv))
  | _ => exact plainV_any h hn

section
variable {get : Get} {J : Im} {μ : Mu} {w : World}

open Classical in
/-- The objects of one's own, for the while of a call, taken as immutable. -/
noncomputable def liveIm (get : Get) (J : Im) (μ : Mu) (w : World) : Im := fun b =>
  match J b with
  | some c => some c
  | none =>
    if Own get μ b then
      match w.heap[b]? with
      | some (.cells c _ _) => some c
      | _ => none
    else none

theorem live_le (get : Get) (J : Im) (μ : Mu) (w : World) : Im.le J (liveIm get J μ w) := fun b c h => by simp [liveIm, h]

theorem live_ok (hI : Inv get J μ w) : ImOK (liveIm get J μ w) w := by
  intro b c h
  unfold liveIm at h
  cases hj : J b with
  | some c' =>
    rw [hj] at h
    simp only [Option.some.injEq] at h
    subst h
    exact hI.im b _ hj
  | none =>
    rw [hj] at h
    simp only at h
    split at h
    · split at h
      · rename_i c' elem fz hh
        cases h
        exact ⟨elem, fz, hh⟩
      · cases h
    · cases h

theorem live_at {id : Nat} {cs : Cells} {l : Loc} {gc : Array Value} {elem : TypeId} (hg : get id = some cs) (hl : μ id = some l) (hJ : J l.blk = none) (hh : w.heap[l.blk]? = some (.cells gc elem (0, 0))) :
    liveIm get J μ w l.blk = some gc := by
  unfold liveIm
  rw [hJ]
  simp only
  rw [if_pos ⟨id, l, by rw [hg]; simp, hl, rfl⟩, hh]

theorem takePad_len (n : Nat) (l : List V) : (takePad n l).length = n := by
  induction n generalizing l with
  | zero => rfl
  | succ n ih => cases l <;> simp [takePad, ih]

theorem takePad_get (n : Nat) (l : List V) (j : Nat) (v : V) (h : (takePad n l)[j]? = some v) : j < n ∧ (l[j]? = some v ∨ v = .und) := by
  induction n generalizing l j with
  | zero => simp [takePad] at h
  | succ n ih =>
    cases l with
    | nil =>
      simp only [takePad] at h
      cases j with
      | zero => simp at h; exact ⟨by omega, .inr h.symm⟩
      | succ j => obtain ⟨h1, h2⟩ := ih [] j (by simpa using h); exact ⟨by omega, by simpa using h2⟩
    | cons a l =>
      simp only [takePad] at h
      cases j with
      | zero => simp at h; exact ⟨by omega, .inl (by simp [h])⟩
      | succ j => obtain ⟨h1, h2⟩ := ih l j (by simpa using h); exact ⟨by omega, by simpa using h2⟩

theorem chunk_len (n sz : Nat) (l : List V) : (chunk n sz l).length = n := by
  induction n generalizing l with
  | zero => rfl
  | succ n ih => simp [chunk, ih]

theorem chunk_size (n sz : Nat) (l : List V) : ∀ e ∈ chunk n sz l, e.length = sz := by
  induction n generalizing l with
  | zero => intro e he; simp [chunk] at he
  | succ n ih =>
    intro e he
    simp only [chunk, List.mem_cons] at he
    rcases he with rfl | he
    · exact takePad_len _ _
    · exact ih _ e he

theorem chunk_get (n sz : Nat) (l : List V) (i j : Nat) (e : List V) (v : V) (h : (chunk n sz l)[i]? = some e) (hv : e[j]? = some v) : i < n ∧ j < sz ∧ (l[i * sz + j]? = some v ∨ v = .und) := by
  induction n generalizing l i with
  | zero => simp [chunk] at h
  | succ n ih =>
    simp only [chunk] at h
    cases i with
    | zero =>
      simp at h
      subst h
      obtain ⟨h1, h2⟩ := takePad_get _ _ _ _ hv
      exact ⟨by omega, h1, by simpa using h2⟩
    | succ i =>
      obtain ⟨h1, h2, h3⟩ := ih (l.drop sz) i (by simpa using h)
      refine ⟨by omega, h2, ?_⟩
      rw [List.getElem?_drop] at h3
      have e : (i + 1) * sz + j = sz + (i * sz + j) := by rw [Nat.add_mul]; omega
      rw [e]
      exact h3

theorem deepL_sound (fl : List Nat) (hI : Inv get J μ w) (hfl : FlatInv fl get) : ∀ (n : Nat) (v : V) (g : Value), Rv J μ v g → Rv (liveIm get J μ w) noMu (deepL get fl n v) g ∧ noRefB (deepL get fl n v) = true := by
  intro n
  induction n with
  | zero =>
    intro v g h
    have hle := live_le get J μ w
    cases h with
    | mp _ => exact ⟨.und, rfl⟩
    | ms _ _ _ => exact ⟨.und, rfl⟩
    | agg _ _ _ => exact ⟨.und, rfl⟩
    | tup _ _ => exact ⟨.und, rfl⟩
    | fn h1 h2 h3 h4 =>
      rename_i f first cap g1 g2
      cases first with
      | nil =>
        cases cap with
        | nil => exact ⟨.fn h1 h2 (fun j v g hv => by simp at hv) (fun j v g hv => by simp at hv), rfl⟩
        | cons _ _ => exact ⟨.und, rfl⟩
      | cons _ _ => exact ⟨.und, rfl⟩
    | bool => exact ⟨.bool, rfl⟩
    | int => exact ⟨.int, rfl⟩
    | flt h => exact ⟨.flt h, rfl⟩
    | str => exact ⟨.str, rfl⟩
    | sl0 => exact ⟨.sl0, rfl⟩
    | sl a b c d e f => exact ⟨(Rv.sl (μ := noMu) a b c d e f).mono hle (Mu.le_refl _), rfl⟩
    | nil => exact ⟨.nil, rfl⟩
    | ip a b c d => exact ⟨(Rv.ip (μ := noMu) a b c d).mono hle (Mu.le_refl _), rfl⟩
    | np => exact ⟨.np, rfl⟩
    | und => exact ⟨.und, rfl⟩
  | succ n ih =>
    intro v g h
    have hle := live_le get J μ w
    -- what an object's cells become
    have cells : ∀ (id : Nat) (cs : Cells) (l : Loc) (gc : Array Value), get id = some cs → (∀ (j : Nat) v, cs[j]? = some v → ∃ g, gc[l.base + j]? = some g ∧ Rv J μ v g) →
        ∀ (j : Nat) v, (bif memB id fl then cs else cs.map (deepL get fl n))[j]? = some v → ∃ g, gc[l.base + j]? = some g ∧ Rv (liveIm get J μ w) noMu v g ∧ noRefB v = true := by
      intro id cs l gc hg hc j v hv
      cases hm : memB id fl
      · rw [hm] at hv
        simp only [cond_false, List.getElem?_map] at hv
        cases hu : cs[j]? with
        | none => rw [hu] at hv; cases hv
        | some u =>
          rw [hu] at hv
          simp only [Option.map_some, Option.some.injEq] at hv
          subst hv
          obtain ⟨g, h1, h2⟩ := hc j u hu
          obtain ⟨h3, h4⟩ := ih u g h2
          exact ⟨g, h1, h3, h4⟩
      · rw [hm] at hv
        simp only [cond_true] at hv
        obtain ⟨g, h1, h2⟩ := hc j v hv
        have hn := hfl id hm cs hg v (List.mem_of_getElem? hv)
        exact ⟨g, h1, (noRef_any (μ' := noMu) h2 hn).mono hle (Mu.le_refl _), hn⟩
    cases h with
    | mp hl =>
      rename_i id off l
      simp only [deepL]
      cases hg : get id with
      | none => exact ⟨.und, rfl⟩
      | some cs =>
        obtain ⟨gc, elem, hJ, hh, hs, hlen, ho, hc⟩ := hI.at hg hl
        have hcell := cells id cs l gc hg hc
        refine ⟨.ip (c := gc) (o := l.base) (gs := fun j => gc.getD (l.base + j) undef) (live_at hg hl hJ hh) (fun j v hv => ?_) (fun j v hv => ?_) (fun j v hv => ?_), rfl⟩
        · obtain ⟨g, h1, _⟩ := hcell j v hv
          simp [h1]
        · obtain ⟨g, h1, h2, _⟩ := hcell j v hv
          simpa [h1] using h2
        · obtain ⟨g, h1, _, h3⟩ := hcell j v hv
          exact ⟨by simpa [h1] using ho _ _ h1, h3⟩
    | ms hl hc hle' =>
      rename_i id off len sz l cap
      simp only [deepL]
      cases hg : get id with
      | none => exact ⟨.und, rfl⟩
      | some cs =>
        obtain ⟨gc, elem, hJ, hh, hs, hlen, ho, hcs⟩ := hI.at hg hl
        have hcell := cells id cs l gc hg hcs
        have hex : ∀ i j, i < len → j < sz → ∃ g, gc[l.base + off + i * sz + j]? = some g := by
          intro i j hi hj
          refine some_of_size hs ?_
          have h1 : (i + 1) * sz ≤ cap * sz := Nat.mul_le_mul_right _ (by omega)
          rw [Nat.add_mul] at h1
          omega
        have key : ∀ (i j : Nat) e v, (chunk len sz ((bif memB id fl then cs else cs.map (deepL get fl n)).drop off))[i]? = some e → e[j]? = some v →
            ∃ g, gc[l.base + off + i * sz + j]? = some g ∧ Rv (liveIm get J μ w) noMu v g ∧ noRefB v = true := by
          intro i j e v he hv
          obtain ⟨h1, h2, h3⟩ := chunk_get _ _ _ _ _ _ _ he hv
          rcases h3 with h3 | rfl
          · rw [List.getElem?_drop] at h3
            obtain ⟨g, k1, k2, k3⟩ := hcell _ _ h3
            refine ⟨g, ?_, k2, k3⟩
            rw [← k1]
            congr 1
            omega
          · obtain ⟨g, hg'⟩ := hex i j h1 h2
            exact ⟨g, hg', .und, rfl⟩
        have := Rv.sl (J := liveIm get J μ w) (μ := noMu) (es := chunk len sz ((bif memB id fl then cs else cs.map (deepL get fl n)).drop off)) (cap := cap) (c := gc) (blk := l.blk) (off := l.base + off) (sz := sz)
          (gs := fun i j => gc.getD (l.base + off + i * sz + j) undef) (by rw [chunk_len]; exact hc) (live_at hg hl hJ hh) (chunk_size _ _ _)
          (fun i j e v he hv => by obtain ⟨g, h1, _⟩ := key i j e v he hv; simp [h1])
          (fun i j e v he hv => by obtain ⟨g, h1, h2, _⟩ := key i j e v he hv; simpa [h1] using h2)
          (fun i j e v he hv => by obtain ⟨g, h1, _, h3⟩ := key i j e v he hv; exact ⟨by simpa [h1] using ho _ _ h1, h3⟩)
        rw [chunk_len] at this
        exact ⟨this, rfl⟩
    | agg _ _ _ => exact ⟨.und, rfl⟩
    | tup _ _ => exact ⟨.und, rfl⟩
    | fn h1 h2 h3 h4 =>
      rename_i f first cap g1 g2
      cases first with
      | nil =>
        cases cap with
        | nil => exact ⟨.fn h1 h2 (fun j v g hv => by simp at hv) (fun j v g hv => by simp at hv), rfl⟩
        | cons _ _ => exact ⟨.und, rfl⟩
      | cons _ _ => exact ⟨.und, rfl⟩
    | bool => exact ⟨.bool, rfl⟩
    | int => exact ⟨.int, rfl⟩
    | flt h => exact ⟨.flt h, rfl⟩
    | str => exact ⟨.str, rfl⟩
    | sl0 => exact ⟨.sl0, rfl⟩
    | sl a b c d e f => exact ⟨(Rv.sl (μ := noMu) a b c d e f).mono hle (Mu.le_refl _), rfl⟩
    | nil => exact ⟨.nil, rfl⟩
    | ip a b c d => exact ⟨(Rv.ip (μ := noMu) a b c d).mono hle (Mu.le_refl _), rfl⟩
    | np => exact ⟨.np, rfl⟩
    | und => exact ⟨.und, rfl⟩

theorem deepV_sound (fl : List Nat) (hI : Inv get J μ w) (hfl : FlatInv fl get) {v : V} {g : Value} (h : Rv J μ v g) : Rv (liveIm get J μ w) noMu (deepV get fl v) g := by
  cases v with
  | agg cs =>
    cases h with
    | agg hs ho hp =>
      simp only [deepV]
      refine .agg (by simpa using hs) ho fun j v g hv hg => ?_
      rw [List.getElem?_map] at hv
      cases hu : cs[j]? with
      | none => rw [hu] at hv; cases hv
      | some u =>
        rw [hu] at hv
        simp only [Option.map_some, Option.some.injEq] at hv
        subst hv
        exact (deepL_sound fl hI hfl 4 u g (hp j u g hu hg)).1
  | _ => exact (deepL_sound fl hI hfl 4 _ g h).1

theorem deepT_sound (fl : List Nat) (hI : Inv get J μ w) (hfl : FlatInv fl get) {v : V} {g : Value} (h : Rv J μ v g) : Rv (liveIm get J μ w) noMu (deepT get fl v) g := by
  cases v with
  | tup cs =>
    cases h with
    | tup hs hp =>
      simp only [deepT]
      refine .tup (by simpa using hs) fun j v g hv hg => ?_
      rw [List.getElem?_map] at hv
      cases hu : cs[j]? with
      | none => rw [hu] at hv; cases hv
      | some u =>
        rw [hu] at hv
        simp only [Option.map_some, Option.some.injEq] at hv
        subst hv
        exact deepV_sound fl hI hfl (hp j u g hu hg)
  | _ => exact deepV_sound fl hI hfl h
end

/-! What is told of called functions -/

/-- A function with a body, by that it can be entered. -/
def Bodied (P : Program) (f : FuncId) : Prop := ∃ fn, P.funcs[f]? = some fn ∧ (fn.name == "runtime.NumGoroutine") = false ∧ fn.body.isNone = false

def PureOK (P : Program) (f : FuncId) (g : List V → Option V) : Prop :=
  ∀ (J : Im) (vs : List V) (gs : Array Value) (w : World) (v : V), ImOK J w → Rvs J noMu vs gs → g vs = some v →
    Calls P f gs w fun e w' => ∃ gv J', e = .returned gv ∧ Rv J' noMu v gv ∧ ImOK J' w' ∧ Im.le J J' ∧ (∀ b c, J' b = some c → J b = none → w.heap.size ≤ b) ∧ w.heap.size ≤ w'.heap.size ∧ (∀ b, b < w.heap.size → w'.heap[b]? = w.heap[b]?) ∧ w'.os = w.os ∧ (w'.output, w'.tape) = (w.output, w.tape)

def only (cs : Cells) : Get := fun id => if id = 0 then some cs else none

def ObjOK (P : Program) (f : FuncId) (g : Cells → List V → Option (V × Cells)) : Prop :=
  ∀ (J : Im) (μ : Mu) (cs : Cells) (rest : List V) (gs : Array Value) (w : World) (v : V) (cs' : Cells), Inv (only cs) J μ w → (∀ i, 1 ≤ i → μ i = none) → (∀ v ∈ cs, noRefB v = true) → Rvs J μ (.mp 0 0 :: rest) gs → rest.all noRefV = true → g cs rest = some (v, cs') →
    Calls P f gs w fun e w' => ∃ gv J' μ', e = .returned gv ∧ Rv J' noMu v gv ∧ Inv (only cs') J' μ' w' ∧ Ext (only cs) J μ w (only cs') J' μ' w' ∧ (∀ v ∈ cs', noRefB v = true)

def SummOK (P : Program) (f : FuncId) (s : Summ) : Prop :=
  match s.base with
  | .prim g => PrimOK P f g
  | .pure g => PureOK P f g ∧ Bodied P f
  | .obj g => ObjOK P f g ∧ Bodied P f
  | _ => True

def SOK (E : Env) : Prop := ∀ f s, E.S f = some s → SummOK E.P f s

theorem run_enter {P : Program} {f : FuncId} (h : Bodied P f) (gs : Array Value) (w : World) : (callFunc f gs).run P w = .ok (.enter f gs) w := by
  obtain ⟨fn, h1, h2, h3⟩ := h
  have h2' : fn.name ≠ "runtime.NumGoroutine" := by simpa using h2
  simp [callFunc, h1, h2']
  intro hb
  rw [hb] at h3
  cases h3

/-- What a call that is told of does, whatever is behind it. -/
def CallRes (P : Program) (r : Result Next) (Φ : Value → World → Prop) : Prop :=
  (∃ g w', r = .ok (.value g) w' ∧ Φ g w') ∨ (∃ f args w', r = .ok (.enter f args) w' ∧ Calls P f args w' fun e w'' => ∃ g, e = .returned g ∧ Φ g w'')

section
variable {get : Get} {J : Im} {μ : Mu} {w : World}

theorem callS_sound {P : Program} {f : FuncId} {s : Summ} {fl : List Nat} {args : List V} {gs : Array Value} {nid : Nat} {r : V × Ups × Nat} (hS : SummOK P f s) (hI : Inv get J μ w) (hfl : FlatInv fl get) (hr : Rvs J μ args gs)
    (h : callS get fl s args = some r) : CallRes P ((callFunc f gs).run P w) fun g w' => Good get J μ w nid r g w' ∧ FlatInv (flatUps fl (anyUps r.2.1) r.2.1) (upd r.2.1 get) := by
  have flat0 : ∀ v : V, FlatInv (flatUps fl (anyUps (v, ([] : Ups), 0).2.1) (v, ([] : Ups), 0).2.1) (upd (v, ([] : Ups), 0).2.1 get) := fun v => by
    simpa [flatUps, upd_nil] using hfl
  unfold callS at h
  unfold SummOK at hS
  generalize s.base = b at h hS
  split at h
  · rename_i g
    split at h
    · rename_i v hv
      cases h
      obtain ⟨gv, w', h1, h2, h3⟩ := hS J μ args gs w v hr hv
      exact .inl ⟨gv, w', h1, Good.same hI h3 h2, flat0 v⟩
    · cases h
  · rename_i g
    obtain ⟨hP, hB⟩ := hS
    refine .inr ⟨f, gs, w, run_enter hB gs w, ?_⟩
    cases ha : args.all noRefV
    · rw [ha] at h
      simp only [cond_false] at h
      split at h
      · rename_i v hv
        cases hp : plainT v
        · rw [hp] at h; cases h
        · rw [hp] at h
          cases h
          have hr' : Rvs (liveIm get J μ w) noMu (args.map (deepV get fl)) gs := by
            refine ⟨by simpa using hr.1, fun j v g hv hg => ?_⟩
            rw [List.getElem?_map] at hv
            cases hu : args[j]? with
            | none => rw [hu] at hv; cases hv
            | some u =>
              rw [hu] at hv
              simp only [Option.map_some, Option.some.injEq] at hv
              subst hv
              exact deepV_sound fl hI hfl (hr.2 j u g hu hg)
          refine (hP _ _ gs w v (live_ok hI) hr' hv).mono fun e w' ⟨gv, J', e1, e2, e3, e4, e5, e6, e7, e8, e9⟩ => ⟨gv, e1, ?_, flat0 v⟩
          refine ⟨J, μ, plainT_any e2 hp, ?_, ?_, fun _ _ => rfl⟩
          · rw [upd_nil]
            refine ⟨fun b c hj => by rw [e7 b (hI.im_lt hj)]; exact hI.im b c hj, fun id cs hg => ?_, hI.sep⟩
            obtain ⟨l, gc, elem, k1, k2, k3, k4⟩ := hI.ob id cs hg
            exact ⟨l, gc, elem, k1, k2, by rw [e7 _ (hI.lt hg k1)]; exact k3, k4⟩
          · rw [upd_nil]
            exact ⟨e6, Mu.le_refl _, Im.le_refl _, fun _ _ h h' => (by rw [h] at h'; cases h'), fun b hb _ => e7 b hb, fun b hb => Or.inl hb, e8, e9⟩
      · cases h
    · rw [ha] at h
      simp only [cond_true] at h
      split at h
      · rename_i v hv
        cases h
        have hr' : Rvs J noMu args gs := ⟨hr.1, fun j v g hv hg => noRefV_any (hr.2 j v g hv hg) (List.all_eq_true.1 ha v (List.mem_of_getElem? hv))⟩
        refine (hP _ _ gs w v hI.im hr' hv).mono fun e w' ⟨gv, J', e1, e2, e3, e4, e5, e6, e7, e8, e9⟩ => ⟨gv, e1, ?_, flat0 v⟩
        refine ⟨J', μ, e2.mono (Im.le_refl _) (noMu_le _), ?_, ?_, fun _ _ => rfl⟩
        · rw [upd_nil]
          refine ⟨e3, fun id cs hg => ?_, hI.sep⟩
          obtain ⟨l, gc, elem, k1, k2, k3, k4, k5, k6, k7⟩ := hI.ob id cs hg
          refine ⟨l, gc, elem, k1, ?_, by rw [e7 _ (hI.lt hg k1)]; exact k3, k4, k5, k6, fun j v hv => ?_⟩
          · cases hj : J' l.blk with
            | none => rfl
            | some c =>
              have := e5 _ _ hj k2
              have := hI.lt hg k1
              omega
          · obtain ⟨g, q1, q2⟩ := k7 j v hv
            exact ⟨g, q1, q2.mono e4 (Mu.le_refl _)⟩
        · rw [upd_nil]
          exact ⟨e6, Mu.le_refl _, e4, e5, fun b hb _ => e7 b hb, fun b hb => Or.inl hb, e8, e9⟩
      · cases h
  · rename_i g
    obtain ⟨hO, hB⟩ := hS
    refine .inr ⟨f, gs, w, run_enter hB gs w, ?_⟩
    split at h
    · rename_i id rest
      cases hb : (memB id fl && rest.all noRefV)
      · rw [hb] at h; cases h
      · rw [hb] at h
        simp only [cond_true] at h
        rw [Bool.and_eq_true] at hb
        split at h
        · rename_i cs hg
          split at h
          · rename_i v cs' hv
            cases h
            obtain ⟨l, gc, elem, k1, k2, k3, k4, k5, k6, k7⟩ := hI.ob id cs hg
            have hflat := hfl id hb.1 cs hg
            -- the one object, by the number 0
            let μ0 : Mu := fun i => if i = 0 then some l else none
            have hI0 : Inv (only cs) J μ0 w := by
              refine ⟨hI.im, fun i ds hi => ?_, fun i i' m m' h1 h2 h3 h4 h5 => ?_⟩
              · unfold only at hi
                split at hi
                · rename_i e
                  subst e
                  cases hi
                  refine ⟨l, gc, elem, by simp [μ0], k2, k3, k4, k5, k6, fun j u hu => ?_⟩
                  obtain ⟨q, q1, q2⟩ := k7 j u hu
                  exact ⟨q, q1, noRef_any q2 (hflat u (List.mem_of_getElem? hu))⟩
                · cases hi
              · have a1 : i = 0 := by
                  rcases Nat.eq_zero_or_pos i with e | e
                  · exact e
                  · exact absurd (by simp [only]; omega) h1
                have a2 : i' = 0 := by
                  rcases Nat.eq_zero_or_pos i' with e | e
                  · exact e
                  · exact absurd (by simp [only]; omega) h2
                rw [a1, a2]
            have hr0 : Rvs J μ0 (.mp 0 0 :: rest) gs := by
              refine ⟨by simpa using hr.1, fun j u q hu hq => ?_⟩
              cases j with
              | zero =>
                simp at hu
                subst hu
                have := hr.2 0 _ q rfl hq
                cases this with
                | mp hl =>
                  rename_i l'
                  rw [k1] at hl
                  cases hl
                  exact .mp (by simp [μ0])
              | succ j => exact noRefV_any (hr.2 (j + 1) u q (by simpa using hu) hq) (List.all_eq_true.1 hb.2 u (List.mem_of_getElem? (by simpa using hu)))
            refine (hO J μ0 cs rest gs w v cs' hI0 (fun i hi => by simp [μ0]; omega) hflat hr0 hb.2 hv).mono fun e w' ⟨gv, J', μ', e1, e2, e3, e4, e5⟩ => ⟨gv, e1, ?_, ?_⟩
            · obtain ⟨l', gc', elem', q1, q2, q3, q4, q5, q6, q7⟩ := e3.ob 0 cs' (by simp [only])
              have hl' : l' = l := by
                have := e4.mu 0 l (by simp [μ0])
                rw [q1] at this
                cases this
                rfl
              subst hl'
              have hown : ∀ b, Own (only cs) μ0 b → b = l'.blk := by
                rintro b ⟨i, m, h1, h2, h3⟩
                have a1 : i = 0 := by
                  rcases Nat.eq_zero_or_pos i with e | e
                  · exact e
                  · exact absurd (by simp [only]; omega) h1
                subst a1
                simp [μ0] at h2
                rw [← h3, h2]
              have hfr : ∀ b, b < w.heap.size → b ≠ l'.blk → w'.heap[b]? = w.heap[b]? := fun b hb hne => e4.frame b hb fun ho => hne (hown b ho)
              refine ⟨J', μ, e2.mono (Im.le_refl _) (noMu_le _), ⟨e3.im, fun i ds hi => ?_, fun i i' m m' h1 h2 h3 h4 h5 => ?_⟩, ⟨e4.size, Mu.le_refl _, e4.im, e4.imNew, fun b hb hno => hfr b hb fun e => hno ⟨id, l', by rw [hg]; simp, k1, e.symm⟩, fun b ho => ?_, e4.os, e4.out⟩, fun _ _ => rfl⟩
              · rw [upd_cons, upd_nil] at hi
                split at hi
                · rename_i e
                  subst e
                  cases hi
                  refine ⟨l', gc', elem', k1, q2, q3, q4, q5, q6, fun j u hu => ?_⟩
                  obtain ⟨p, p1, p2⟩ := q7 j u hu
                  exact ⟨p, p1, noRef_any p2 (e5 u (List.mem_of_getElem? hu))⟩
                · rename_i hne
                  obtain ⟨m, gc1, el1, p1, p2, p3, p4, p5, p6, p7⟩ := hI.ob i ds hi
                  have hmb : m.blk ≠ l'.blk := fun e' => hne (hI.sep id i l' m (by rw [hg]; simp) (by rw [hi]; simp) k1 p1 e'.symm)
                  have hlt := hI.lt hi p1
                  refine ⟨m, gc1, el1, p1, ?_, by rw [hfr _ hlt hmb]; exact p3, p4, p5, p6, fun j u hu => ?_⟩
                  · cases hj : J' m.blk with
                    | none => rfl
                    | some c => have := e4.imNew _ _ hj p2; omega
                  · obtain ⟨p, s1, s2⟩ := p7 j u hu
                    exact ⟨p, s1, s2.mono e4.im (Mu.le_refl _)⟩
              · have live : ∀ i, upd [(id, some cs')] get i ≠ none → get i ≠ none := by
                  intro i hi
                  rw [upd_cons, upd_nil] at hi
                  split at hi
                  · rename_i e; subst e; rw [hg]; simp
                  · exact hi
                exact hI.sep i i' m m' (live i h1) (live i' h2) h3 h4 h5
              · obtain ⟨i, m, h1, h2, h3⟩ := ho
                refine .inl ⟨i, m, ?_, h2, h3⟩
                rw [upd_cons, upd_nil] at h1
                split at h1
                · rename_i e; subst e; rw [hg]; simp
                · exact h1
            · intro i hi ds hds
              simp only [flatUps, anyUps, hb.1, cond_true] at hi
              rw [upd_cons, upd_nil] at hds
              split at hds
              · cases hds; exact e5
              · exact hfl i hi ds hds
          · cases h
        · cases h
    · cases h
  · cases h
end
end Go.Ev
