/-
  Regions whose order is open: what the operations have written, in whatever order.
-/
import Derived.Test.YtggfjjacafgkkaaEv15
namespace Go.Ev

/-! Writes by key -/
section
variable {β : Type}

/-- What stands at a key behind those of the first operations that a set holds. -/
def SS (wr : Nat → Nat → Option β) (x0 : Nat → β) (L : Nat → Bool) : Nat → Nat → β
  | 0, k => x0 k
  | m + 1, k => if L m = true then (wr m k).getD (SS wr x0 L m k) else SS wr x0 L m k

theorem SS_agree {wr : Nat → Nat → Option β} {x0 : Nat → β} {L L' : Nat → Bool} {k : Nat} : ∀ m, (∀ j, j < m → wr j k ≠ none → L j = L' j) → SS wr x0 L m k = SS wr x0 L' m k
  | 0, _ => rfl
  | m + 1, h => by
    have ih := SS_agree (wr := wr) (x0 := x0) m fun j hj => h j (Nat.lt_succ_of_lt hj)
    simp only [SS, ih]
    cases hw : wr m k with
    | none => simp
    | some v =>
      rw [h m (Nat.lt_succ_self m) (by rw [hw]; simp)]

theorem SS_lt {wr : Nat → Nat → Option β} {x0 : Nat → β} {i k : Nat} : ∀ N, i ≤ N → SS wr x0 (fun j => decide (j < i)) N k = SS wr x0 (fun _ => true) i k
  | 0, h => by
    have : i = 0 := by omega
    subst this; rfl
  | N + 1, h => by
    by_cases e : i = N + 1
    · subst e
      exact SS_agree _ fun j hj _ => by simp [hj]
    · have hN : ¬ N < i := by omega
      simp only [SS, hN, decide_false, Bool.false_eq_true, if_false]
      exact SS_lt N (by omega)

theorem SS_wr {wr wr' : Nat → Nat → Option β} {x0 : Nat → β} {L : Nat → Bool} {k : Nat} : ∀ m, (∀ j, j < m → wr j = wr' j) → SS wr x0 L m k = SS wr' x0 L m k
  | 0, _ => rfl
  | m + 1, h => by
    simp only [SS, h m (Nat.lt_succ_self m), SS_wr m fun j hj => h j (Nat.lt_succ_of_lt hj)]

/-- One more. -/
theorem SS_add {wr : Nat → Nat → Option β} {x0 : Nat → β} {L : Nat → Bool} {i k : Nat} (hi : L i = false) : ∀ N, i < N → (∀ j, i < j → j < N → L j = true → wr i k ≠ none → wr j k = none) →
    SS wr x0 (fun j => L j || Nat.beq j i) N k = (wr i k).getD (SS wr x0 L N k)
  | 0, h, _ => by omega
  | N + 1, h, hq => by
    by_cases e : i = N
    · subst e
      have h1 : SS wr x0 (fun j => L j || Nat.beq j i) i k = SS wr x0 L i k := SS_agree _ fun j hj _ => by
        have : Nat.beq j i = false := by
          cases hb : Nat.beq j i
          · rfl
          · have := Nat.eq_of_beq_eq_true hb; omega
        simp [this]
      simp only [SS, hi, Bool.false_or, h1, Nat.beq_refl, Bool.false_eq_true, if_false, if_true]
    · have ih := SS_add (wr := wr) (x0 := x0) (k := k) hi N (by omega) fun j h1 h2 => hq j h1 (by omega)
      have hb : Nat.beq N i = false := by
        cases hb : Nat.beq N i
        · rfl
        · have := Nat.eq_of_beq_eq_true hb; omega
      simp only [SS, hb, Bool.or_false, ih]
      cases hL : L N
      · simp
      · simp only [if_true]
        cases hw : wr i k with
        | none => simp
        | some v =>
          rw [hq N (by omega) (Nat.lt_succ_self N) hL (by rw [hw]; simp)]
          simp

/-- What an operation finds: that of the text's order. -/
theorem SS_at {wr : Nat → Nat → Option β} {x0 : Nat → β} {L : Nat → Bool} {i k N : Nat} (hN : i ≤ N) (h : ∀ j, j < N → wr j k ≠ none → L j = decide (j < i)) : SS wr x0 L N k = SS wr x0 (fun _ => true) i k := by
  rw [← SS_lt N hN]
  exact SS_agree N h
end

def lk : Ups → Nat → Option (Option Cells)
  | [], _ => none
  | (k, c) :: r, id => if k = id then some c else lk r id

theorem upd_lk (u : Ups) (g : Get) (id : Nat) : upd u g id = (lk u id).getD (g id) := by
  induction u with
  | nil => rw [upd_nil]; rfl
  | cons p u ih =>
    obtain ⟨k, c⟩ := p
    rw [upd_cons, lk]
    split <;> simp [ih]

theorem lk_none {u : Ups} {id : Nat} : lk u id = none ↔ memB id (u.map (·.1)) = false := by
  induction u with
  | nil => simp [lk, memB]
  | cons p u ih =>
    obtain ⟨k, c⟩ := p
    simp only [lk, List.map_cons]
    cases hm : memB id (k :: u.map (·.1))
    · have : ¬ (k = id ∨ memB id (u.map (·.1)) = true) := fun h => by rw [(memB_cons _ _ _).2 h] at hm; cases hm
      rw [if_neg fun e => this (.inl e), ih]
      simp only [iff_true]
      cases hb : memB id (u.map (·.1))
      · rfl
      · exact absurd (.inr hb) this
    · rcases (memB_cons _ _ _).1 hm with rfl | h
      · simp
      · split
        · simp
        · rw [ih, h]

/-- What the record of an operation holds. -/
structure Rec where
  d : DRec
  dst : Option Nat
  v : V
  ups : Ups
  flag : Bool

def wrR (rc : Nat → Rec) (m t : Nat) : Option V := if (rc m).dst = some t then some (rc m).v else none
def wrG (rc : Nat → Rec) (m id : Nat) : Option (Option Cells) := lk (rc m).ups id

abbrev SR (rc : Nat → Rec) (R0 : Nat → V) := SS (wrR rc) R0
abbrev SG (rc : Nat → Rec) (g0 : Get) := SS (wrG rc) g0
def SF (rc : Nat → Rec) (fl : List Nat) : Nat → List Nat
  | 0 => fl
  | m + 1 => flatUps (SF rc fl m) (rc m).flag (rc m).ups

def Quiet (all : Array Oper) (o : Oper) (d : DRec) (i : Nat) (e : DRec) : Prop :=
  memB i d.anc = true ∨ (disj e.wr d.foot = true ∧ disj d.wr e.foot = true ∧ disj d.wr e.wr = true ∧ ∃ p, all[i]? = some p ∧ p.apart all o = true)

theorem quiet_spec {all : Array Oper} {o : Oper} {d : DRec} : ∀ (es : List DRec) (k : Nat), quietAll all o d k es = true → ∀ j e, es[j]? = some e → Quiet all o d (k + j) e
  | [], k, _, j, e, he => by simp at he
  | e0 :: es, k, h, j, e, he => by
    unfold quietAll at h
    rw [Bool.and_eq_true, Bool.or_eq_true] at h
    cases j with
    | zero =>
      simp only [List.getElem?_cons_zero, Option.some.injEq] at he
      subst he
      rcases h.1 with h1 | h1
      · exact .inl h1
      · refine .inr ?_
        simp only [Bool.and_eq_true] at h1
        obtain ⟨⟨⟨a, b⟩, c⟩, d'⟩ := h1
        refine ⟨a, b, c, ?_⟩
        split at d'
        · rename_i p hp
          exact ⟨p, hp, d'⟩
        · cases d'
    | succ j =>
      have := quiet_spec es (k + 1) h.2 j e (by simpa using he)
      rw [show k + (j + 1) = k + 1 + j by omega]
      exact this

theorem anc_spec {ds : List DRec} {i : Nat} : ∀ (es : List Edge) (l : List Nat), ancOf ds i es = some l →
    (∀ e ∈ es, Region.binds .any e = true → e.on < i ∧ memB e.on l = true) ∧ ∀ m, memB m l = true → ∃ e ∈ es, Region.binds .any e = true ∧ (m = e.on ∨ ∃ d, ds[e.on]? = some d ∧ memB m d.anc = true)
  | [], l, h => by
    simp only [ancOf, Option.some.injEq] at h
    subst h
    exact ⟨fun e he => by simp at he, fun m hm => by simp [memB] at hm⟩
  | e :: es, l, h => by
    simp only [ancOf] at h
    split at h
    · cases h
    · rename_i l0 hl0
      obtain ⟨i1, i2⟩ := anc_spec es l0 hl0
      cases hb : Region.binds .any e
      · rw [hb] at h
        simp only [cond_false, Option.some.injEq] at h
        subst h
        refine ⟨fun e' he' hb' => ?_, fun m hm => ?_⟩
        · rcases List.mem_cons.1 he' with rfl | he'
          · rw [hb] at hb'; cases hb'
          · exact i1 e' he' hb'
        · obtain ⟨e', h1, h2⟩ := i2 m hm
          exact ⟨e', List.mem_cons_of_mem _ h1, h2⟩
      · rw [hb] at h
        simp only [cond_true] at h
        cases hlt : Nat.blt e.on i
        · rw [hlt] at h; cases h
        · rw [hlt] at h
          simp only [cond_true] at h
          split at h
          · rename_i d hd
            rw [getAt_eq] at hd
            simp only [Option.some.injEq] at h
            subst h
            refine ⟨fun e' he' hb' => ?_, fun m hm => ?_⟩
            · rcases List.mem_cons.1 he' with rfl | he'
              · exact ⟨by simpa [Nat.blt_eq] using hlt, (memB_cons _ _ _).2 (.inl rfl)⟩
              · obtain ⟨h1, h2⟩ := i1 e' he' hb'
                refine ⟨h1, (memB_cons _ _ _).2 (.inr ?_)⟩
                rw [memB_iff, List.mem_append]
                exact .inr ((memB_iff _ _).1 h2)
            · rcases (memB_cons _ _ _).1 hm with rfl | hm
              · exact ⟨e, List.mem_cons_self, hb, .inl rfl⟩
              · rw [memB_iff, List.mem_append] at hm
                rcases hm with hm | hm
                · exact ⟨e, List.mem_cons_self, hb, .inr ⟨d, hd, (memB_iff _ _).2 hm⟩⟩
                · obtain ⟨e', h1, h2⟩ := i2 m ((memB_iff _ _).2 hm)
                  exact ⟨e', List.mem_cons_of_mem _ h1, h2⟩
          · cases h

/-- What is known of one operation of the region. -/
structure StepP (E : Env) (n : Nat) (all : Array Oper) (nx : Nat) (fl0 : List Nat) (k : Nat) (R : Nat → V) (get : Get) (pre : List DRec) (o : Oper) (c : Rec) : Prop where
  at_ : all[k]? = some o
  dst : c.dst = o.dst
  lt : ∀ d, o.dst = some d → d < n
  anc : ancOf pre k o.after.toList = some c.d.anc
  quiet : ∀ j e, pre[j]? = some e → Quiet all o c.d j e
  wr : c.d.wr = c.ups.map (·.1)
  act : (c.v = .tup [] ∧ c.ups = [] ∧ ∃ j want t, o.guard = some (j, want) ∧ guardT all.toList j = some t ∧ (R t = .bool (!want) ∨ R t = .tup [])) ∨
    ((o.guard = none ∨ ∃ j want t, o.guard = some (j, want) ∧ guardT all.toList j = some t ∧ R t = .bool want) ∧
      ((∃ q a b t, o.op = .pick q a b ∧ evalF R q = .bool t ∧ c.v = evalF R (if t then a else b) ∧ c.ups = []) ∨
       (∃ m, opE E (restr c.d.foot get) fl0 (nx + k) (evalF R) o = some (c.v, c.ups, m) ∧ m ≤ 1 ∧ keepsFlat fl0 c.flag c.ups = true ∧ c.flag = flagE fl0 (evalF R) o c.ups)))

def pres (rc : Nat → Rec) (k : Nat) : List DRec := (List.range k).map fun j => (rc j).d

def Step (E : Env) (n : Nat) (all : Array Oper) (nx : Nat) (fl0 : List Nat) (R0 : Nat → V) (g0 : Get) (rc : Nat → Rec) (k : Nat) : Prop :=
  ∃ o, StepP E n all nx fl0 k (SR rc R0 (fun _ => true) k) (SG rc g0 (fun _ => true) k) (pres rc k) o (rc k)

section
variable {E : Env} {n : Nat} {all : Array Oper} {nx : Nat} {fl0 : List Nat} {R0 : Nat → V} {g0 : Get}

theorem SR_congr {rc rc' : Nat → Rec} {L : Nat → Bool} {k : Nat} (h : ∀ j, j < k → rc j = rc' j) : SR rc R0 L k = SR rc' R0 L k := by
  funext t
  exact SS_wr k fun j hj => by funext u; simp only [wrR, h j hj]

theorem SG_congr {rc rc' : Nat → Rec} {L : Nat → Bool} {k : Nat} (h : ∀ j, j < k → rc j = rc' j) : SG rc g0 L k = SG rc' g0 L k := by
  funext t
  exact SS_wr k fun j hj => by funext u; simp only [wrG, h j hj]

theorem SF_congr {rc rc' : Nat → Rec} {fl : List Nat} : ∀ {k : Nat}, (∀ j, j < k → rc j = rc' j) → SF rc fl k = SF rc' fl k
  | 0, _ => rfl
  | k + 1, h => by simp only [SF, h k (Nat.lt_succ_self k), SF_congr (k := k) fun j hj => h j (Nat.lt_succ_of_lt hj)]

theorem pres_congr {rc rc' : Nat → Rec} {k : Nat} (h : ∀ j, j < k → rc j = rc' j) : pres rc k = pres rc' k :=
  List.map_congr_left fun j hj => by rw [h j (List.mem_range.1 hj)]

theorem Step_congr {rc rc' : Nat → Rec} {k : Nat} (h : ∀ j, j ≤ k → rc j = rc' j) (hs : Step E n all nx fl0 R0 g0 rc k) : Step E n all nx fl0 R0 g0 rc' k := by
  obtain ⟨o, hs⟩ := hs
  refine ⟨o, ?_⟩
  rw [← SR_congr fun j hj => h j (Nat.le_of_lt hj), ← SG_congr fun j hj => h j (Nat.le_of_lt hj), ← pres_congr fun j hj => h j (Nat.le_of_lt hj), ← h k (Nat.le_refl k)]
  exact hs

def pushR (dst : Option Nat) (v : V) (r : Regs) : Regs :=
  match dst with
  | some d => (d, v) :: r
  | none => r

theorem look_putF {r : Regs} {R : Nat → V} {v : V} (hr : look r = R) (dst : Option Nat) : look (pushR dst v r) = fun t => (if dst = some t then some v else none).getD (R t) := by
  funext t
  cases dst with
  | none => simp [pushR, hr]
  | some d =>
    simp only [pushR, look_cons, hr, Option.some.injEq]
    split <;> rfl

theorem look_same {r : Regs} {t : Nat} {v : V} (h : look r t = v) : look ((t, v) :: r) = look r := by
  funext u
  rw [look_cons]
  split
  · rename_i e; subst e; exact h.symm
  · rfl
end
end Go.Ev
