/-
  max, min; the functions without a body; the builtin functions together.
-/
import Derived.Test.YtggfjjacafgkkaaEv9
namespace Go.Ev
open Ieee

def fsqrt (x : Nat) : Nat :=
  match FloatKind.f64.format.sqrt x with
  | some r => r
  | none => qnan .f64

def fint (way : Toward) (x : Nat) : Nat := bif isNan .f64 x then qnan .f64 else FloatKind.f64.encode ((FloatKind.f64.decode x).integral way)

def primBits (k : FloatKind) (args : List V) : Option V :=
  match k, args with
  | .f32, [.flt .f32 x] => bif isNan .f32 x then none else some (.int .u32 x)
  | .f64, [.flt .f64 x] => bif isNan .f64 x then none else some (.int .u64 x)
  | _, _ => none

def primFrom (k : FloatKind) (args : List V) : Option V :=
  match k, args with
  | .f32, [.int .u32 n] => some (.flt .f32 (canon .f32 (Int.toNat n)))
  | .f64, [.int .u64 n] => some (.flt .f64 (canon .f64 (Int.toNat n)))
  | _, _ => none

def primSqrt (args : List V) : Option V :=
  match args with
  | [.flt .f64 x] => some (.flt .f64 (fsqrt x))
  | _ => none

def primInt (way : Toward) (args : List V) : Option V :=
  match args with
  | [.flt .f64 x] => some (.flt .f64 (fint way x))
  | _ => none

def Rvs (J : Im) (μ : Mu) (vs : List V) (gs : Array Value) : Prop := gs.size = vs.length ∧ ∀ (j : Nat) v g, vs[j]? = some v → gs[j]? = some g → Rv J μ v g

def PrimOK (P : Program) (f : FuncId) (g : List V → Option V) : Prop :=
  ∀ (J : Im) (μ : Mu) (vs : List V) (gs : Array Value) (w : World) (v : V), Rvs J μ vs gs → g vs = some v → ∃ gv w', (callFunc f gs).run P w = .ok (.value gv) w' ∧ w'.hoo = w.hoo ∧ Rv J μ v gv

theorem Rvs.one {J : Im} {μ : Mu} {v : V} {gs : Array Value} (h : Rvs J μ [v] gs) : ∃ g, gs = #[g] ∧ Rv J μ v g := by
  obtain ⟨h1, h2⟩ := h
  have h1' : gs.size = 1 := h1
  refine ⟨gs[0]'(by omega), ?_, h2 0 v _ rfl (by simp [h1'])⟩
  apply Array.ext
  · simpa using h1'
  · intro i hi _
    have : i = 0 := by omega
    subst this
    simp

theorem prim_of {P : Program} {f : FuncId} {fn : Func} {e : Array Value → Sem Value} {g : List V → Option V} (hf : P.funcs[f]? = some fn) (hname : (fn.name == "runtime.NumGoroutine") = false)
    (hb : fn.body.isNone = true) (hn : Extern.findNext fn = none) (he : Extern.find fn = some e)
    (h : ∀ (J : Im) (μ : Mu) (vs : List V) (gs : Array Value) (w : World) (v : V), Rvs J μ vs gs → g vs = some v → ∃ gv w', (e gs).run P w = .ok gv w' ∧ w'.hoo = w.hoo ∧ Rv J μ v gv) : PrimOK P f g := by
  intro J μ vs gs w v hr hv
  obtain ⟨gv, w', h1, h2, h3⟩ := h J μ vs gs w v hr hv
  exact ⟨gv, w', by rw [run_callFunc_extern hf hname hb hn he, h1]; rfl, h2, h3⟩

theorem sqrt_canon (k : FloatKind) (x : Nat) : k.format.sqrt (canon k x) = k.format.sqrt x := by
  unfold Format.sqrt
  exact of_canon k (fun d => (d.root (k.format.fractionBits + 2)).map k.format.write) (fun _ _ _ _ => rfl) x

theorem root_notNaN {n : Nat} {x d : Datum} (h : x.root n = some d) : d.isNaN = false := by
  unfold Datum.root at h
  split at h
  · cases h
  · split at h <;> cases h
    rfl
  · split at h
    · cases h; rfl
    · split at h
      · cases h
      · cases h; rfl

theorem sqrt_sound {P : Program} (J : Im) (μ : Mu) (vs : List V) (gs : Array Value) (w : World) (v : V) (hr : Rvs J μ vs gs) (hv : primSqrt vs = some v) :
    ∃ gv w', (Extern.MathSqrt.sqrt gs).run P w = .ok gv w' ∧ w'.hoo = w.hoo ∧ Rv J μ v gv := by
  unfold primSqrt at hv
  split at hv
  · rename_i x
    cases hv
    obtain ⟨g, rfl, hg⟩ := hr.one
    cases hg with
    | flt e =>
      rename_i b
      subst e
      unfold fsqrt
      rw [sqrt_canon]
      have hrun : (Extern.MathSqrt.sqrt #[.float .f64 b]).run P w = (match FloatKind.f64.format.sqrt b with
        | some r => pure (.float .f64 r)
        | none => do pure (.float .f64 (← choose (.nanBits .f64 b b))) : Sem Value).run P w := rfl
      rw [hrun]
      cases hs : FloatKind.f64.format.sqrt b with
      | some r => exact ⟨.float .f64 r, w, by simp, rfl, .flt (canon_of_not (map_write_not (k := .f64) (fun _ => root_notNaN) hs)).symm⟩
      | none => exact ⟨.float .f64 ((Question.nanBits .f64 b b).cut (w.tape w.drawn (.nanBits .f64 b b))), { w with drawn := w.drawn + 1 }, by simp [Question.forced], rfl, .flt (canon_of_nan (cut_nanBits .f64 b b _)).symm⟩
  · cases hv

theorem integral_notNaN {way : Toward} {d : Datum} (h : d.isNaN = false) : (d.integral way).isNaN = false := by
  cases d <;> simp_all [Datum.integral, Datum.isNaN]

theorem isNan_quiet (s : Bool) (t : Nat) : isNan .f64 (FloatKind.f64.encode (.nan s (FloatKind.f64.format.quiet t))) = true := by
  have e1 : FloatKind.f64.format.infRung = 9218868437227405312 := by decide +kernel
  have e2 : FloatKind.f64.format.signWeight = 9223372036854775808 := by decide +kernel
  have e3 : FloatKind.f64.format.binade = 4503599627370496 := by decide +kernel
  have e4 : FloatKind.f64.format.quiet t = t ||| 2251799813685248 := rfl
  have hq : 0 < (t ||| 2251799813685248) % 4503599627370496 := by
    have h1 : ((t ||| 2251799813685248) % 2 ^ 52).testBit 51 = true := by
      rw [Nat.testBit_mod_two_pow, Nat.testBit_or]
      have : Nat.testBit 2251799813685248 51 = true := by decide +kernel
      simp [this]
    have h2 : (4503599627370496 : Nat) = 2 ^ 52 := by decide
    rw [h2]
    rcases Nat.eq_zero_or_pos ((t ||| 2251799813685248) % 2 ^ 52) with h0 | h0
    · rw [h0] at h1; simp at h1
    · exact h0
  have hlt := Nat.mod_lt (t ||| 2251799813685248) (show 4503599627370496 > 0 by decide)
  rw [isNan_eq, e1, e2]
  unfold FloatKind.encode Format.write
  simp only [e1, e3, e4]
  have hw := read_word FloatKind.f64.format s (rung := 9218868437227405312 + (t ||| 2251799813685248) % 4503599627370496) (by rw [e2]; omega)
  rw [e2] at hw
  rw [hw]
  simp only [decide_eq_true_eq]
  omega

theorem int_sound {P : Program} (name : String) (way : Toward) (J : Im) (μ : Mu) (vs : List V) (gs : Array Value) (w : World) (v : V) (hr : Rvs J μ vs gs) (hv : primInt way vs = some v) :
    ∃ gv w', (Extern.MathFloor.toIntegral name way gs).run P w = .ok gv w' ∧ w'.hoo = w.hoo ∧ Rv J μ v gv := by
  unfold primInt at hv
  split at hv
  · rename_i x
    cases hv
    obtain ⟨g, rfl, hg⟩ := hr.one
    cases hg with
    | flt e =>
      rename_i b
      subst e
      unfold fint
      rw [isNan_canon]
      have hrun : (Extern.MathFloor.toIntegral name way #[.float .f64 b]).run P w = (match FloatKind.f64.decode b with
        | .nan s t =>
          if FloatKind.f64.format.quiet t = t then pure (.float .f64 b) else do
          let kept ← choose (.extern "math.Floor,Ceil,Trunc,RoundToEven.signallingNaN kept" 2)
          pure (.float .f64 (if kept == 1 then b else FloatKind.f64.encode (.nan s (FloatKind.f64.format.quiet t))))
        | d => pure (.float .f64 (FloatKind.f64.encode (d.integral way))) : Sem Value).run P w := rfl
      rw [hrun]
      cases hn : isNan .f64 b
      · rw [canon_of_not hn]
        have hd : (FloatKind.f64.decode b).isNaN = false := hn
        refine ⟨.float .f64 (FloatKind.f64.encode ((FloatKind.f64.decode b).integral way)), w, ?_, rfl, .flt ?_⟩
        · cases hb : FloatKind.f64.decode b with
          | nan s t => rw [hb] at hd; simp [Datum.isNaN] at hd
          | number s m e => simp
          | infinity s => simp
        · exact (canon_of_not (isNan_write .f64 _ (integral_notNaN hd))).symm
      · obtain ⟨s, t, hb⟩ := decode_canon_nan hn
        by_cases hq : FloatKind.f64.format.quiet t = t
        · exact ⟨.float .f64 b, w, by simp [hb, hq], rfl, .flt (canon_of_nan hn).symm⟩
        · by_cases hk : (Question.extern "math.Floor,Ceil,Trunc,RoundToEven.signallingNaN kept" 2).cut (w.tape w.drawn (.extern "math.Floor,Ceil,Trunc,RoundToEven.signallingNaN kept" 2)) = 1
          · refine ⟨.float .f64 b, { w with drawn := w.drawn + 1 }, ?_, rfl, .flt (canon_of_nan hn).symm⟩
            simp [hb, hq, Question.forced, hk]
          · refine ⟨.float .f64 (FloatKind.f64.encode (.nan s (FloatKind.f64.format.quiet t))), { w with drawn := w.drawn + 1 }, ?_, rfl, .flt (canon_of_nan (isNan_quiet s t)).symm⟩
            simp [hb, hq, Question.forced, hk]
  · cases hv

theorem bits32_sound {P : Program} (J : Im) (μ : Mu) (vs : List V) (gs : Array Value) (w : World) (v : V) (hr : Rvs J μ vs gs) (hv : primBits .f32 vs = some v) :
    ∃ gv w', (Extern.MathFloatBits.float32bits gs).run P w = .ok gv w' ∧ w'.hoo = w.hoo ∧ Rv J μ v gv := by
  unfold primBits at hv
  split at hv
  · rename_i x
    obtain ⟨g, rfl, hg⟩ := hr.one
    cases hg with
    | flt e =>
      rename_i b
      subst e
      rw [isNan_canon] at hv
      cases hn : isNan .f32 b
      · rw [hn, canon_of_not hn] at hv
        cases hv
        exact ⟨.int .u32 b, w, rfl, rfl, .int⟩
      · rw [hn] at hv; cases hv
  · rename_i h; cases h
  · cases hv

theorem bits64_sound {P : Program} (J : Im) (μ : Mu) (vs : List V) (gs : Array Value) (w : World) (v : V) (hr : Rvs J μ vs gs) (hv : primBits .f64 vs = some v) :
    ∃ gv w', (Extern.MathFloatBits.float64bits gs).run P w = .ok gv w' ∧ w'.hoo = w.hoo ∧ Rv J μ v gv := by
  unfold primBits at hv
  split at hv
  · rename_i h; cases h
  · rename_i x
    obtain ⟨g, rfl, hg⟩ := hr.one
    cases hg with
    | flt e =>
      rename_i b
      subst e
      rw [isNan_canon] at hv
      cases hn : isNan .f64 b
      · rw [hn, canon_of_not hn] at hv
        cases hv
        exact ⟨.int .u64 b, w, rfl, rfl, .int⟩
      · rw [hn] at hv; cases hv
  · cases hv

theorem from32_sound {P : Program} (J : Im) (μ : Mu) (vs : List V) (gs : Array Value) (w : World) (v : V) (hr : Rvs J μ vs gs) (hv : primFrom .f32 vs = some v) :
    ∃ gv w', (Extern.MathFloatBits.float32frombits gs).run P w = .ok gv w' ∧ w'.hoo = w.hoo ∧ Rv J μ v gv := by
  unfold primFrom at hv
  split at hv
  · obtain ⟨g, rfl, hg⟩ := hr.one
    cases hv; cases hg
    exact ⟨.float .f32 (Int.toNat _), w, rfl, rfl, .flt rfl⟩
  · rename_i h; cases h
  · cases hv

theorem from64_sound {P : Program} (J : Im) (μ : Mu) (vs : List V) (gs : Array Value) (w : World) (v : V) (hr : Rvs J μ vs gs) (hv : primFrom .f64 vs = some v) :
    ∃ gv w', (Extern.MathFloatBits.float64frombits gs).run P w = .ok gv w' ∧ w'.hoo = w.hoo ∧ Rv J μ v gv := by
  unfold primFrom at hv
  split at hv
  · rename_i h; cases h
  · obtain ⟨g, rfl, hg⟩ := hr.one
    cases hv; cases hg
    exact ⟨.float .f64 (Int.toNat _), w, rfl, rfl, .flt rfl⟩
  · cases hv

section
variable {P : Program} {get : Get} {J : Im} {μ : Mu} {w : World}

theorem max2E_sound {x y v : V} {gx gy : Value} (h : max2E x y = some v) (hx : Rv J μ x gx) (hy : Rv J μ y gy) : ∃ g w', (Builtin.max2 gx gy).run P w = .ok g w' ∧ w'.hoo = w.hoo ∧ Rv J μ v g := by
  unfold max2E at h
  split at h
  · rename_i k a k' b
    cases hs : sameI k k'
    · rw [hs] at h; cases h
    · rw [hs] at h
      cases h; cases hx; cases hy
      refine ⟨.int k (if b > a then b else a), w, by simp [Builtin.max2], rfl, ?_⟩
      by_cases hc : b > a
      · simp only [hc, decide_true, cond_true, if_true]; exact .int
      · simp only [hc, decide_false, cond_false, if_false]; exact .int
  · rename_i k a k' b
    cases hs : sameF k k'
    · rw [hs] at h; cases h
    · rw [hs] at h
      have hk := sameF_eq hs
      subst hk
      cases hx with
      | flt ex =>
        cases hy with
        | flt ey =>
          rename_i p q
          subst ex; subst ey
          simp only [cond_true, Option.some.injEq] at h
          rw [order_canon] at h
          subst h
          cases ho : k.format.order p q with
          | none =>
            exact ⟨.float k ((Question.nanMinMax k true p q).cut (w.tape w.drawn (.nanMinMax k true p q))), { w with drawn := w.drawn + 1 }, by simp [Builtin.max2, ho, Question.forced], rfl, .flt (canon_of_nan (cut_nanMinMax k true p q _)).symm⟩
          | some o =>
            cases o with
            | lt => exact ⟨.float k q, w, by simp [Builtin.max2, ho], rfl, .flt rfl⟩
            | gt => exact ⟨.float k p, w, by simp [Builtin.max2, ho], rfl, .flt rfl⟩
            | eq =>
              have hn : isNan k p = false := by
                cases hn : isNan k p
                · rfl
                · obtain ⟨s, t, e⟩ := read_nan hn
                  unfold Format.order at ho
                  rw [e] at ho
                  simp [Datum.order] at ho
              rw [canon_of_not hn]
              refine ⟨.float k (if (k.decode p).neg then q else p), w, by simp [Builtin.max2, ho], rfl, ?_⟩
              cases hneg : (k.decode p).neg
              · simp only [cond_false, Bool.false_eq_true, if_false]; exact .flt (canon_of_not hn).symm
              · simp only [cond_true, if_true]; exact .flt rfl
  · cases h

theorem min2E_sound {x y v : V} {gx gy : Value} (h : min2E x y = some v) (hx : Rv J μ x gx) (hy : Rv J μ y gy) : ∃ g w', (Builtin.min2 gx gy).run P w = .ok g w' ∧ w'.hoo = w.hoo ∧ Rv J μ v g := by
  unfold min2E at h
  split at h
  · rename_i k a k' b
    cases hs : sameI k k'
    · rw [hs] at h; cases h
    · rw [hs] at h
      cases h; cases hx; cases hy
      refine ⟨.int k (if b < a then b else a), w, by simp [Builtin.min2], rfl, ?_⟩
      by_cases hc : b < a
      · simp only [hc, decide_true, cond_true, if_true]; exact .int
      · simp only [hc, decide_false, cond_false, if_false]; exact .int
  · cases h

theorem Rvs.two {v u : V} {gs : Array Value} (h : Rvs J μ [v, u] gs) : ∃ g g', gs = #[g, g'] ∧ Rv J μ v g ∧ Rv J μ u g' := by
  obtain ⟨h1, h2⟩ := h
  have h1' : gs.size = 2 := h1
  refine ⟨gs[0]'(by omega), gs[1]'(by omega), ?_, h2 0 v _ rfl (by simp [h1']), h2 1 u _ rfl (by simp [h1'])⟩
  apply Array.ext
  · simpa using h1'
  · intro i hi _
    have : i = 0 ∨ i = 1 := by omega
    rcases this with rfl | rfl <;> simp

theorem Rvs.at {vs : List V} {gs : Array Value} {j : Nat} {v : V} (h : Rvs J μ vs gs) (hv : vs[j]? = some v) : ∃ g, gs[j]? = some g ∧ Rv J μ v g := by
  obtain ⟨g, hg⟩ := some_of_size h.1 (lt_of_some hv)
  exact ⟨g, hg, h.2 j v g hv hg⟩

theorem builtinE_sound {b : Builtin} {ts : List TypeId} {args : List V} {gs : Array Value} {ty : TypeId} {consts : Array Bool} {nid : Nat} {r : V × Ups × Nat} (hI : Inv get J μ w) (h : builtinE P get nid b ts args = some r)
    (hr : Rvs J μ args gs) (hf : ∀ i, nid ≤ i → i < nid + r.2.2 → μ i = none) :
    ∃ g w', (builtin b ts.toArray ty consts gs).run P w = .ok (.value g) w' ∧ Good get J μ w nid r g w' := by
  unfold builtinE at h
  split at h
  · split at h
    · rename_i t tl x _
      split at h
      · rename_i v hv
        cases h
        obtain ⟨gx, hgx, hrx⟩ := Rvs.at hr (j := 0) (v := x) rfl
        obtain ⟨g, h1, h2⟩ := lenE_sound (P := P) (w := w) (ty := ty) (ts := (t :: tl).toArray) hv hrx (by simp) hgx
        exact ⟨g, w, by simp only [builtin, Sem.run_bind, h1]; rfl, Good.same hI h2 rfl⟩
      · cases h
    · cases h
  · split at h
    · rename_i t u tl d x _
      split at h
      · rename_i e' hu
        obtain ⟨gd, hgd, hrd⟩ := Rvs.at hr (j := 0) (v := d) rfl
        obtain ⟨gx, hgx, hrx⟩ := Rvs.at hr (j := 1) (v := x) rfl
        obtain ⟨g, w', h1, h2⟩ := appendE_sound (P := P) (ty := ty) (ts := (t :: u :: tl).toArray) hI h hrd hrx (by simp) (by simp) hgd hgx hu hf
        exact ⟨g, w', by simp only [builtin, Sem.run_bind, h1]; rfl, h2⟩
      · cases h
    · cases h
  · split at h
    · rename_i x y
      split at h
      · rename_i v hv
        cases h
        obtain ⟨g, g', rfl, hx, hy⟩ := hr.two
        obtain ⟨q, w', h1, h2, h3⟩ := max2E_sound (P := P) (w := w) hv hx hy
        exact ⟨q, w', by simp only [builtin, Sem.run_bind, Builtin.max_]; simp [h1], Good.same hI h3 h2⟩
      · cases h
    · cases h
  · split at h
    · rename_i x y
      split at h
      · rename_i v hv
        cases h
        obtain ⟨g, g', rfl, hx, hy⟩ := hr.two
        obtain ⟨q, w', h1, h2, h3⟩ := min2E_sound (P := P) (w := w) hv hx hy
        exact ⟨q, w', by simp only [builtin, Sem.run_bind, Builtin.min_]; simp [h1], Good.same hI h3 h2⟩
      · cases h
    · cases h
  · cases h
end
end Go.Ev
