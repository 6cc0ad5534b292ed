/-
  Functions of the program: what each computes.
-/
import Derived.Test.YtggfjjacafgkkaaFnPrims
namespace Go.Proofs.Ytggfjjacafgkkaa
open Go.Ev Go

-- loop.example/g01253/impl.isNaN
def S35 : FuncId → Option Summ := fun _ => none
noncomputable def E35 : Env := ⟨Try.prog, S35, fun _ _ => [], 100⟩
theorem sok35 : SOK E35 := fun _ _ h => by cases h
def r35 (p : Bool) : V := (.bool p)
def g35 (x0 : Nat) : Bool := (fcmp .neq .f32 x0 x0)
def v35 : List V → Option V
  | [(.flt .f32 x0)] => some (r35 (g35 x0))
  | _ => none
def s35 : Summ := .pure v35
set_option maxRecDepth 100000 in
theorem tree35 (x0 : Nat) : runPure E35 4 35 [(.flt .f32 x0)] = some (.bool (fcmp .neq .f32 x0 x0)) := by kernel_rfl
theorem run35 (x0 : Nat) : runPure E35 4 35 [(.flt .f32 x0)] = some (r35 (g35 x0)) := (tree35 x0).trans (leaf_ok (F := r35) (a := (fcmp .neq .f32 x0 x0)))
theorem summ35 : SummOK Try.prog 35 s35 := by
  refine ⟨pure_of_run orders names sok35 4 fun vs v h => ?_, Try.f35, by kernel_rfl, by kernel_rfl, by kernel_rfl⟩
  unfold v35 at h
  split at h
  · cases h; exact run35 _
  · cases h

-- loop.example/g01253/spec.l01Bits
def S34 : FuncId → Option Summ := fun f => match f with
  | 36 => some s36
  | _ => none
noncomputable def E34 : Env := ⟨Try.prog, S34, fun _ _ => [], 100⟩
theorem sok34 : SOK E34 := by
  intro f s h
  have h : S34 f = some s := h
  unfold S34 at h
  split at h
  · cases h; exact summ36
  · cases h
def r34 (p : Int) : V := (.int .i64 p)
def g34 (x0 : Nat) : Int := (bif (fcmp .neq .f32 x0 x0) then 2143289344 else (IntKind.i64.wrap (bitsF x0)))
def ok34 (x0 : Nat) : Bool := (bif (fcmp .neq .f32 x0 x0) then true else (bitsC x0))
def v34 : List V → Option V
  | [(.flt .f32 x0)] => some (r34 (g34 x0))
  | _ => none
def c34 : List V → Bool
  | [(.flt .f32 x0)] => ok34 x0
  | _ => false
def s34 : Summ := .pureC c34 v34
set_option maxRecDepth 100000 in
theorem tree34 (x0 : Nat) : runPure E34 4 34 [(.flt .f32 x0)] = (bif (fcmp .neq .f32 x0 x0) then some (.int .i64 2143289344) else (bif bitsC x0 then some (.int .i64 (IntKind.i64.wrap (bitsF x0))) else none)) := by kernel_rfl
theorem run34 (x0 : Nat) (h : ok34 x0 = true) : runPure E34 4 34 [(.flt .f32 x0)] = some (r34 (g34 x0)) := (tree34 x0).trans ((ite_ok (F := r34) (fun _ => (leaf_ok (F := r34) (a := 2143289344))) (chk_k (F := r34) (leaf_ok (F := r34) (a := (IntKind.i64.wrap (bitsF x0)))))) h)
theorem summ34 : SummOK Try.prog 34 s34 := by
  refine ⟨pure_of_run orders names sok34 4 fun vs v h => ?_, Try.f34, by kernel_rfl, by kernel_rfl, by kernel_rfl⟩
  cases hc : c34 vs
  · rw [hc] at h; cases h
  rw [hc] at h
  simp only [cond_true] at h
  unfold v34 at h
  split at h
  · cases h; exact run34 _ hc
  · cases h

-- loop.example/g01253/spec.l01Same
def S31 : FuncId → Option Summ := fun f => match f with
  | 34 => some s34
  | _ => none
noncomputable def E31 : Env := ⟨Try.prog, S31, fun _ _ => [], 100⟩
theorem sok31 : SOK E31 := by
  intro f s h
  have h : S31 f = some s := h
  unfold S31 at h
  split at h
  · cases h; exact summ34
  · cases h
def r31 (p : Bool) : V := (.bool p)
def g31 (x0 : Nat) (x1 : Nat) : Bool := (icmp .eql (g34 x0) (g34 x1))
def ok31 (x0 : Nat) (x1 : Nat) : Bool := ((ok34 x0) && (ok34 x1))
def v31 : List V → Option V
  | [(.flt .f32 x0), (.flt .f32 x1)] => some (r31 (g31 x0 x1))
  | _ => none
def c31 : List V → Bool
  | [(.flt .f32 x0), (.flt .f32 x1)] => ok31 x0 x1
  | _ => false
def s31 : Summ := .pureC c31 v31
set_option maxRecDepth 100000 in
theorem tree31 (x0 : Nat) (x1 : Nat) : runPure E31 4 31 [(.flt .f32 x0), (.flt .f32 x1)] = (bif ok34 x0 then (bif ok34 x1 then some (.bool (icmp .eql (g34 x0) (g34 x1))) else none) else none) := by kernel_rfl
theorem run31 (x0 : Nat) (x1 : Nat) (h : ok31 x0 x1 = true) : runPure E31 4 31 [(.flt .f32 x0), (.flt .f32 x1)] = some (r31 (g31 x0 x1)) := (tree31 x0 x1).trans ((chk_ok (F := r31) (chk_k (F := r31) (leaf_ok (F := r31) (a := (icmp .eql (g34 x0) (g34 x1)))))) h)
theorem summ31 : SummOK Try.prog 31 s31 := by
  refine ⟨pure_of_run orders names sok31 4 fun vs v h => ?_, Try.f31, by kernel_rfl, by kernel_rfl, by kernel_rfl⟩
  cases hc : c31 vs
  · rw [hc] at h; cases h
  rw [hc] at h
  simp only [cond_true] at h
  unfold v31 at h
  split at h
  · cases h; exact run31 _ _ hc
  · cases h

-- loop.example/g01253/spec.SameNumber
def S8 : FuncId → Option Summ := fun f => match f with
  | 31 => some s31
  | _ => none
noncomputable def E8 : Env := ⟨Try.prog, S8, fun _ _ => [], 100⟩
theorem sok8 : SOK E8 := by
  intro f s h
  have h : S8 f = some s := h
  unfold S8 at h
  split at h
  · cases h; exact summ31
  · cases h
def r8 (p : Bool) : V := (.bool p)
def g8 (x0 : Nat) (x1 : Nat) : Bool := (g31 x0 x1)
def ok8 (x0 : Nat) (x1 : Nat) : Bool := (ok31 x0 x1)
def v8 : List V → Option V
  | [(.flt .f32 x0), (.flt .f32 x1)] => some (r8 (g8 x0 x1))
  | _ => none
def c8 : List V → Bool
  | [(.flt .f32 x0), (.flt .f32 x1)] => ok8 x0 x1
  | _ => false
def s8 : Summ := .pureC c8 v8
set_option maxRecDepth 100000 in
theorem tree8 (x0 : Nat) (x1 : Nat) : runPure E8 4 8 [(.flt .f32 x0), (.flt .f32 x1)] = (bif ok31 x0 x1 then some (.bool (g31 x0 x1)) else none) := by kernel_rfl
theorem run8 (x0 : Nat) (x1 : Nat) (h : ok8 x0 x1 = true) : runPure E8 4 8 [(.flt .f32 x0), (.flt .f32 x1)] = some (r8 (g8 x0 x1)) := (tree8 x0 x1).trans ((chk_k (F := r8) (leaf_ok (F := r8) (a := (g31 x0 x1)))) h)
theorem summ8 : SummOK Try.prog 8 s8 := by
  refine ⟨pure_of_run orders names sok8 4 fun vs v h => ?_, Try.f8, by kernel_rfl, by kernel_rfl, by kernel_rfl⟩
  cases hc : c8 vs
  · rw [hc] at h; cases h
  rw [hc] at h
  simp only [cond_true] at h
  unfold v8 at h
  split at h
  · cases h; exact run8 _ _ hc
  · cases h

-- loop.example/g01253/impl.BitsOf
def S13 : FuncId → Option Summ := fun f => match f with
  | 35 => some s35
  | 36 => some s36
  | _ => none
noncomputable def E13 : Env := ⟨Try.prog, S13, fun _ _ => [], 100⟩
theorem sok13 : SOK E13 := by
  intro f s h
  have h : S13 f = some s := h
  unfold S13 at h
  split at h
  · cases h; exact summ35
  · cases h; exact summ36
  · cases h
def r13 (p : Int) : V := (.int .i64 p)
def g13 (x0 : Nat) : Int := (bif (g35 x0) then 2143289344 else (IntKind.i64.wrap (bitsF x0)))
def ok13 (x0 : Nat) : Bool := (bif (g35 x0) then true else (bitsC x0))
def v13 : List V → Option V
  | [(.flt .f32 x0)] => some (r13 (g13 x0))
  | _ => none
def c13 : List V → Bool
  | [(.flt .f32 x0)] => ok13 x0
  | _ => false
def s13 : Summ := .pureC c13 v13
set_option maxRecDepth 100000 in
theorem tree13 (x0 : Nat) : runPure E13 4 13 [(.flt .f32 x0)] = (bif (g35 x0) then some (.int .i64 2143289344) else (bif bitsC x0 then some (.int .i64 (IntKind.i64.wrap (bitsF x0))) else none)) := by kernel_rfl
theorem run13 (x0 : Nat) (h : ok13 x0 = true) : runPure E13 4 13 [(.flt .f32 x0)] = some (r13 (g13 x0)) := (tree13 x0).trans ((ite_ok (F := r13) (fun _ => (leaf_ok (F := r13) (a := 2143289344))) (chk_k (F := r13) (leaf_ok (F := r13) (a := (IntKind.i64.wrap (bitsF x0)))))) h)
theorem summ13 : SummOK Try.prog 13 s13 := by
  refine ⟨pure_of_run orders names sok13 4 fun vs v h => ?_, Try.f13, by kernel_rfl, by kernel_rfl, by kernel_rfl⟩
  cases hc : c13 vs
  · rw [hc] at h; cases h
  rw [hc] at h
  simp only [cond_true] at h
  unfold v13 at h
  split at h
  · cases h; exact run13 _ hc
  · cases h

-- loop.example/g01253/impl.SameNumber
def S15 : FuncId → Option Summ := fun f => match f with
  | 35 => some s35
  | 36 => some s36
  | _ => none
noncomputable def E15 : Env := ⟨Try.prog, S15, fun _ _ => [], 100⟩
theorem sok15 : SOK E15 := by
  intro f s h
  have h : S15 f = some s := h
  unfold S15 at h
  split at h
  · cases h; exact summ35
  · cases h; exact summ36
  · cases h
def r15 (p : Bool) : V := (.bool p)
def g15 (x0 : Nat) (x1 : Nat) : Bool := (bif (g35 x0) then (bif (g35 x0) then (g35 x1) else false) else (bif (g35 x1) then (bif (g35 x0) then (g35 x1) else false) else (icmp .eql (bitsF x0) (bitsF x1))))
def ok15 (x0 : Nat) (x1 : Nat) : Bool := (bif (g35 x0) then true else (bif (g35 x1) then true else ((bitsC x0) && (bitsC x1))))
def v15 : List V → Option V
  | [(.flt .f32 x0), (.flt .f32 x1)] => some (r15 (g15 x0 x1))
  | _ => none
def c15 : List V → Bool
  | [(.flt .f32 x0), (.flt .f32 x1)] => ok15 x0 x1
  | _ => false
def s15 : Summ := .pureC c15 v15
set_option maxRecDepth 100000 in
theorem tree15 (x0 : Nat) (x1 : Nat) : runPure E15 4 15 [(.flt .f32 x0), (.flt .f32 x1)] = (bif (g35 x0) then (bif (g35 x0) then some (.bool (g35 x1)) else some (.bool false)) else (bif (g35 x1) then (bif (g35 x0) then some (.bool (g35 x1)) else some (.bool false)) else (bif bitsC x0 then (bif bitsC x1 then some (.bool (icmp .eql (bitsF x0) (bitsF x1))) else none) else none))) := by kernel_rfl
theorem run15 (x0 : Nat) (x1 : Nat) (h : ok15 x0 x1 = true) : runPure E15 4 15 [(.flt .f32 x0), (.flt .f32 x1)] = some (r15 (g15 x0 x1)) := (tree15 x0 x1).trans ((ite_ok (F := r15) (fun _ => (ite_k (F := r15) (leaf_ok (F := r15) (a := (g35 x1))) (leaf_ok (F := r15) (a := false)))) (ite_ok (F := r15) (fun _ => (ite_k (F := r15) (leaf_ok (F := r15) (a := (g35 x1))) (leaf_ok (F := r15) (a := false)))) (chk_ok (F := r15) (chk_k (F := r15) (leaf_ok (F := r15) (a := (icmp .eql (bitsF x0) (bitsF x1)))))))) h)
theorem summ15 : SummOK Try.prog 15 s15 := by
  refine ⟨pure_of_run orders names sok15 4 fun vs v h => ?_, Try.f15, by kernel_rfl, by kernel_rfl, by kernel_rfl⟩
  cases hc : c15 vs
  · rw [hc] at h; cases h
  rw [hc] at h
  simp only [cond_true] at h
  unfold v15 at h
  split at h
  · cases h; exact run15 _ _ hc
  · cases h

-- loop.example/g01253/spec.IsFinite
def S11 : FuncId → Option Summ := fun _ => none
noncomputable def E11 : Env := ⟨Try.prog, S11, fun _ _ => [], 100⟩
theorem sok11 : SOK E11 := fun _ _ h => by cases h
def r11 (p : Bool) : V := (.bool p)
def g11 (x0 : Nat) : Bool := (fcmp .eql .f32 (fop .sub .f32 x0 x0) 0)
def v11 : List V → Option V
  | [(.flt .f32 x0)] => some (r11 (g11 x0))
  | _ => none
def s11 : Summ := .pure v11
set_option maxRecDepth 100000 in
theorem tree11 (x0 : Nat) : runPure E11 4 11 [(.flt .f32 x0)] = some (.bool (fcmp .eql .f32 (fop .sub .f32 x0 x0) 0)) := by kernel_rfl
theorem run11 (x0 : Nat) : runPure E11 4 11 [(.flt .f32 x0)] = some (r11 (g11 x0)) := (tree11 x0).trans (leaf_ok (F := r11) (a := (fcmp .eql .f32 (fop .sub .f32 x0 x0) 0)))
theorem summ11 : SummOK Try.prog 11 s11 := by
  refine ⟨pure_of_run orders names sok11 4 fun vs v h => ?_, Try.f11, by kernel_rfl, by kernel_rfl, by kernel_rfl⟩
  unfold v11 at h
  split at h
  · cases h; exact run11 _
  · cases h

-- loop.example/g01253/spec.l01Finite
def S33 : FuncId → Option Summ := fun _ => none
noncomputable def E33 : Env := ⟨Try.prog, S33, fun _ _ => [], 100⟩
theorem sok33 : SOK E33 := fun _ _ h => by cases h
def r33 (p : Bool) : V := (.bool p)
def g33 (x0 : Nat) : Bool := (fcmp .eql .f32 (fop .sub .f32 x0 x0) 0)
def v33 : List V → Option V
  | [(.flt .f32 x0)] => some (r33 (g33 x0))
  | _ => none
def s33 : Summ := .pure v33
set_option maxRecDepth 100000 in
theorem tree33 (x0 : Nat) : runPure E33 4 33 [(.flt .f32 x0)] = some (.bool (fcmp .eql .f32 (fop .sub .f32 x0 x0) 0)) := by kernel_rfl
theorem run33 (x0 : Nat) : runPure E33 4 33 [(.flt .f32 x0)] = some (r33 (g33 x0)) := (tree33 x0).trans (leaf_ok (F := r33) (a := (fcmp .eql .f32 (fop .sub .f32 x0 x0) 0)))
theorem summ33 : SummOK Try.prog 33 s33 := by
  refine ⟨pure_of_run orders names sok33 4 fun vs v h => ?_, Try.f33, by kernel_rfl, by kernel_rfl, by kernel_rfl⟩
  unfold v33 at h
  split at h
  · cases h; exact run33 _
  · cases h

-- loop.example/g01253/impl.IsFinite
def S16 : FuncId → Option Summ := fun _ => none
noncomputable def E16 : Env := ⟨Try.prog, S16, fun _ _ => [], 100⟩
theorem sok16 : SOK E16 := fun _ _ h => by cases h
def r16 (p : Bool) : V := (.bool p)
def g16 (x0 : Nat) : Bool := (fcmp .eql .f32 (fop .sub .f32 x0 x0) 0)
def v16 : List V → Option V
  | [(.flt .f32 x0)] => some (r16 (g16 x0))
  | _ => none
def s16 : Summ := .pure v16
set_option maxRecDepth 100000 in
theorem tree16 (x0 : Nat) : runPure E16 4 16 [(.flt .f32 x0)] = some (.bool (fcmp .eql .f32 (fop .sub .f32 x0 x0) 0)) := by kernel_rfl
theorem run16 (x0 : Nat) : runPure E16 4 16 [(.flt .f32 x0)] = some (r16 (g16 x0)) := (tree16 x0).trans (leaf_ok (F := r16) (a := (fcmp .eql .f32 (fop .sub .f32 x0 x0) 0)))
theorem summ16 : SummOK Try.prog 16 s16 := by
  refine ⟨pure_of_run orders names sok16 4 fun vs v h => ?_, Try.f16, by kernel_rfl, by kernel_rfl, by kernel_rfl⟩
  unfold v16 at h
  split at h
  · cases h; exact run16 _
  · cases h

-- loop.example/g01253/spec.BitsOf
def S12 : FuncId → Option Summ := fun f => match f with
  | 34 => some s34
  | _ => none
noncomputable def E12 : Env := ⟨Try.prog, S12, fun _ _ => [], 100⟩
theorem sok12 : SOK E12 := by
  intro f s h
  have h : S12 f = some s := h
  unfold S12 at h
  split at h
  · cases h; exact summ34
  · cases h
def r12 (p : Int) : V := (.int .i64 p)
def g12 (x0 : Nat) : Int := (g34 x0)
def ok12 (x0 : Nat) : Bool := (ok34 x0)
def v12 : List V → Option V
  | [(.flt .f32 x0)] => some (r12 (g12 x0))
  | _ => none
def c12 : List V → Bool
  | [(.flt .f32 x0)] => ok12 x0
  | _ => false
def s12 : Summ := .pureC c12 v12
set_option maxRecDepth 100000 in
theorem tree12 (x0 : Nat) : runPure E12 4 12 [(.flt .f32 x0)] = (bif ok34 x0 then some (.int .i64 (g34 x0)) else none) := by kernel_rfl
theorem run12 (x0 : Nat) (h : ok12 x0 = true) : runPure E12 4 12 [(.flt .f32 x0)] = some (r12 (g12 x0)) := (tree12 x0).trans ((chk_k (F := r12) (leaf_ok (F := r12) (a := (g34 x0)))) h)
theorem summ12 : SummOK Try.prog 12 s12 := by
  refine ⟨pure_of_run orders names sok12 4 fun vs v h => ?_, Try.f12, by kernel_rfl, by kernel_rfl, by kernel_rfl⟩
  cases hc : c12 vs
  · rw [hc] at h; cases h
  rw [hc] at h
  simp only [cond_true] at h
  unfold v12 at h
  split at h
  · cases h; exact run12 _ hc
  · cases h

-- loop.example/g01253/impl.NarrowNumber
def S9 : FuncId → Option Summ := fun _ => none
noncomputable def E9 : Env := ⟨Try.prog, S9, fun _ _ => [], 100⟩
theorem sok9 : SOK E9 := fun _ _ h => by cases h
def r9 (p : Nat) : V := (.flt .f32 p)
def g9 (x0 : Nat) : Nat := ((fconv .f64 .f32 x0).getD 0)
def ok9 (x0 : Nat) : Bool := ((fconv .f64 .f32 x0).isSome)
def v9 : List V → Option V
  | [(.flt .f64 x0)] => some (r9 (g9 x0))
  | _ => none
def c9 : List V → Bool
  | [(.flt .f64 x0)] => ok9 x0
  | _ => false
def s9 : Summ := .pureC c9 v9
set_option maxRecDepth 100000 in
theorem tree9 (x0 : Nat) : runPure E9 4 9 [(.flt .f64 x0)] = (bif (fconv .f64 .f32 x0).isSome then some (.flt .f32 ((fconv .f64 .f32 x0).getD 0)) else none) := by kernel_rfl
theorem run9 (x0 : Nat) (h : ok9 x0 = true) : runPure E9 4 9 [(.flt .f64 x0)] = some (r9 (g9 x0)) := (tree9 x0).trans ((chk_k (F := r9) (leaf_ok (F := r9) (a := ((fconv .f64 .f32 x0).getD 0)))) h)
theorem summ9 : SummOK Try.prog 9 s9 := by
  refine ⟨pure_of_run orders names sok9 4 fun vs v h => ?_, Try.f9, by kernel_rfl, by kernel_rfl, by kernel_rfl⟩
  cases hc : c9 vs
  · rw [hc] at h; cases h
  rw [hc] at h
  simp only [cond_true] at h
  unfold v9 at h
  split at h
  · cases h; exact run9 _ hc
  · cases h

-- loop.example/g01253/impl.in
def S37 : FuncId → Option Summ := fun _ => none
noncomputable def E37 : Env := ⟨Try.prog, S37, fun _ _ => [], 100⟩
theorem sok37 : SOK E37 := fun _ _ h => by cases h
def r37 (p : Bool) : V := (.bool p)
def g37 (x0 : Int) (x1 : Int) (x2 : Int) : Bool := (bif (icmp .geq x0 x1) then (icmp .leq x0 x2) else false)
def v37 : List V → Option V
  | [(.int .i64 x0), (.int .i64 x1), (.int .i64 x2)] => some (r37 (g37 x0 x1 x2))
  | _ => none
def s37 : Summ := .pure v37
set_option maxRecDepth 100000 in
theorem tree37 (x0 : Int) (x1 : Int) (x2 : Int) : runPure E37 4 37 [(.int .i64 x0), (.int .i64 x1), (.int .i64 x2)] = (bif (icmp .geq x0 x1) then some (.bool (icmp .leq x0 x2)) else some (.bool false)) := by kernel_rfl
theorem run37 (x0 : Int) (x1 : Int) (x2 : Int) : runPure E37 4 37 [(.int .i64 x0), (.int .i64 x1), (.int .i64 x2)] = some (r37 (g37 x0 x1 x2)) := (tree37 x0 x1 x2).trans (ite_k (F := r37) (leaf_ok (F := r37) (a := (icmp .leq x0 x2))) (leaf_ok (F := r37) (a := false)))
theorem summ37 : SummOK Try.prog 37 s37 := by
  refine ⟨pure_of_run orders names sok37 4 fun vs v h => ?_, Try.f37, by kernel_rfl, by kernel_rfl, by kernel_rfl⟩
  unfold v37 at h
  split at h
  · cases h; exact run37 _ _ _
  · cases h

-- loop.example/g01253/impl.FromBits
def S14 : FuncId → Option Summ := fun f => match f with
  | 37 => some s37
  | 38 => some s38
  | _ => none
noncomputable def E14 : Env := ⟨Try.prog, S14, fun _ _ => [], 100⟩
theorem sok14 : SOK E14 := by
  intro f s h
  have h : S14 f = some s := h
  unfold S14 at h
  split at h
  · cases h; exact summ37
  · cases h; exact summ38
  · cases h
def r14 (p : Nat × Bool) : V := (.tup [(.flt .f32 p.1), (.bool p.2)])
def g14 (x0 : Int) : Nat × Bool := (bif (!(g37 x0 0 4294967295)) then (0, false) else ((canon .f32 (Int.toNat (IntKind.u32.wrap x0))), true))
def v14 : List V → Option V
  | [(.int .i64 x0)] => some (r14 (g14 x0))
  | _ => none
def s14 : Summ := .pure v14
set_option maxRecDepth 100000 in
theorem tree14 (x0 : Int) : runPure E14 4 14 [(.int .i64 x0)] = (bif (!(g37 x0 0 4294967295)) then some (.tup [(.flt .f32 0), (.bool false)]) else some (.tup [(.flt .f32 (canon .f32 (Int.toNat (IntKind.u32.wrap x0)))), (.bool true)])) := by kernel_rfl
theorem run14 (x0 : Int) : runPure E14 4 14 [(.int .i64 x0)] = some (r14 (g14 x0)) := (tree14 x0).trans (ite_k (F := r14) (leaf_ok (F := r14) (a := (0, false))) (leaf_ok (F := r14) (a := ((canon .f32 (Int.toNat (IntKind.u32.wrap x0))), true))))
theorem summ14 : SummOK Try.prog 14 s14 := by
  refine ⟨pure_of_run orders names sok14 4 fun vs v h => ?_, Try.f14, by kernel_rfl, by kernel_rfl, by kernel_rfl⟩
  unfold v14 at h
  split at h
  · cases h; exact run14 _
  · cases h

-- loop.example/g01253/spec.l01From
def S29 : FuncId → Option Summ := fun f => match f with
  | 38 => some s38
  | _ => none
noncomputable def E29 : Env := ⟨Try.prog, S29, fun _ _ => [], 100⟩
theorem sok29 : SOK E29 := by
  intro f s h
  have h : S29 f = some s := h
  unfold S29 at h
  split at h
  · cases h; exact summ38
  · cases h
def r29 (p : Nat) : V := (.flt .f32 p)
def g29 (x0 : Int) : Nat := (canon .f32 (Int.toNat (IntKind.u32.wrap x0)))
def v29 : List V → Option V
  | [(.int .i64 x0)] => some (r29 (g29 x0))
  | _ => none
def s29 : Summ := .pure v29
set_option maxRecDepth 100000 in
theorem tree29 (x0 : Int) : runPure E29 4 29 [(.int .i64 x0)] = some (.flt .f32 (canon .f32 (Int.toNat (IntKind.u32.wrap x0)))) := by kernel_rfl
theorem run29 (x0 : Int) : runPure E29 4 29 [(.int .i64 x0)] = some (r29 (g29 x0)) := (tree29 x0).trans (leaf_ok (F := r29) (a := (canon .f32 (Int.toNat (IntKind.u32.wrap x0)))))
theorem summ29 : SummOK Try.prog 29 s29 := by
  refine ⟨pure_of_run orders names sok29 4 fun vs v h => ?_, Try.f29, by kernel_rfl, by kernel_rfl, by kernel_rfl⟩
  unfold v29 at h
  split at h
  · cases h; exact run29 _
  · cases h

-- loop.example/g01253/spec.NextUp
def S10 : FuncId → Option Summ := fun f => match f with
  | 29 => some s29
  | 34 => some s34
  | _ => none
noncomputable def E10 : Env := ⟨Try.prog, S10, fun _ _ => [], 100⟩
theorem sok10 : SOK E10 := by
  intro f s h
  have h : S10 f = some s := h
  unfold S10 at h
  split at h
  · cases h; exact summ29
  · cases h; exact summ34
  · cases h
def r10 (p : Nat) : V := (.flt .f32 p)
def g10 (x0 : Nat) : Nat := (bif (fcmp .neq .f32 x0 x0) then x0 else (bif (icmp .eql (g34 x0) 2139095040) then x0 else (bif (fcmp .eql .f32 x0 0) then (g29 1) else (bif (fcmp .gtr .f32 x0 0) then (g29 (IntKind.i64.wrap ((g34 x0) + 1))) else (g29 (IntKind.i64.wrap ((g34 x0) - 1)))))))
def ok10 (x0 : Nat) : Bool := (ok34 x0)
def v10 : List V → Option V
  | [(.flt .f32 x0)] => some (r10 (g10 x0))
  | _ => none
def c10 : List V → Bool
  | [(.flt .f32 x0)] => ok10 x0
  | _ => false
def s10 : Summ := .pureC c10 v10
set_option maxRecDepth 100000 in
theorem tree10 (x0 : Nat) : runPure E10 4 10 [(.flt .f32 x0)] = (bif ok34 x0 then (bif (fcmp .neq .f32 x0 x0) then some (.flt .f32 x0) else (bif (icmp .eql (g34 x0) 2139095040) then some (.flt .f32 x0) else (bif (fcmp .eql .f32 x0 0) then some (.flt .f32 (g29 1)) else (bif (fcmp .gtr .f32 x0 0) then some (.flt .f32 (g29 (IntKind.i64.wrap ((g34 x0) + 1)))) else some (.flt .f32 (g29 (IntKind.i64.wrap ((g34 x0) - 1)))))))) else none) := by kernel_rfl
theorem run10 (x0 : Nat) (h : ok10 x0 = true) : runPure E10 4 10 [(.flt .f32 x0)] = some (r10 (g10 x0)) := (tree10 x0).trans ((chk_k (F := r10) (ite_k (F := r10) (leaf_ok (F := r10) (a := x0)) (ite_k (F := r10) (leaf_ok (F := r10) (a := x0)) (ite_k (F := r10) (leaf_ok (F := r10) (a := (g29 1))) (ite_k (F := r10) (leaf_ok (F := r10) (a := (g29 (IntKind.i64.wrap ((g34 x0) + 1))))) (leaf_ok (F := r10) (a := (g29 (IntKind.i64.wrap ((g34 x0) - 1)))))))))) h)
theorem summ10 : SummOK Try.prog 10 s10 := by
  refine ⟨pure_of_run orders names sok10 4 fun vs v h => ?_, Try.f10, by kernel_rfl, by kernel_rfl, by kernel_rfl⟩
  cases hc : c10 vs
  · rw [hc] at h; cases h
  rw [hc] at h
  simp only [cond_true] at h
  unfold v10 at h
  split at h
  · cases h; exact run10 _ hc
  · cases h

-- loop.example/g01253/spec.l01Next
def S32 : FuncId → Option Summ := fun f => match f with
  | 29 => some s29
  | 34 => some s34
  | _ => none
noncomputable def E32 : Env := ⟨Try.prog, S32, fun _ _ => [], 100⟩
theorem sok32 : SOK E32 := by
  intro f s h
  have h : S32 f = some s := h
  unfold S32 at h
  split at h
  · cases h; exact summ29
  · cases h; exact summ34
  · cases h
def r32 (p : Nat) : V := (.flt .f32 p)
def g32 (x0 : Nat) : Nat := (bif (fcmp .neq .f32 x0 x0) then x0 else (bif (icmp .eql (g34 x0) 2139095040) then x0 else (bif (fcmp .eql .f32 x0 0) then (g29 1) else (bif (fcmp .gtr .f32 x0 0) then (g29 (IntKind.i64.wrap ((g34 x0) + 1))) else (g29 (IntKind.i64.wrap ((g34 x0) - 1)))))))
def ok32 (x0 : Nat) : Bool := (ok34 x0)
def v32 : List V → Option V
  | [(.flt .f32 x0)] => some (r32 (g32 x0))
  | _ => none
def c32 : List V → Bool
  | [(.flt .f32 x0)] => ok32 x0
  | _ => false
def s32 : Summ := .pureC c32 v32
set_option maxRecDepth 100000 in
theorem tree32 (x0 : Nat) : runPure E32 4 32 [(.flt .f32 x0)] = (bif ok34 x0 then (bif (fcmp .neq .f32 x0 x0) then some (.flt .f32 x0) else (bif (icmp .eql (g34 x0) 2139095040) then some (.flt .f32 x0) else (bif (fcmp .eql .f32 x0 0) then some (.flt .f32 (g29 1)) else (bif (fcmp .gtr .f32 x0 0) then some (.flt .f32 (g29 (IntKind.i64.wrap ((g34 x0) + 1)))) else some (.flt .f32 (g29 (IntKind.i64.wrap ((g34 x0) - 1)))))))) else none) := by kernel_rfl
theorem run32 (x0 : Nat) (h : ok32 x0 = true) : runPure E32 4 32 [(.flt .f32 x0)] = some (r32 (g32 x0)) := (tree32 x0).trans ((chk_k (F := r32) (ite_k (F := r32) (leaf_ok (F := r32) (a := x0)) (ite_k (F := r32) (leaf_ok (F := r32) (a := x0)) (ite_k (F := r32) (leaf_ok (F := r32) (a := (g29 1))) (ite_k (F := r32) (leaf_ok (F := r32) (a := (g29 (IntKind.i64.wrap ((g34 x0) + 1))))) (leaf_ok (F := r32) (a := (g29 (IntKind.i64.wrap ((g34 x0) - 1)))))))))) h)
theorem summ32 : SummOK Try.prog 32 s32 := by
  refine ⟨pure_of_run orders names sok32 4 fun vs v h => ?_, Try.f32, by kernel_rfl, by kernel_rfl, by kernel_rfl⟩
  cases hc : c32 vs
  · rw [hc] at h; cases h
  rw [hc] at h
  simp only [cond_true] at h
  unfold v32 at h
  split at h
  · cases h; exact run32 _ hc
  · cases h

-- loop.example/g01253/impl.NextUp
def S17 : FuncId → Option Summ := fun f => match f with
  | 35 => some s35
  | 36 => some s36
  | 38 => some s38
  | _ => none
noncomputable def E17 : Env := ⟨Try.prog, S17, fun _ _ => [], 100⟩
theorem sok17 : SOK E17 := by
  intro f s h
  have h : S17 f = some s := h
  unfold S17 at h
  split at h
  · cases h; exact summ35
  · cases h; exact summ36
  · cases h; exact summ38
  · cases h
def r17 (p : Nat) : V := (.flt .f32 p)
def g17 (x0 : Nat) : Nat := (bif (g35 x0) then x0 else (bif (fcmp .gtr .f32 x0 2139095039) then x0 else (bif (fcmp .eql .f32 x0 0) then 1 else (bif (fcmp .lss .f32 x0 0) then (canon .f32 (Int.toNat (IntKind.u32.wrap ((bitsF x0) - 1)))) else (canon .f32 (Int.toNat (IntKind.u32.wrap ((bitsF x0) + 1))))))))
def ok17 (x0 : Nat) : Bool := (bitsC x0)
def v17 : List V → Option V
  | [(.flt .f32 x0)] => some (r17 (g17 x0))
  | _ => none
def c17 : List V → Bool
  | [(.flt .f32 x0)] => ok17 x0
  | _ => false
def s17 : Summ := .pureC c17 v17
set_option maxRecDepth 100000 in
theorem tree17 (x0 : Nat) : runPure E17 4 17 [(.flt .f32 x0)] = (bif bitsC x0 then (bif (g35 x0) then some (.flt .f32 x0) else (bif (fcmp .gtr .f32 x0 2139095039) then some (.flt .f32 x0) else (bif (fcmp .eql .f32 x0 0) then some (.flt .f32 1) else (bif (fcmp .lss .f32 x0 0) then some (.flt .f32 (canon .f32 (Int.toNat (IntKind.u32.wrap ((bitsF x0) - 1))))) else some (.flt .f32 (canon .f32 (Int.toNat (IntKind.u32.wrap ((bitsF x0) + 1))))))))) else none) := by kernel_rfl
theorem run17 (x0 : Nat) (h : ok17 x0 = true) : runPure E17 4 17 [(.flt .f32 x0)] = some (r17 (g17 x0)) := (tree17 x0).trans ((chk_k (F := r17) (ite_k (F := r17) (leaf_ok (F := r17) (a := x0)) (ite_k (F := r17) (leaf_ok (F := r17) (a := x0)) (ite_k (F := r17) (leaf_ok (F := r17) (a := 1)) (ite_k (F := r17) (leaf_ok (F := r17) (a := (canon .f32 (Int.toNat (IntKind.u32.wrap ((bitsF x0) - 1)))))) (leaf_ok (F := r17) (a := (canon .f32 (Int.toNat (IntKind.u32.wrap ((bitsF x0) + 1))))))))))) h)
theorem summ17 : SummOK Try.prog 17 s17 := by
  refine ⟨pure_of_run orders names sok17 4 fun vs v h => ?_, Try.f17, by kernel_rfl, by kernel_rfl, by kernel_rfl⟩
  cases hc : c17 vs
  · rw [hc] at h; cases h
  rw [hc] at h
  simp only [cond_true] at h
  unfold v17 at h
  split at h
  · cases h; exact run17 _ hc
  · cases h

-- loop.example/g01253/impl.NextDown
def S18 : FuncId → Option Summ := fun f => match f with
  | 17 => some s17
  | _ => none
noncomputable def E18 : Env := ⟨Try.prog, S18, fun _ _ => [], 100⟩
theorem sok18 : SOK E18 := by
  intro f s h
  have h : S18 f = some s := h
  unfold S18 at h
  split at h
  · cases h; exact summ17
  · cases h
def r18 (p : Nat) : V := (.flt .f32 p)
def g18 (x0 : Nat) : Nat := (fneg .f32 (g17 (fneg .f32 x0)))
def ok18 (x0 : Nat) : Bool := (ok17 (fneg .f32 x0))
def v18 : List V → Option V
  | [(.flt .f32 x0)] => some (r18 (g18 x0))
  | _ => none
def c18 : List V → Bool
  | [(.flt .f32 x0)] => ok18 x0
  | _ => false
def s18 : Summ := .pureC c18 v18
set_option maxRecDepth 100000 in
theorem tree18 (x0 : Nat) : runPure E18 4 18 [(.flt .f32 x0)] = (bif ok17 (fneg .f32 x0) then some (.flt .f32 (fneg .f32 (g17 (fneg .f32 x0)))) else none) := by kernel_rfl
theorem run18 (x0 : Nat) (h : ok18 x0 = true) : runPure E18 4 18 [(.flt .f32 x0)] = some (r18 (g18 x0)) := (tree18 x0).trans ((chk_k (F := r18) (leaf_ok (F := r18) (a := (fneg .f32 (g17 (fneg .f32 x0)))))) h)
theorem summ18 : SummOK Try.prog 18 s18 := by
  refine ⟨pure_of_run orders names sok18 4 fun vs v h => ?_, Try.f18, by kernel_rfl, by kernel_rfl, by kernel_rfl⟩
  cases hc : c18 vs
  · rw [hc] at h; cases h
  rw [hc] at h
  simp only [cond_true] at h
  unfold v18 at h
  split at h
  · cases h; exact run18 _ hc
  · cases h

-- (*loop.example/g01253/spec.l00Src).next
def S44 : FuncId → Option Summ := fun _ => none
noncomputable def E44 : Env := ⟨Try.prog, S44, fun _ _ => [], 100⟩
theorem sok44 : SOK E44 := fun _ _ h => by cases h
def r44 (es : List (List V)) (p : Int × Int × Int) : V × Cells := ((.int .i64 p.1), [(.sl 1 es), (.int .i64 p.2.1), (.int .u64 p.2.2)])
def g44 (es : List (List V)) (at_ : Int) (seed : Int) : Int × Int × Int := (bif (icmp .lss at_ (Int.ofNat (es).length)) then (bif (icmp .leq (IntKind.i64.wrap (at_ + 1)) (Int.ofNat (es).length)) then ((IntKind.i64.wrap (asI ((getAt ((getAt es (Int.toNat at_)).getD []) 0).getD .und))), (IntKind.i64.wrap (at_ + 1)), (IntKind.u64.wrap ((IntKind.u64.wrap ((IntKind.u64.wrap (seed * 6364136223846793005)) + (IntKind.u64.wrap (IntKind.i64.wrap (asI ((getAt ((getAt es (Int.toNat at_)).getD []) 0).getD .und)))))) + 1442695040888963407))) else ((IntKind.i64.wrap (ibits .and .u64 (Int.fdiv (IntKind.u64.wrap ((IntKind.u64.wrap ((IntKind.u64.wrap (seed * 6364136223846793005)) + (IntKind.u64.wrap (IntKind.i64.wrap (asI ((getAt ((getAt es (Int.toNat at_)).getD []) 0).getD .und)))))) + 1442695040888963407)) (2 ^ 40)) 255)), (IntKind.i64.wrap (at_ + 1)), (IntKind.u64.wrap ((IntKind.u64.wrap ((IntKind.u64.wrap (seed * 6364136223846793005)) + (IntKind.u64.wrap (IntKind.i64.wrap (asI ((getAt ((getAt es (Int.toNat at_)).getD []) 0).getD .und)))))) + 1442695040888963407)))) else (bif (icmp .leq (IntKind.i64.wrap (at_ + 1)) (Int.ofNat (es).length)) then (0, (IntKind.i64.wrap (at_ + 1)), (IntKind.u64.wrap ((IntKind.u64.wrap ((IntKind.u64.wrap (seed * 6364136223846793005)) + 0)) + 1442695040888963407))) else ((IntKind.i64.wrap (ibits .and .u64 (Int.fdiv (IntKind.u64.wrap ((IntKind.u64.wrap ((IntKind.u64.wrap (seed * 6364136223846793005)) + 0)) + 1442695040888963407)) (2 ^ 40)) 255)), (IntKind.i64.wrap (at_ + 1)), (IntKind.u64.wrap ((IntKind.u64.wrap ((IntKind.u64.wrap (seed * 6364136223846793005)) + 0)) + 1442695040888963407)))))
def ok44 (es : List (List V)) (at_ : Int) (seed : Int) : Bool := (bif (icmp .lss at_ (Int.ofNat (es).length)) then ((inB at_ (es).length) && ((getAt ((getAt es (Int.toNat at_)).getD []) 0).isSome && (isI .u8 ((getAt ((getAt es (Int.toNat at_)).getD []) 0).getD .und)))) else true)
def v44 (cs : Cells) (rest : List V) : Option (V × Cells) :=
  match cs, rest with
  | [(.sl 1 es), (.int .i64 at_), (.int .u64 seed)], [] => some (r44 es (g44 es at_ seed))
  | _, _ => none
def c44 (cs : Cells) (rest : List V) : Bool :=
  match cs, rest with
  | [(.sl 1 es), (.int .i64 at_), (.int .u64 seed)], [] => ok44 es at_ seed
  | _, _ => false
def s44 : Summ := .objC c44 v44
set_option maxRecDepth 100000 in
theorem tree44 (es : List (List V)) (at_ : Int) (seed : Int) : runObj E44 4 44 [(.sl 1 es), (.int .i64 at_), (.int .u64 seed)] [] = (bif (icmp .lss at_ (Int.ofNat (es).length)) then (bif inB at_ (es).length then (bif (getAt ((getAt es (Int.toNat at_)).getD []) 0).isSome && (isI .u8 ((getAt ((getAt es (Int.toNat at_)).getD []) 0).getD .und)) then (bif (icmp .leq (IntKind.i64.wrap (at_ + 1)) (Int.ofNat (es).length)) then some ((.int .i64 (IntKind.i64.wrap (asI ((getAt ((getAt es (Int.toNat at_)).getD []) 0).getD .und)))), [(.sl 1 es), (.int .i64 (IntKind.i64.wrap (at_ + 1))), (.int .u64 (IntKind.u64.wrap ((IntKind.u64.wrap ((IntKind.u64.wrap (seed * 6364136223846793005)) + (IntKind.u64.wrap (IntKind.i64.wrap (asI ((getAt ((getAt es (Int.toNat at_)).getD []) 0).getD .und)))))) + 1442695040888963407)))]) else some ((.int .i64 (IntKind.i64.wrap (ibits .and .u64 (Int.fdiv (IntKind.u64.wrap ((IntKind.u64.wrap ((IntKind.u64.wrap (seed * 6364136223846793005)) + (IntKind.u64.wrap (IntKind.i64.wrap (asI ((getAt ((getAt es (Int.toNat at_)).getD []) 0).getD .und)))))) + 1442695040888963407)) (2 ^ 40)) 255))), [(.sl 1 es), (.int .i64 (IntKind.i64.wrap (at_ + 1))), (.int .u64 (IntKind.u64.wrap ((IntKind.u64.wrap ((IntKind.u64.wrap (seed * 6364136223846793005)) + (IntKind.u64.wrap (IntKind.i64.wrap (asI ((getAt ((getAt es (Int.toNat at_)).getD []) 0).getD .und)))))) + 1442695040888963407)))])) else none) else none) else (bif (icmp .leq (IntKind.i64.wrap (at_ + 1)) (Int.ofNat (es).length)) then some ((.int .i64 0), [(.sl 1 es), (.int .i64 (IntKind.i64.wrap (at_ + 1))), (.int .u64 (IntKind.u64.wrap ((IntKind.u64.wrap ((IntKind.u64.wrap (seed * 6364136223846793005)) + 0)) + 1442695040888963407)))]) else some ((.int .i64 (IntKind.i64.wrap (ibits .and .u64 (Int.fdiv (IntKind.u64.wrap ((IntKind.u64.wrap ((IntKind.u64.wrap (seed * 6364136223846793005)) + 0)) + 1442695040888963407)) (2 ^ 40)) 255))), [(.sl 1 es), (.int .i64 (IntKind.i64.wrap (at_ + 1))), (.int .u64 (IntKind.u64.wrap ((IntKind.u64.wrap ((IntKind.u64.wrap (seed * 6364136223846793005)) + 0)) + 1442695040888963407)))]))) := by kernel_rfl
theorem run44 (es : List (List V)) (at_ : Int) (seed : Int) (h : ok44 es at_ seed = true) : runObj E44 4 44 [(.sl 1 es), (.int .i64 at_), (.int .u64 seed)] [] = some (r44 es (g44 es at_ seed)) := (tree44 es at_ seed).trans ((ite_ok (F := (r44 es)) (chk_ok (F := (r44 es)) (chk_k (F := (r44 es)) (ite_k (F := (r44 es)) (leaf_ok (F := (r44 es)) (a := ((IntKind.i64.wrap (asI ((getAt ((getAt es (Int.toNat at_)).getD []) 0).getD .und))), (IntKind.i64.wrap (at_ + 1)), (IntKind.u64.wrap ((IntKind.u64.wrap ((IntKind.u64.wrap (seed * 6364136223846793005)) + (IntKind.u64.wrap (IntKind.i64.wrap (asI ((getAt ((getAt es (Int.toNat at_)).getD []) 0).getD .und)))))) + 1442695040888963407))))) (leaf_ok (F := (r44 es)) (a := ((IntKind.i64.wrap (ibits .and .u64 (Int.fdiv (IntKind.u64.wrap ((IntKind.u64.wrap ((IntKind.u64.wrap (seed * 6364136223846793005)) + (IntKind.u64.wrap (IntKind.i64.wrap (asI ((getAt ((getAt es (Int.toNat at_)).getD []) 0).getD .und)))))) + 1442695040888963407)) (2 ^ 40)) 255)), (IntKind.i64.wrap (at_ + 1)), (IntKind.u64.wrap ((IntKind.u64.wrap ((IntKind.u64.wrap (seed * 6364136223846793005)) + (IntKind.u64.wrap (IntKind.i64.wrap (asI ((getAt ((getAt es (Int.toNat at_)).getD []) 0).getD .und)))))) + 1442695040888963407)))))))) (fun _ => (ite_k (F := (r44 es)) (leaf_ok (F := (r44 es)) (a := (0, (IntKind.i64.wrap (at_ + 1)), (IntKind.u64.wrap ((IntKind.u64.wrap ((IntKind.u64.wrap (seed * 6364136223846793005)) + 0)) + 1442695040888963407))))) (leaf_ok (F := (r44 es)) (a := ((IntKind.i64.wrap (ibits .and .u64 (Int.fdiv (IntKind.u64.wrap ((IntKind.u64.wrap ((IntKind.u64.wrap (seed * 6364136223846793005)) + 0)) + 1442695040888963407)) (2 ^ 40)) 255)), (IntKind.i64.wrap (at_ + 1)), (IntKind.u64.wrap ((IntKind.u64.wrap ((IntKind.u64.wrap (seed * 6364136223846793005)) + 0)) + 1442695040888963407)))))))) h)
theorem summ44 : SummOK Try.prog 44 s44 := by
  refine ⟨obj_of_run orders names sok44 4 fun cs rest r h => ?_, Try.f44, by kernel_rfl, by kernel_rfl, by kernel_rfl⟩
  cases hc : c44 cs rest
  · rw [hc] at h; cases h
  rw [hc] at h
  simp only [cond_true] at h
  unfold v44 at h
  split at h
  · cases h; exact run44 _ _ _ hc
  · cases h

-- (*loop.example/g01253/spec.l00Src).pick
def S28 : FuncId → Option Summ := fun f => match f with
  | 44 => some s44
  | _ => none
noncomputable def E28 : Env := ⟨Try.prog, S28, fun _ _ => [], 100⟩
theorem sok28 : SOK E28 := by
  intro f s h
  have h : S28 f = some s := h
  unfold S28 at h
  split at h
  · cases h; exact summ44
  · cases h
def r28 (es : List (List V)) (p : Int × Int × Int) : V × Cells := ((.int .i64 p.1), [(.sl 1 es), (.int .i64 p.2.1), (.int .u64 p.2.2)])
def g28 (es : List (List V)) (at_ : Int) (seed : Int) (x0 : Int) : Int × Int × Int := (bif (icmp .leq x0 1) then (0, at_, seed) else (bif (icmp .gtr x0 200) then ((Int.tmod (IntKind.i64.wrap ((IntKind.i64.wrap ((g44 es at_ seed).1 * 256)) + (g44 es (g44 es at_ seed).2.1 (g44 es at_ seed).2.2).1)) x0), (g44 es (g44 es at_ seed).2.1 (g44 es at_ seed).2.2).2.1, (g44 es (g44 es at_ seed).2.1 (g44 es at_ seed).2.2).2.2) else ((Int.tmod (g44 es at_ seed).1 x0), (g44 es at_ seed).2.1, (g44 es at_ seed).2.2)))
def ok28 (es : List (List V)) (at_ : Int) (seed : Int) (x0 : Int) : Bool := (bif (icmp .leq x0 1) then true else ((ok44 es at_ seed) && (bif (icmp .gtr x0 200) then ((ok44 es (g44 es at_ seed).2.1 (g44 es at_ seed).2.2) && (!(x0 == 0))) else (!(x0 == 0)))))
def v28 (cs : Cells) (rest : List V) : Option (V × Cells) :=
  match cs, rest with
  | [(.sl 1 es), (.int .i64 at_), (.int .u64 seed)], [(.int .i64 x0)] => some (r28 es (g28 es at_ seed x0))
  | _, _ => none
def c28 (cs : Cells) (rest : List V) : Bool :=
  match cs, rest with
  | [(.sl 1 es), (.int .i64 at_), (.int .u64 seed)], [(.int .i64 x0)] => ok28 es at_ seed x0
  | _, _ => false
def s28 : Summ := .objC c28 v28
set_option maxRecDepth 100000 in
theorem tree28 (es : List (List V)) (at_ : Int) (seed : Int) (x0 : Int) : runObj E28 4 28 [(.sl 1 es), (.int .i64 at_), (.int .u64 seed)] [(.int .i64 x0)] = (bif (icmp .leq x0 1) then some ((.int .i64 0), [(.sl 1 es), (.int .i64 at_), (.int .u64 seed)]) else (bif ok44 es at_ seed then (bif (icmp .gtr x0 200) then (bif ok44 es (g44 es at_ seed).2.1 (g44 es at_ seed).2.2 then (bif !(x0 == 0) then some ((.int .i64 (Int.tmod (IntKind.i64.wrap ((IntKind.i64.wrap ((g44 es at_ seed).1 * 256)) + (g44 es (g44 es at_ seed).2.1 (g44 es at_ seed).2.2).1)) x0)), [(.sl 1 es), (.int .i64 (g44 es (g44 es at_ seed).2.1 (g44 es at_ seed).2.2).2.1), (.int .u64 (g44 es (g44 es at_ seed).2.1 (g44 es at_ seed).2.2).2.2)]) else none) else none) else (bif !(x0 == 0) then some ((.int .i64 (Int.tmod (g44 es at_ seed).1 x0)), [(.sl 1 es), (.int .i64 (g44 es at_ seed).2.1), (.int .u64 (g44 es at_ seed).2.2)]) else none)) else none)) := by kernel_rfl
theorem run28 (es : List (List V)) (at_ : Int) (seed : Int) (x0 : Int) (h : ok28 es at_ seed x0 = true) : runObj E28 4 28 [(.sl 1 es), (.int .i64 at_), (.int .u64 seed)] [(.int .i64 x0)] = some (r28 es (g28 es at_ seed x0)) := (tree28 es at_ seed x0).trans ((ite_ok (F := (r28 es)) (fun _ => (leaf_ok (F := (r28 es)) (a := (0, at_, seed)))) (chk_ok (F := (r28 es)) (ite_ok (F := (r28 es)) (chk_ok (F := (r28 es)) (chk_k (F := (r28 es)) (leaf_ok (F := (r28 es)) (a := ((Int.tmod (IntKind.i64.wrap ((IntKind.i64.wrap ((g44 es at_ seed).1 * 256)) + (g44 es (g44 es at_ seed).2.1 (g44 es at_ seed).2.2).1)) x0), (g44 es (g44 es at_ seed).2.1 (g44 es at_ seed).2.2).2.1, (g44 es (g44 es at_ seed).2.1 (g44 es at_ seed).2.2).2.2))))) (chk_k (F := (r28 es)) (leaf_ok (F := (r28 es)) (a := ((Int.tmod (g44 es at_ seed).1 x0), (g44 es at_ seed).2.1, (g44 es at_ seed).2.2))))))) h)
theorem summ28 : SummOK Try.prog 28 s28 := by
  refine ⟨obj_of_run orders names sok28 4 fun cs rest r h => ?_, Try.f28, by kernel_rfl, by kernel_rfl, by kernel_rfl⟩
  cases hc : c28 cs rest
  · rw [hc] at h; cases h
  rw [hc] at h
  simp only [cond_true] at h
  unfold v28 at h
  split at h
  · cases h; exact run28 _ _ _ _ hc
  · cases h

-- (*loop.example/g01253/spec.l00Src).one
def S27 : FuncId → Option Summ := fun f => match f with
  | 28 => some s28
  | _ => none
noncomputable def E27 : Env := ⟨Try.prog, S27, fun _ _ => [], 100⟩
theorem sok27 : SOK E27 := by
  intro f s h
  have h : S27 f = some s := h
  unfold S27 at h
  split at h
  · cases h; exact summ28
  · cases h
def r27 (es : List (List V)) (p : Bool × Int × Int) : V × Cells := ((.bool p.1), [(.sl 1 es), (.int .i64 p.2.1), (.int .u64 p.2.2)])
def g27 (es : List (List V)) (at_ : Int) (seed : Int) (x0 : Int) : Bool × Int × Int := ((icmp .eql (g28 es at_ seed x0).1 0), (g28 es at_ seed x0).2.1, (g28 es at_ seed x0).2.2)
def ok27 (es : List (List V)) (at_ : Int) (seed : Int) (x0 : Int) : Bool := (ok28 es at_ seed x0)
def v27 (cs : Cells) (rest : List V) : Option (V × Cells) :=
  match cs, rest with
  | [(.sl 1 es), (.int .i64 at_), (.int .u64 seed)], [(.int .i64 x0)] => some (r27 es (g27 es at_ seed x0))
  | _, _ => none
def c27 (cs : Cells) (rest : List V) : Bool :=
  match cs, rest with
  | [(.sl 1 es), (.int .i64 at_), (.int .u64 seed)], [(.int .i64 x0)] => ok27 es at_ seed x0
  | _, _ => false
def s27 : Summ := .objC c27 v27
set_option maxRecDepth 100000 in
theorem tree27 (es : List (List V)) (at_ : Int) (seed : Int) (x0 : Int) : runObj E27 4 27 [(.sl 1 es), (.int .i64 at_), (.int .u64 seed)] [(.int .i64 x0)] = (bif ok28 es at_ seed x0 then some ((.bool (icmp .eql (g28 es at_ seed x0).1 0)), [(.sl 1 es), (.int .i64 (g28 es at_ seed x0).2.1), (.int .u64 (g28 es at_ seed x0).2.2)]) else none) := by kernel_rfl
theorem run27 (es : List (List V)) (at_ : Int) (seed : Int) (x0 : Int) (h : ok27 es at_ seed x0 = true) : runObj E27 4 27 [(.sl 1 es), (.int .i64 at_), (.int .u64 seed)] [(.int .i64 x0)] = some (r27 es (g27 es at_ seed x0)) := (tree27 es at_ seed x0).trans ((chk_k (F := (r27 es)) (leaf_ok (F := (r27 es)) (a := ((icmp .eql (g28 es at_ seed x0).1 0), (g28 es at_ seed x0).2.1, (g28 es at_ seed x0).2.2)))) h)
theorem summ27 : SummOK Try.prog 27 s27 := by
  refine ⟨obj_of_run orders names sok27 4 fun cs rest r h => ?_, Try.f27, by kernel_rfl, by kernel_rfl, by kernel_rfl⟩
  cases hc : c27 cs rest
  · rw [hc] at h; cases h
  rw [hc] at h
  simp only [cond_true] at h
  unfold v27 at h
  split at h
  · cases h; exact run27 _ _ _ _ hc
  · cases h

-- loop.example/g01253/spec.l01DrawPlain
def S45 : FuncId → Option Summ := fun f => match f with
  | 27 => some s27
  | 28 => some s28
  | _ => none
noncomputable def E45 : Env := ⟨Try.prog, S45, fun _ _ => [], 100⟩
theorem sok45 : SOK E45 := by
  intro f s h
  have h : S45 f = some s := h
  unfold S45 at h
  split at h
  · cases h; exact summ27
  · cases h; exact summ28
  · cases h
def r45 (es : List (List V)) (p : Nat × Int × Int) : V × Cells := ((.flt .f32 p.1), [(.sl 1 es), (.int .i64 p.2.1), (.int .u64 p.2.2)])
def g45 (es : List (List V)) (at_ : Int) (seed : Int) : Nat × Int × Int := (bif (g27 es (g28 es at_ seed 129).2.1 (g28 es at_ seed 129).2.2 4).1 then ((fop .quo .f32 (FloatKind.f32.nearest (IntKind.i64.wrap ((g28 es at_ seed 129).1 - 64))) 1088421888), (g27 es (g28 es at_ seed 129).2.1 (g28 es at_ seed 129).2.2 4).2.1, (g27 es (g28 es at_ seed 129).2.1 (g28 es at_ seed 129).2.2 4).2.2) else ((fop .quo .f32 (FloatKind.f32.nearest (IntKind.i64.wrap ((g28 es at_ seed 129).1 - 64))) 1098907648), (g27 es (g28 es at_ seed 129).2.1 (g28 es at_ seed 129).2.2 4).2.1, (g27 es (g28 es at_ seed 129).2.1 (g28 es at_ seed 129).2.2 4).2.2))
def ok45 (es : List (List V)) (at_ : Int) (seed : Int) : Bool := ((ok28 es at_ seed 129) && (ok27 es (g28 es at_ seed 129).2.1 (g28 es at_ seed 129).2.2 4))
def v45 (cs : Cells) (rest : List V) : Option (V × Cells) :=
  match cs, rest with
  | [(.sl 1 es), (.int .i64 at_), (.int .u64 seed)], [] => some (r45 es (g45 es at_ seed))
  | _, _ => none
def c45 (cs : Cells) (rest : List V) : Bool :=
  match cs, rest with
  | [(.sl 1 es), (.int .i64 at_), (.int .u64 seed)], [] => ok45 es at_ seed
  | _, _ => false
def s45 : Summ := .objC c45 v45
set_option maxRecDepth 100000 in
theorem tree45 (es : List (List V)) (at_ : Int) (seed : Int) : runObj E45 4 45 [(.sl 1 es), (.int .i64 at_), (.int .u64 seed)] [] = (bif ok28 es at_ seed 129 then (bif ok27 es (g28 es at_ seed 129).2.1 (g28 es at_ seed 129).2.2 4 then (bif (g27 es (g28 es at_ seed 129).2.1 (g28 es at_ seed 129).2.2 4).1 then some ((.flt .f32 (fop .quo .f32 (FloatKind.f32.nearest (IntKind.i64.wrap ((g28 es at_ seed 129).1 - 64))) 1088421888)), [(.sl 1 es), (.int .i64 (g27 es (g28 es at_ seed 129).2.1 (g28 es at_ seed 129).2.2 4).2.1), (.int .u64 (g27 es (g28 es at_ seed 129).2.1 (g28 es at_ seed 129).2.2 4).2.2)]) else some ((.flt .f32 (fop .quo .f32 (FloatKind.f32.nearest (IntKind.i64.wrap ((g28 es at_ seed 129).1 - 64))) 1098907648)), [(.sl 1 es), (.int .i64 (g27 es (g28 es at_ seed 129).2.1 (g28 es at_ seed 129).2.2 4).2.1), (.int .u64 (g27 es (g28 es at_ seed 129).2.1 (g28 es at_ seed 129).2.2 4).2.2)])) else none) else none) := by kernel_rfl
theorem run45 (es : List (List V)) (at_ : Int) (seed : Int) (h : ok45 es at_ seed = true) : runObj E45 4 45 [(.sl 1 es), (.int .i64 at_), (.int .u64 seed)] [] = some (r45 es (g45 es at_ seed)) := (tree45 es at_ seed).trans ((chk_ok (F := (r45 es)) (chk_k (F := (r45 es)) (ite_k (F := (r45 es)) (leaf_ok (F := (r45 es)) (a := ((fop .quo .f32 (FloatKind.f32.nearest (IntKind.i64.wrap ((g28 es at_ seed 129).1 - 64))) 1088421888), (g27 es (g28 es at_ seed 129).2.1 (g28 es at_ seed 129).2.2 4).2.1, (g27 es (g28 es at_ seed 129).2.1 (g28 es at_ seed 129).2.2 4).2.2))) (leaf_ok (F := (r45 es)) (a := ((fop .quo .f32 (FloatKind.f32.nearest (IntKind.i64.wrap ((g28 es at_ seed 129).1 - 64))) 1098907648), (g27 es (g28 es at_ seed 129).2.1 (g28 es at_ seed 129).2.2 4).2.1, (g27 es (g28 es at_ seed 129).2.1 (g28 es at_ seed 129).2.2 4).2.2)))))) h)
theorem summ45 : SummOK Try.prog 45 s45 := by
  refine ⟨obj_of_run orders names sok45 4 fun cs rest r h => ?_, Try.f45, by kernel_rfl, by kernel_rfl, by kernel_rfl⟩
  cases hc : c45 cs rest
  · rw [hc] at h; cases h
  rw [hc] at h
  simp only [cond_true] at h
  unfold v45 at h
  split at h
  · cases h; exact run45 _ _ _ hc
  · cases h

-- loop.example/g01253/spec.l01DrawFloat
def S30 : FuncId → Option Summ := fun f => match f with
  | 27 => some s27
  | 28 => some s28
  | 29 => some s29
  | 45 => some s45
  | _ => none
noncomputable def E30 : Env := ⟨Try.prog, S30, fun _ _ => [], 100⟩
theorem sok30 : SOK E30 := by
  intro f s h
  have h : S30 f = some s := h
  unfold S30 at h
  split at h
  · cases h; exact summ27
  · cases h; exact summ28
  · cases h; exact summ29
  · cases h; exact summ45
  · cases h
def r30 (es : List (List V)) (p : Nat × Int × Int) : V × Cells := ((.flt .f32 p.1), [(.sl 1 es), (.int .i64 p.2.1), (.int .u64 p.2.2)])
def g30 (es : List (List V)) (at_ : Int) (seed : Int) : Nat × Int × Int := (bif (!(g27 es at_ seed 12).1) then ((g45 es (g27 es at_ seed 12).2.1 (g27 es at_ seed 12).2.2).1, (g45 es (g27 es at_ seed 12).2.1 (g27 es at_ seed 12).2.2).2.1, (g45 es (g27 es at_ seed 12).2.1 (g27 es at_ seed 12).2.2).2.2) else (bif (icmp .eql (g28 es (g27 es at_ seed 12).2.1 (g27 es at_ seed 12).2.2 4).1 0) then ((g29 (asI ((getAt ([(.int .i64 0), (.int .i64 2147483648), (.int .i64 2139095040), (.int .i64 4286578688), (.int .i64 2143289344), (.int .i64 1), (.int .i64 2139095039), (.int .i64 8388608), (.int .i64 8388607), (.int .i64 2147483649)] : List V) (0 + Int.toNat (g28 es (g28 es (g27 es at_ seed 12).2.1 (g27 es at_ seed 12).2.2 4).2.1 (g28 es (g27 es at_ seed 12).2.1 (g27 es at_ seed 12).2.2 4).2.2 10).1 * 1)).getD .und))), (g28 es (g28 es (g27 es at_ seed 12).2.1 (g27 es at_ seed 12).2.2 4).2.1 (g28 es (g27 es at_ seed 12).2.1 (g27 es at_ seed 12).2.2 4).2.2 10).2.1, (g28 es (g28 es (g27 es at_ seed 12).2.1 (g27 es at_ seed 12).2.2 4).2.1 (g28 es (g27 es at_ seed 12).2.1 (g27 es at_ seed 12).2.2 4).2.2 10).2.2) else (bif (icmp .eql (g28 es (g27 es at_ seed 12).2.1 (g27 es at_ seed 12).2.2 4).1 1) then ((g29 (IntKind.i64.wrap ((IntKind.i64.wrap ((g28 es (g28 es (g27 es at_ seed 12).2.1 (g27 es at_ seed 12).2.2 4).2.1 (g28 es (g27 es at_ seed 12).2.1 (g27 es at_ seed 12).2.2 4).2.2 65536).1 * 65536)) + (g28 es (g28 es (g28 es (g27 es at_ seed 12).2.1 (g27 es at_ seed 12).2.2 4).2.1 (g28 es (g27 es at_ seed 12).2.1 (g27 es at_ seed 12).2.2 4).2.2 65536).2.1 (g28 es (g28 es (g27 es at_ seed 12).2.1 (g27 es at_ seed 12).2.2 4).2.1 (g28 es (g27 es at_ seed 12).2.1 (g27 es at_ seed 12).2.2 4).2.2 65536).2.2 65536).1))), (g28 es (g28 es (g28 es (g27 es at_ seed 12).2.1 (g27 es at_ seed 12).2.2 4).2.1 (g28 es (g27 es at_ seed 12).2.1 (g27 es at_ seed 12).2.2 4).2.2 65536).2.1 (g28 es (g28 es (g27 es at_ seed 12).2.1 (g27 es at_ seed 12).2.2 4).2.1 (g28 es (g27 es at_ seed 12).2.1 (g27 es at_ seed 12).2.2 4).2.2 65536).2.2 65536).2.1, (g28 es (g28 es (g28 es (g27 es at_ seed 12).2.1 (g27 es at_ seed 12).2.2 4).2.1 (g28 es (g27 es at_ seed 12).2.1 (g27 es at_ seed 12).2.2 4).2.2 65536).2.1 (g28 es (g28 es (g27 es at_ seed 12).2.1 (g27 es at_ seed 12).2.2 4).2.1 (g28 es (g27 es at_ seed 12).2.1 (g27 es at_ seed 12).2.2 4).2.2 65536).2.2 65536).2.2) else (bif (icmp .eql (g28 es (g27 es at_ seed 12).2.1 (g27 es at_ seed 12).2.2 4).1 2) then ((g29 (IntKind.i64.wrap ((g28 es (g28 es (g27 es at_ seed 12).2.1 (g27 es at_ seed 12).2.2 4).2.1 (g28 es (g27 es at_ seed 12).2.1 (g27 es at_ seed 12).2.2 4).2.2 65536).1 * 65536))), (g28 es (g28 es (g27 es at_ seed 12).2.1 (g27 es at_ seed 12).2.2 4).2.1 (g28 es (g27 es at_ seed 12).2.1 (g27 es at_ seed 12).2.2 4).2.2 65536).2.1, (g28 es (g28 es (g27 es at_ seed 12).2.1 (g27 es at_ seed 12).2.2 4).2.1 (g28 es (g27 es at_ seed 12).2.1 (g27 es at_ seed 12).2.2 4).2.2 65536).2.2) else ((fop .mul .f32 (g45 es (g28 es (g27 es at_ seed 12).2.1 (g27 es at_ seed 12).2.2 4).2.1 (g28 es (g27 es at_ seed 12).2.1 (g27 es at_ seed 12).2.2 4).2.2).1 (g29 (asI ((getAt ([(.int .i64 8388608), (.int .i64 2130706432), (.int .i64 1610612736), (.int .i64 536870912)] : List V) (0 + Int.toNat (g28 es (g45 es (g28 es (g27 es at_ seed 12).2.1 (g27 es at_ seed 12).2.2 4).2.1 (g28 es (g27 es at_ seed 12).2.1 (g27 es at_ seed 12).2.2 4).2.2).2.1 (g45 es (g28 es (g27 es at_ seed 12).2.1 (g27 es at_ seed 12).2.2 4).2.1 (g28 es (g27 es at_ seed 12).2.1 (g27 es at_ seed 12).2.2 4).2.2).2.2 4).1 * 1)).getD .und)))), (g28 es (g45 es (g28 es (g27 es at_ seed 12).2.1 (g27 es at_ seed 12).2.2 4).2.1 (g28 es (g27 es at_ seed 12).2.1 (g27 es at_ seed 12).2.2 4).2.2).2.1 (g45 es (g28 es (g27 es at_ seed 12).2.1 (g27 es at_ seed 12).2.2 4).2.1 (g28 es (g27 es at_ seed 12).2.1 (g27 es at_ seed 12).2.2 4).2.2).2.2 4).2.1, (g28 es (g45 es (g28 es (g27 es at_ seed 12).2.1 (g27 es at_ seed 12).2.2 4).2.1 (g28 es (g27 es at_ seed 12).2.1 (g27 es at_ seed 12).2.2 4).2.2).2.1 (g45 es (g28 es (g27 es at_ seed 12).2.1 (g27 es at_ seed 12).2.2 4).2.1 (g28 es (g27 es at_ seed 12).2.1 (g27 es at_ seed 12).2.2 4).2.2).2.2 4).2.2)))))
def ok30 (es : List (List V)) (at_ : Int) (seed : Int) : Bool := ((ok27 es at_ seed 12) && (bif (!(g27 es at_ seed 12).1) then (ok45 es (g27 es at_ seed 12).2.1 (g27 es at_ seed 12).2.2) else ((ok28 es (g27 es at_ seed 12).2.1 (g27 es at_ seed 12).2.2 4) && (bif (icmp .eql (g28 es (g27 es at_ seed 12).2.1 (g27 es at_ seed 12).2.2 4).1 0) then ((ok28 es (g28 es (g27 es at_ seed 12).2.1 (g27 es at_ seed 12).2.2 4).2.1 (g28 es (g27 es at_ seed 12).2.1 (g27 es at_ seed 12).2.2 4).2.2 10) && ((inB (g28 es (g28 es (g27 es at_ seed 12).2.1 (g27 es at_ seed 12).2.2 4).2.1 (g28 es (g27 es at_ seed 12).2.1 (g27 es at_ seed 12).2.2 4).2.2 10).1 10) && ((getAt ([(.int .i64 0), (.int .i64 2147483648), (.int .i64 2139095040), (.int .i64 4286578688), (.int .i64 2143289344), (.int .i64 1), (.int .i64 2139095039), (.int .i64 8388608), (.int .i64 8388607), (.int .i64 2147483649)] : List V) (0 + Int.toNat (g28 es (g28 es (g27 es at_ seed 12).2.1 (g27 es at_ seed 12).2.2 4).2.1 (g28 es (g27 es at_ seed 12).2.1 (g27 es at_ seed 12).2.2 4).2.2 10).1 * 1)).isSome && (isI .i64 ((getAt ([(.int .i64 0), (.int .i64 2147483648), (.int .i64 2139095040), (.int .i64 4286578688), (.int .i64 2143289344), (.int .i64 1), (.int .i64 2139095039), (.int .i64 8388608), (.int .i64 8388607), (.int .i64 2147483649)] : List V) (0 + Int.toNat (g28 es (g28 es (g27 es at_ seed 12).2.1 (g27 es at_ seed 12).2.2 4).2.1 (g28 es (g27 es at_ seed 12).2.1 (g27 es at_ seed 12).2.2 4).2.2 10).1 * 1)).getD .und))))) else (bif (icmp .eql (g28 es (g27 es at_ seed 12).2.1 (g27 es at_ seed 12).2.2 4).1 1) then ((ok28 es (g28 es (g27 es at_ seed 12).2.1 (g27 es at_ seed 12).2.2 4).2.1 (g28 es (g27 es at_ seed 12).2.1 (g27 es at_ seed 12).2.2 4).2.2 65536) && (ok28 es (g28 es (g28 es (g27 es at_ seed 12).2.1 (g27 es at_ seed 12).2.2 4).2.1 (g28 es (g27 es at_ seed 12).2.1 (g27 es at_ seed 12).2.2 4).2.2 65536).2.1 (g28 es (g28 es (g27 es at_ seed 12).2.1 (g27 es at_ seed 12).2.2 4).2.1 (g28 es (g27 es at_ seed 12).2.1 (g27 es at_ seed 12).2.2 4).2.2 65536).2.2 65536)) else (bif (icmp .eql (g28 es (g27 es at_ seed 12).2.1 (g27 es at_ seed 12).2.2 4).1 2) then (ok28 es (g28 es (g27 es at_ seed 12).2.1 (g27 es at_ seed 12).2.2 4).2.1 (g28 es (g27 es at_ seed 12).2.1 (g27 es at_ seed 12).2.2 4).2.2 65536) else ((ok45 es (g28 es (g27 es at_ seed 12).2.1 (g27 es at_ seed 12).2.2 4).2.1 (g28 es (g27 es at_ seed 12).2.1 (g27 es at_ seed 12).2.2 4).2.2) && ((ok28 es (g45 es (g28 es (g27 es at_ seed 12).2.1 (g27 es at_ seed 12).2.2 4).2.1 (g28 es (g27 es at_ seed 12).2.1 (g27 es at_ seed 12).2.2 4).2.2).2.1 (g45 es (g28 es (g27 es at_ seed 12).2.1 (g27 es at_ seed 12).2.2 4).2.1 (g28 es (g27 es at_ seed 12).2.1 (g27 es at_ seed 12).2.2 4).2.2).2.2 4) && ((inB (g28 es (g45 es (g28 es (g27 es at_ seed 12).2.1 (g27 es at_ seed 12).2.2 4).2.1 (g28 es (g27 es at_ seed 12).2.1 (g27 es at_ seed 12).2.2 4).2.2).2.1 (g45 es (g28 es (g27 es at_ seed 12).2.1 (g27 es at_ seed 12).2.2 4).2.1 (g28 es (g27 es at_ seed 12).2.1 (g27 es at_ seed 12).2.2 4).2.2).2.2 4).1 4) && ((getAt ([(.int .i64 8388608), (.int .i64 2130706432), (.int .i64 1610612736), (.int .i64 536870912)] : List V) (0 + Int.toNat (g28 es (g45 es (g28 es (g27 es at_ seed 12).2.1 (g27 es at_ seed 12).2.2 4).2.1 (g28 es (g27 es at_ seed 12).2.1 (g27 es at_ seed 12).2.2 4).2.2).2.1 (g45 es (g28 es (g27 es at_ seed 12).2.1 (g27 es at_ seed 12).2.2 4).2.1 (g28 es (g27 es at_ seed 12).2.1 (g27 es at_ seed 12).2.2 4).2.2).2.2 4).1 * 1)).isSome && (isI .i64 ((getAt ([(.int .i64 8388608), (.int .i64 2130706432), (.int .i64 1610612736), (.int .i64 536870912)] : List V) (0 + Int.toNat (g28 es (g45 es (g28 es (g27 es at_ seed 12).2.1 (g27 es at_ seed 12).2.2 4).2.1 (g28 es (g27 es at_ seed 12).2.1 (g27 es at_ seed 12).2.2 4).2.2).2.1 (g45 es (g28 es (g27 es at_ seed 12).2.1 (g27 es at_ seed 12).2.2 4).2.1 (g28 es (g27 es at_ seed 12).2.1 (g27 es at_ seed 12).2.2 4).2.2).2.2 4).1 * 1)).getD .und))))))))))))
def v30 (cs : Cells) (rest : List V) : Option (V × Cells) :=
  match cs, rest with
  | [(.sl 1 es), (.int .i64 at_), (.int .u64 seed)], [] => some (r30 es (g30 es at_ seed))
  | _, _ => none
def c30 (cs : Cells) (rest : List V) : Bool :=
  match cs, rest with
  | [(.sl 1 es), (.int .i64 at_), (.int .u64 seed)], [] => ok30 es at_ seed
  | _, _ => false
def s30 : Summ := .objC c30 v30
set_option maxRecDepth 100000 in
theorem tree30 (es : List (List V)) (at_ : Int) (seed : Int) : runObj E30 4 30 [(.sl 1 es), (.int .i64 at_), (.int .u64 seed)] [] = (bif ok27 es at_ seed 12 then (bif (!(g27 es at_ seed 12).1) then (bif ok45 es (g27 es at_ seed 12).2.1 (g27 es at_ seed 12).2.2 then some ((.flt .f32 (g45 es (g27 es at_ seed 12).2.1 (g27 es at_ seed 12).2.2).1), [(.sl 1 es), (.int .i64 (g45 es (g27 es at_ seed 12).2.1 (g27 es at_ seed 12).2.2).2.1), (.int .u64 (g45 es (g27 es at_ seed 12).2.1 (g27 es at_ seed 12).2.2).2.2)]) else none) else (bif ok28 es (g27 es at_ seed 12).2.1 (g27 es at_ seed 12).2.2 4 then (bif (icmp .eql (g28 es (g27 es at_ seed 12).2.1 (g27 es at_ seed 12).2.2 4).1 0) then (bif ok28 es (g28 es (g27 es at_ seed 12).2.1 (g27 es at_ seed 12).2.2 4).2.1 (g28 es (g27 es at_ seed 12).2.1 (g27 es at_ seed 12).2.2 4).2.2 10 then (bif inB (g28 es (g28 es (g27 es at_ seed 12).2.1 (g27 es at_ seed 12).2.2 4).2.1 (g28 es (g27 es at_ seed 12).2.1 (g27 es at_ seed 12).2.2 4).2.2 10).1 10 then (bif (getAt ([(.int .i64 0), (.int .i64 2147483648), (.int .i64 2139095040), (.int .i64 4286578688), (.int .i64 2143289344), (.int .i64 1), (.int .i64 2139095039), (.int .i64 8388608), (.int .i64 8388607), (.int .i64 2147483649)] : List V) (0 + Int.toNat (g28 es (g28 es (g27 es at_ seed 12).2.1 (g27 es at_ seed 12).2.2 4).2.1 (g28 es (g27 es at_ seed 12).2.1 (g27 es at_ seed 12).2.2 4).2.2 10).1 * 1)).isSome && (isI .i64 ((getAt ([(.int .i64 0), (.int .i64 2147483648), (.int .i64 2139095040), (.int .i64 4286578688), (.int .i64 2143289344), (.int .i64 1), (.int .i64 2139095039), (.int .i64 8388608), (.int .i64 8388607), (.int .i64 2147483649)] : List V) (0 + Int.toNat (g28 es (g28 es (g27 es at_ seed 12).2.1 (g27 es at_ seed 12).2.2 4).2.1 (g28 es (g27 es at_ seed 12).2.1 (g27 es at_ seed 12).2.2 4).2.2 10).1 * 1)).getD .und)) then some ((.flt .f32 (g29 (asI ((getAt ([(.int .i64 0), (.int .i64 2147483648), (.int .i64 2139095040), (.int .i64 4286578688), (.int .i64 2143289344), (.int .i64 1), (.int .i64 2139095039), (.int .i64 8388608), (.int .i64 8388607), (.int .i64 2147483649)] : List V) (0 + Int.toNat (g28 es (g28 es (g27 es at_ seed 12).2.1 (g27 es at_ seed 12).2.2 4).2.1 (g28 es (g27 es at_ seed 12).2.1 (g27 es at_ seed 12).2.2 4).2.2 10).1 * 1)).getD .und)))), [(.sl 1 es), (.int .i64 (g28 es (g28 es (g27 es at_ seed 12).2.1 (g27 es at_ seed 12).2.2 4).2.1 (g28 es (g27 es at_ seed 12).2.1 (g27 es at_ seed 12).2.2 4).2.2 10).2.1), (.int .u64 (g28 es (g28 es (g27 es at_ seed 12).2.1 (g27 es at_ seed 12).2.2 4).2.1 (g28 es (g27 es at_ seed 12).2.1 (g27 es at_ seed 12).2.2 4).2.2 10).2.2)]) else none) else none) else none) else (bif (icmp .eql (g28 es (g27 es at_ seed 12).2.1 (g27 es at_ seed 12).2.2 4).1 1) then (bif ok28 es (g28 es (g27 es at_ seed 12).2.1 (g27 es at_ seed 12).2.2 4).2.1 (g28 es (g27 es at_ seed 12).2.1 (g27 es at_ seed 12).2.2 4).2.2 65536 then (bif ok28 es (g28 es (g28 es (g27 es at_ seed 12).2.1 (g27 es at_ seed 12).2.2 4).2.1 (g28 es (g27 es at_ seed 12).2.1 (g27 es at_ seed 12).2.2 4).2.2 65536).2.1 (g28 es (g28 es (g27 es at_ seed 12).2.1 (g27 es at_ seed 12).2.2 4).2.1 (g28 es (g27 es at_ seed 12).2.1 (g27 es at_ seed 12).2.2 4).2.2 65536).2.2 65536 then some ((.flt .f32 (g29 (IntKind.i64.wrap ((IntKind.i64.wrap ((g28 es (g28 es (g27 es at_ seed 12).2.1 (g27 es at_ seed 12).2.2 4).2.1 (g28 es (g27 es at_ seed 12).2.1 (g27 es at_ seed 12).2.2 4).2.2 65536).1 * 65536)) + (g28 es (g28 es (g28 es (g27 es at_ seed 12).2.1 (g27 es at_ seed 12).2.2 4).2.1 (g28 es (g27 es at_ seed 12).2.1 (g27 es at_ seed 12).2.2 4).2.2 65536).2.1 (g28 es (g28 es (g27 es at_ seed 12).2.1 (g27 es at_ seed 12).2.2 4).2.1 (g28 es (g27 es at_ seed 12).2.1 (g27 es at_ seed 12).2.2 4).2.2 65536).2.2 65536).1)))), [(.sl 1 es), (.int .i64 (g28 es (g28 es (g28 es (g27 es at_ seed 12).2.1 (g27 es at_ seed 12).2.2 4).2.1 (g28 es (g27 es at_ seed 12).2.1 (g27 es at_ seed 12).2.2 4).2.2 65536).2.1 (g28 es (g28 es (g27 es at_ seed 12).2.1 (g27 es at_ seed 12).2.2 4).2.1 (g28 es (g27 es at_ seed 12).2.1 (g27 es at_ seed 12).2.2 4).2.2 65536).2.2 65536).2.1), (.int .u64 (g28 es (g28 es (g28 es (g27 es at_ seed 12).2.1 (g27 es at_ seed 12).2.2 4).2.1 (g28 es (g27 es at_ seed 12).2.1 (g27 es at_ seed 12).2.2 4).2.2 65536).2.1 (g28 es (g28 es (g27 es at_ seed 12).2.1 (g27 es at_ seed 12).2.2 4).2.1 (g28 es (g27 es at_ seed 12).2.1 (g27 es at_ seed 12).2.2 4).2.2 65536).2.2 65536).2.2)]) else none) else none) else (bif (icmp .eql (g28 es (g27 es at_ seed 12).2.1 (g27 es at_ seed 12).2.2 4).1 2) then (bif ok28 es (g28 es (g27 es at_ seed 12).2.1 (g27 es at_ seed 12).2.2 4).2.1 (g28 es (g27 es at_ seed 12).2.1 (g27 es at_ seed 12).2.2 4).2.2 65536 then some ((.flt .f32 (g29 (IntKind.i64.wrap ((g28 es (g28 es (g27 es at_ seed 12).2.1 (g27 es at_ seed 12).2.2 4).2.1 (g28 es (g27 es at_ seed 12).2.1 (g27 es at_ seed 12).2.2 4).2.2 65536).1 * 65536)))), [(.sl 1 es), (.int .i64 (g28 es (g28 es (g27 es at_ seed 12).2.1 (g27 es at_ seed 12).2.2 4).2.1 (g28 es (g27 es at_ seed 12).2.1 (g27 es at_ seed 12).2.2 4).2.2 65536).2.1), (.int .u64 (g28 es (g28 es (g27 es at_ seed 12).2.1 (g27 es at_ seed 12).2.2 4).2.1 (g28 es (g27 es at_ seed 12).2.1 (g27 es at_ seed 12).2.2 4).2.2 65536).2.2)]) else none) else (bif ok45 es (g28 es (g27 es at_ seed 12).2.1 (g27 es at_ seed 12).2.2 4).2.1 (g28 es (g27 es at_ seed 12).2.1 (g27 es at_ seed 12).2.2 4).2.2 then (bif ok28 es (g45 es (g28 es (g27 es at_ seed 12).2.1 (g27 es at_ seed 12).2.2 4).2.1 (g28 es (g27 es at_ seed 12).2.1 (g27 es at_ seed 12).2.2 4).2.2).2.1 (g45 es (g28 es (g27 es at_ seed 12).2.1 (g27 es at_ seed 12).2.2 4).2.1 (g28 es (g27 es at_ seed 12).2.1 (g27 es at_ seed 12).2.2 4).2.2).2.2 4 then (bif inB (g28 es (g45 es (g28 es (g27 es at_ seed 12).2.1 (g27 es at_ seed 12).2.2 4).2.1 (g28 es (g27 es at_ seed 12).2.1 (g27 es at_ seed 12).2.2 4).2.2).2.1 (g45 es (g28 es (g27 es at_ seed 12).2.1 (g27 es at_ seed 12).2.2 4).2.1 (g28 es (g27 es at_ seed 12).2.1 (g27 es at_ seed 12).2.2 4).2.2).2.2 4).1 4 then (bif (getAt ([(.int .i64 8388608), (.int .i64 2130706432), (.int .i64 1610612736), (.int .i64 536870912)] : List V) (0 + Int.toNat (g28 es (g45 es (g28 es (g27 es at_ seed 12).2.1 (g27 es at_ seed 12).2.2 4).2.1 (g28 es (g27 es at_ seed 12).2.1 (g27 es at_ seed 12).2.2 4).2.2).2.1 (g45 es (g28 es (g27 es at_ seed 12).2.1 (g27 es at_ seed 12).2.2 4).2.1 (g28 es (g27 es at_ seed 12).2.1 (g27 es at_ seed 12).2.2 4).2.2).2.2 4).1 * 1)).isSome && (isI .i64 ((getAt ([(.int .i64 8388608), (.int .i64 2130706432), (.int .i64 1610612736), (.int .i64 536870912)] : List V) (0 + Int.toNat (g28 es (g45 es (g28 es (g27 es at_ seed 12).2.1 (g27 es at_ seed 12).2.2 4).2.1 (g28 es (g27 es at_ seed 12).2.1 (g27 es at_ seed 12).2.2 4).2.2).2.1 (g45 es (g28 es (g27 es at_ seed 12).2.1 (g27 es at_ seed 12).2.2 4).2.1 (g28 es (g27 es at_ seed 12).2.1 (g27 es at_ seed 12).2.2 4).2.2).2.2 4).1 * 1)).getD .und)) then some ((.flt .f32 (fop .mul .f32 (g45 es (g28 es (g27 es at_ seed 12).2.1 (g27 es at_ seed 12).2.2 4).2.1 (g28 es (g27 es at_ seed 12).2.1 (g27 es at_ seed 12).2.2 4).2.2).1 (g29 (asI ((getAt ([(.int .i64 8388608), (.int .i64 2130706432), (.int .i64 1610612736), (.int .i64 536870912)] : List V) (0 + Int.toNat (g28 es (g45 es (g28 es (g27 es at_ seed 12).2.1 (g27 es at_ seed 12).2.2 4).2.1 (g28 es (g27 es at_ seed 12).2.1 (g27 es at_ seed 12).2.2 4).2.2).2.1 (g45 es (g28 es (g27 es at_ seed 12).2.1 (g27 es at_ seed 12).2.2 4).2.1 (g28 es (g27 es at_ seed 12).2.1 (g27 es at_ seed 12).2.2 4).2.2).2.2 4).1 * 1)).getD .und))))), [(.sl 1 es), (.int .i64 (g28 es (g45 es (g28 es (g27 es at_ seed 12).2.1 (g27 es at_ seed 12).2.2 4).2.1 (g28 es (g27 es at_ seed 12).2.1 (g27 es at_ seed 12).2.2 4).2.2).2.1 (g45 es (g28 es (g27 es at_ seed 12).2.1 (g27 es at_ seed 12).2.2 4).2.1 (g28 es (g27 es at_ seed 12).2.1 (g27 es at_ seed 12).2.2 4).2.2).2.2 4).2.1), (.int .u64 (g28 es (g45 es (g28 es (g27 es at_ seed 12).2.1 (g27 es at_ seed 12).2.2 4).2.1 (g28 es (g27 es at_ seed 12).2.1 (g27 es at_ seed 12).2.2 4).2.2).2.1 (g45 es (g28 es (g27 es at_ seed 12).2.1 (g27 es at_ seed 12).2.2 4).2.1 (g28 es (g27 es at_ seed 12).2.1 (g27 es at_ seed 12).2.2 4).2.2).2.2 4).2.2)]) else none) else none) else none) else none)))) else none)) else none) := by kernel_rfl
theorem run30 (es : List (List V)) (at_ : Int) (seed : Int) (h : ok30 es at_ seed = true) : runObj E30 4 30 [(.sl 1 es), (.int .i64 at_), (.int .u64 seed)] [] = some (r30 es (g30 es at_ seed)) := (tree30 es at_ seed).trans ((chk_ok (F := (r30 es)) (ite_ok (F := (r30 es)) (chk_k (F := (r30 es)) (leaf_ok (F := (r30 es)) (a := ((g45 es (g27 es at_ seed 12).2.1 (g27 es at_ seed 12).2.2).1, (g45 es (g27 es at_ seed 12).2.1 (g27 es at_ seed 12).2.2).2.1, (g45 es (g27 es at_ seed 12).2.1 (g27 es at_ seed 12).2.2).2.2)))) (chk_ok (F := (r30 es)) (ite_ok (F := (r30 es)) (chk_ok (F := (r30 es)) (chk_ok (F := (r30 es)) (chk_k (F := (r30 es)) (leaf_ok (F := (r30 es)) (a := ((g29 (asI ((getAt ([(.int .i64 0), (.int .i64 2147483648), (.int .i64 2139095040), (.int .i64 4286578688), (.int .i64 2143289344), (.int .i64 1), (.int .i64 2139095039), (.int .i64 8388608), (.int .i64 8388607), (.int .i64 2147483649)] : List V) (0 + Int.toNat (g28 es (g28 es (g27 es at_ seed 12).2.1 (g27 es at_ seed 12).2.2 4).2.1 (g28 es (g27 es at_ seed 12).2.1 (g27 es at_ seed 12).2.2 4).2.2 10).1 * 1)).getD .und))), (g28 es (g28 es (g27 es at_ seed 12).2.1 (g27 es at_ seed 12).2.2 4).2.1 (g28 es (g27 es at_ seed 12).2.1 (g27 es at_ seed 12).2.2 4).2.2 10).2.1, (g28 es (g28 es (g27 es at_ seed 12).2.1 (g27 es at_ seed 12).2.2 4).2.1 (g28 es (g27 es at_ seed 12).2.1 (g27 es at_ seed 12).2.2 4).2.2 10).2.2)))))) (ite_ok (F := (r30 es)) (chk_ok (F := (r30 es)) (chk_k (F := (r30 es)) (leaf_ok (F := (r30 es)) (a := ((g29 (IntKind.i64.wrap ((IntKind.i64.wrap ((g28 es (g28 es (g27 es at_ seed 12).2.1 (g27 es at_ seed 12).2.2 4).2.1 (g28 es (g27 es at_ seed 12).2.1 (g27 es at_ seed 12).2.2 4).2.2 65536).1 * 65536)) + (g28 es (g28 es (g28 es (g27 es at_ seed 12).2.1 (g27 es at_ seed 12).2.2 4).2.1 (g28 es (g27 es at_ seed 12).2.1 (g27 es at_ seed 12).2.2 4).2.2 65536).2.1 (g28 es (g28 es (g27 es at_ seed 12).2.1 (g27 es at_ seed 12).2.2 4).2.1 (g28 es (g27 es at_ seed 12).2.1 (g27 es at_ seed 12).2.2 4).2.2 65536).2.2 65536).1))), (g28 es (g28 es (g28 es (g27 es at_ seed 12).2.1 (g27 es at_ seed 12).2.2 4).2.1 (g28 es (g27 es at_ seed 12).2.1 (g27 es at_ seed 12).2.2 4).2.2 65536).2.1 (g28 es (g28 es (g27 es at_ seed 12).2.1 (g27 es at_ seed 12).2.2 4).2.1 (g28 es (g27 es at_ seed 12).2.1 (g27 es at_ seed 12).2.2 4).2.2 65536).2.2 65536).2.1, (g28 es (g28 es (g28 es (g27 es at_ seed 12).2.1 (g27 es at_ seed 12).2.2 4).2.1 (g28 es (g27 es at_ seed 12).2.1 (g27 es at_ seed 12).2.2 4).2.2 65536).2.1 (g28 es (g28 es (g27 es at_ seed 12).2.1 (g27 es at_ seed 12).2.2 4).2.1 (g28 es (g27 es at_ seed 12).2.1 (g27 es at_ seed 12).2.2 4).2.2 65536).2.2 65536).2.2))))) (ite_ok (F := (r30 es)) (chk_k (F := (r30 es)) (leaf_ok (F := (r30 es)) (a := ((g29 (IntKind.i64.wrap ((g28 es (g28 es (g27 es at_ seed 12).2.1 (g27 es at_ seed 12).2.2 4).2.1 (g28 es (g27 es at_ seed 12).2.1 (g27 es at_ seed 12).2.2 4).2.2 65536).1 * 65536))), (g28 es (g28 es (g27 es at_ seed 12).2.1 (g27 es at_ seed 12).2.2 4).2.1 (g28 es (g27 es at_ seed 12).2.1 (g27 es at_ seed 12).2.2 4).2.2 65536).2.1, (g28 es (g28 es (g27 es at_ seed 12).2.1 (g27 es at_ seed 12).2.2 4).2.1 (g28 es (g27 es at_ seed 12).2.1 (g27 es at_ seed 12).2.2 4).2.2 65536).2.2)))) (chk_ok (F := (r30 es)) (chk_ok (F := (r30 es)) (chk_ok (F := (r30 es)) (chk_k (F := (r30 es)) (leaf_ok (F := (r30 es)) (a := ((fop .mul .f32 (g45 es (g28 es (g27 es at_ seed 12).2.1 (g27 es at_ seed 12).2.2 4).2.1 (g28 es (g27 es at_ seed 12).2.1 (g27 es at_ seed 12).2.2 4).2.2).1 (g29 (asI ((getAt ([(.int .i64 8388608), (.int .i64 2130706432), (.int .i64 1610612736), (.int .i64 536870912)] : List V) (0 + Int.toNat (g28 es (g45 es (g28 es (g27 es at_ seed 12).2.1 (g27 es at_ seed 12).2.2 4).2.1 (g28 es (g27 es at_ seed 12).2.1 (g27 es at_ seed 12).2.2 4).2.2).2.1 (g45 es (g28 es (g27 es at_ seed 12).2.1 (g27 es at_ seed 12).2.2 4).2.1 (g28 es (g27 es at_ seed 12).2.1 (g27 es at_ seed 12).2.2 4).2.2).2.2 4).1 * 1)).getD .und)))), (g28 es (g45 es (g28 es (g27 es at_ seed 12).2.1 (g27 es at_ seed 12).2.2 4).2.1 (g28 es (g27 es at_ seed 12).2.1 (g27 es at_ seed 12).2.2 4).2.2).2.1 (g45 es (g28 es (g27 es at_ seed 12).2.1 (g27 es at_ seed 12).2.2 4).2.1 (g28 es (g27 es at_ seed 12).2.1 (g27 es at_ seed 12).2.2 4).2.2).2.2 4).2.1, (g28 es (g45 es (g28 es (g27 es at_ seed 12).2.1 (g27 es at_ seed 12).2.2 4).2.1 (g28 es (g27 es at_ seed 12).2.1 (g27 es at_ seed 12).2.2 4).2.2).2.1 (g45 es (g28 es (g27 es at_ seed 12).2.1 (g27 es at_ seed 12).2.2 4).2.1 (g28 es (g27 es at_ seed 12).2.1 (g27 es at_ seed 12).2.2 4).2.2).2.2 4).2.2))))))))))))) h)
theorem summ30 : SummOK Try.prog 30 s30 := by
  refine ⟨obj_of_run orders names sok30 4 fun cs rest r h => ?_, Try.f30, by kernel_rfl, by kernel_rfl, by kernel_rfl⟩
  cases hc : c30 cs rest
  · rw [hc] at h; cases h
  rw [hc] at h
  simp only [cond_true] at h
  unfold v30 at h
  split at h
  · cases h; exact run30 _ _ _ hc
  · cases h

end Go.Proofs.Ytggfjjacafgkkaa
