/-
  FnSums: proved of the given program for each two slices of bytes, without a condition. Part 3 of 4 of its proof.
-/
import Derived.Test.YtggfjjacafgkkaaFnSumsM2
/-
  Functions of the program: what each computes. Printed by wip/tools/gen2.py.
-/
namespace Go.Proofs.Ytggfjjacafgkkaa
open Go.Ev Go

-- loop.example/g01253/impl.isNaN
def g_i_isNaN (x0 : Nat) : Bool := (fcmp .neq .f32 x0 x0)
def r_i_isNaN (p : Bool) : V := (.bool p)
def v_i_isNaN : List V → Option V
  | [(.flt .f32 x0)] => some (r_i_isNaN (g_i_isNaN x0))
  | _ => none
def s_i_isNaN : Summ := .pure (v_i_isNaN)
def S_i_isNaN : FuncId → Option Summ := fun _ => none
noncomputable def E_i_isNaN : Env := ⟨Try.prog, S_i_isNaN, fun _ _ => [], fun _ _ => [], fun _ _ => [], 100, fun _ _ => none⟩
theorem sok_i_isNaN : SOK E_i_isNaN := fun _ _ h => by cases h
theorem lok_i_isNaN : LOK E_i_isNaN := noLoops rfl
set_option maxRecDepth 100000 in
theorem tree_i_isNaN (x0 : Nat) : runPureS E_i_isNaN 4 35 (.any) [(.flt .f32 x0)] = some (.bool (fcmp .neq .f32 x0 x0)) := by kernel_rfl
theorem run_i_isNaN (x0 : Nat) : runPureS E_i_isNaN 4 35 (.any) [(.flt .f32 x0)] = some (r_i_isNaN (g_i_isNaN x0)) := (tree_i_isNaN x0).trans (leaf_ok (F := r_i_isNaN) (a := (fcmp .neq .f32 x0 x0)))
theorem summ_i_isNaN : SummOK Try.prog 35 s_i_isNaN := by
  refine ⟨pure_of_run0 orders names sok_i_isNaN lok_i_isNaN 4 (.any) (g := fun vs => v_i_isNaN vs) fun vs v h => ?_, Try.f35, by kernel_rfl, by kernel_rfl, by kernel_rfl⟩
  try dsimp only at h
  unfold v_i_isNaN at h
  split at h
  · cases h; exact run_i_isNaN _
  · cases h

-- loop.example/g01253/spec.l01Bits
def g_s_l01Bits (x0 : Nat) : Int := (bif (fcmp .neq .f32 x0 x0) then 2143289344 else (IntKind.i64.wrap (bitsF x0)))
def ok_s_l01Bits (x0 : Nat) : Bool := (bif (fcmp .neq .f32 x0 x0) then true else ((bitsC x0)))
def r_s_l01Bits (p : Int) : V := (.int .i64 p)
def v_s_l01Bits : List V → Option V
  | [(.flt .f32 x0)] => some (r_s_l01Bits (g_s_l01Bits x0))
  | _ => none
def c_s_l01Bits : List V → Bool
  | [(.flt .f32 x0)] => ok_s_l01Bits x0
  | _ => false
def s_s_l01Bits : Summ := .pureC (c_s_l01Bits) (v_s_l01Bits)
def S_s_l01Bits : FuncId → Option Summ := fun f => match f with
  | 36 => some s_m_Float32bits
  | _ => none
noncomputable def E_s_l01Bits : Env := ⟨Try.prog, S_s_l01Bits, fun _ _ => [], fun _ _ => [], fun _ _ => [], 100, fun _ _ => none⟩
theorem sok_s_l01Bits : SOK E_s_l01Bits := by
  intro f s h
  have h : S_s_l01Bits f = some s := h
  unfold S_s_l01Bits at h
  split at h
  · cases h; exact summ_m_Float32bits
  · cases h
theorem lok_s_l01Bits : LOK E_s_l01Bits := noLoops rfl
set_option maxRecDepth 100000 in
theorem tree_s_l01Bits (x0 : Nat) : runPureS E_s_l01Bits 4 34 (.any) [(.flt .f32 x0)] = (bif (fcmp .neq .f32 x0 x0) then some (.int .i64 2143289344) else (bif (bitsC x0) then some (.int .i64 (IntKind.i64.wrap (bitsF x0))) else none)) := by kernel_rfl
theorem run_s_l01Bits (x0 : Nat) (h : ok_s_l01Bits x0 = true) : runPureS E_s_l01Bits 4 34 (.any) [(.flt .f32 x0)] = some (r_s_l01Bits (g_s_l01Bits x0)) := (tree_s_l01Bits x0).trans ((ite_ok (F := r_s_l01Bits) (fun _ => (leaf_ok (F := r_s_l01Bits) (a := 2143289344))) (chk_k (F := r_s_l01Bits) (leaf_ok (F := r_s_l01Bits) (a := (IntKind.i64.wrap (bitsF x0)))))) h)
theorem summ_s_l01Bits : SummOK Try.prog 34 s_s_l01Bits := by
  refine ⟨pure_of_run0 orders names sok_s_l01Bits lok_s_l01Bits 4 (.any) (g := fun vs => (bif c_s_l01Bits vs then v_s_l01Bits vs else none)) fun vs v h => ?_, Try.f34, by kernel_rfl, by kernel_rfl, by kernel_rfl⟩
  try dsimp only at h
  cases hc : c_s_l01Bits vs
  · rw [hc] at h; cases h
  rw [hc] at h
  simp only [cond_true] at h
  unfold v_s_l01Bits at h
  split at h
  · cases h; exact run_s_l01Bits _ hc
  · cases h

-- loop.example/g01253/spec.l01Same
def g_s_l01Same (x0 : Nat) (x1 : Nat) : Bool := (icmp .eql (g_s_l01Bits x0) (g_s_l01Bits x1))
def ok_s_l01Same (x0 : Nat) (x1 : Nat) : Bool := ((ok_s_l01Bits x0) && ((ok_s_l01Bits x1)))
def r_s_l01Same (p : Bool) : V := (.bool p)
def v_s_l01Same : List V → Option V
  | [(.flt .f32 x0), (.flt .f32 x1)] => some (r_s_l01Same (g_s_l01Same x0 x1))
  | _ => none
def c_s_l01Same : List V → Bool
  | [(.flt .f32 x0), (.flt .f32 x1)] => ok_s_l01Same x0 x1
  | _ => false
def s_s_l01Same : Summ := .pureC (c_s_l01Same) (v_s_l01Same)
def S_s_l01Same : FuncId → Option Summ := fun f => match f with
  | 34 => some s_s_l01Bits
  | _ => none
noncomputable def E_s_l01Same : Env := ⟨Try.prog, S_s_l01Same, fun _ _ => [], fun _ _ => [], fun _ _ => [], 100, fun _ _ => none⟩
theorem sok_s_l01Same : SOK E_s_l01Same := by
  intro f s h
  have h : S_s_l01Same f = some s := h
  unfold S_s_l01Same at h
  split at h
  · cases h; exact summ_s_l01Bits
  · cases h
theorem lok_s_l01Same : LOK E_s_l01Same := noLoops rfl
set_option maxRecDepth 100000 in
theorem tree_s_l01Same (x0 : Nat) (x1 : Nat) : runPureS E_s_l01Same 4 31 (.any) [(.flt .f32 x0), (.flt .f32 x1)] = (bif (ok_s_l01Bits x0) then (bif (ok_s_l01Bits x1) then some (.bool (icmp .eql (g_s_l01Bits x0) (g_s_l01Bits x1))) else none) else none) := by kernel_rfl
theorem run_s_l01Same (x0 : Nat) (x1 : Nat) (h : ok_s_l01Same x0 x1 = true) : runPureS E_s_l01Same 4 31 (.any) [(.flt .f32 x0), (.flt .f32 x1)] = some (r_s_l01Same (g_s_l01Same x0 x1)) := (tree_s_l01Same x0 x1).trans ((chk_ok (F := r_s_l01Same) (chk_k (F := r_s_l01Same) (leaf_ok (F := r_s_l01Same) (a := (icmp .eql (g_s_l01Bits x0) (g_s_l01Bits x1)))))) h)
theorem summ_s_l01Same : SummOK Try.prog 31 s_s_l01Same := by
  refine ⟨pure_of_run0 orders names sok_s_l01Same lok_s_l01Same 4 (.any) (g := fun vs => (bif c_s_l01Same vs then v_s_l01Same vs else none)) fun vs v h => ?_, Try.f31, by kernel_rfl, by kernel_rfl, by kernel_rfl⟩
  try dsimp only at h
  cases hc : c_s_l01Same vs
  · rw [hc] at h; cases h
  rw [hc] at h
  simp only [cond_true] at h
  unfold v_s_l01Same at h
  split at h
  · cases h; exact run_s_l01Same _ _ hc
  · cases h

-- loop.example/g01253/spec.SameNumber
def g_s_SameNumber (x0 : Nat) (x1 : Nat) : Bool := (g_s_l01Same x0 x1)
def ok_s_SameNumber (x0 : Nat) (x1 : Nat) : Bool := ((ok_s_l01Same x0 x1))
def r_s_SameNumber (p : Bool) : V := (.bool p)
def v_s_SameNumber : List V → Option V
  | [(.flt .f32 x0), (.flt .f32 x1)] => some (r_s_SameNumber (g_s_SameNumber x0 x1))
  | _ => none
def c_s_SameNumber : List V → Bool
  | [(.flt .f32 x0), (.flt .f32 x1)] => ok_s_SameNumber x0 x1
  | _ => false
def s_s_SameNumber : Summ := .pureC (c_s_SameNumber) (v_s_SameNumber)
def S_s_SameNumber : FuncId → Option Summ := fun f => match f with
  | 31 => some s_s_l01Same
  | _ => none
noncomputable def E_s_SameNumber : Env := ⟨Try.prog, S_s_SameNumber, fun _ _ => [], fun _ _ => [], fun _ _ => [], 100, fun _ _ => none⟩
theorem sok_s_SameNumber : SOK E_s_SameNumber := by
  intro f s h
  have h : S_s_SameNumber f = some s := h
  unfold S_s_SameNumber at h
  split at h
  · cases h; exact summ_s_l01Same
  · cases h
theorem lok_s_SameNumber : LOK E_s_SameNumber := noLoops rfl
set_option maxRecDepth 100000 in
theorem tree_s_SameNumber (x0 : Nat) (x1 : Nat) : runPureS E_s_SameNumber 4 8 (.any) [(.flt .f32 x0), (.flt .f32 x1)] = (bif (ok_s_l01Same x0 x1) then some (.bool (g_s_l01Same x0 x1)) else none) := by kernel_rfl
theorem run_s_SameNumber (x0 : Nat) (x1 : Nat) (h : ok_s_SameNumber x0 x1 = true) : runPureS E_s_SameNumber 4 8 (.any) [(.flt .f32 x0), (.flt .f32 x1)] = some (r_s_SameNumber (g_s_SameNumber x0 x1)) := (tree_s_SameNumber x0 x1).trans ((chk_k (F := r_s_SameNumber) (leaf_ok (F := r_s_SameNumber) (a := (g_s_l01Same x0 x1)))) h)
theorem summ_s_SameNumber : SummOK Try.prog 8 s_s_SameNumber := by
  refine ⟨pure_of_run0 orders names sok_s_SameNumber lok_s_SameNumber 4 (.any) (g := fun vs => (bif c_s_SameNumber vs then v_s_SameNumber vs else none)) fun vs v h => ?_, Try.f8, by kernel_rfl, by kernel_rfl, by kernel_rfl⟩
  try dsimp only at h
  cases hc : c_s_SameNumber vs
  · rw [hc] at h; cases h
  rw [hc] at h
  simp only [cond_true] at h
  unfold v_s_SameNumber at h
  split at h
  · cases h; exact run_s_SameNumber _ _ hc
  · cases h

-- loop.example/g01253/impl.BitsOf
def g_i_BitsOf (x0 : Nat) : Int := (bif (g_i_isNaN x0) then 2143289344 else (IntKind.i64.wrap (bitsF x0)))
def ok_i_BitsOf (x0 : Nat) : Bool := (bif (g_i_isNaN x0) then true else ((bitsC x0)))
def r_i_BitsOf (p : Int) : V := (.int .i64 p)
def v_i_BitsOf : List V → Option V
  | [(.flt .f32 x0)] => some (r_i_BitsOf (g_i_BitsOf x0))
  | _ => none
def c_i_BitsOf : List V → Bool
  | [(.flt .f32 x0)] => ok_i_BitsOf x0
  | _ => false
def s_i_BitsOf : Summ := .pureC (c_i_BitsOf) (v_i_BitsOf)
def S_i_BitsOf : FuncId → Option Summ := fun f => match f with
  | 35 => some s_i_isNaN
  | 36 => some s_m_Float32bits
  | _ => none
noncomputable def E_i_BitsOf : Env := ⟨Try.prog, S_i_BitsOf, fun _ _ => [], fun _ _ => [], fun _ _ => [], 100, fun _ _ => none⟩
theorem sok_i_BitsOf : SOK E_i_BitsOf := by
  intro f s h
  have h : S_i_BitsOf f = some s := h
  unfold S_i_BitsOf at h
  split at h
  · cases h; exact summ_i_isNaN
  · cases h; exact summ_m_Float32bits
  · cases h
theorem lok_i_BitsOf : LOK E_i_BitsOf := noLoops rfl
set_option maxRecDepth 100000 in
theorem tree_i_BitsOf (x0 : Nat) : runPureS E_i_BitsOf 4 13 (.any) [(.flt .f32 x0)] = (bif (g_i_isNaN x0) then some (.int .i64 2143289344) else (bif (bitsC x0) then some (.int .i64 (IntKind.i64.wrap (bitsF x0))) else none)) := by kernel_rfl
theorem run_i_BitsOf (x0 : Nat) (h : ok_i_BitsOf x0 = true) : runPureS E_i_BitsOf 4 13 (.any) [(.flt .f32 x0)] = some (r_i_BitsOf (g_i_BitsOf x0)) := (tree_i_BitsOf x0).trans ((ite_ok (F := r_i_BitsOf) (fun _ => (leaf_ok (F := r_i_BitsOf) (a := 2143289344))) (chk_k (F := r_i_BitsOf) (leaf_ok (F := r_i_BitsOf) (a := (IntKind.i64.wrap (bitsF x0)))))) h)
theorem summ_i_BitsOf : SummOK Try.prog 13 s_i_BitsOf := by
  refine ⟨pure_of_run0 orders names sok_i_BitsOf lok_i_BitsOf 4 (.any) (g := fun vs => (bif c_i_BitsOf vs then v_i_BitsOf vs else none)) fun vs v h => ?_, Try.f13, by kernel_rfl, by kernel_rfl, by kernel_rfl⟩
  try dsimp only at h
  cases hc : c_i_BitsOf vs
  · rw [hc] at h; cases h
  rw [hc] at h
  simp only [cond_true] at h
  unfold v_i_BitsOf at h
  split at h
  · cases h; exact run_i_BitsOf _ hc
  · cases h

-- loop.example/g01253/impl.SameNumber
def g_i_SameNumber (x0 : Nat) (x1 : Nat) : Bool := (bif (g_i_isNaN x0) then (bif (g_i_isNaN x0) then (g_i_isNaN x1) else false) else (bif (g_i_isNaN x1) then (bif (g_i_isNaN x0) then (g_i_isNaN x1) else false) else (icmp .eql (bitsF x0) (bitsF x1))))
def ok_i_SameNumber (x0 : Nat) (x1 : Nat) : Bool := (bif (g_i_isNaN x0) then true else (bif (g_i_isNaN x1) then true else ((bitsC x0) && ((bitsC x1)))))
def r_i_SameNumber (p : Bool) : V := (.bool p)
def v_i_SameNumber : List V → Option V
  | [(.flt .f32 x0), (.flt .f32 x1)] => some (r_i_SameNumber (g_i_SameNumber x0 x1))
  | _ => none
def c_i_SameNumber : List V → Bool
  | [(.flt .f32 x0), (.flt .f32 x1)] => ok_i_SameNumber x0 x1
  | _ => false
def s_i_SameNumber : Summ := .pureC (c_i_SameNumber) (v_i_SameNumber)
def S_i_SameNumber : FuncId → Option Summ := fun f => match f with
  | 35 => some s_i_isNaN
  | 36 => some s_m_Float32bits
  | _ => none
noncomputable def E_i_SameNumber : Env := ⟨Try.prog, S_i_SameNumber, fun _ _ => [], fun _ _ => [], fun _ _ => [], 100, fun _ _ => none⟩
theorem sok_i_SameNumber : SOK E_i_SameNumber := by
  intro f s h
  have h : S_i_SameNumber f = some s := h
  unfold S_i_SameNumber at h
  split at h
  · cases h; exact summ_i_isNaN
  · cases h; exact summ_m_Float32bits
  · cases h
theorem lok_i_SameNumber : LOK E_i_SameNumber := noLoops rfl
set_option maxRecDepth 100000 in
theorem tree_i_SameNumber (x0 : Nat) (x1 : Nat) : runPureS E_i_SameNumber 4 15 (.any) [(.flt .f32 x0), (.flt .f32 x1)] = (bif (g_i_isNaN x0) then (bif (g_i_isNaN x0) then some (.bool (g_i_isNaN x1)) else some (.bool false)) else (bif (g_i_isNaN x1) then (bif (g_i_isNaN x0) then some (.bool (g_i_isNaN x1)) else some (.bool false)) else (bif (bitsC x0) then (bif (bitsC x1) then some (.bool (icmp .eql (bitsF x0) (bitsF x1))) else none) else none))) := by kernel_rfl
theorem run_i_SameNumber (x0 : Nat) (x1 : Nat) (h : ok_i_SameNumber x0 x1 = true) : runPureS E_i_SameNumber 4 15 (.any) [(.flt .f32 x0), (.flt .f32 x1)] = some (r_i_SameNumber (g_i_SameNumber x0 x1)) := (tree_i_SameNumber x0 x1).trans ((ite_ok (F := r_i_SameNumber) (fun _ => (ite_k (F := r_i_SameNumber) (leaf_ok (F := r_i_SameNumber) (a := (g_i_isNaN x1))) (leaf_ok (F := r_i_SameNumber) (a := false)))) (ite_ok (F := r_i_SameNumber) (fun _ => (ite_k (F := r_i_SameNumber) (leaf_ok (F := r_i_SameNumber) (a := (g_i_isNaN x1))) (leaf_ok (F := r_i_SameNumber) (a := false)))) (chk_ok (F := r_i_SameNumber) (chk_k (F := r_i_SameNumber) (leaf_ok (F := r_i_SameNumber) (a := (icmp .eql (bitsF x0) (bitsF x1)))))))) h)
theorem summ_i_SameNumber : SummOK Try.prog 15 s_i_SameNumber := by
  refine ⟨pure_of_run0 orders names sok_i_SameNumber lok_i_SameNumber 4 (.any) (g := fun vs => (bif c_i_SameNumber vs then v_i_SameNumber vs else none)) fun vs v h => ?_, Try.f15, by kernel_rfl, by kernel_rfl, by kernel_rfl⟩
  try dsimp only at h
  cases hc : c_i_SameNumber vs
  · rw [hc] at h; cases h
  rw [hc] at h
  simp only [cond_true] at h
  unfold v_i_SameNumber at h
  split at h
  · cases h; exact run_i_SameNumber _ _ hc
  · cases h

-- loop.example/g01253/spec.IsFinite
def g_s_IsFinite (x0 : Nat) : Bool := (fcmp .eql .f32 (fop .sub .f32 x0 x0) 0)
def r_s_IsFinite (p : Bool) : V := (.bool p)
def v_s_IsFinite : List V → Option V
  | [(.flt .f32 x0)] => some (r_s_IsFinite (g_s_IsFinite x0))
  | _ => none
def s_s_IsFinite : Summ := .pure (v_s_IsFinite)
def S_s_IsFinite : FuncId → Option Summ := fun _ => none
noncomputable def E_s_IsFinite : Env := ⟨Try.prog, S_s_IsFinite, fun _ _ => [], fun _ _ => [], fun _ _ => [], 100, fun _ _ => none⟩
theorem sok_s_IsFinite : SOK E_s_IsFinite := fun _ _ h => by cases h
theorem lok_s_IsFinite : LOK E_s_IsFinite := noLoops rfl
set_option maxRecDepth 100000 in
theorem tree_s_IsFinite (x0 : Nat) : runPureS E_s_IsFinite 4 11 (.any) [(.flt .f32 x0)] = some (.bool (fcmp .eql .f32 (fop .sub .f32 x0 x0) 0)) := by kernel_rfl
theorem run_s_IsFinite (x0 : Nat) : runPureS E_s_IsFinite 4 11 (.any) [(.flt .f32 x0)] = some (r_s_IsFinite (g_s_IsFinite x0)) := (tree_s_IsFinite x0).trans (leaf_ok (F := r_s_IsFinite) (a := (fcmp .eql .f32 (fop .sub .f32 x0 x0) 0)))
theorem summ_s_IsFinite : SummOK Try.prog 11 s_s_IsFinite := by
  refine ⟨pure_of_run0 orders names sok_s_IsFinite lok_s_IsFinite 4 (.any) (g := fun vs => v_s_IsFinite vs) fun vs v h => ?_, Try.f11, by kernel_rfl, by kernel_rfl, by kernel_rfl⟩
  try dsimp only at h
  unfold v_s_IsFinite at h
  split at h
  · cases h; exact run_s_IsFinite _
  · cases h

-- loop.example/g01253/spec.l01Finite
def g_s_l01Finite (x0 : Nat) : Bool := (fcmp .eql .f32 (fop .sub .f32 x0 x0) 0)
def r_s_l01Finite (p : Bool) : V := (.bool p)
def v_s_l01Finite : List V → Option V
  | [(.flt .f32 x0)] => some (r_s_l01Finite (g_s_l01Finite x0))
  | _ => none
def s_s_l01Finite : Summ := .pure (v_s_l01Finite)
def S_s_l01Finite : FuncId → Option Summ := fun _ => none
noncomputable def E_s_l01Finite : Env := ⟨Try.prog, S_s_l01Finite, fun _ _ => [], fun _ _ => [], fun _ _ => [], 100, fun _ _ => none⟩
theorem sok_s_l01Finite : SOK E_s_l01Finite := fun _ _ h => by cases h
theorem lok_s_l01Finite : LOK E_s_l01Finite := noLoops rfl
set_option maxRecDepth 100000 in
theorem tree_s_l01Finite (x0 : Nat) : runPureS E_s_l01Finite 4 33 (.any) [(.flt .f32 x0)] = some (.bool (fcmp .eql .f32 (fop .sub .f32 x0 x0) 0)) := by kernel_rfl
theorem run_s_l01Finite (x0 : Nat) : runPureS E_s_l01Finite 4 33 (.any) [(.flt .f32 x0)] = some (r_s_l01Finite (g_s_l01Finite x0)) := (tree_s_l01Finite x0).trans (leaf_ok (F := r_s_l01Finite) (a := (fcmp .eql .f32 (fop .sub .f32 x0 x0) 0)))
theorem summ_s_l01Finite : SummOK Try.prog 33 s_s_l01Finite := by
  refine ⟨pure_of_run0 orders names sok_s_l01Finite lok_s_l01Finite 4 (.any) (g := fun vs => v_s_l01Finite vs) fun vs v h => ?_, Try.f33, by kernel_rfl, by kernel_rfl, by kernel_rfl⟩
  try dsimp only at h
  unfold v_s_l01Finite at h
  split at h
  · cases h; exact run_s_l01Finite _
  · cases h

-- loop.example/g01253/impl.IsFinite
def g_i_IsFinite (x0 : Nat) : Bool := (fcmp .eql .f32 (fop .sub .f32 x0 x0) 0)
def r_i_IsFinite (p : Bool) : V := (.bool p)
def v_i_IsFinite : List V → Option V
  | [(.flt .f32 x0)] => some (r_i_IsFinite (g_i_IsFinite x0))
  | _ => none
def s_i_IsFinite : Summ := .pure (v_i_IsFinite)
def S_i_IsFinite : FuncId → Option Summ := fun _ => none
noncomputable def E_i_IsFinite : Env := ⟨Try.prog, S_i_IsFinite, fun _ _ => [], fun _ _ => [], fun _ _ => [], 100, fun _ _ => none⟩
theorem sok_i_IsFinite : SOK E_i_IsFinite := fun _ _ h => by cases h
theorem lok_i_IsFinite : LOK E_i_IsFinite := noLoops rfl
set_option maxRecDepth 100000 in
theorem tree_i_IsFinite (x0 : Nat) : runPureS E_i_IsFinite 4 16 (.any) [(.flt .f32 x0)] = some (.bool (fcmp .eql .f32 (fop .sub .f32 x0 x0) 0)) := by kernel_rfl
theorem run_i_IsFinite (x0 : Nat) : runPureS E_i_IsFinite 4 16 (.any) [(.flt .f32 x0)] = some (r_i_IsFinite (g_i_IsFinite x0)) := (tree_i_IsFinite x0).trans (leaf_ok (F := r_i_IsFinite) (a := (fcmp .eql .f32 (fop .sub .f32 x0 x0) 0)))
theorem summ_i_IsFinite : SummOK Try.prog 16 s_i_IsFinite := by
  refine ⟨pure_of_run0 orders names sok_i_IsFinite lok_i_IsFinite 4 (.any) (g := fun vs => v_i_IsFinite vs) fun vs v h => ?_, Try.f16, by kernel_rfl, by kernel_rfl, by kernel_rfl⟩
  try dsimp only at h
  unfold v_i_IsFinite at h
  split at h
  · cases h; exact run_i_IsFinite _
  · cases h

-- loop.example/g01253/spec.BitsOf
def g_s_BitsOf (x0 : Nat) : Int := (g_s_l01Bits x0)
def ok_s_BitsOf (x0 : Nat) : Bool := ((ok_s_l01Bits x0))
def r_s_BitsOf (p : Int) : V := (.int .i64 p)
def v_s_BitsOf : List V → Option V
  | [(.flt .f32 x0)] => some (r_s_BitsOf (g_s_BitsOf x0))
  | _ => none
def c_s_BitsOf : List V → Bool
  | [(.flt .f32 x0)] => ok_s_BitsOf x0
  | _ => false
def s_s_BitsOf : Summ := .pureC (c_s_BitsOf) (v_s_BitsOf)
def S_s_BitsOf : FuncId → Option Summ := fun f => match f with
  | 34 => some s_s_l01Bits
  | _ => none
noncomputable def E_s_BitsOf : Env := ⟨Try.prog, S_s_BitsOf, fun _ _ => [], fun _ _ => [], fun _ _ => [], 100, fun _ _ => none⟩
theorem sok_s_BitsOf : SOK E_s_BitsOf := by
  intro f s h
  have h : S_s_BitsOf f = some s := h
  unfold S_s_BitsOf at h
  split at h
  · cases h; exact summ_s_l01Bits
  · cases h
theorem lok_s_BitsOf : LOK E_s_BitsOf := noLoops rfl
set_option maxRecDepth 100000 in
theorem tree_s_BitsOf (x0 : Nat) : runPureS E_s_BitsOf 4 12 (.any) [(.flt .f32 x0)] = (bif (ok_s_l01Bits x0) then some (.int .i64 (g_s_l01Bits x0)) else none) := by kernel_rfl
theorem run_s_BitsOf (x0 : Nat) (h : ok_s_BitsOf x0 = true) : runPureS E_s_BitsOf 4 12 (.any) [(.flt .f32 x0)] = some (r_s_BitsOf (g_s_BitsOf x0)) := (tree_s_BitsOf x0).trans ((chk_k (F := r_s_BitsOf) (leaf_ok (F := r_s_BitsOf) (a := (g_s_l01Bits x0)))) h)
theorem summ_s_BitsOf : SummOK Try.prog 12 s_s_BitsOf := by
  refine ⟨pure_of_run0 orders names sok_s_BitsOf lok_s_BitsOf 4 (.any) (g := fun vs => (bif c_s_BitsOf vs then v_s_BitsOf vs else none)) fun vs v h => ?_, Try.f12, by kernel_rfl, by kernel_rfl, by kernel_rfl⟩
  try dsimp only at h
  cases hc : c_s_BitsOf vs
  · rw [hc] at h; cases h
  rw [hc] at h
  simp only [cond_true] at h
  unfold v_s_BitsOf at h
  split at h
  · cases h; exact run_s_BitsOf _ hc
  · cases h

-- loop.example/g01253/impl.NarrowNumber
def g_i_NarrowNumber (x0 : Nat) : Nat := ((fconv .f64 .f32 x0).getD 0)
def ok_i_NarrowNumber (x0 : Nat) : Bool := ((fconv .f64 .f32 x0).isSome)
def r_i_NarrowNumber (p : Nat) : V := (.flt .f32 p)
def v_i_NarrowNumber : List V → Option V
  | [(.flt .f64 x0)] => some (r_i_NarrowNumber (g_i_NarrowNumber x0))
  | _ => none
def c_i_NarrowNumber : List V → Bool
  | [(.flt .f64 x0)] => ok_i_NarrowNumber x0
  | _ => false
def s_i_NarrowNumber : Summ := .pureC (c_i_NarrowNumber) (v_i_NarrowNumber)
def S_i_NarrowNumber : FuncId → Option Summ := fun _ => none
noncomputable def E_i_NarrowNumber : Env := ⟨Try.prog, S_i_NarrowNumber, fun _ _ => [], fun _ _ => [], fun _ _ => [], 100, fun _ _ => none⟩
theorem sok_i_NarrowNumber : SOK E_i_NarrowNumber := fun _ _ h => by cases h
theorem lok_i_NarrowNumber : LOK E_i_NarrowNumber := noLoops rfl
set_option maxRecDepth 100000 in
theorem tree_i_NarrowNumber (x0 : Nat) : runPureS E_i_NarrowNumber 4 9 (.any) [(.flt .f64 x0)] = (bif (fconv .f64 .f32 x0).isSome then some (.flt .f32 ((fconv .f64 .f32 x0).getD 0)) else none) := by kernel_rfl
theorem run_i_NarrowNumber (x0 : Nat) (h : ok_i_NarrowNumber x0 = true) : runPureS E_i_NarrowNumber 4 9 (.any) [(.flt .f64 x0)] = some (r_i_NarrowNumber (g_i_NarrowNumber x0)) := (tree_i_NarrowNumber x0).trans ((chk_k (F := r_i_NarrowNumber) (leaf_ok (F := r_i_NarrowNumber) (a := ((fconv .f64 .f32 x0).getD 0)))) h)
theorem summ_i_NarrowNumber : SummOK Try.prog 9 s_i_NarrowNumber := by
  refine ⟨pure_of_run0 orders names sok_i_NarrowNumber lok_i_NarrowNumber 4 (.any) (g := fun vs => (bif c_i_NarrowNumber vs then v_i_NarrowNumber vs else none)) fun vs v h => ?_, Try.f9, by kernel_rfl, by kernel_rfl, by kernel_rfl⟩
  try dsimp only at h
  cases hc : c_i_NarrowNumber vs
  · rw [hc] at h; cases h
  rw [hc] at h
  simp only [cond_true] at h
  unfold v_i_NarrowNumber at h
  split at h
  · cases h; exact run_i_NarrowNumber _ hc
  · cases h

-- loop.example/g01253/impl.in
def g_i_in (x0 : Int) (x1 : Int) (x2 : Int) : Bool := (bif (icmp .geq x0 x1) then (icmp .leq x0 x2) else false)
def r_i_in (p : Bool) : V := (.bool p)
def v_i_in : List V → Option V
  | [(.int .i64 x0), (.int .i64 x1), (.int .i64 x2)] => some (r_i_in (g_i_in x0 x1 x2))
  | _ => none
def s_i_in : Summ := .pure (v_i_in)
def S_i_in : FuncId → Option Summ := fun _ => none
noncomputable def E_i_in : Env := ⟨Try.prog, S_i_in, fun _ _ => [], fun _ _ => [], fun _ _ => [], 100, fun _ _ => none⟩
theorem sok_i_in : SOK E_i_in := fun _ _ h => by cases h
theorem lok_i_in : LOK E_i_in := noLoops rfl
set_option maxRecDepth 100000 in
theorem tree_i_in (x0 : Int) (x1 : Int) (x2 : Int) : runPureS E_i_in 4 37 (.any) [(.int .i64 x0), (.int .i64 x1), (.int .i64 x2)] = (bif (icmp .geq x0 x1) then some (.bool (icmp .leq x0 x2)) else some (.bool false)) := by kernel_rfl
theorem run_i_in (x0 : Int) (x1 : Int) (x2 : Int) : runPureS E_i_in 4 37 (.any) [(.int .i64 x0), (.int .i64 x1), (.int .i64 x2)] = some (r_i_in (g_i_in x0 x1 x2)) := (tree_i_in x0 x1 x2).trans (ite_k (F := r_i_in) (leaf_ok (F := r_i_in) (a := (icmp .leq x0 x2))) (leaf_ok (F := r_i_in) (a := false)))
theorem summ_i_in : SummOK Try.prog 37 s_i_in := by
  refine ⟨pure_of_run0 orders names sok_i_in lok_i_in 4 (.any) (g := fun vs => v_i_in vs) fun vs v h => ?_, Try.f37, by kernel_rfl, by kernel_rfl, by kernel_rfl⟩
  try dsimp only at h
  unfold v_i_in at h
  split at h
  · cases h; exact run_i_in _ _ _
  · cases h

-- loop.example/g01253/impl.FromBits
def g_i_FromBits (x0 : Int) : Nat × Bool := (bif (!(g_i_in x0 0 4294967295)) then (0, false) else ((canon .f32 (Int.toNat (IntKind.u32.wrap x0))), true))
def r_i_FromBits (p : Nat × Bool) : V := (.tup [(.flt .f32 p.1), (.bool p.2)])
def v_i_FromBits : List V → Option V
  | [(.int .i64 x0)] => some (r_i_FromBits (g_i_FromBits x0))
  | _ => none
def s_i_FromBits : Summ := .pure (v_i_FromBits)
def S_i_FromBits : FuncId → Option Summ := fun f => match f with
  | 37 => some s_i_in
  | 38 => some s_m_Float32frombits
  | _ => none
noncomputable def E_i_FromBits : Env := ⟨Try.prog, S_i_FromBits, fun _ _ => [], fun _ _ => [], fun _ _ => [], 100, fun _ _ => none⟩
theorem sok_i_FromBits : SOK E_i_FromBits := by
  intro f s h
  have h : S_i_FromBits f = some s := h
  unfold S_i_FromBits at h
  split at h
  · cases h; exact summ_i_in
  · cases h; exact summ_m_Float32frombits
  · cases h
theorem lok_i_FromBits : LOK E_i_FromBits := noLoops rfl
set_option maxRecDepth 100000 in
theorem tree_i_FromBits (x0 : Int) : runPureS E_i_FromBits 4 14 (.many [.any, .any]) [(.int .i64 x0)] = (bif (!(g_i_in x0 0 4294967295)) then some (.tup [(.flt .f32 0), (.bool false)]) else some (.tup [(.flt .f32 (canon .f32 (Int.toNat (IntKind.u32.wrap x0)))), (.bool true)])) := by kernel_rfl
theorem run_i_FromBits (x0 : Int) : runPureS E_i_FromBits 4 14 (.many [.any, .any]) [(.int .i64 x0)] = some (r_i_FromBits (g_i_FromBits x0)) := (tree_i_FromBits x0).trans (ite_k (F := r_i_FromBits) (leaf_ok (F := r_i_FromBits) (a := (0, false))) (leaf_ok (F := r_i_FromBits) (a := ((canon .f32 (Int.toNat (IntKind.u32.wrap x0))), true))))
theorem summ_i_FromBits : SummOK Try.prog 14 s_i_FromBits := by
  refine ⟨pure_of_run0 orders names sok_i_FromBits lok_i_FromBits 4 (.many [.any, .any]) (g := fun vs => v_i_FromBits vs) fun vs v h => ?_, Try.f14, by kernel_rfl, by kernel_rfl, by kernel_rfl⟩
  try dsimp only at h
  unfold v_i_FromBits at h
  split at h
  · cases h; exact run_i_FromBits _
  · cases h

-- loop.example/g01253/spec.l01From
def g_s_l01From (x0 : Int) : Nat := (canon .f32 (Int.toNat (IntKind.u32.wrap x0)))
def r_s_l01From (p : Nat) : V := (.flt .f32 p)
def v_s_l01From : List V → Option V
  | [(.int .i64 x0)] => some (r_s_l01From (g_s_l01From x0))
  | _ => none
def s_s_l01From : Summ := .pure (v_s_l01From)
def S_s_l01From : FuncId → Option Summ := fun f => match f with
  | 38 => some s_m_Float32frombits
  | _ => none
noncomputable def E_s_l01From : Env := ⟨Try.prog, S_s_l01From, fun _ _ => [], fun _ _ => [], fun _ _ => [], 100, fun _ _ => none⟩
theorem sok_s_l01From : SOK E_s_l01From := by
  intro f s h
  have h : S_s_l01From f = some s := h
  unfold S_s_l01From at h
  split at h
  · cases h; exact summ_m_Float32frombits
  · cases h
theorem lok_s_l01From : LOK E_s_l01From := noLoops rfl
set_option maxRecDepth 100000 in
theorem tree_s_l01From (x0 : Int) : runPureS E_s_l01From 4 29 (.any) [(.int .i64 x0)] = some (.flt .f32 (canon .f32 (Int.toNat (IntKind.u32.wrap x0)))) := by kernel_rfl
theorem run_s_l01From (x0 : Int) : runPureS E_s_l01From 4 29 (.any) [(.int .i64 x0)] = some (r_s_l01From (g_s_l01From x0)) := (tree_s_l01From x0).trans (leaf_ok (F := r_s_l01From) (a := (canon .f32 (Int.toNat (IntKind.u32.wrap x0)))))
theorem summ_s_l01From : SummOK Try.prog 29 s_s_l01From := by
  refine ⟨pure_of_run0 orders names sok_s_l01From lok_s_l01From 4 (.any) (g := fun vs => v_s_l01From vs) fun vs v h => ?_, Try.f29, by kernel_rfl, by kernel_rfl, by kernel_rfl⟩
  try dsimp only at h
  unfold v_s_l01From at h
  split at h
  · cases h; exact run_s_l01From _
  · cases h

-- loop.example/g01253/spec.NextUp
def g_s_NextUp (x0 : Nat) : Nat := (bif (fcmp .neq .f32 x0 x0) then x0 else (bif (icmp .eql (g_s_l01Bits x0) 2139095040) then x0 else (bif (fcmp .eql .f32 x0 0) then (g_s_l01From 1) else (bif (fcmp .gtr .f32 x0 0) then (g_s_l01From (IntKind.i64.wrap ((g_s_l01Bits x0) + 1))) else (g_s_l01From (IntKind.i64.wrap ((g_s_l01Bits x0) - 1)))))))
def ok_s_NextUp (x0 : Nat) : Bool := ((ok_s_l01Bits x0))
def r_s_NextUp (p : Nat) : V := (.flt .f32 p)
def v_s_NextUp : List V → Option V
  | [(.flt .f32 x0)] => some (r_s_NextUp (g_s_NextUp x0))
  | _ => none
def c_s_NextUp : List V → Bool
  | [(.flt .f32 x0)] => ok_s_NextUp x0
  | _ => false
def s_s_NextUp : Summ := .pureC (c_s_NextUp) (v_s_NextUp)
def S_s_NextUp : FuncId → Option Summ := fun f => match f with
  | 29 => some s_s_l01From
  | 34 => some s_s_l01Bits
  | _ => none
noncomputable def E_s_NextUp : Env := ⟨Try.prog, S_s_NextUp, fun _ _ => [], fun _ _ => [], fun _ _ => [], 100, fun _ _ => none⟩
theorem sok_s_NextUp : SOK E_s_NextUp := by
  intro f s h
  have h : S_s_NextUp f = some s := h
  unfold S_s_NextUp at h
  split at h
  · cases h; exact summ_s_l01From
  · cases h; exact summ_s_l01Bits
  · cases h
theorem lok_s_NextUp : LOK E_s_NextUp := noLoops rfl
set_option maxRecDepth 100000 in
theorem tree_s_NextUp (x0 : Nat) : runPureS E_s_NextUp 4 10 (.any) [(.flt .f32 x0)] = (bif (ok_s_l01Bits x0) then (bif (fcmp .neq .f32 x0 x0) then some (.flt .f32 x0) else (bif (icmp .eql (g_s_l01Bits x0) 2139095040) then some (.flt .f32 x0) else (bif (fcmp .eql .f32 x0 0) then some (.flt .f32 (g_s_l01From 1)) else (bif (fcmp .gtr .f32 x0 0) then some (.flt .f32 (g_s_l01From (IntKind.i64.wrap ((g_s_l01Bits x0) + 1)))) else some (.flt .f32 (g_s_l01From (IntKind.i64.wrap ((g_s_l01Bits x0) - 1)))))))) else none) := by kernel_rfl
theorem run_s_NextUp (x0 : Nat) (h : ok_s_NextUp x0 = true) : runPureS E_s_NextUp 4 10 (.any) [(.flt .f32 x0)] = some (r_s_NextUp (g_s_NextUp x0)) := (tree_s_NextUp x0).trans ((chk_k (F := r_s_NextUp) (ite_k (F := r_s_NextUp) (leaf_ok (F := r_s_NextUp) (a := x0)) (ite_k (F := r_s_NextUp) (leaf_ok (F := r_s_NextUp) (a := x0)) (ite_k (F := r_s_NextUp) (leaf_ok (F := r_s_NextUp) (a := (g_s_l01From 1))) (ite_k (F := r_s_NextUp) (leaf_ok (F := r_s_NextUp) (a := (g_s_l01From (IntKind.i64.wrap ((g_s_l01Bits x0) + 1))))) (leaf_ok (F := r_s_NextUp) (a := (g_s_l01From (IntKind.i64.wrap ((g_s_l01Bits x0) - 1)))))))))) h)
theorem summ_s_NextUp : SummOK Try.prog 10 s_s_NextUp := by
  refine ⟨pure_of_run0 orders names sok_s_NextUp lok_s_NextUp 4 (.any) (g := fun vs => (bif c_s_NextUp vs then v_s_NextUp vs else none)) fun vs v h => ?_, Try.f10, by kernel_rfl, by kernel_rfl, by kernel_rfl⟩
  try dsimp only at h
  cases hc : c_s_NextUp vs
  · rw [hc] at h; cases h
  rw [hc] at h
  simp only [cond_true] at h
  unfold v_s_NextUp at h
  split at h
  · cases h; exact run_s_NextUp _ hc
  · cases h

-- loop.example/g01253/spec.l01Next
def g_s_l01Next (x0 : Nat) : Nat := (bif (fcmp .neq .f32 x0 x0) then x0 else (bif (icmp .eql (g_s_l01Bits x0) 2139095040) then x0 else (bif (fcmp .eql .f32 x0 0) then (g_s_l01From 1) else (bif (fcmp .gtr .f32 x0 0) then (g_s_l01From (IntKind.i64.wrap ((g_s_l01Bits x0) + 1))) else (g_s_l01From (IntKind.i64.wrap ((g_s_l01Bits x0) - 1)))))))
def ok_s_l01Next (x0 : Nat) : Bool := ((ok_s_l01Bits x0))
def r_s_l01Next (p : Nat) : V := (.flt .f32 p)
def v_s_l01Next : List V → Option V
  | [(.flt .f32 x0)] => some (r_s_l01Next (g_s_l01Next x0))
  | _ => none
def c_s_l01Next : List V → Bool
  | [(.flt .f32 x0)] => ok_s_l01Next x0
  | _ => false
def s_s_l01Next : Summ := .pureC (c_s_l01Next) (v_s_l01Next)
def S_s_l01Next : FuncId → Option Summ := fun f => match f with
  | 29 => some s_s_l01From
  | 34 => some s_s_l01Bits
  | _ => none
noncomputable def E_s_l01Next : Env := ⟨Try.prog, S_s_l01Next, fun _ _ => [], fun _ _ => [], fun _ _ => [], 100, fun _ _ => none⟩
theorem sok_s_l01Next : SOK E_s_l01Next := by
  intro f s h
  have h : S_s_l01Next f = some s := h
  unfold S_s_l01Next at h
  split at h
  · cases h; exact summ_s_l01From
  · cases h; exact summ_s_l01Bits
  · cases h
theorem lok_s_l01Next : LOK E_s_l01Next := noLoops rfl
set_option maxRecDepth 100000 in
theorem tree_s_l01Next (x0 : Nat) : runPureS E_s_l01Next 4 32 (.any) [(.flt .f32 x0)] = (bif (ok_s_l01Bits x0) then (bif (fcmp .neq .f32 x0 x0) then some (.flt .f32 x0) else (bif (icmp .eql (g_s_l01Bits x0) 2139095040) then some (.flt .f32 x0) else (bif (fcmp .eql .f32 x0 0) then some (.flt .f32 (g_s_l01From 1)) else (bif (fcmp .gtr .f32 x0 0) then some (.flt .f32 (g_s_l01From (IntKind.i64.wrap ((g_s_l01Bits x0) + 1)))) else some (.flt .f32 (g_s_l01From (IntKind.i64.wrap ((g_s_l01Bits x0) - 1)))))))) else none) := by kernel_rfl
theorem run_s_l01Next (x0 : Nat) (h : ok_s_l01Next x0 = true) : runPureS E_s_l01Next 4 32 (.any) [(.flt .f32 x0)] = some (r_s_l01Next (g_s_l01Next x0)) := (tree_s_l01Next x0).trans ((chk_k (F := r_s_l01Next) (ite_k (F := r_s_l01Next) (leaf_ok (F := r_s_l01Next) (a := x0)) (ite_k (F := r_s_l01Next) (leaf_ok (F := r_s_l01Next) (a := x0)) (ite_k (F := r_s_l01Next) (leaf_ok (F := r_s_l01Next) (a := (g_s_l01From 1))) (ite_k (F := r_s_l01Next) (leaf_ok (F := r_s_l01Next) (a := (g_s_l01From (IntKind.i64.wrap ((g_s_l01Bits x0) + 1))))) (leaf_ok (F := r_s_l01Next) (a := (g_s_l01From (IntKind.i64.wrap ((g_s_l01Bits x0) - 1)))))))))) h)
theorem summ_s_l01Next : SummOK Try.prog 32 s_s_l01Next := by
  refine ⟨pure_of_run0 orders names sok_s_l01Next lok_s_l01Next 4 (.any) (g := fun vs => (bif c_s_l01Next vs then v_s_l01Next vs else none)) fun vs v h => ?_, Try.f32, by kernel_rfl, by kernel_rfl, by kernel_rfl⟩
  try dsimp only at h
  cases hc : c_s_l01Next vs
  · rw [hc] at h; cases h
  rw [hc] at h
  simp only [cond_true] at h
  unfold v_s_l01Next at h
  split at h
  · cases h; exact run_s_l01Next _ hc
  · cases h

-- loop.example/g01253/impl.NextUp
def g_i_NextUp (x0 : Nat) : Nat := (bif (g_i_isNaN x0) then x0 else (bif (fcmp .gtr .f32 x0 2139095039) then x0 else (bif (fcmp .eql .f32 x0 0) then 1 else (bif (fcmp .lss .f32 x0 0) then (canon .f32 (Int.toNat (IntKind.u32.wrap ((bitsF x0) - 1)))) else (canon .f32 (Int.toNat (IntKind.u32.wrap ((bitsF x0) + 1))))))))
def ok_i_NextUp (x0 : Nat) : Bool := (Nat.beq x0 2143289344 || bitsC x0)
def r_i_NextUp (p : Nat) : V := (.flt .f32 p)
def v_i_NextUp : List V → Option V
  | [(.flt .f32 x0)] => some (r_i_NextUp (g_i_NextUp x0))
  | _ => none
def c_i_NextUp : List V → Bool
  | [(.flt .f32 x0)] => ok_i_NextUp x0
  | _ => false
def s_i_NextUp : Summ := .pureC (c_i_NextUp) (v_i_NextUp)
def S_i_NextUp : FuncId → Option Summ := fun f => match f with
  | 35 => some s_i_isNaN
  | 36 => some s_m_Float32bits
  | 38 => some s_m_Float32frombits
  | _ => none
noncomputable def E_i_NextUp : Env := ⟨Try.prog, S_i_NextUp, fun _ _ => [], fun _ _ => [], fun _ _ => [], 100, fun _ _ => none⟩
theorem sok_i_NextUp : SOK E_i_NextUp := by
  intro f s h
  have h : S_i_NextUp f = some s := h
  unfold S_i_NextUp at h
  split at h
  · cases h; exact summ_i_isNaN
  · cases h; exact summ_m_Float32bits
  · cases h; exact summ_m_Float32frombits
  · cases h
theorem lok_i_NextUp : LOK E_i_NextUp := noLoops rfl
set_option maxRecDepth 100000 in
theorem tree_i_NextUp (x0 : Nat) : runPureS E_i_NextUp 4 17 (.any) [(.flt .f32 x0)] = (bif (bitsC x0) then (bif (g_i_isNaN x0) then some (.flt .f32 x0) else (bif (fcmp .gtr .f32 x0 2139095039) then some (.flt .f32 x0) else (bif (fcmp .eql .f32 x0 0) then some (.flt .f32 1) else (bif (fcmp .lss .f32 x0 0) then some (.flt .f32 (canon .f32 (Int.toNat (IntKind.u32.wrap ((bitsF x0) - 1))))) else some (.flt .f32 (canon .f32 (Int.toNat (IntKind.u32.wrap ((bitsF x0) + 1))))))))) else none) := by kernel_rfl
theorem run_i_NextUp (x0 : Nat) (h : bitsC x0 = true) : runPureS E_i_NextUp 4 17 (.any) [(.flt .f32 x0)] = some (r_i_NextUp (g_i_NextUp x0)) := (tree_i_NextUp x0).trans ((chk_k (F := r_i_NextUp) (ite_k (F := r_i_NextUp) (leaf_ok (F := r_i_NextUp) (a := x0)) (ite_k (F := r_i_NextUp) (leaf_ok (F := r_i_NextUp) (a := x0)) (ite_k (F := r_i_NextUp) (leaf_ok (F := r_i_NextUp) (a := 1)) (ite_k (F := r_i_NextUp) (leaf_ok (F := r_i_NextUp) (a := (canon .f32 (Int.toNat (IntKind.u32.wrap ((bitsF x0) - 1)))))) (leaf_ok (F := r_i_NextUp) (a := (canon .f32 (Int.toNat (IntKind.u32.wrap ((bitsF x0) + 1))))))))))) h)
def S_i_NextUpN : FuncId → Option Summ := fun f => match f with
  | 35 => some s_i_isNaN
  | 36 => some s_m_Float32bitsAny
  | 38 => some s_m_Float32frombits
  | _ => none
noncomputable def E_i_NextUpN : Env := ⟨Try.prog, S_i_NextUpN, fun _ _ => [], fun _ _ => [], fun _ _ => [], 100, fun _ _ => none⟩
theorem sok_i_NextUpN : SOK E_i_NextUpN := by
  intro f s h
  have h : S_i_NextUpN f = some s := h
  unfold S_i_NextUpN at h
  split at h
  · cases h; exact summ_i_isNaN
  · cases h; exact summ_m_Float32bitsAny
  · cases h; exact summ_m_Float32frombits
  · cases h
theorem nan_i_NextUp : runPure E_i_NextUpN 4 17 [(.flt .f32 2143289344)] = some (.flt .f32 2143289344) := by kernel_rfl
theorem summ_i_NextUp : SummOK Try.prog 17 s_i_NextUp := by
  refine ⟨fun _ vs _ _ v hI hr h => ?_, Try.f17, by kernel_rfl, by kernel_rfl, by kernel_rfl⟩
  dsimp only at h
  cases hc : c_i_NextUp vs
  · rw [hc] at h; cases h
  rw [hc] at h
  simp only [cond_true] at h
  unfold v_i_NextUp at h
  split at h
  · rename_i x0
    cases h
    have hc' : (Nat.beq x0 2143289344 || bitsC x0) = true := hc
    cases hb : Nat.beq x0 2143289344
    · rw [hb] at hc'
      exact runPureS_calls (E := E_i_NextUp) orders names sok_i_NextUp lok_i_NextUp (run_i_NextUp x0 hc') hI hr
    · have := Nat.eq_of_beq_eq_true hb
      subst this
      have hg : g_i_NextUp 2143289344 = 2143289344 := by decide +kernel
      rw [hg]
      exact runPure_calls (E := E_i_NextUpN) orders names sok_i_NextUpN (noLoops rfl) nan_i_NextUp hI hr
  · cases h

-- loop.example/g01253/impl.NextDown
def g_i_NextDown (x0 : Nat) : Nat := (fneg .f32 (g_i_NextUp (fneg .f32 x0)))
def ok_i_NextDown (x0 : Nat) : Bool := ((ok_i_NextUp (fneg .f32 x0)))
def r_i_NextDown (p : Nat) : V := (.flt .f32 p)
def v_i_NextDown : List V → Option V
  | [(.flt .f32 x0)] => some (r_i_NextDown (g_i_NextDown x0))
  | _ => none
def c_i_NextDown : List V → Bool
  | [(.flt .f32 x0)] => ok_i_NextDown x0
  | _ => false
def s_i_NextDown : Summ := .pureC (c_i_NextDown) (v_i_NextDown)
def S_i_NextDown : FuncId → Option Summ := fun f => match f with
  | 17 => some s_i_NextUp
  | _ => none
noncomputable def E_i_NextDown : Env := ⟨Try.prog, S_i_NextDown, fun _ _ => [], fun _ _ => [], fun _ _ => [], 100, fun _ _ => none⟩
theorem sok_i_NextDown : SOK E_i_NextDown := by
  intro f s h
  have h : S_i_NextDown f = some s := h
  unfold S_i_NextDown at h
  split at h
  · cases h; exact summ_i_NextUp
  · cases h
theorem lok_i_NextDown : LOK E_i_NextDown := noLoops rfl
set_option maxRecDepth 100000 in
theorem tree_i_NextDown (x0 : Nat) : runPureS E_i_NextDown 4 18 (.any) [(.flt .f32 x0)] = (bif (ok_i_NextUp (fneg .f32 x0)) then some (.flt .f32 (fneg .f32 (g_i_NextUp (fneg .f32 x0)))) else none) := by kernel_rfl
theorem run_i_NextDown (x0 : Nat) (h : ok_i_NextDown x0 = true) : runPureS E_i_NextDown 4 18 (.any) [(.flt .f32 x0)] = some (r_i_NextDown (g_i_NextDown x0)) := (tree_i_NextDown x0).trans ((chk_k (F := r_i_NextDown) (leaf_ok (F := r_i_NextDown) (a := (fneg .f32 (g_i_NextUp (fneg .f32 x0)))))) h)
theorem summ_i_NextDown : SummOK Try.prog 18 s_i_NextDown := by
  refine ⟨pure_of_run0 orders names sok_i_NextDown lok_i_NextDown 4 (.any) (g := fun vs => (bif c_i_NextDown vs then v_i_NextDown vs else none)) fun vs v h => ?_, Try.f18, by kernel_rfl, by kernel_rfl, by kernel_rfl⟩
  try dsimp only at h
  cases hc : c_i_NextDown vs
  · rw [hc] at h; cases h
  rw [hc] at h
  simp only [cond_true] at h
  unfold v_i_NextDown at h
  split at h
  · cases h; exact run_i_NextDown _ hc
  · cases h

-- (*loop.example/g01253/spec.l00Src).next
def r_s_l00Src_next (es : List (List V)) (p : Int × Int × Int) : V × Cells := ((.int .i64 p.1), [(.sl 1 es), (.int .i64 p.2.1), (.int .u64 p.2.2)])
def g_s_l00Src_next (es : List (List V)) (at_ : Int) (seed : Int) : Int × Int × Int := (bif (icmp .lss at_ (Int.ofNat (es).length)) then (bif (icmp .leq (IntKind.i64.wrap (at_ + 1)) (Int.ofNat (es).length)) then ((IntKind.i64.wrap (asI ((getAt ((getAt es (Int.toNat at_)).getD []) 0).getD .und))), (IntKind.i64.wrap (at_ + 1)), (IntKind.u64.wrap ((IntKind.u64.wrap ((IntKind.u64.wrap (seed * 6364136223846793005)) + (IntKind.u64.wrap (IntKind.i64.wrap (asI ((getAt ((getAt es (Int.toNat at_)).getD []) 0).getD .und)))))) + 1442695040888963407))) else ((IntKind.i64.wrap (ibits .and .u64 (Int.fdiv (IntKind.u64.wrap ((IntKind.u64.wrap ((IntKind.u64.wrap (seed * 6364136223846793005)) + (IntKind.u64.wrap (IntKind.i64.wrap (asI ((getAt ((getAt es (Int.toNat at_)).getD []) 0).getD .und)))))) + 1442695040888963407)) (2 ^ 40)) 255)), (IntKind.i64.wrap (at_ + 1)), (IntKind.u64.wrap ((IntKind.u64.wrap ((IntKind.u64.wrap (seed * 6364136223846793005)) + (IntKind.u64.wrap (IntKind.i64.wrap (asI ((getAt ((getAt es (Int.toNat at_)).getD []) 0).getD .und)))))) + 1442695040888963407)))) else (bif (icmp .leq (IntKind.i64.wrap (at_ + 1)) (Int.ofNat (es).length)) then (0, (IntKind.i64.wrap (at_ + 1)), (IntKind.u64.wrap ((IntKind.u64.wrap ((IntKind.u64.wrap (seed * 6364136223846793005)) + 0)) + 1442695040888963407))) else ((IntKind.i64.wrap (ibits .and .u64 (Int.fdiv (IntKind.u64.wrap ((IntKind.u64.wrap ((IntKind.u64.wrap (seed * 6364136223846793005)) + 0)) + 1442695040888963407)) (2 ^ 40)) 255)), (IntKind.i64.wrap (at_ + 1)), (IntKind.u64.wrap ((IntKind.u64.wrap ((IntKind.u64.wrap (seed * 6364136223846793005)) + 0)) + 1442695040888963407)))))
def ok_s_l00Src_next (es : List (List V)) (at_ : Int) (seed : Int) : Bool := (bif (icmp .lss at_ (Int.ofNat (es).length)) then ((inB at_ (es).length) && (((getAt ((getAt es (Int.toNat at_)).getD []) 0).isSome && (isI .u8 ((getAt ((getAt es (Int.toNat at_)).getD []) 0).getD .und))))) else true)
def v_s_l00Src_next (cs : Cells) (rest : List V) : Option (V × Cells) :=
  match cs, rest with
  | [(.sl 1 es), (.int .i64 at_), (.int .u64 seed)], [] => some (r_s_l00Src_next es (g_s_l00Src_next es at_ seed))
  | _, _ => none
def c_s_l00Src_next (cs : Cells) (rest : List V) : Bool :=
  match cs, rest with
  | [(.sl 1 es), (.int .i64 at_), (.int .u64 seed)], [] => ok_s_l00Src_next es at_ seed
  | _, _ => false
def s_s_l00Src_next : Summ := .objC c_s_l00Src_next v_s_l00Src_next
def S_s_l00Src_next : FuncId → Option Summ := fun _ => none
noncomputable def E_s_l00Src_next : Env := ⟨Try.prog, S_s_l00Src_next, fun _ _ => [], fun _ _ => [], fun _ _ => [], 100, fun _ _ => none⟩
theorem sok_s_l00Src_next : SOK E_s_l00Src_next := fun _ _ h => by cases h
theorem lok_s_l00Src_next : LOK E_s_l00Src_next := noLoops rfl
set_option maxRecDepth 100000 in
theorem tree_s_l00Src_next (es : List (List V)) (at_ : Int) (seed : Int) : runObj E_s_l00Src_next 4 44 [(.sl 1 es), (.int .i64 at_), (.int .u64 seed)] [] = (bif (icmp .lss at_ (Int.ofNat (es).length)) then (bif (inB at_ (es).length) then (bif ((getAt ((getAt es (Int.toNat at_)).getD []) 0).isSome && (isI .u8 ((getAt ((getAt es (Int.toNat at_)).getD []) 0).getD .und))) then (bif (icmp .leq (IntKind.i64.wrap (at_ + 1)) (Int.ofNat (es).length)) then some ((.int .i64 (IntKind.i64.wrap (asI ((getAt ((getAt es (Int.toNat at_)).getD []) 0).getD .und)))), [(.sl 1 es), (.int .i64 (IntKind.i64.wrap (at_ + 1))), (.int .u64 (IntKind.u64.wrap ((IntKind.u64.wrap ((IntKind.u64.wrap (seed * 6364136223846793005)) + (IntKind.u64.wrap (IntKind.i64.wrap (asI ((getAt ((getAt es (Int.toNat at_)).getD []) 0).getD .und)))))) + 1442695040888963407)))]) else some ((.int .i64 (IntKind.i64.wrap (ibits .and .u64 (Int.fdiv (IntKind.u64.wrap ((IntKind.u64.wrap ((IntKind.u64.wrap (seed * 6364136223846793005)) + (IntKind.u64.wrap (IntKind.i64.wrap (asI ((getAt ((getAt es (Int.toNat at_)).getD []) 0).getD .und)))))) + 1442695040888963407)) (2 ^ 40)) 255))), [(.sl 1 es), (.int .i64 (IntKind.i64.wrap (at_ + 1))), (.int .u64 (IntKind.u64.wrap ((IntKind.u64.wrap ((IntKind.u64.wrap (seed * 6364136223846793005)) + (IntKind.u64.wrap (IntKind.i64.wrap (asI ((getAt ((getAt es (Int.toNat at_)).getD []) 0).getD .und)))))) + 1442695040888963407)))])) else none) else none) else (bif (icmp .leq (IntKind.i64.wrap (at_ + 1)) (Int.ofNat (es).length)) then some ((.int .i64 0), [(.sl 1 es), (.int .i64 (IntKind.i64.wrap (at_ + 1))), (.int .u64 (IntKind.u64.wrap ((IntKind.u64.wrap ((IntKind.u64.wrap (seed * 6364136223846793005)) + 0)) + 1442695040888963407)))]) else some ((.int .i64 (IntKind.i64.wrap (ibits .and .u64 (Int.fdiv (IntKind.u64.wrap ((IntKind.u64.wrap ((IntKind.u64.wrap (seed * 6364136223846793005)) + 0)) + 1442695040888963407)) (2 ^ 40)) 255))), [(.sl 1 es), (.int .i64 (IntKind.i64.wrap (at_ + 1))), (.int .u64 (IntKind.u64.wrap ((IntKind.u64.wrap ((IntKind.u64.wrap (seed * 6364136223846793005)) + 0)) + 1442695040888963407)))]))) := by kernel_rfl
theorem run_s_l00Src_next (es : List (List V)) (at_ : Int) (seed : Int) (h : ok_s_l00Src_next es at_ seed = true) : runObj E_s_l00Src_next 4 44 [(.sl 1 es), (.int .i64 at_), (.int .u64 seed)] [] = some (r_s_l00Src_next es (g_s_l00Src_next es at_ seed)) := (tree_s_l00Src_next es at_ seed).trans ((ite_ok (F := (r_s_l00Src_next es)) (chk_ok (F := (r_s_l00Src_next es)) (chk_k (F := (r_s_l00Src_next es)) (ite_k (F := (r_s_l00Src_next es)) (leaf_ok (F := (r_s_l00Src_next es)) (a := ((IntKind.i64.wrap (asI ((getAt ((getAt es (Int.toNat at_)).getD []) 0).getD .und))), (IntKind.i64.wrap (at_ + 1)), (IntKind.u64.wrap ((IntKind.u64.wrap ((IntKind.u64.wrap (seed * 6364136223846793005)) + (IntKind.u64.wrap (IntKind.i64.wrap (asI ((getAt ((getAt es (Int.toNat at_)).getD []) 0).getD .und)))))) + 1442695040888963407))))) (leaf_ok (F := (r_s_l00Src_next es)) (a := ((IntKind.i64.wrap (ibits .and .u64 (Int.fdiv (IntKind.u64.wrap ((IntKind.u64.wrap ((IntKind.u64.wrap (seed * 6364136223846793005)) + (IntKind.u64.wrap (IntKind.i64.wrap (asI ((getAt ((getAt es (Int.toNat at_)).getD []) 0).getD .und)))))) + 1442695040888963407)) (2 ^ 40)) 255)), (IntKind.i64.wrap (at_ + 1)), (IntKind.u64.wrap ((IntKind.u64.wrap ((IntKind.u64.wrap (seed * 6364136223846793005)) + (IntKind.u64.wrap (IntKind.i64.wrap (asI ((getAt ((getAt es (Int.toNat at_)).getD []) 0).getD .und)))))) + 1442695040888963407)))))))) (fun _ => (ite_k (F := (r_s_l00Src_next es)) (leaf_ok (F := (r_s_l00Src_next es)) (a := (0, (IntKind.i64.wrap (at_ + 1)), (IntKind.u64.wrap ((IntKind.u64.wrap ((IntKind.u64.wrap (seed * 6364136223846793005)) + 0)) + 1442695040888963407))))) (leaf_ok (F := (r_s_l00Src_next es)) (a := ((IntKind.i64.wrap (ibits .and .u64 (Int.fdiv (IntKind.u64.wrap ((IntKind.u64.wrap ((IntKind.u64.wrap (seed * 6364136223846793005)) + 0)) + 1442695040888963407)) (2 ^ 40)) 255)), (IntKind.i64.wrap (at_ + 1)), (IntKind.u64.wrap ((IntKind.u64.wrap ((IntKind.u64.wrap (seed * 6364136223846793005)) + 0)) + 1442695040888963407)))))))) h)
theorem summ_s_l00Src_next : SummOK Try.prog 44 s_s_l00Src_next := by
  refine ⟨obj_of_run orders names sok_s_l00Src_next lok_s_l00Src_next 4 fun cs rest r h => ?_, Try.f44, by kernel_rfl, by kernel_rfl, by kernel_rfl⟩
  cases hc : c_s_l00Src_next cs rest
  · rw [hc] at h; cases h
  rw [hc] at h
  simp only [cond_true] at h
  unfold v_s_l00Src_next at h
  split at h
  · cases h; exact run_s_l00Src_next _ _ _ hc
  · cases h

-- (*loop.example/g01253/spec.l00Src).pick
def r_s_l00Src_pick (es : List (List V)) (p : Int × Int × Int) : V × Cells := ((.int .i64 p.1), [(.sl 1 es), (.int .i64 p.2.1), (.int .u64 p.2.2)])
def g_s_l00Src_pick (es : List (List V)) (at_ : Int) (seed : Int) (x0 : Int) : Int × Int × Int := (bif (icmp .leq x0 1) then (0, at_, seed) else (bif (icmp .gtr x0 200) then ((Int.tmod (IntKind.i64.wrap ((IntKind.i64.wrap ((g_s_l00Src_next es at_ seed).1 * 256)) + (g_s_l00Src_next es (g_s_l00Src_next es at_ seed).2.1 (g_s_l00Src_next es at_ seed).2.2).1)) x0), (g_s_l00Src_next es (g_s_l00Src_next es at_ seed).2.1 (g_s_l00Src_next es at_ seed).2.2).2.1, (g_s_l00Src_next es (g_s_l00Src_next es at_ seed).2.1 (g_s_l00Src_next es at_ seed).2.2).2.2) else ((Int.tmod (g_s_l00Src_next es at_ seed).1 x0), (g_s_l00Src_next es at_ seed).2.1, (g_s_l00Src_next es at_ seed).2.2)))
def ok_s_l00Src_pick (es : List (List V)) (at_ : Int) (seed : Int) (x0 : Int) : Bool := (bif (icmp .leq x0 1) then true else ((ok_s_l00Src_next es at_ seed) && (bif (icmp .gtr x0 200) then ((ok_s_l00Src_next es (g_s_l00Src_next es at_ seed).2.1 (g_s_l00Src_next es at_ seed).2.2) && ((!(x0 == 0)))) else ((!(x0 == 0))))))
def v_s_l00Src_pick (cs : Cells) (rest : List V) : Option (V × Cells) :=
  match cs, rest with
  | [(.sl 1 es), (.int .i64 at_), (.int .u64 seed)], [(.int .i64 x0)] => some (r_s_l00Src_pick es (g_s_l00Src_pick es at_ seed x0))
  | _, _ => none
def c_s_l00Src_pick (cs : Cells) (rest : List V) : Bool :=
  match cs, rest with
  | [(.sl 1 es), (.int .i64 at_), (.int .u64 seed)], [(.int .i64 x0)] => ok_s_l00Src_pick es at_ seed x0
  | _, _ => false
def s_s_l00Src_pick : Summ := .objC c_s_l00Src_pick v_s_l00Src_pick
def S_s_l00Src_pick : FuncId → Option Summ := fun f => match f with
  | 44 => some s_s_l00Src_next
  | _ => none
noncomputable def E_s_l00Src_pick : Env := ⟨Try.prog, S_s_l00Src_pick, fun _ _ => [], fun _ _ => [], fun _ _ => [], 100, fun _ _ => none⟩
theorem sok_s_l00Src_pick : SOK E_s_l00Src_pick := by
  intro f s h
  have h : S_s_l00Src_pick f = some s := h
  unfold S_s_l00Src_pick at h
  split at h
  · cases h; exact summ_s_l00Src_next
  · cases h
theorem lok_s_l00Src_pick : LOK E_s_l00Src_pick := noLoops rfl
set_option maxRecDepth 100000 in
theorem tree_s_l00Src_pick (es : List (List V)) (at_ : Int) (seed : Int) (x0 : Int) : runObj E_s_l00Src_pick 4 28 [(.sl 1 es), (.int .i64 at_), (.int .u64 seed)] [(.int .i64 x0)] = (bif (icmp .leq x0 1) then some ((.int .i64 0), [(.sl 1 es), (.int .i64 at_), (.int .u64 seed)]) else (bif (ok_s_l00Src_next es at_ seed) then (bif (icmp .gtr x0 200) then (bif (ok_s_l00Src_next es (g_s_l00Src_next es at_ seed).2.1 (g_s_l00Src_next es at_ seed).2.2) then (bif (!(x0 == 0)) then some ((.int .i64 (Int.tmod (IntKind.i64.wrap ((IntKind.i64.wrap ((g_s_l00Src_next es at_ seed).1 * 256)) + (g_s_l00Src_next es (g_s_l00Src_next es at_ seed).2.1 (g_s_l00Src_next es at_ seed).2.2).1)) x0)), [(.sl 1 es), (.int .i64 (g_s_l00Src_next es (g_s_l00Src_next es at_ seed).2.1 (g_s_l00Src_next es at_ seed).2.2).2.1), (.int .u64 (g_s_l00Src_next es (g_s_l00Src_next es at_ seed).2.1 (g_s_l00Src_next es at_ seed).2.2).2.2)]) else none) else none) else (bif (!(x0 == 0)) then some ((.int .i64 (Int.tmod (g_s_l00Src_next es at_ seed).1 x0)), [(.sl 1 es), (.int .i64 (g_s_l00Src_next es at_ seed).2.1), (.int .u64 (g_s_l00Src_next es at_ seed).2.2)]) else none)) else none)) := by kernel_rfl
theorem run_s_l00Src_pick (es : List (List V)) (at_ : Int) (seed : Int) (x0 : Int) (h : ok_s_l00Src_pick es at_ seed x0 = true) : runObj E_s_l00Src_pick 4 28 [(.sl 1 es), (.int .i64 at_), (.int .u64 seed)] [(.int .i64 x0)] = some (r_s_l00Src_pick es (g_s_l00Src_pick es at_ seed x0)) := (tree_s_l00Src_pick es at_ seed x0).trans ((ite_ok (F := (r_s_l00Src_pick es)) (fun _ => (leaf_ok (F := (r_s_l00Src_pick es)) (a := (0, at_, seed)))) (chk_ok (F := (r_s_l00Src_pick es)) (ite_ok (F := (r_s_l00Src_pick es)) (chk_ok (F := (r_s_l00Src_pick es)) (chk_k (F := (r_s_l00Src_pick es)) (leaf_ok (F := (r_s_l00Src_pick es)) (a := ((Int.tmod (IntKind.i64.wrap ((IntKind.i64.wrap ((g_s_l00Src_next es at_ seed).1 * 256)) + (g_s_l00Src_next es (g_s_l00Src_next es at_ seed).2.1 (g_s_l00Src_next es at_ seed).2.2).1)) x0), (g_s_l00Src_next es (g_s_l00Src_next es at_ seed).2.1 (g_s_l00Src_next es at_ seed).2.2).2.1, (g_s_l00Src_next es (g_s_l00Src_next es at_ seed).2.1 (g_s_l00Src_next es at_ seed).2.2).2.2))))) (chk_k (F := (r_s_l00Src_pick es)) (leaf_ok (F := (r_s_l00Src_pick es)) (a := ((Int.tmod (g_s_l00Src_next es at_ seed).1 x0), (g_s_l00Src_next es at_ seed).2.1, (g_s_l00Src_next es at_ seed).2.2))))))) h)
theorem summ_s_l00Src_pick : SummOK Try.prog 28 s_s_l00Src_pick := by
  refine ⟨obj_of_run orders names sok_s_l00Src_pick lok_s_l00Src_pick 4 fun cs rest r h => ?_, Try.f28, by kernel_rfl, by kernel_rfl, by kernel_rfl⟩
  cases hc : c_s_l00Src_pick cs rest
  · rw [hc] at h; cases h
  rw [hc] at h
  simp only [cond_true] at h
  unfold v_s_l00Src_pick at h
  split at h
  · cases h; exact run_s_l00Src_pick _ _ _ _ hc
  · cases h

-- (*loop.example/g01253/spec.l00Src).one
def r_s_l00Src_one (es : List (List V)) (p : Bool × Int × Int) : V × Cells := ((.bool p.1), [(.sl 1 es), (.int .i64 p.2.1), (.int .u64 p.2.2)])
def g_s_l00Src_one (es : List (List V)) (at_ : Int) (seed : Int) (x0 : Int) : Bool × Int × Int := ((icmp .eql (g_s_l00Src_pick es at_ seed x0).1 0), (g_s_l00Src_pick es at_ seed x0).2.1, (g_s_l00Src_pick es at_ seed x0).2.2)
def ok_s_l00Src_one (es : List (List V)) (at_ : Int) (seed : Int) (x0 : Int) : Bool := ((ok_s_l00Src_pick es at_ seed x0))
def v_s_l00Src_one (cs : Cells) (rest : List V) : Option (V × Cells) :=
  match cs, rest with
  | [(.sl 1 es), (.int .i64 at_), (.int .u64 seed)], [(.int .i64 x0)] => some (r_s_l00Src_one es (g_s_l00Src_one es at_ seed x0))
  | _, _ => none
def c_s_l00Src_one (cs : Cells) (rest : List V) : Bool :=
  match cs, rest with
  | [(.sl 1 es), (.int .i64 at_), (.int .u64 seed)], [(.int .i64 x0)] => ok_s_l00Src_one es at_ seed x0
  | _, _ => false
def s_s_l00Src_one : Summ := .objC c_s_l00Src_one v_s_l00Src_one
def S_s_l00Src_one : FuncId → Option Summ := fun f => match f with
  | 28 => some s_s_l00Src_pick
  | _ => none
noncomputable def E_s_l00Src_one : Env := ⟨Try.prog, S_s_l00Src_one, fun _ _ => [], fun _ _ => [], fun _ _ => [], 100, fun _ _ => none⟩
theorem sok_s_l00Src_one : SOK E_s_l00Src_one := by
  intro f s h
  have h : S_s_l00Src_one f = some s := h
  unfold S_s_l00Src_one at h
  split at h
  · cases h; exact summ_s_l00Src_pick
  · cases h
theorem lok_s_l00Src_one : LOK E_s_l00Src_one := noLoops rfl
set_option maxRecDepth 100000 in
theorem tree_s_l00Src_one (es : List (List V)) (at_ : Int) (seed : Int) (x0 : Int) : runObj E_s_l00Src_one 4 27 [(.sl 1 es), (.int .i64 at_), (.int .u64 seed)] [(.int .i64 x0)] = (bif (ok_s_l00Src_pick es at_ seed x0) then some ((.bool (icmp .eql (g_s_l00Src_pick es at_ seed x0).1 0)), [(.sl 1 es), (.int .i64 (g_s_l00Src_pick es at_ seed x0).2.1), (.int .u64 (g_s_l00Src_pick es at_ seed x0).2.2)]) else none) := by kernel_rfl
theorem run_s_l00Src_one (es : List (List V)) (at_ : Int) (seed : Int) (x0 : Int) (h : ok_s_l00Src_one es at_ seed x0 = true) : runObj E_s_l00Src_one 4 27 [(.sl 1 es), (.int .i64 at_), (.int .u64 seed)] [(.int .i64 x0)] = some (r_s_l00Src_one es (g_s_l00Src_one es at_ seed x0)) := (tree_s_l00Src_one es at_ seed x0).trans ((chk_k (F := (r_s_l00Src_one es)) (leaf_ok (F := (r_s_l00Src_one es)) (a := ((icmp .eql (g_s_l00Src_pick es at_ seed x0).1 0), (g_s_l00Src_pick es at_ seed x0).2.1, (g_s_l00Src_pick es at_ seed x0).2.2)))) h)
theorem summ_s_l00Src_one : SummOK Try.prog 27 s_s_l00Src_one := by
  refine ⟨obj_of_run orders names sok_s_l00Src_one lok_s_l00Src_one 4 fun cs rest r h => ?_, Try.f27, by kernel_rfl, by kernel_rfl, by kernel_rfl⟩
  cases hc : c_s_l00Src_one cs rest
  · rw [hc] at h; cases h
  rw [hc] at h
  simp only [cond_true] at h
  unfold v_s_l00Src_one at h
  split at h
  · cases h; exact run_s_l00Src_one _ _ _ _ hc
  · cases h

-- loop.example/g01253/spec.l01DrawPlain
def r_s_l01DrawPlain (es : List (List V)) (p : Nat × Int × Int) : V × Cells := ((.flt .f32 p.1), [(.sl 1 es), (.int .i64 p.2.1), (.int .u64 p.2.2)])
def g_s_l01DrawPlain (es : List (List V)) (at_ : Int) (seed : Int) : Nat × Int × Int := (bif (g_s_l00Src_one es (g_s_l00Src_pick es at_ seed 129).2.1 (g_s_l00Src_pick es at_ seed 129).2.2 4).1 then ((fop .quo .f32 (FloatKind.f32.nearest (IntKind.i64.wrap ((g_s_l00Src_pick es at_ seed 129).1 - 64))) 1088421888), (g_s_l00Src_one es (g_s_l00Src_pick es at_ seed 129).2.1 (g_s_l00Src_pick es at_ seed 129).2.2 4).2.1, (g_s_l00Src_one es (g_s_l00Src_pick es at_ seed 129).2.1 (g_s_l00Src_pick es at_ seed 129).2.2 4).2.2) else ((fop .quo .f32 (FloatKind.f32.nearest (IntKind.i64.wrap ((g_s_l00Src_pick es at_ seed 129).1 - 64))) 1098907648), (g_s_l00Src_one es (g_s_l00Src_pick es at_ seed 129).2.1 (g_s_l00Src_pick es at_ seed 129).2.2 4).2.1, (g_s_l00Src_one es (g_s_l00Src_pick es at_ seed 129).2.1 (g_s_l00Src_pick es at_ seed 129).2.2 4).2.2))
def ok_s_l01DrawPlain (es : List (List V)) (at_ : Int) (seed : Int) : Bool := ((ok_s_l00Src_pick es at_ seed 129) && ((ok_s_l00Src_one es (g_s_l00Src_pick es at_ seed 129).2.1 (g_s_l00Src_pick es at_ seed 129).2.2 4)))
def v_s_l01DrawPlain (cs : Cells) (rest : List V) : Option (V × Cells) :=
  match cs, rest with
  | [(.sl 1 es), (.int .i64 at_), (.int .u64 seed)], [] => some (r_s_l01DrawPlain es (g_s_l01DrawPlain es at_ seed))
  | _, _ => none
def c_s_l01DrawPlain (cs : Cells) (rest : List V) : Bool :=
  match cs, rest with
  | [(.sl 1 es), (.int .i64 at_), (.int .u64 seed)], [] => ok_s_l01DrawPlain es at_ seed
  | _, _ => false
def s_s_l01DrawPlain : Summ := .objC c_s_l01DrawPlain v_s_l01DrawPlain
def S_s_l01DrawPlain : FuncId → Option Summ := fun f => match f with
  | 27 => some s_s_l00Src_one
  | 28 => some s_s_l00Src_pick
  | _ => none
noncomputable def E_s_l01DrawPlain : Env := ⟨Try.prog, S_s_l01DrawPlain, fun _ _ => [], fun _ _ => [], fun _ _ => [], 100, fun _ _ => none⟩
theorem sok_s_l01DrawPlain : SOK E_s_l01DrawPlain := by
  intro f s h
  have h : S_s_l01DrawPlain f = some s := h
  unfold S_s_l01DrawPlain at h
  split at h
  · cases h; exact summ_s_l00Src_one
  · cases h; exact summ_s_l00Src_pick
  · cases h
theorem lok_s_l01DrawPlain : LOK E_s_l01DrawPlain := noLoops rfl
set_option maxRecDepth 100000 in
theorem tree_s_l01DrawPlain (es : List (List V)) (at_ : Int) (seed : Int) : runObj E_s_l01DrawPlain 4 45 [(.sl 1 es), (.int .i64 at_), (.int .u64 seed)] [] = (bif (ok_s_l00Src_pick es at_ seed 129) then (bif (ok_s_l00Src_one es (g_s_l00Src_pick es at_ seed 129).2.1 (g_s_l00Src_pick es at_ seed 129).2.2 4) then (bif (g_s_l00Src_one es (g_s_l00Src_pick es at_ seed 129).2.1 (g_s_l00Src_pick es at_ seed 129).2.2 4).1 then some ((.flt .f32 (fop .quo .f32 (FloatKind.f32.nearest (IntKind.i64.wrap ((g_s_l00Src_pick es at_ seed 129).1 - 64))) 1088421888)), [(.sl 1 es), (.int .i64 (g_s_l00Src_one es (g_s_l00Src_pick es at_ seed 129).2.1 (g_s_l00Src_pick es at_ seed 129).2.2 4).2.1), (.int .u64 (g_s_l00Src_one es (g_s_l00Src_pick es at_ seed 129).2.1 (g_s_l00Src_pick es at_ seed 129).2.2 4).2.2)]) else some ((.flt .f32 (fop .quo .f32 (FloatKind.f32.nearest (IntKind.i64.wrap ((g_s_l00Src_pick es at_ seed 129).1 - 64))) 1098907648)), [(.sl 1 es), (.int .i64 (g_s_l00Src_one es (g_s_l00Src_pick es at_ seed 129).2.1 (g_s_l00Src_pick es at_ seed 129).2.2 4).2.1), (.int .u64 (g_s_l00Src_one es (g_s_l00Src_pick es at_ seed 129).2.1 (g_s_l00Src_pick es at_ seed 129).2.2 4).2.2)])) else none) else none) := by kernel_rfl
theorem run_s_l01DrawPlain (es : List (List V)) (at_ : Int) (seed : Int) (h : ok_s_l01DrawPlain es at_ seed = true) : runObj E_s_l01DrawPlain 4 45 [(.sl 1 es), (.int .i64 at_), (.int .u64 seed)] [] = some (r_s_l01DrawPlain es (g_s_l01DrawPlain es at_ seed)) := (tree_s_l01DrawPlain es at_ seed).trans ((chk_ok (F := (r_s_l01DrawPlain es)) (chk_k (F := (r_s_l01DrawPlain es)) (ite_k (F := (r_s_l01DrawPlain es)) (leaf_ok (F := (r_s_l01DrawPlain es)) (a := ((fop .quo .f32 (FloatKind.f32.nearest (IntKind.i64.wrap ((g_s_l00Src_pick es at_ seed 129).1 - 64))) 1088421888), (g_s_l00Src_one es (g_s_l00Src_pick es at_ seed 129).2.1 (g_s_l00Src_pick es at_ seed 129).2.2 4).2.1, (g_s_l00Src_one es (g_s_l00Src_pick es at_ seed 129).2.1 (g_s_l00Src_pick es at_ seed 129).2.2 4).2.2))) (leaf_ok (F := (r_s_l01DrawPlain es)) (a := ((fop .quo .f32 (FloatKind.f32.nearest (IntKind.i64.wrap ((g_s_l00Src_pick es at_ seed 129).1 - 64))) 1098907648), (g_s_l00Src_one es (g_s_l00Src_pick es at_ seed 129).2.1 (g_s_l00Src_pick es at_ seed 129).2.2 4).2.1, (g_s_l00Src_one es (g_s_l00Src_pick es at_ seed 129).2.1 (g_s_l00Src_pick es at_ seed 129).2.2 4).2.2)))))) h)
theorem summ_s_l01DrawPlain : SummOK Try.prog 45 s_s_l01DrawPlain := by
  refine ⟨obj_of_run orders names sok_s_l01DrawPlain lok_s_l01DrawPlain 4 fun cs rest r h => ?_, Try.f45, by kernel_rfl, by kernel_rfl, by kernel_rfl⟩
  cases hc : c_s_l01DrawPlain cs rest
  · rw [hc] at h; cases h
  rw [hc] at h
  simp only [cond_true] at h
  unfold v_s_l01DrawPlain at h
  split at h
  · cases h; exact run_s_l01DrawPlain _ _ _ hc
  · cases h

-- loop.example/g01253/spec.l01DrawFloat
def r_s_l01DrawFloat (es : List (List V)) (p : Nat × Int × Int) : V × Cells := ((.flt .f32 p.1), [(.sl 1 es), (.int .i64 p.2.1), (.int .u64 p.2.2)])
def g_s_l01DrawFloat (es : List (List V)) (at_ : Int) (seed : Int) : Nat × Int × Int := (bif (!(g_s_l00Src_one es at_ seed 12).1) then ((g_s_l01DrawPlain es (g_s_l00Src_one es at_ seed 12).2.1 (g_s_l00Src_one es at_ seed 12).2.2).1, (g_s_l01DrawPlain es (g_s_l00Src_one es at_ seed 12).2.1 (g_s_l00Src_one es at_ seed 12).2.2).2.1, (g_s_l01DrawPlain es (g_s_l00Src_one es at_ seed 12).2.1 (g_s_l00Src_one es at_ seed 12).2.2).2.2) else (bif (icmp .eql (g_s_l00Src_pick es (g_s_l00Src_one es at_ seed 12).2.1 (g_s_l00Src_one es at_ seed 12).2.2 4).1 0) then ((g_s_l01From (asI ((getAt ([(.int .i64 0), (.int .i64 2147483648), (.int .i64 2139095040), (.int .i64 4286578688), (.int .i64 2143289344), (.int .i64 1), (.int .i64 2139095039), (.int .i64 8388608), (.int .i64 8388607), (.int .i64 2147483649)] : List V) (0 + Int.toNat (g_s_l00Src_pick es (g_s_l00Src_pick es (g_s_l00Src_one es at_ seed 12).2.1 (g_s_l00Src_one es at_ seed 12).2.2 4).2.1 (g_s_l00Src_pick es (g_s_l00Src_one es at_ seed 12).2.1 (g_s_l00Src_one es at_ seed 12).2.2 4).2.2 10).1 * 1)).getD .und))), (g_s_l00Src_pick es (g_s_l00Src_pick es (g_s_l00Src_one es at_ seed 12).2.1 (g_s_l00Src_one es at_ seed 12).2.2 4).2.1 (g_s_l00Src_pick es (g_s_l00Src_one es at_ seed 12).2.1 (g_s_l00Src_one es at_ seed 12).2.2 4).2.2 10).2.1, (g_s_l00Src_pick es (g_s_l00Src_pick es (g_s_l00Src_one es at_ seed 12).2.1 (g_s_l00Src_one es at_ seed 12).2.2 4).2.1 (g_s_l00Src_pick es (g_s_l00Src_one es at_ seed 12).2.1 (g_s_l00Src_one es at_ seed 12).2.2 4).2.2 10).2.2) else (bif (icmp .eql (g_s_l00Src_pick es (g_s_l00Src_one es at_ seed 12).2.1 (g_s_l00Src_one es at_ seed 12).2.2 4).1 1) then ((g_s_l01From (IntKind.i64.wrap ((IntKind.i64.wrap ((g_s_l00Src_pick es (g_s_l00Src_pick es (g_s_l00Src_one es at_ seed 12).2.1 (g_s_l00Src_one es at_ seed 12).2.2 4).2.1 (g_s_l00Src_pick es (g_s_l00Src_one es at_ seed 12).2.1 (g_s_l00Src_one es at_ seed 12).2.2 4).2.2 65536).1 * 65536)) + (g_s_l00Src_pick es (g_s_l00Src_pick es (g_s_l00Src_pick es (g_s_l00Src_one es at_ seed 12).2.1 (g_s_l00Src_one es at_ seed 12).2.2 4).2.1 (g_s_l00Src_pick es (g_s_l00Src_one es at_ seed 12).2.1 (g_s_l00Src_one es at_ seed 12).2.2 4).2.2 65536).2.1 (g_s_l00Src_pick es (g_s_l00Src_pick es (g_s_l00Src_one es at_ seed 12).2.1 (g_s_l00Src_one es at_ seed 12).2.2 4).2.1 (g_s_l00Src_pick es (g_s_l00Src_one es at_ seed 12).2.1 (g_s_l00Src_one es at_ seed 12).2.2 4).2.2 65536).2.2 65536).1))), (g_s_l00Src_pick es (g_s_l00Src_pick es (g_s_l00Src_pick es (g_s_l00Src_one es at_ seed 12).2.1 (g_s_l00Src_one es at_ seed 12).2.2 4).2.1 (g_s_l00Src_pick es (g_s_l00Src_one es at_ seed 12).2.1 (g_s_l00Src_one es at_ seed 12).2.2 4).2.2 65536).2.1 (g_s_l00Src_pick es (g_s_l00Src_pick es (g_s_l00Src_one es at_ seed 12).2.1 (g_s_l00Src_one es at_ seed 12).2.2 4).2.1 (g_s_l00Src_pick es (g_s_l00Src_one es at_ seed 12).2.1 (g_s_l00Src_one es at_ seed 12).2.2 4).2.2 65536).2.2 65536).2.1, (g_s_l00Src_pick es (g_s_l00Src_pick es (g_s_l00Src_pick es (g_s_l00Src_one es at_ seed 12).2.1 (g_s_l00Src_one es at_ seed 12).2.2 4).2.1 (g_s_l00Src_pick es (g_s_l00Src_one es at_ seed 12).2.1 (g_s_l00Src_one es at_ seed 12).2.2 4).2.2 65536).2.1 (g_s_l00Src_pick es (g_s_l00Src_pick es (g_s_l00Src_one es at_ seed 12).2.1 (g_s_l00Src_one es at_ seed 12).2.2 4).2.1 (g_s_l00Src_pick es (g_s_l00Src_one es at_ seed 12).2.1 (g_s_l00Src_one es at_ seed 12).2.2 4).2.2 65536).2.2 65536).2.2) else (bif (icmp .eql (g_s_l00Src_pick es (g_s_l00Src_one es at_ seed 12).2.1 (g_s_l00Src_one es at_ seed 12).2.2 4).1 2) then ((g_s_l01From (IntKind.i64.wrap ((g_s_l00Src_pick es (g_s_l00Src_pick es (g_s_l00Src_one es at_ seed 12).2.1 (g_s_l00Src_one es at_ seed 12).2.2 4).2.1 (g_s_l00Src_pick es (g_s_l00Src_one es at_ seed 12).2.1 (g_s_l00Src_one es at_ seed 12).2.2 4).2.2 65536).1 * 65536))), (g_s_l00Src_pick es (g_s_l00Src_pick es (g_s_l00Src_one es at_ seed 12).2.1 (g_s_l00Src_one es at_ seed 12).2.2 4).2.1 (g_s_l00Src_pick es (g_s_l00Src_one es at_ seed 12).2.1 (g_s_l00Src_one es at_ seed 12).2.2 4).2.2 65536).2.1, (g_s_l00Src_pick es (g_s_l00Src_pick es (g_s_l00Src_one es at_ seed 12).2.1 (g_s_l00Src_one es at_ seed 12).2.2 4).2.1 (g_s_l00Src_pick es (g_s_l00Src_one es at_ seed 12).2.1 (g_s_l00Src_one es at_ seed 12).2.2 4).2.2 65536).2.2) else ((fop .mul .f32 (g_s_l01DrawPlain es (g_s_l00Src_pick es (g_s_l00Src_one es at_ seed 12).2.1 (g_s_l00Src_one es at_ seed 12).2.2 4).2.1 (g_s_l00Src_pick es (g_s_l00Src_one es at_ seed 12).2.1 (g_s_l00Src_one es at_ seed 12).2.2 4).2.2).1 (g_s_l01From (asI ((getAt ([(.int .i64 8388608), (.int .i64 2130706432), (.int .i64 1610612736), (.int .i64 536870912)] : List V) (0 + Int.toNat (g_s_l00Src_pick es (g_s_l01DrawPlain es (g_s_l00Src_pick es (g_s_l00Src_one es at_ seed 12).2.1 (g_s_l00Src_one es at_ seed 12).2.2 4).2.1 (g_s_l00Src_pick es (g_s_l00Src_one es at_ seed 12).2.1 (g_s_l00Src_one es at_ seed 12).2.2 4).2.2).2.1 (g_s_l01DrawPlain es (g_s_l00Src_pick es (g_s_l00Src_one es at_ seed 12).2.1 (g_s_l00Src_one es at_ seed 12).2.2 4).2.1 (g_s_l00Src_pick es (g_s_l00Src_one es at_ seed 12).2.1 (g_s_l00Src_one es at_ seed 12).2.2 4).2.2).2.2 4).1 * 1)).getD .und)))), (g_s_l00Src_pick es (g_s_l01DrawPlain es (g_s_l00Src_pick es (g_s_l00Src_one es at_ seed 12).2.1 (g_s_l00Src_one es at_ seed 12).2.2 4).2.1 (g_s_l00Src_pick es (g_s_l00Src_one es at_ seed 12).2.1 (g_s_l00Src_one es at_ seed 12).2.2 4).2.2).2.1 (g_s_l01DrawPlain es (g_s_l00Src_pick es (g_s_l00Src_one es at_ seed 12).2.1 (g_s_l00Src_one es at_ seed 12).2.2 4).2.1 (g_s_l00Src_pick es (g_s_l00Src_one es at_ seed 12).2.1 (g_s_l00Src_one es at_ seed 12).2.2 4).2.2).2.2 4).2.1, (g_s_l00Src_pick es (g_s_l01DrawPlain es (g_s_l00Src_pick es (g_s_l00Src_one es at_ seed 12).2.1 (g_s_l00Src_one es at_ seed 12).2.2 4).2.1 (g_s_l00Src_pick es (g_s_l00Src_one es at_ seed 12).2.1 (g_s_l00Src_one es at_ seed 12).2.2 4).2.2).2.1 (g_s_l01DrawPlain es (g_s_l00Src_pick es (g_s_l00Src_one es at_ seed 12).2.1 (g_s_l00Src_one es at_ seed 12).2.2 4).2.1 (g_s_l00Src_pick es (g_s_l00Src_one es at_ seed 12).2.1 (g_s_l00Src_one es at_ seed 12).2.2 4).2.2).2.2 4).2.2)))))
def ok_s_l01DrawFloat (es : List (List V)) (at_ : Int) (seed : Int) : Bool := ((ok_s_l00Src_one es at_ seed 12) && (bif (!(g_s_l00Src_one es at_ seed 12).1) then ((ok_s_l01DrawPlain es (g_s_l00Src_one es at_ seed 12).2.1 (g_s_l00Src_one es at_ seed 12).2.2)) else ((ok_s_l00Src_pick es (g_s_l00Src_one es at_ seed 12).2.1 (g_s_l00Src_one es at_ seed 12).2.2 4) && (bif (icmp .eql (g_s_l00Src_pick es (g_s_l00Src_one es at_ seed 12).2.1 (g_s_l00Src_one es at_ seed 12).2.2 4).1 0) then ((ok_s_l00Src_pick es (g_s_l00Src_pick es (g_s_l00Src_one es at_ seed 12).2.1 (g_s_l00Src_one es at_ seed 12).2.2 4).2.1 (g_s_l00Src_pick es (g_s_l00Src_one es at_ seed 12).2.1 (g_s_l00Src_one es at_ seed 12).2.2 4).2.2 10) && ((inB (g_s_l00Src_pick es (g_s_l00Src_pick es (g_s_l00Src_one es at_ seed 12).2.1 (g_s_l00Src_one es at_ seed 12).2.2 4).2.1 (g_s_l00Src_pick es (g_s_l00Src_one es at_ seed 12).2.1 (g_s_l00Src_one es at_ seed 12).2.2 4).2.2 10).1 10) && (((getAt ([(.int .i64 0), (.int .i64 2147483648), (.int .i64 2139095040), (.int .i64 4286578688), (.int .i64 2143289344), (.int .i64 1), (.int .i64 2139095039), (.int .i64 8388608), (.int .i64 8388607), (.int .i64 2147483649)] : List V) (0 + Int.toNat (g_s_l00Src_pick es (g_s_l00Src_pick es (g_s_l00Src_one es at_ seed 12).2.1 (g_s_l00Src_one es at_ seed 12).2.2 4).2.1 (g_s_l00Src_pick es (g_s_l00Src_one es at_ seed 12).2.1 (g_s_l00Src_one es at_ seed 12).2.2 4).2.2 10).1 * 1)).isSome && (isI .i64 ((getAt ([(.int .i64 0), (.int .i64 2147483648), (.int .i64 2139095040), (.int .i64 4286578688), (.int .i64 2143289344), (.int .i64 1), (.int .i64 2139095039), (.int .i64 8388608), (.int .i64 8388607), (.int .i64 2147483649)] : List V) (0 + Int.toNat (g_s_l00Src_pick es (g_s_l00Src_pick es (g_s_l00Src_one es at_ seed 12).2.1 (g_s_l00Src_one es at_ seed 12).2.2 4).2.1 (g_s_l00Src_pick es (g_s_l00Src_one es at_ seed 12).2.1 (g_s_l00Src_one es at_ seed 12).2.2 4).2.2 10).1 * 1)).getD .und)))))) else (bif (icmp .eql (g_s_l00Src_pick es (g_s_l00Src_one es at_ seed 12).2.1 (g_s_l00Src_one es at_ seed 12).2.2 4).1 1) then ((ok_s_l00Src_pick es (g_s_l00Src_pick es (g_s_l00Src_one es at_ seed 12).2.1 (g_s_l00Src_one es at_ seed 12).2.2 4).2.1 (g_s_l00Src_pick es (g_s_l00Src_one es at_ seed 12).2.1 (g_s_l00Src_one es at_ seed 12).2.2 4).2.2 65536) && ((ok_s_l00Src_pick es (g_s_l00Src_pick es (g_s_l00Src_pick es (g_s_l00Src_one es at_ seed 12).2.1 (g_s_l00Src_one es at_ seed 12).2.2 4).2.1 (g_s_l00Src_pick es (g_s_l00Src_one es at_ seed 12).2.1 (g_s_l00Src_one es at_ seed 12).2.2 4).2.2 65536).2.1 (g_s_l00Src_pick es (g_s_l00Src_pick es (g_s_l00Src_one es at_ seed 12).2.1 (g_s_l00Src_one es at_ seed 12).2.2 4).2.1 (g_s_l00Src_pick es (g_s_l00Src_one es at_ seed 12).2.1 (g_s_l00Src_one es at_ seed 12).2.2 4).2.2 65536).2.2 65536))) else (bif (icmp .eql (g_s_l00Src_pick es (g_s_l00Src_one es at_ seed 12).2.1 (g_s_l00Src_one es at_ seed 12).2.2 4).1 2) then ((ok_s_l00Src_pick es (g_s_l00Src_pick es (g_s_l00Src_one es at_ seed 12).2.1 (g_s_l00Src_one es at_ seed 12).2.2 4).2.1 (g_s_l00Src_pick es (g_s_l00Src_one es at_ seed 12).2.1 (g_s_l00Src_one es at_ seed 12).2.2 4).2.2 65536)) else ((ok_s_l01DrawPlain es (g_s_l00Src_pick es (g_s_l00Src_one es at_ seed 12).2.1 (g_s_l00Src_one es at_ seed 12).2.2 4).2.1 (g_s_l00Src_pick es (g_s_l00Src_one es at_ seed 12).2.1 (g_s_l00Src_one es at_ seed 12).2.2 4).2.2) && ((ok_s_l00Src_pick es (g_s_l01DrawPlain es (g_s_l00Src_pick es (g_s_l00Src_one es at_ seed 12).2.1 (g_s_l00Src_one es at_ seed 12).2.2 4).2.1 (g_s_l00Src_pick es (g_s_l00Src_one es at_ seed 12).2.1 (g_s_l00Src_one es at_ seed 12).2.2 4).2.2).2.1 (g_s_l01DrawPlain es (g_s_l00Src_pick es (g_s_l00Src_one es at_ seed 12).2.1 (g_s_l00Src_one es at_ seed 12).2.2 4).2.1 (g_s_l00Src_pick es (g_s_l00Src_one es at_ seed 12).2.1 (g_s_l00Src_one es at_ seed 12).2.2 4).2.2).2.2 4) && ((inB (g_s_l00Src_pick es (g_s_l01DrawPlain es (g_s_l00Src_pick es (g_s_l00Src_one es at_ seed 12).2.1 (g_s_l00Src_one es at_ seed 12).2.2 4).2.1 (g_s_l00Src_pick es (g_s_l00Src_one es at_ seed 12).2.1 (g_s_l00Src_one es at_ seed 12).2.2 4).2.2).2.1 (g_s_l01DrawPlain es (g_s_l00Src_pick es (g_s_l00Src_one es at_ seed 12).2.1 (g_s_l00Src_one es at_ seed 12).2.2 4).2.1 (g_s_l00Src_pick es (g_s_l00Src_one es at_ seed 12).2.1 (g_s_l00Src_one es at_ seed 12).2.2 4).2.2).2.2 4).1 4) && (((getAt ([(.int .i64 8388608), (.int .i64 2130706432), (.int .i64 1610612736), (.int .i64 536870912)] : List V) (0 + Int.toNat (g_s_l00Src_pick es (g_s_l01DrawPlain es (g_s_l00Src_pick es (g_s_l00Src_one es at_ seed 12).2.1 (g_s_l00Src_one es at_ seed 12).2.2 4).2.1 (g_s_l00Src_pick es (g_s_l00Src_one es at_ seed 12).2.1 (g_s_l00Src_one es at_ seed 12).2.2 4).2.2).2.1 (g_s_l01DrawPlain es (g_s_l00Src_pick es (g_s_l00Src_one es at_ seed 12).2.1 (g_s_l00Src_one es at_ seed 12).2.2 4).2.1 (g_s_l00Src_pick es (g_s_l00Src_one es at_ seed 12).2.1 (g_s_l00Src_one es at_ seed 12).2.2 4).2.2).2.2 4).1 * 1)).isSome && (isI .i64 ((getAt ([(.int .i64 8388608), (.int .i64 2130706432), (.int .i64 1610612736), (.int .i64 536870912)] : List V) (0 + Int.toNat (g_s_l00Src_pick es (g_s_l01DrawPlain es (g_s_l00Src_pick es (g_s_l00Src_one es at_ seed 12).2.1 (g_s_l00Src_one es at_ seed 12).2.2 4).2.1 (g_s_l00Src_pick es (g_s_l00Src_one es at_ seed 12).2.1 (g_s_l00Src_one es at_ seed 12).2.2 4).2.2).2.1 (g_s_l01DrawPlain es (g_s_l00Src_pick es (g_s_l00Src_one es at_ seed 12).2.1 (g_s_l00Src_one es at_ seed 12).2.2 4).2.1 (g_s_l00Src_pick es (g_s_l00Src_one es at_ seed 12).2.1 (g_s_l00Src_one es at_ seed 12).2.2 4).2.2).2.2 4).1 * 1)).getD .und)))))))))))))
def v_s_l01DrawFloat (cs : Cells) (rest : List V) : Option (V × Cells) :=
  match cs, rest with
  | [(.sl 1 es), (.int .i64 at_), (.int .u64 seed)], [] => some (r_s_l01DrawFloat es (g_s_l01DrawFloat es at_ seed))
  | _, _ => none
def c_s_l01DrawFloat (cs : Cells) (rest : List V) : Bool :=
  match cs, rest with
  | [(.sl 1 es), (.int .i64 at_), (.int .u64 seed)], [] => ok_s_l01DrawFloat es at_ seed
  | _, _ => false
def s_s_l01DrawFloat : Summ := .objC c_s_l01DrawFloat v_s_l01DrawFloat
def S_s_l01DrawFloat : FuncId → Option Summ := fun f => match f with
  | 27 => some s_s_l00Src_one
  | 28 => some s_s_l00Src_pick
  | 29 => some s_s_l01From
  | 45 => some s_s_l01DrawPlain
  | _ => none
noncomputable def E_s_l01DrawFloat : Env := ⟨Try.prog, S_s_l01DrawFloat, fun _ _ => [], fun _ _ => [], fun _ _ => [], 100, fun _ _ => none⟩
theorem sok_s_l01DrawFloat : SOK E_s_l01DrawFloat := by
  intro f s h
  have h : S_s_l01DrawFloat f = some s := h
  unfold S_s_l01DrawFloat at h
  split at h
  · cases h; exact summ_s_l00Src_one
  · cases h; exact summ_s_l00Src_pick
  · cases h; exact summ_s_l01From
  · cases h; exact summ_s_l01DrawPlain
  · cases h
theorem lok_s_l01DrawFloat : LOK E_s_l01DrawFloat := noLoops rfl
set_option maxRecDepth 100000 in
theorem tree_s_l01DrawFloat (es : List (List V)) (at_ : Int) (seed : Int) : runObj E_s_l01DrawFloat 4 30 [(.sl 1 es), (.int .i64 at_), (.int .u64 seed)] [] = (bif (ok_s_l00Src_one es at_ seed 12) then (bif (!(g_s_l00Src_one es at_ seed 12).1) then (bif (ok_s_l01DrawPlain es (g_s_l00Src_one es at_ seed 12).2.1 (g_s_l00Src_one es at_ seed 12).2.2) then some ((.flt .f32 (g_s_l01DrawPlain es (g_s_l00Src_one es at_ seed 12).2.1 (g_s_l00Src_one es at_ seed 12).2.2).1), [(.sl 1 es), (.int .i64 (g_s_l01DrawPlain es (g_s_l00Src_one es at_ seed 12).2.1 (g_s_l00Src_one es at_ seed 12).2.2).2.1), (.int .u64 (g_s_l01DrawPlain es (g_s_l00Src_one es at_ seed 12).2.1 (g_s_l00Src_one es at_ seed 12).2.2).2.2)]) else none) else (bif (ok_s_l00Src_pick es (g_s_l00Src_one es at_ seed 12).2.1 (g_s_l00Src_one es at_ seed 12).2.2 4) then (bif (icmp .eql (g_s_l00Src_pick es (g_s_l00Src_one es at_ seed 12).2.1 (g_s_l00Src_one es at_ seed 12).2.2 4).1 0) then (bif (ok_s_l00Src_pick es (g_s_l00Src_pick es (g_s_l00Src_one es at_ seed 12).2.1 (g_s_l00Src_one es at_ seed 12).2.2 4).2.1 (g_s_l00Src_pick es (g_s_l00Src_one es at_ seed 12).2.1 (g_s_l00Src_one es at_ seed 12).2.2 4).2.2 10) then (bif (inB (g_s_l00Src_pick es (g_s_l00Src_pick es (g_s_l00Src_one es at_ seed 12).2.1 (g_s_l00Src_one es at_ seed 12).2.2 4).2.1 (g_s_l00Src_pick es (g_s_l00Src_one es at_ seed 12).2.1 (g_s_l00Src_one es at_ seed 12).2.2 4).2.2 10).1 10) then (bif ((getAt ([(.int .i64 0), (.int .i64 2147483648), (.int .i64 2139095040), (.int .i64 4286578688), (.int .i64 2143289344), (.int .i64 1), (.int .i64 2139095039), (.int .i64 8388608), (.int .i64 8388607), (.int .i64 2147483649)] : List V) (0 + Int.toNat (g_s_l00Src_pick es (g_s_l00Src_pick es (g_s_l00Src_one es at_ seed 12).2.1 (g_s_l00Src_one es at_ seed 12).2.2 4).2.1 (g_s_l00Src_pick es (g_s_l00Src_one es at_ seed 12).2.1 (g_s_l00Src_one es at_ seed 12).2.2 4).2.2 10).1 * 1)).isSome && (isI .i64 ((getAt ([(.int .i64 0), (.int .i64 2147483648), (.int .i64 2139095040), (.int .i64 4286578688), (.int .i64 2143289344), (.int .i64 1), (.int .i64 2139095039), (.int .i64 8388608), (.int .i64 8388607), (.int .i64 2147483649)] : List V) (0 + Int.toNat (g_s_l00Src_pick es (g_s_l00Src_pick es (g_s_l00Src_one es at_ seed 12).2.1 (g_s_l00Src_one es at_ seed 12).2.2 4).2.1 (g_s_l00Src_pick es (g_s_l00Src_one es at_ seed 12).2.1 (g_s_l00Src_one es at_ seed 12).2.2 4).2.2 10).1 * 1)).getD .und))) then some ((.flt .f32 (g_s_l01From (asI ((getAt ([(.int .i64 0), (.int .i64 2147483648), (.int .i64 2139095040), (.int .i64 4286578688), (.int .i64 2143289344), (.int .i64 1), (.int .i64 2139095039), (.int .i64 8388608), (.int .i64 8388607), (.int .i64 2147483649)] : List V) (0 + Int.toNat (g_s_l00Src_pick es (g_s_l00Src_pick es (g_s_l00Src_one es at_ seed 12).2.1 (g_s_l00Src_one es at_ seed 12).2.2 4).2.1 (g_s_l00Src_pick es (g_s_l00Src_one es at_ seed 12).2.1 (g_s_l00Src_one es at_ seed 12).2.2 4).2.2 10).1 * 1)).getD .und)))), [(.sl 1 es), (.int .i64 (g_s_l00Src_pick es (g_s_l00Src_pick es (g_s_l00Src_one es at_ seed 12).2.1 (g_s_l00Src_one es at_ seed 12).2.2 4).2.1 (g_s_l00Src_pick es (g_s_l00Src_one es at_ seed 12).2.1 (g_s_l00Src_one es at_ seed 12).2.2 4).2.2 10).2.1), (.int .u64 (g_s_l00Src_pick es (g_s_l00Src_pick es (g_s_l00Src_one es at_ seed 12).2.1 (g_s_l00Src_one es at_ seed 12).2.2 4).2.1 (g_s_l00Src_pick es (g_s_l00Src_one es at_ seed 12).2.1 (g_s_l00Src_one es at_ seed 12).2.2 4).2.2 10).2.2)]) else none) else none) else none) else (bif (icmp .eql (g_s_l00Src_pick es (g_s_l00Src_one es at_ seed 12).2.1 (g_s_l00Src_one es at_ seed 12).2.2 4).1 1) then (bif (ok_s_l00Src_pick es (g_s_l00Src_pick es (g_s_l00Src_one es at_ seed 12).2.1 (g_s_l00Src_one es at_ seed 12).2.2 4).2.1 (g_s_l00Src_pick es (g_s_l00Src_one es at_ seed 12).2.1 (g_s_l00Src_one es at_ seed 12).2.2 4).2.2 65536) then (bif (ok_s_l00Src_pick es (g_s_l00Src_pick es (g_s_l00Src_pick es (g_s_l00Src_one es at_ seed 12).2.1 (g_s_l00Src_one es at_ seed 12).2.2 4).2.1 (g_s_l00Src_pick es (g_s_l00Src_one es at_ seed 12).2.1 (g_s_l00Src_one es at_ seed 12).2.2 4).2.2 65536).2.1 (g_s_l00Src_pick es (g_s_l00Src_pick es (g_s_l00Src_one es at_ seed 12).2.1 (g_s_l00Src_one es at_ seed 12).2.2 4).2.1 (g_s_l00Src_pick es (g_s_l00Src_one es at_ seed 12).2.1 (g_s_l00Src_one es at_ seed 12).2.2 4).2.2 65536).2.2 65536) then some ((.flt .f32 (g_s_l01From (IntKind.i64.wrap ((IntKind.i64.wrap ((g_s_l00Src_pick es (g_s_l00Src_pick es (g_s_l00Src_one es at_ seed 12).2.1 (g_s_l00Src_one es at_ seed 12).2.2 4).2.1 (g_s_l00Src_pick es (g_s_l00Src_one es at_ seed 12).2.1 (g_s_l00Src_one es at_ seed 12).2.2 4).2.2 65536).1 * 65536)) + (g_s_l00Src_pick es (g_s_l00Src_pick es (g_s_l00Src_pick es (g_s_l00Src_one es at_ seed 12).2.1 (g_s_l00Src_one es at_ seed 12).2.2 4).2.1 (g_s_l00Src_pick es (g_s_l00Src_one es at_ seed 12).2.1 (g_s_l00Src_one es at_ seed 12).2.2 4).2.2 65536).2.1 (g_s_l00Src_pick es (g_s_l00Src_pick es (g_s_l00Src_one es at_ seed 12).2.1 (g_s_l00Src_one es at_ seed 12).2.2 4).2.1 (g_s_l00Src_pick es (g_s_l00Src_one es at_ seed 12).2.1 (g_s_l00Src_one es at_ seed 12).2.2 4).2.2 65536).2.2 65536).1)))), [(.sl 1 es), (.int .i64 (g_s_l00Src_pick es (g_s_l00Src_pick es (g_s_l00Src_pick es (g_s_l00Src_one es at_ seed 12).2.1 (g_s_l00Src_one es at_ seed 12).2.2 4).2.1 (g_s_l00Src_pick es (g_s_l00Src_one es at_ seed 12).2.1 (g_s_l00Src_one es at_ seed 12).2.2 4).2.2 65536).2.1 (g_s_l00Src_pick es (g_s_l00Src_pick es (g_s_l00Src_one es at_ seed 12).2.1 (g_s_l00Src_one es at_ seed 12).2.2 4).2.1 (g_s_l00Src_pick es (g_s_l00Src_one es at_ seed 12).2.1 (g_s_l00Src_one es at_ seed 12).2.2 4).2.2 65536).2.2 65536).2.1), (.int .u64 (g_s_l00Src_pick es (g_s_l00Src_pick es (g_s_l00Src_pick es (g_s_l00Src_one es at_ seed 12).2.1 (g_s_l00Src_one es at_ seed 12).2.2 4).2.1 (g_s_l00Src_pick es (g_s_l00Src_one es at_ seed 12).2.1 (g_s_l00Src_one es at_ seed 12).2.2 4).2.2 65536).2.1 (g_s_l00Src_pick es (g_s_l00Src_pick es (g_s_l00Src_one es at_ seed 12).2.1 (g_s_l00Src_one es at_ seed 12).2.2 4).2.1 (g_s_l00Src_pick es (g_s_l00Src_one es at_ seed 12).2.1 (g_s_l00Src_one es at_ seed 12).2.2 4).2.2 65536).2.2 65536).2.2)]) else none) else none) else (bif (icmp .eql (g_s_l00Src_pick es (g_s_l00Src_one es at_ seed 12).2.1 (g_s_l00Src_one es at_ seed 12).2.2 4).1 2) then (bif (ok_s_l00Src_pick es (g_s_l00Src_pick es (g_s_l00Src_one es at_ seed 12).2.1 (g_s_l00Src_one es at_ seed 12).2.2 4).2.1 (g_s_l00Src_pick es (g_s_l00Src_one es at_ seed 12).2.1 (g_s_l00Src_one es at_ seed 12).2.2 4).2.2 65536) then some ((.flt .f32 (g_s_l01From (IntKind.i64.wrap ((g_s_l00Src_pick es (g_s_l00Src_pick es (g_s_l00Src_one es at_ seed 12).2.1 (g_s_l00Src_one es at_ seed 12).2.2 4).2.1 (g_s_l00Src_pick es (g_s_l00Src_one es at_ seed 12).2.1 (g_s_l00Src_one es at_ seed 12).2.2 4).2.2 65536).1 * 65536)))), [(.sl 1 es), (.int .i64 (g_s_l00Src_pick es (g_s_l00Src_pick es (g_s_l00Src_one es at_ seed 12).2.1 (g_s_l00Src_one es at_ seed 12).2.2 4).2.1 (g_s_l00Src_pick es (g_s_l00Src_one es at_ seed 12).2.1 (g_s_l00Src_one es at_ seed 12).2.2 4).2.2 65536).2.1), (.int .u64 (g_s_l00Src_pick es (g_s_l00Src_pick es (g_s_l00Src_one es at_ seed 12).2.1 (g_s_l00Src_one es at_ seed 12).2.2 4).2.1 (g_s_l00Src_pick es (g_s_l00Src_one es at_ seed 12).2.1 (g_s_l00Src_one es at_ seed 12).2.2 4).2.2 65536).2.2)]) else none) else (bif (ok_s_l01DrawPlain es (g_s_l00Src_pick es (g_s_l00Src_one es at_ seed 12).2.1 (g_s_l00Src_one es at_ seed 12).2.2 4).2.1 (g_s_l00Src_pick es (g_s_l00Src_one es at_ seed 12).2.1 (g_s_l00Src_one es at_ seed 12).2.2 4).2.2) then (bif (ok_s_l00Src_pick es (g_s_l01DrawPlain es (g_s_l00Src_pick es (g_s_l00Src_one es at_ seed 12).2.1 (g_s_l00Src_one es at_ seed 12).2.2 4).2.1 (g_s_l00Src_pick es (g_s_l00Src_one es at_ seed 12).2.1 (g_s_l00Src_one es at_ seed 12).2.2 4).2.2).2.1 (g_s_l01DrawPlain es (g_s_l00Src_pick es (g_s_l00Src_one es at_ seed 12).2.1 (g_s_l00Src_one es at_ seed 12).2.2 4).2.1 (g_s_l00Src_pick es (g_s_l00Src_one es at_ seed 12).2.1 (g_s_l00Src_one es at_ seed 12).2.2 4).2.2).2.2 4) then (bif (inB (g_s_l00Src_pick es (g_s_l01DrawPlain es (g_s_l00Src_pick es (g_s_l00Src_one es at_ seed 12).2.1 (g_s_l00Src_one es at_ seed 12).2.2 4).2.1 (g_s_l00Src_pick es (g_s_l00Src_one es at_ seed 12).2.1 (g_s_l00Src_one es at_ seed 12).2.2 4).2.2).2.1 (g_s_l01DrawPlain es (g_s_l00Src_pick es (g_s_l00Src_one es at_ seed 12).2.1 (g_s_l00Src_one es at_ seed 12).2.2 4).2.1 (g_s_l00Src_pick es (g_s_l00Src_one es at_ seed 12).2.1 (g_s_l00Src_one es at_ seed 12).2.2 4).2.2).2.2 4).1 4) then (bif ((getAt ([(.int .i64 8388608), (.int .i64 2130706432), (.int .i64 1610612736), (.int .i64 536870912)] : List V) (0 + Int.toNat (g_s_l00Src_pick es (g_s_l01DrawPlain es (g_s_l00Src_pick es (g_s_l00Src_one es at_ seed 12).2.1 (g_s_l00Src_one es at_ seed 12).2.2 4).2.1 (g_s_l00Src_pick es (g_s_l00Src_one es at_ seed 12).2.1 (g_s_l00Src_one es at_ seed 12).2.2 4).2.2).2.1 (g_s_l01DrawPlain es (g_s_l00Src_pick es (g_s_l00Src_one es at_ seed 12).2.1 (g_s_l00Src_one es at_ seed 12).2.2 4).2.1 (g_s_l00Src_pick es (g_s_l00Src_one es at_ seed 12).2.1 (g_s_l00Src_one es at_ seed 12).2.2 4).2.2).2.2 4).1 * 1)).isSome && (isI .i64 ((getAt ([(.int .i64 8388608), (.int .i64 2130706432), (.int .i64 1610612736), (.int .i64 536870912)] : List V) (0 + Int.toNat (g_s_l00Src_pick es (g_s_l01DrawPlain es (g_s_l00Src_pick es (g_s_l00Src_one es at_ seed 12).2.1 (g_s_l00Src_one es at_ seed 12).2.2 4).2.1 (g_s_l00Src_pick es (g_s_l00Src_one es at_ seed 12).2.1 (g_s_l00Src_one es at_ seed 12).2.2 4).2.2).2.1 (g_s_l01DrawPlain es (g_s_l00Src_pick es (g_s_l00Src_one es at_ seed 12).2.1 (g_s_l00Src_one es at_ seed 12).2.2 4).2.1 (g_s_l00Src_pick es (g_s_l00Src_one es at_ seed 12).2.1 (g_s_l00Src_one es at_ seed 12).2.2 4).2.2).2.2 4).1 * 1)).getD .und))) then some ((.flt .f32 (fop .mul .f32 (g_s_l01DrawPlain es (g_s_l00Src_pick es (g_s_l00Src_one es at_ seed 12).2.1 (g_s_l00Src_one es at_ seed 12).2.2 4).2.1 (g_s_l00Src_pick es (g_s_l00Src_one es at_ seed 12).2.1 (g_s_l00Src_one es at_ seed 12).2.2 4).2.2).1 (g_s_l01From (asI ((getAt ([(.int .i64 8388608), (.int .i64 2130706432), (.int .i64 1610612736), (.int .i64 536870912)] : List V) (0 + Int.toNat (g_s_l00Src_pick es (g_s_l01DrawPlain es (g_s_l00Src_pick es (g_s_l00Src_one es at_ seed 12).2.1 (g_s_l00Src_one es at_ seed 12).2.2 4).2.1 (g_s_l00Src_pick es (g_s_l00Src_one es at_ seed 12).2.1 (g_s_l00Src_one es at_ seed 12).2.2 4).2.2).2.1 (g_s_l01DrawPlain es (g_s_l00Src_pick es (g_s_l00Src_one es at_ seed 12).2.1 (g_s_l00Src_one es at_ seed 12).2.2 4).2.1 (g_s_l00Src_pick es (g_s_l00Src_one es at_ seed 12).2.1 (g_s_l00Src_one es at_ seed 12).2.2 4).2.2).2.2 4).1 * 1)).getD .und))))), [(.sl 1 es), (.int .i64 (g_s_l00Src_pick es (g_s_l01DrawPlain es (g_s_l00Src_pick es (g_s_l00Src_one es at_ seed 12).2.1 (g_s_l00Src_one es at_ seed 12).2.2 4).2.1 (g_s_l00Src_pick es (g_s_l00Src_one es at_ seed 12).2.1 (g_s_l00Src_one es at_ seed 12).2.2 4).2.2).2.1 (g_s_l01DrawPlain es (g_s_l00Src_pick es (g_s_l00Src_one es at_ seed 12).2.1 (g_s_l00Src_one es at_ seed 12).2.2 4).2.1 (g_s_l00Src_pick es (g_s_l00Src_one es at_ seed 12).2.1 (g_s_l00Src_one es at_ seed 12).2.2 4).2.2).2.2 4).2.1), (.int .u64 (g_s_l00Src_pick es (g_s_l01DrawPlain es (g_s_l00Src_pick es (g_s_l00Src_one es at_ seed 12).2.1 (g_s_l00Src_one es at_ seed 12).2.2 4).2.1 (g_s_l00Src_pick es (g_s_l00Src_one es at_ seed 12).2.1 (g_s_l00Src_one es at_ seed 12).2.2 4).2.2).2.1 (g_s_l01DrawPlain es (g_s_l00Src_pick es (g_s_l00Src_one es at_ seed 12).2.1 (g_s_l00Src_one es at_ seed 12).2.2 4).2.1 (g_s_l00Src_pick es (g_s_l00Src_one es at_ seed 12).2.1 (g_s_l00Src_one es at_ seed 12).2.2 4).2.2).2.2 4).2.2)]) else none) else none) else none) else none)))) else none)) else none) := by kernel_rfl
theorem run_s_l01DrawFloat (es : List (List V)) (at_ : Int) (seed : Int) (h : ok_s_l01DrawFloat es at_ seed = true) : runObj E_s_l01DrawFloat 4 30 [(.sl 1 es), (.int .i64 at_), (.int .u64 seed)] [] = some (r_s_l01DrawFloat es (g_s_l01DrawFloat es at_ seed)) := (tree_s_l01DrawFloat es at_ seed).trans ((chk_ok (F := (r_s_l01DrawFloat es)) (ite_ok (F := (r_s_l01DrawFloat es)) (chk_k (F := (r_s_l01DrawFloat es)) (leaf_ok (F := (r_s_l01DrawFloat es)) (a := ((g_s_l01DrawPlain es (g_s_l00Src_one es at_ seed 12).2.1 (g_s_l00Src_one es at_ seed 12).2.2).1, (g_s_l01DrawPlain es (g_s_l00Src_one es at_ seed 12).2.1 (g_s_l00Src_one es at_ seed 12).2.2).2.1, (g_s_l01DrawPlain es (g_s_l00Src_one es at_ seed 12).2.1 (g_s_l00Src_one es at_ seed 12).2.2).2.2)))) (chk_ok (F := (r_s_l01DrawFloat es)) (ite_ok (F := (r_s_l01DrawFloat es)) (chk_ok (F := (r_s_l01DrawFloat es)) (chk_ok (F := (r_s_l01DrawFloat es)) (chk_k (F := (r_s_l01DrawFloat es)) (leaf_ok (F := (r_s_l01DrawFloat es)) (a := ((g_s_l01From (asI ((getAt ([(.int .i64 0), (.int .i64 2147483648), (.int .i64 2139095040), (.int .i64 4286578688), (.int .i64 2143289344), (.int .i64 1), (.int .i64 2139095039), (.int .i64 8388608), (.int .i64 8388607), (.int .i64 2147483649)] : List V) (0 + Int.toNat (g_s_l00Src_pick es (g_s_l00Src_pick es (g_s_l00Src_one es at_ seed 12).2.1 (g_s_l00Src_one es at_ seed 12).2.2 4).2.1 (g_s_l00Src_pick es (g_s_l00Src_one es at_ seed 12).2.1 (g_s_l00Src_one es at_ seed 12).2.2 4).2.2 10).1 * 1)).getD .und))), (g_s_l00Src_pick es (g_s_l00Src_pick es (g_s_l00Src_one es at_ seed 12).2.1 (g_s_l00Src_one es at_ seed 12).2.2 4).2.1 (g_s_l00Src_pick es (g_s_l00Src_one es at_ seed 12).2.1 (g_s_l00Src_one es at_ seed 12).2.2 4).2.2 10).2.1, (g_s_l00Src_pick es (g_s_l00Src_pick es (g_s_l00Src_one es at_ seed 12).2.1 (g_s_l00Src_one es at_ seed 12).2.2 4).2.1 (g_s_l00Src_pick es (g_s_l00Src_one es at_ seed 12).2.1 (g_s_l00Src_one es at_ seed 12).2.2 4).2.2 10).2.2)))))) (ite_ok (F := (r_s_l01DrawFloat es)) (chk_ok (F := (r_s_l01DrawFloat es)) (chk_k (F := (r_s_l01DrawFloat es)) (leaf_ok (F := (r_s_l01DrawFloat es)) (a := ((g_s_l01From (IntKind.i64.wrap ((IntKind.i64.wrap ((g_s_l00Src_pick es (g_s_l00Src_pick es (g_s_l00Src_one es at_ seed 12).2.1 (g_s_l00Src_one es at_ seed 12).2.2 4).2.1 (g_s_l00Src_pick es (g_s_l00Src_one es at_ seed 12).2.1 (g_s_l00Src_one es at_ seed 12).2.2 4).2.2 65536).1 * 65536)) + (g_s_l00Src_pick es (g_s_l00Src_pick es (g_s_l00Src_pick es (g_s_l00Src_one es at_ seed 12).2.1 (g_s_l00Src_one es at_ seed 12).2.2 4).2.1 (g_s_l00Src_pick es (g_s_l00Src_one es at_ seed 12).2.1 (g_s_l00Src_one es at_ seed 12).2.2 4).2.2 65536).2.1 (g_s_l00Src_pick es (g_s_l00Src_pick es (g_s_l00Src_one es at_ seed 12).2.1 (g_s_l00Src_one es at_ seed 12).2.2 4).2.1 (g_s_l00Src_pick es (g_s_l00Src_one es at_ seed 12).2.1 (g_s_l00Src_one es at_ seed 12).2.2 4).2.2 65536).2.2 65536).1))), (g_s_l00Src_pick es (g_s_l00Src_pick es (g_s_l00Src_pick es (g_s_l00Src_one es at_ seed 12).2.1 (g_s_l00Src_one es at_ seed 12).2.2 4).2.1 (g_s_l00Src_pick es (g_s_l00Src_one es at_ seed 12).2.1 (g_s_l00Src_one es at_ seed 12).2.2 4).2.2 65536).2.1 (g_s_l00Src_pick es (g_s_l00Src_pick es (g_s_l00Src_one es at_ seed 12).2.1 (g_s_l00Src_one es at_ seed 12).2.2 4).2.1 (g_s_l00Src_pick es (g_s_l00Src_one es at_ seed 12).2.1 (g_s_l00Src_one es at_ seed 12).2.2 4).2.2 65536).2.2 65536).2.1, (g_s_l00Src_pick es (g_s_l00Src_pick es (g_s_l00Src_pick es (g_s_l00Src_one es at_ seed 12).2.1 (g_s_l00Src_one es at_ seed 12).2.2 4).2.1 (g_s_l00Src_pick es (g_s_l00Src_one es at_ seed 12).2.1 (g_s_l00Src_one es at_ seed 12).2.2 4).2.2 65536).2.1 (g_s_l00Src_pick es (g_s_l00Src_pick es (g_s_l00Src_one es at_ seed 12).2.1 (g_s_l00Src_one es at_ seed 12).2.2 4).2.1 (g_s_l00Src_pick es (g_s_l00Src_one es at_ seed 12).2.1 (g_s_l00Src_one es at_ seed 12).2.2 4).2.2 65536).2.2 65536).2.2))))) (ite_ok (F := (r_s_l01DrawFloat es)) (chk_k (F := (r_s_l01DrawFloat es)) (leaf_ok (F := (r_s_l01DrawFloat es)) (a := ((g_s_l01From (IntKind.i64.wrap ((g_s_l00Src_pick es (g_s_l00Src_pick es (g_s_l00Src_one es at_ seed 12).2.1 (g_s_l00Src_one es at_ seed 12).2.2 4).2.1 (g_s_l00Src_pick es (g_s_l00Src_one es at_ seed 12).2.1 (g_s_l00Src_one es at_ seed 12).2.2 4).2.2 65536).1 * 65536))), (g_s_l00Src_pick es (g_s_l00Src_pick es (g_s_l00Src_one es at_ seed 12).2.1 (g_s_l00Src_one es at_ seed 12).2.2 4).2.1 (g_s_l00Src_pick es (g_s_l00Src_one es at_ seed 12).2.1 (g_s_l00Src_one es at_ seed 12).2.2 4).2.2 65536).2.1, (g_s_l00Src_pick es (g_s_l00Src_pick es (g_s_l00Src_one es at_ seed 12).2.1 (g_s_l00Src_one es at_ seed 12).2.2 4).2.1 (g_s_l00Src_pick es (g_s_l00Src_one es at_ seed 12).2.1 (g_s_l00Src_one es at_ seed 12).2.2 4).2.2 65536).2.2)))) (chk_ok (F := (r_s_l01DrawFloat es)) (chk_ok (F := (r_s_l01DrawFloat es)) (chk_ok (F := (r_s_l01DrawFloat es)) (chk_k (F := (r_s_l01DrawFloat es)) (leaf_ok (F := (r_s_l01DrawFloat es)) (a := ((fop .mul .f32 (g_s_l01DrawPlain es (g_s_l00Src_pick es (g_s_l00Src_one es at_ seed 12).2.1 (g_s_l00Src_one es at_ seed 12).2.2 4).2.1 (g_s_l00Src_pick es (g_s_l00Src_one es at_ seed 12).2.1 (g_s_l00Src_one es at_ seed 12).2.2 4).2.2).1 (g_s_l01From (asI ((getAt ([(.int .i64 8388608), (.int .i64 2130706432), (.int .i64 1610612736), (.int .i64 536870912)] : List V) (0 + Int.toNat (g_s_l00Src_pick es (g_s_l01DrawPlain es (g_s_l00Src_pick es (g_s_l00Src_one es at_ seed 12).2.1 (g_s_l00Src_one es at_ seed 12).2.2 4).2.1 (g_s_l00Src_pick es (g_s_l00Src_one es at_ seed 12).2.1 (g_s_l00Src_one es at_ seed 12).2.2 4).2.2).2.1 (g_s_l01DrawPlain es (g_s_l00Src_pick es (g_s_l00Src_one es at_ seed 12).2.1 (g_s_l00Src_one es at_ seed 12).2.2 4).2.1 (g_s_l00Src_pick es (g_s_l00Src_one es at_ seed 12).2.1 (g_s_l00Src_one es at_ seed 12).2.2 4).2.2).2.2 4).1 * 1)).getD .und)))), (g_s_l00Src_pick es (g_s_l01DrawPlain es (g_s_l00Src_pick es (g_s_l00Src_one es at_ seed 12).2.1 (g_s_l00Src_one es at_ seed 12).2.2 4).2.1 (g_s_l00Src_pick es (g_s_l00Src_one es at_ seed 12).2.1 (g_s_l00Src_one es at_ seed 12).2.2 4).2.2).2.1 (g_s_l01DrawPlain es (g_s_l00Src_pick es (g_s_l00Src_one es at_ seed 12).2.1 (g_s_l00Src_one es at_ seed 12).2.2 4).2.1 (g_s_l00Src_pick es (g_s_l00Src_one es at_ seed 12).2.1 (g_s_l00Src_one es at_ seed 12).2.2 4).2.2).2.2 4).2.1, (g_s_l00Src_pick es (g_s_l01DrawPlain es (g_s_l00Src_pick es (g_s_l00Src_one es at_ seed 12).2.1 (g_s_l00Src_one es at_ seed 12).2.2 4).2.1 (g_s_l00Src_pick es (g_s_l00Src_one es at_ seed 12).2.1 (g_s_l00Src_one es at_ seed 12).2.2 4).2.2).2.1 (g_s_l01DrawPlain es (g_s_l00Src_pick es (g_s_l00Src_one es at_ seed 12).2.1 (g_s_l00Src_one es at_ seed 12).2.2 4).2.1 (g_s_l00Src_pick es (g_s_l00Src_one es at_ seed 12).2.1 (g_s_l00Src_one es at_ seed 12).2.2 4).2.2).2.2 4).2.2))))))))))))) h)
theorem summ_s_l01DrawFloat : SummOK Try.prog 30 s_s_l01DrawFloat := by
  refine ⟨obj_of_run orders names sok_s_l01DrawFloat lok_s_l01DrawFloat 4 fun cs rest r h => ?_, Try.f30, by kernel_rfl, by kernel_rfl, by kernel_rfl⟩
  cases hc : c_s_l01DrawFloat cs rest
  · rw [hc] at h; cases h
  rw [hc] at h
  simp only [cond_true] at h
  unfold v_s_l01DrawFloat at h
  split at h
  · cases h; exact run_s_l01DrawFloat _ _ _ hc
  · cases h

-- loop.example/g01253/laws.b10Long
def g_w_b10Long (x0 : List (List V)) (x1 : List (List V)) : Bool := (bif (icmp .gtr (Int.ofNat (x0).length) 1048576) then true else (icmp .gtr (Int.ofNat (x1).length) 1048576))
def r_w_b10Long (p : Bool) : V := (.bool p)
def v_w_b10Long : List V → Option V
  | [(.sl 1 x0), (.sl 1 x1)] => some (r_w_b10Long (g_w_b10Long x0 x1))
  | _ => none
def s_w_b10Long : Summ := .pure (fun vs => v_w_b10Long (fixSs [.sl 1, .sl 1] vs))
def S_w_b10Long : FuncId → Option Summ := fun _ => none
noncomputable def E_w_b10Long : Env := ⟨Try.prog, S_w_b10Long, fun _ _ => [], fun _ _ => [], fun _ _ => [], 100, fun _ _ => none⟩
theorem sok_w_b10Long : SOK E_w_b10Long := fun _ _ h => by cases h
theorem lok_w_b10Long : LOK E_w_b10Long := noLoops rfl
set_option maxRecDepth 100000 in
theorem tree_w_b10Long (x0 : List (List V)) (x1 : List (List V)) : runPureS E_w_b10Long 4 6 (.any) [(.sl 1 x0), (.sl 1 x1)] = (bif (icmp .gtr (Int.ofNat (x0).length) 1048576) then some (.bool true) else some (.bool (icmp .gtr (Int.ofNat (x1).length) 1048576))) := by kernel_rfl
theorem run_w_b10Long (x0 : List (List V)) (x1 : List (List V)) : runPureS E_w_b10Long 4 6 (.any) [(.sl 1 x0), (.sl 1 x1)] = some (r_w_b10Long (g_w_b10Long x0 x1)) := (tree_w_b10Long x0 x1).trans (ite_k (F := r_w_b10Long) (leaf_ok (F := r_w_b10Long) (a := true)) (leaf_ok (F := r_w_b10Long) (a := (icmp .gtr (Int.ofNat (x1).length) 1048576))))
theorem summ_w_b10Long : SummOK Try.prog 6 s_w_b10Long := by
  refine ⟨pure_of_runS orders names sok_w_b10Long lok_w_b10Long 4 [.sl 1, .sl 1] (.any) (g := fun vs => v_w_b10Long vs) fun vs v h => ?_, Try.f6, by kernel_rfl, by kernel_rfl, by kernel_rfl⟩
  try dsimp only at h
  unfold v_w_b10Long at h
  split at h
  · cases h; exact run_w_b10Long _ _
  · cases h

-- loop.example/g01253/spec.B10Number
def g_s_B10Number (x0 : List (List V)) : Nat := (bif (g_s_l00Src_one x0 0 0 2).1 then (g_s_l01From (IntKind.i64.wrap ((IntKind.i64.wrap ((g_s_l00Src_pick x0 (g_s_l00Src_one x0 0 0 2).2.1 (g_s_l00Src_one x0 0 0 2).2.2 65536).1 * 65536)) + (g_s_l00Src_pick x0 (g_s_l00Src_pick x0 (g_s_l00Src_one x0 0 0 2).2.1 (g_s_l00Src_one x0 0 0 2).2.2 65536).2.1 (g_s_l00Src_pick x0 (g_s_l00Src_one x0 0 0 2).2.1 (g_s_l00Src_one x0 0 0 2).2.2 65536).2.2 65536).1))) else (g_s_l01DrawFloat x0 (g_s_l00Src_one x0 0 0 2).2.1 (g_s_l00Src_one x0 0 0 2).2.2).1)
def ok_s_B10Number (x0 : List (List V)) : Bool := ((ok_s_l00Src_one x0 0 0 2) && (bif (g_s_l00Src_one x0 0 0 2).1 then ((ok_s_l00Src_pick x0 (g_s_l00Src_one x0 0 0 2).2.1 (g_s_l00Src_one x0 0 0 2).2.2 65536) && ((ok_s_l00Src_pick x0 (g_s_l00Src_pick x0 (g_s_l00Src_one x0 0 0 2).2.1 (g_s_l00Src_one x0 0 0 2).2.2 65536).2.1 (g_s_l00Src_pick x0 (g_s_l00Src_one x0 0 0 2).2.1 (g_s_l00Src_one x0 0 0 2).2.2 65536).2.2 65536))) else ((ok_s_l01DrawFloat x0 (g_s_l00Src_one x0 0 0 2).2.1 (g_s_l00Src_one x0 0 0 2).2.2))))
def r_s_B10Number (p : Nat) : V := (.flt .f32 p)
def v_s_B10Number : List V → Option V
  | [(.sl 1 x0)] => some (r_s_B10Number (g_s_B10Number x0))
  | _ => none
def c_s_B10Number : List V → Bool
  | [(.sl 1 x0)] => ok_s_B10Number x0
  | _ => false
def s_s_B10Number : Summ := .pureC (fun vs => c_s_B10Number (fixSs [.sl 1] vs)) (fun vs => v_s_B10Number (fixSs [.sl 1] vs))
def S_s_B10Number : FuncId → Option Summ := fun f => match f with
  | 27 => some s_s_l00Src_one
  | 28 => some s_s_l00Src_pick
  | 29 => some s_s_l01From
  | 30 => some s_s_l01DrawFloat
  | _ => none
noncomputable def E_s_B10Number : Env := ⟨Try.prog, S_s_B10Number, fun _ _ => [], fun _ _ => [], fun _ _ => [], 100, fun _ _ => none⟩
theorem sok_s_B10Number : SOK E_s_B10Number := by
  intro f s h
  have h : S_s_B10Number f = some s := h
  unfold S_s_B10Number at h
  split at h
  · cases h; exact summ_s_l00Src_one
  · cases h; exact summ_s_l00Src_pick
  · cases h; exact summ_s_l01From
  · cases h; exact summ_s_l01DrawFloat
  · cases h
theorem lok_s_B10Number : LOK E_s_B10Number := noLoops rfl
set_option maxRecDepth 100000 in
theorem tree_s_B10Number (x0 : List (List V)) : runPureS E_s_B10Number 4 7 (.any) [(.sl 1 x0)] = (bif (ok_s_l00Src_one x0 0 0 2) then (bif (g_s_l00Src_one x0 0 0 2).1 then (bif (ok_s_l00Src_pick x0 (g_s_l00Src_one x0 0 0 2).2.1 (g_s_l00Src_one x0 0 0 2).2.2 65536) then (bif (ok_s_l00Src_pick x0 (g_s_l00Src_pick x0 (g_s_l00Src_one x0 0 0 2).2.1 (g_s_l00Src_one x0 0 0 2).2.2 65536).2.1 (g_s_l00Src_pick x0 (g_s_l00Src_one x0 0 0 2).2.1 (g_s_l00Src_one x0 0 0 2).2.2 65536).2.2 65536) then some (.flt .f32 (g_s_l01From (IntKind.i64.wrap ((IntKind.i64.wrap ((g_s_l00Src_pick x0 (g_s_l00Src_one x0 0 0 2).2.1 (g_s_l00Src_one x0 0 0 2).2.2 65536).1 * 65536)) + (g_s_l00Src_pick x0 (g_s_l00Src_pick x0 (g_s_l00Src_one x0 0 0 2).2.1 (g_s_l00Src_one x0 0 0 2).2.2 65536).2.1 (g_s_l00Src_pick x0 (g_s_l00Src_one x0 0 0 2).2.1 (g_s_l00Src_one x0 0 0 2).2.2 65536).2.2 65536).1)))) else none) else none) else (bif (ok_s_l01DrawFloat x0 (g_s_l00Src_one x0 0 0 2).2.1 (g_s_l00Src_one x0 0 0 2).2.2) then some (.flt .f32 (g_s_l01DrawFloat x0 (g_s_l00Src_one x0 0 0 2).2.1 (g_s_l00Src_one x0 0 0 2).2.2).1) else none)) else none) := by kernel_rfl
theorem run_s_B10Number (x0 : List (List V)) (h : ok_s_B10Number x0 = true) : runPureS E_s_B10Number 4 7 (.any) [(.sl 1 x0)] = some (r_s_B10Number (g_s_B10Number x0)) := (tree_s_B10Number x0).trans ((chk_ok (F := r_s_B10Number) (ite_ok (F := r_s_B10Number) (chk_ok (F := r_s_B10Number) (chk_k (F := r_s_B10Number) (leaf_ok (F := r_s_B10Number) (a := (g_s_l01From (IntKind.i64.wrap ((IntKind.i64.wrap ((g_s_l00Src_pick x0 (g_s_l00Src_one x0 0 0 2).2.1 (g_s_l00Src_one x0 0 0 2).2.2 65536).1 * 65536)) + (g_s_l00Src_pick x0 (g_s_l00Src_pick x0 (g_s_l00Src_one x0 0 0 2).2.1 (g_s_l00Src_one x0 0 0 2).2.2 65536).2.1 (g_s_l00Src_pick x0 (g_s_l00Src_one x0 0 0 2).2.1 (g_s_l00Src_one x0 0 0 2).2.2 65536).2.2 65536).1))))))) (chk_k (F := r_s_B10Number) (leaf_ok (F := r_s_B10Number) (a := (g_s_l01DrawFloat x0 (g_s_l00Src_one x0 0 0 2).2.1 (g_s_l00Src_one x0 0 0 2).2.2).1))))) h)
theorem summ_s_B10Number : SummOK Try.prog 7 s_s_B10Number := by
  refine ⟨pure_of_runS orders names sok_s_B10Number lok_s_B10Number 4 [.sl 1] (.any) (g := fun vs => (bif c_s_B10Number vs then v_s_B10Number vs else none)) fun vs v h => ?_, Try.f7, by kernel_rfl, by kernel_rfl, by kernel_rfl⟩
  try dsimp only at h
  cases hc : c_s_B10Number vs
  · rw [hc] at h; cases h
  rw [hc] at h
  simp only [cond_true] at h
  unfold v_s_B10Number at h
  split at h
  · cases h; exact run_s_B10Number _ hc
  · cases h
end Go.Proofs.Ytggfjjacafgkkaa

/-
  The source of draws: what is drawn lies in its range, and can be drawn.
-/
namespace Go.Proofs.Ytggfjjacafgkkaa
open Go.Ev Go

theorem and255 (x : Int) : 0 ≤ ibits .and .u64 x 255 ∧ ibits .and .u64 x 255 ≤ 255 := by
  have h : (BitVec.ofInt 64 x &&& BitVec.ofInt 64 255).toNat ≤ 255 := by
    rw [BitVec.toNat_and]
    exact Nat.and_le_right
  have e : ibits .and .u64 x 255 = IntKind.u64.wrap (((BitVec.ofInt 64 x &&& BitVec.ofInt 64 255).toNat : Nat) : Int) := rfl
  rw [e, IntKind.wrap_u64]
  omega

theorem at_byte (zs : List Int) {i : Int} (h0 : 0 ≤ i) (h1 : i < zs.length) : getAt ((getAt (bsV zs) (Int.toNat i)).getD []) 0 = some (.int .u8 (zs.getD i.toNat 0)) := by
  have hi : i.toNat < zs.length := by omega
  simp [getAt_eq, bsV, hi]

theorem next_ok {zs : List Int} {at_ seed : Int} (h0 : 0 ≤ at_) : ok_s_l00Src_next (bsV zs) at_ seed = true := by
  unfold ok_s_l00Src_next
  have hl : (Int.ofNat (bsV zs).length) = (zs.length : Int) := by simp [bsV]
  rw [hl]
  by_cases h : at_ < zs.length
  · have hc : icmp .lss at_ zs.length = true := by simpa [icmp] using h
    have hin : inB at_ (bsV zs).length = true := by
      unfold inB
      rw [Bool.and_eq_true, decide_eq_true_eq, decide_eq_true_eq]
      exact ⟨h0, by simpa [bsV] using h⟩
    rw [hc, hin, at_byte zs h0 h]
    rfl
  · have hc : icmp .lss at_ zs.length = false := by simpa [icmp] using h
    rw [hc]
    rfl

theorem small (n : Int) (h0 : 0 ≤ n) (h1 : n ≤ 1000000000000) : IntKind.i64.wrap n = n := by
  rw [IntKind.wrap_i64]
  omega

theorem next_sound {zs : List Int} (hb : isBytes zs) {at_ seed : Int} (h0 : 0 ≤ at_) (h1 : at_ ≤ 1000000000) :
    (g_s_l00Src_next (bsV zs) at_ seed).2.1 = at_ + 1 ∧ 0 ≤ (g_s_l00Src_next (bsV zs) at_ seed).1 ∧ (g_s_l00Src_next (bsV zs) at_ seed).1 ≤ 255 := by
  have hw : IntKind.i64.wrap (at_ + 1) = at_ + 1 := small _ (by omega) (by omega)
  have hl : (Int.ofNat (bsV zs).length) = (zs.length : Int) := by simp [bsV]
  have hand : ∀ x, 0 ≤ IntKind.i64.wrap (ibits .and .u64 x 255) ∧ IntKind.i64.wrap (ibits .and .u64 x 255) ≤ 255 := fun x => by
    have := and255 x
    rw [small _ this.1 (by omega)]
    exact this
  unfold g_s_l00Src_next
  rw [hl, hw]
  by_cases h : at_ < zs.length
  · have hc : icmp .lss at_ zs.length = true := by simpa [icmp] using h
    have hz : 0 ≤ zs.getD at_.toNat 0 ∧ zs.getD at_.toNat 0 ≤ 255 := by
      have hi : at_.toNat < zs.length := by omega
      have : zs.getD at_.toNat 0 ∈ zs := by simp [hi]
      exact hb _ this
    rw [hc, at_byte zs h0 h]
    simp only [cond_true, Option.getD_some, asI]
    cases icmp .leq (at_ + 1) zs.length
    · exact ⟨rfl, hand _⟩
    · simp only [cond_true]
      rw [small _ hz.1 (by omega)]
      exact ⟨trivial, hz⟩
  · have hc : icmp .lss at_ zs.length = false := by simpa [icmp] using h
    rw [hc]
    simp only [cond_false]
    cases icmp .leq (at_ + 1) zs.length
    · exact ⟨rfl, hand _⟩
    · exact ⟨rfl, by simp, by simp⟩

/-- A pick: it can be made; a number from 0 to n - 1; at most two bytes on. -/
theorem pick_sound {zs : List Int} (hb : isBytes zs) {at_ seed n : Int} (h0 : 0 ≤ at_) (h1 : at_ ≤ 900000000) (hn : 1 ≤ n) (hm : n ≤ 65536) :
    ok_s_l00Src_pick (bsV zs) at_ seed n = true ∧ at_ ≤ (g_s_l00Src_pick (bsV zs) at_ seed n).2.1 ∧ (g_s_l00Src_pick (bsV zs) at_ seed n).2.1 ≤ at_ + 2 ∧ 0 ≤ (g_s_l00Src_pick (bsV zs) at_ seed n).1 ∧ (g_s_l00Src_pick (bsV zs) at_ seed n).1 < n := by
  obtain ⟨a1, a2, a3⟩ := next_sound hb (seed := seed) h0 (by omega : at_ ≤ 1000000000)
  obtain ⟨b1, b2, b3⟩ := next_sound hb (seed := (g_s_l00Src_next (bsV zs) at_ seed).2.2) (by omega : (0 : Int) ≤ (g_s_l00Src_next (bsV zs) at_ seed).2.1) (by omega)
  have o1 := next_ok (zs := zs) (seed := seed) h0
  have o2 := next_ok (zs := zs) (seed := (g_s_l00Src_next (bsV zs) at_ seed).2.2) (by omega : (0 : Int) ≤ (g_s_l00Src_next (bsV zs) at_ seed).2.1)
  unfold ok_s_l00Src_pick g_s_l00Src_pick
  by_cases c1 : n ≤ 1
  · have hc : icmp .leq n 1 = true := by simpa [icmp] using c1
    rw [hc]
    simp only [cond_true]
    refine ⟨trivial, Int.le_refl _, by omega, Int.le_refl _, by omega⟩
  · have hc : icmp .leq n 1 = false := by simpa [icmp] using c1
    have hz : (!(n == 0)) = true := by simp; omega
    rw [hc, o1]
    simp only [cond_false, Bool.true_and]
    by_cases c2 : n > 200
    · have hc : icmp .gtr n 200 = true := by simpa [icmp] using c2
      rw [hc, o2, hz]
      simp only [cond_true, Bool.true_and]
      have hw1 : IntKind.i64.wrap ((g_s_l00Src_next (bsV zs) at_ seed).1 * 256) = (g_s_l00Src_next (bsV zs) at_ seed).1 * 256 := small _ (by omega) (by omega)
      rw [hw1, small _ (by omega) (by omega)]
      refine ⟨trivial, by omega, by omega, ?_, ?_⟩
      · exact Int.tmod_nonneg _ (by omega)
      · exact Int.tmod_lt_of_pos _ (by omega)
    · have hc : icmp .gtr n 200 = false := by simpa [icmp] using c2
      rw [hc, hz]
      simp only [cond_false]
      refine ⟨trivial, by omega, by omega, ?_, ?_⟩
      · exact Int.tmod_nonneg _ (by omega)
      · exact Int.tmod_lt_of_pos _ (by omega)
end Go.Proofs.Ytggfjjacafgkkaa

/-
  32-bit numbers that are drawn: canonical words.
-/
namespace Go.Proofs.Ytggfjjacafgkkaa
open Go.Ev Go Ieee

/-- A canonical word of 32 bits. -/
def F32 (n : Nat) : Prop := n < 4294967296 ∧ canon .f32 n = n

theorem sw32 : FloatKind.f32.format.signWeight = 2147483648 := by decide +kernel
theorem inf32 : FloatKind.f32.format.infRung = 2139095040 := by decide +kernel

theorem canon_F32 {n : Nat} (h : n < 4294967296) : F32 (canon .f32 n) := by
  refine ⟨?_, canon_canon _ _⟩
  unfold canon
  cases isNan .f32 n
  · exact h
  · show qnan .f32 < 4294967296
    decide

theorem from_F32 (v : Int) : F32 (g_s_l01From v) := by
  refine canon_F32 ?_
  rw [IntKind.wrap_u32]
  omega

theorem word_lt32 (neg : Bool) {rung : Nat} (h : rung ≤ FloatKind.f32.format.infRung) : FloatKind.f32.format.word neg rung < 4294967296 := by
  rw [inf32] at h
  unfold Format.word
  rw [sw32]
  split <;> omega

theorem write_lt32 (d : Datum) (h : d.isNaN = false) : FloatKind.f32.format.write d < 4294967296 := by
  cases d with
  | number neg mag place =>
    show FloatKind.f32.format.nearest neg mag place < _
    unfold Format.nearest
    split
    · exact word_lt32 neg (Nat.zero_le _)
    · exact word_lt32 neg (Nat.min_le_right _ _)
  | infinity neg => exact word_lt32 neg (Nat.le_refl _)
  | nan _ _ => simp [Datum.isNaN] at h

theorem map_write_lt {o : Option Datum} {r : Nat} (hn : ∀ d, o = some d → d.isNaN = false) (h : o.map FloatKind.f32.format.write = some r) : r < 4294967296 := by
  cases o with
  | none => cases h
  | some d => cases h; exact write_lt32 d (hn d rfl)

theorem floatBits_lt {op : BinOp} {a b r : Nat} (h : floatBits op .f32 a b = some r) : r < 4294967296 := by
  unfold floatBits at h
  cases op <;> simp only at h <;> first | (cases h; done) | skip
  · exact map_write_lt (fun _ => sum_notNaN) h
  · exact map_write_lt (fun _ => sum_notNaN) h
  · exact map_write_lt (fun _ => product_notNaN) h
  · exact map_write_lt (fun _ => quotient_notNaN) h

theorem fop_F32 (op : BinOp) (a b : Nat) : F32 (fop op .f32 a b) := by
  unfold fop
  split
  · rename_i r h
    exact ⟨floatBits_lt h, canon_of_not (floatBits_not h)⟩
  · exact ⟨by decide, canon_of_nan (isNan_qnan .f32)⟩

/-- The draw of a number: it can be made, and is a canonical word. -/
theorem plain_sound {zs : List Int} (hb : isBytes zs) {at_ seed : Int} (h0 : 0 ≤ at_) (h1 : at_ ≤ 800000000) :
    ok_s_l01DrawPlain (bsV zs) at_ seed = true ∧ F32 (g_s_l01DrawPlain (bsV zs) at_ seed).1 := by
  obtain ⟨a1, a2, a3, a4, a5⟩ := pick_sound hb (seed := seed) h0 (by omega : at_ ≤ 900000000) (by omega : (1 : Int) ≤ 129) (by omega)
  obtain ⟨b1, b2, b3, b4, b5⟩ := pick_sound hb (seed := (g_s_l00Src_pick (bsV zs) at_ seed 129).2.2) (by omega : (0 : Int) ≤ (g_s_l00Src_pick (bsV zs) at_ seed 129).2.1) (by omega) (by omega : (1 : Int) ≤ 4) (by omega)
  refine ⟨?_, ?_⟩
  · unfold ok_s_l01DrawPlain ok_s_l00Src_one
    rw [a1, b1]
    rfl
  · unfold g_s_l01DrawPlain
    cases (g_s_l00Src_one (bsV zs) (g_s_l00Src_pick (bsV zs) at_ seed 129).2.1 (g_s_l00Src_pick (bsV zs) at_ seed 129).2.2 4).1
    · exact fop_F32 _ _ _
    · exact fop_F32 _ _ _
end Go.Proofs.Ytggfjjacafgkkaa

/-
  Any 32-bit number that is drawn.
-/
namespace Go.Proofs.Ytggfjjacafgkkaa
open Go.Ev Go Ieee

theorem one_sound {zs : List Int} (hb : isBytes zs) {at_ seed n : Int} (h0 : 0 ≤ at_) (h1 : at_ ≤ 900000000) (hn : 1 ≤ n) (hm : n ≤ 65536) :
    ok_s_l00Src_one (bsV zs) at_ seed n = true ∧ at_ ≤ (g_s_l00Src_one (bsV zs) at_ seed n).2.1 ∧ (g_s_l00Src_one (bsV zs) at_ seed n).2.1 ≤ at_ + 2 := by
  obtain ⟨a1, a2, a3, a4, a5⟩ := pick_sound hb (seed := seed) h0 h1 hn hm
  exact ⟨a1, a2, a3⟩

theorem plain_at {zs : List Int} (hb : isBytes zs) {at_ seed : Int} (h0 : 0 ≤ at_) (h1 : at_ ≤ 800000000) : at_ ≤ (g_s_l01DrawPlain (bsV zs) at_ seed).2.1 ∧ (g_s_l01DrawPlain (bsV zs) at_ seed).2.1 ≤ at_ + 4 := by
  obtain ⟨a1, a2, a3, a4, a5⟩ := pick_sound hb (seed := seed) h0 (by omega : at_ ≤ 900000000) (by omega : (1 : Int) ≤ 129) (by omega)
  obtain ⟨b1, b2, b3⟩ := one_sound hb (seed := (g_s_l00Src_pick (bsV zs) at_ seed 129).2.2) (by omega : (0 : Int) ≤ (g_s_l00Src_pick (bsV zs) at_ seed 129).2.1) (by omega) (by omega : (1 : Int) ≤ 4) (by omega)
  unfold g_s_l01DrawPlain
  cases (g_s_l00Src_one (bsV zs) (g_s_l00Src_pick (bsV zs) at_ seed 129).2.1 (g_s_l00Src_pick (bsV zs) at_ seed 129).2.2 4).1
  · exact ⟨by simp only [cond_false]; omega, by simp only [cond_false]; omega⟩
  · exact ⟨by simp only [cond_true]; omega, by simp only [cond_true]; omega⟩

theorem inB_of {i : Int} {n : Nat} (h0 : 0 ≤ i) (h1 : i < n) : inB i n = true := by
  unfold inB
  rw [Bool.and_eq_true, decide_eq_true_eq, decide_eq_true_eq]
  exact ⟨h0, h1⟩

theorem list10 {i : Int} (h0 : 0 ≤ i) (h1 : i < 10) : (getAt ([(.int .i64 0), (.int .i64 2147483648), (.int .i64 2139095040), (.int .i64 4286578688), (.int .i64 2143289344), (.int .i64 1), (.int .i64 2139095039), (.int .i64 8388608), (.int .i64 8388607), (.int .i64 2147483649)] : List V) (0 + Int.toNat i * 1)).isSome = true ∧
    isI .i64 ((getAt ([(.int .i64 0), (.int .i64 2147483648), (.int .i64 2139095040), (.int .i64 4286578688), (.int .i64 2143289344), (.int .i64 1), (.int .i64 2139095039), (.int .i64 8388608), (.int .i64 8388607), (.int .i64 2147483649)] : List V) (0 + Int.toNat i * 1)).getD .und) = true := by
  have : i = 0 ∨ i = 1 ∨ i = 2 ∨ i = 3 ∨ i = 4 ∨ i = 5 ∨ i = 6 ∨ i = 7 ∨ i = 8 ∨ i = 9 := by omega
  rcases this with rfl | rfl | rfl | rfl | rfl | rfl | rfl | rfl | rfl | rfl <;> exact ⟨rfl, rfl⟩

theorem list4 {i : Int} (h0 : 0 ≤ i) (h1 : i < 4) : (getAt ([(.int .i64 8388608), (.int .i64 2130706432), (.int .i64 1610612736), (.int .i64 536870912)] : List V) (0 + Int.toNat i * 1)).isSome = true ∧
    isI .i64 ((getAt ([(.int .i64 8388608), (.int .i64 2130706432), (.int .i64 1610612736), (.int .i64 536870912)] : List V) (0 + Int.toNat i * 1)).getD .und) = true := by
  have : i = 0 ∨ i = 1 ∨ i = 2 ∨ i = 3 := by omega
  rcases this with rfl | rfl | rfl | rfl <;> exact ⟨rfl, rfl⟩

theorem float_sound {zs : List Int} (hb : isBytes zs) {at_ seed : Int} (h0 : 0 ≤ at_) (h1 : at_ ≤ 700000000) :
    ok_s_l01DrawFloat (bsV zs) at_ seed = true ∧ F32 (g_s_l01DrawFloat (bsV zs) at_ seed).1 := by
  obtain ⟨a1, a2, a3⟩ := one_sound hb (seed := seed) h0 (by omega : at_ ≤ 900000000) (by omega : (1 : Int) ≤ 12) (by omega)
  unfold ok_s_l01DrawFloat g_s_l01DrawFloat
  rw [a1]
  generalize (g_s_l00Src_one (bsV zs) at_ seed 12) = A at a2 a3 ⊢
  obtain ⟨c, s1, s2⟩ := A
  dsimp only at a2 a3 ⊢
  obtain ⟨p1, p2⟩ := plain_sound hb (seed := s2) (by omega : 0 ≤ s1) (by omega)
  obtain ⟨b1, b2, b3, b4, b5⟩ := pick_sound hb (seed := s2) (by omega : 0 ≤ s1) (by omega) (by omega : (1 : Int) ≤ 4) (by omega)
  cases c
  · simp only [Bool.not_false, cond_true, Bool.true_and]
    exact ⟨p1, p2⟩
  · simp only [Bool.not_true, cond_false, Bool.true_and]
    rw [b1]
    generalize (g_s_l00Src_pick (bsV zs) s1 s2 4) = B at b2 b3 b4 b5 ⊢
    obtain ⟨k, t1, t2⟩ := B
    dsimp only at b2 b3 b4 b5 ⊢
    obtain ⟨c1, c2, c3, c4, c5⟩ := pick_sound hb (seed := t2) (by omega : 0 ≤ t1) (by omega) (by omega : (1 : Int) ≤ 10) (by omega)
    obtain ⟨d1, d2, d3, d4, d5⟩ := pick_sound hb (seed := t2) (by omega : 0 ≤ t1) (by omega) (by omega : (1 : Int) ≤ 65536) (by omega)
    obtain ⟨e1, e2⟩ := plain_sound hb (seed := t2) (by omega : 0 ≤ t1) (by omega)
    obtain ⟨f1, f2⟩ := plain_at hb (seed := t2) (by omega : 0 ≤ t1) (by omega)
    rw [c1, d1, e1]
    simp only [Bool.true_and]
    cases icmp .eql k 0
    · simp only [cond_false]
      cases icmp .eql k 1
      · simp only [cond_false]
        cases icmp .eql k 2
        · simp only [cond_false]
          generalize (g_s_l01DrawPlain (bsV zs) t1 t2) = G at e2 f1 f2 ⊢
          obtain ⟨x, u1, u2⟩ := G
          dsimp only at e2 f1 f2 ⊢
          obtain ⟨q1, q2, q3, q4, q5⟩ := pick_sound hb (seed := u2) (by omega : 0 ≤ u1) (by omega) (by omega : (1 : Int) ≤ 4) (by omega)
          obtain ⟨l1, l2⟩ := list4 q4 q5
          rw [q1, inB_of q4 q5, l1, l2]
          exact ⟨rfl, fop_F32 _ _ _⟩
        · simp only [cond_true]
          exact ⟨trivial, from_F32 _⟩
      · simp only [cond_true]
        generalize (g_s_l00Src_pick (bsV zs) t1 t2 65536) = D at d2 d3 d4 d5 ⊢
        obtain ⟨x, u1, u2⟩ := D
        dsimp only at d2 d3 d4 d5 ⊢
        obtain ⟨q1, q2, q3, q4, q5⟩ := pick_sound hb (seed := u2) (by omega : 0 ≤ u1) (by omega) (by omega : (1 : Int) ≤ 65536) (by omega)
        exact ⟨q1, from_F32 _⟩
    · simp only [cond_true]
      obtain ⟨l1, l2⟩ := list10 c4 c5
      rw [inB_of c4 c5, l1, l2]
      exact ⟨rfl, from_F32 _⟩

/-- B10Number. -/
theorem number_sound {zs : List Int} (hb : isBytes zs) : ok_s_B10Number (bsV zs) = true ∧ F32 (g_s_B10Number (bsV zs)) := by
  obtain ⟨a1, a2, a3⟩ := one_sound hb (seed := 0) (Int.le_refl 0) (by omega) (by omega : (1 : Int) ≤ 2) (by omega)
  unfold ok_s_B10Number g_s_B10Number
  rw [a1]
  generalize (g_s_l00Src_one (bsV zs) 0 0 2) = A at a2 a3 ⊢
  obtain ⟨c, s1, s2⟩ := A
  dsimp only at a2 a3 ⊢
  obtain ⟨d1, d2, d3, d4, d5⟩ := pick_sound hb (seed := s2) (by omega : 0 ≤ s1) (by omega) (by omega : (1 : Int) ≤ 65536) (by omega)
  obtain ⟨e1, e2⟩ := float_sound hb (seed := s2) (by omega : 0 ≤ s1) (by omega)
  rw [d1, e1]
  simp only [Bool.true_and]
  cases c
  · simp only [cond_false]
    exact ⟨trivial, e2⟩
  · simp only [cond_true]
    generalize (g_s_l00Src_pick (bsV zs) s1 s2 65536) = D at d2 d3 d4 d5 ⊢
    obtain ⟨x, u1, u2⟩ := D
    dsimp only at d2 d3 d4 d5 ⊢
    obtain ⟨q1, q2, q3, q4, q5⟩ := pick_sound hb (seed := u2) (by omega : 0 ≤ u1) (by omega) (by omega : (1 : Int) ≤ 65536) (by omega)
    exact ⟨q1, from_F32 _⟩
end Go.Proofs.Ytggfjjacafgkkaa

/-
  Functions of the program: what each computes. Printed by wip/tools/gen2.py.
-/
namespace Go.Proofs.Ytggfjjacafgkkaa
open Go.Ev Go

-- loop.example/g01253/laws.b10At
def g_w_b10At (x0 : List (List V)) (x1 : Int) (x2 : Int) : Int := (bif (icmp .leq x2 1) then 0 else (bif (icmp .lss x1 (Int.ofNat (x0).length)) then (Int.tmod (IntKind.i64.wrap (asI ((getAt ((getAt x0 (Int.toNat x1)).getD []) 0).getD .und))) x2) else (Int.tmod (IntKind.i64.wrap ((IntKind.i64.wrap (x1 * 37)) + 11)) x2)))
def ok_w_b10At (x0 : List (List V)) (x1 : Int) (x2 : Int) : Bool := (bif (icmp .leq x2 1) then true else (bif (icmp .lss x1 (Int.ofNat (x0).length)) then ((inB x1 (x0).length) && (((getAt ((getAt x0 (Int.toNat x1)).getD []) 0).isSome && (isI .u8 ((getAt ((getAt x0 (Int.toNat x1)).getD []) 0).getD .und))) && ((!(x2 == 0))))) else ((!(x2 == 0)))))
def r_w_b10At (p : Int) : V := (.int .i64 p)
def v_w_b10At : List V → Option V
  | [(.sl 1 x0), (.int .i64 x1), (.int .i64 x2)] => some (r_w_b10At (g_w_b10At x0 x1 x2))
  | _ => none
def c_w_b10At : List V → Bool
  | [(.sl 1 x0), (.int .i64 x1), (.int .i64 x2)] => ok_w_b10At x0 x1 x2
  | _ => false
def s_w_b10At : Summ := .pureC (fun vs => c_w_b10At (fixSs [.sl 1, .any, .any] vs)) (fun vs => v_w_b10At (fixSs [.sl 1, .any, .any] vs))
def S_w_b10At : FuncId → Option Summ := fun _ => none
noncomputable def E_w_b10At : Env := ⟨Try.prog, S_w_b10At, fun _ _ => [], fun _ _ => [], fun _ _ => [], 100, fun _ _ => none⟩
theorem sok_w_b10At : SOK E_w_b10At := fun _ _ h => by cases h
theorem lok_w_b10At : LOK E_w_b10At := noLoops rfl
set_option maxRecDepth 100000 in
theorem tree_w_b10At (x0 : List (List V)) (x1 : Int) (x2 : Int) : runPureS E_w_b10At 4 19 (.any) [(.sl 1 x0), (.int .i64 x1), (.int .i64 x2)] = (bif (icmp .leq x2 1) then some (.int .i64 0) else (bif (icmp .lss x1 (Int.ofNat (x0).length)) then (bif (inB x1 (x0).length) then (bif ((getAt ((getAt x0 (Int.toNat x1)).getD []) 0).isSome && (isI .u8 ((getAt ((getAt x0 (Int.toNat x1)).getD []) 0).getD .und))) then (bif (!(x2 == 0)) then some (.int .i64 (Int.tmod (IntKind.i64.wrap (asI ((getAt ((getAt x0 (Int.toNat x1)).getD []) 0).getD .und))) x2)) else none) else none) else none) else (bif (!(x2 == 0)) then some (.int .i64 (Int.tmod (IntKind.i64.wrap ((IntKind.i64.wrap (x1 * 37)) + 11)) x2)) else none))) := by kernel_rfl
theorem run_w_b10At (x0 : List (List V)) (x1 : Int) (x2 : Int) (h : ok_w_b10At x0 x1 x2 = true) : runPureS E_w_b10At 4 19 (.any) [(.sl 1 x0), (.int .i64 x1), (.int .i64 x2)] = some (r_w_b10At (g_w_b10At x0 x1 x2)) := (tree_w_b10At x0 x1 x2).trans ((ite_ok (F := r_w_b10At) (fun _ => (leaf_ok (F := r_w_b10At) (a := 0))) (ite_ok (F := r_w_b10At) (chk_ok (F := r_w_b10At) (chk_ok (F := r_w_b10At) (chk_k (F := r_w_b10At) (leaf_ok (F := r_w_b10At) (a := (Int.tmod (IntKind.i64.wrap (asI ((getAt ((getAt x0 (Int.toNat x1)).getD []) 0).getD .und))) x2)))))) (chk_k (F := r_w_b10At) (leaf_ok (F := r_w_b10At) (a := (Int.tmod (IntKind.i64.wrap ((IntKind.i64.wrap (x1 * 37)) + 11)) x2)))))) h)
theorem summ_w_b10At : SummOK Try.prog 19 s_w_b10At := by
  refine ⟨pure_of_runS orders names sok_w_b10At lok_w_b10At 4 [.sl 1, .any, .any] (.any) (g := fun vs => (bif c_w_b10At vs then v_w_b10At vs else none)) fun vs v h => ?_, Try.f19, by kernel_rfl, by kernel_rfl, by kernel_rfl⟩
  try dsimp only at h
  cases hc : c_w_b10At vs
  · rw [hc] at h; cases h
  rw [hc] at h
  simp only [cond_true] at h
  unfold v_w_b10At at h
  split at h
  · cases h; exact run_w_b10At _ _ _ hc
  · cases h

-- a loop of loop.example/g01253/spec.l01DrawFloats
def L_s_l01DrawFloats_0 (p0 : Bool) (p1 : List (List V)) : Nat → Int → Nat → Int → Int → List V → Option (Nat × Int × Int × List V)
  | 0, _, _, _, _, _ => none
  | m + 1, u0, u1, u2, u3, u4 => (bif (icmp .gtr u0 0) then (bif p0 then (bif (ok_s_l01DrawFloat p1 u2 u3) then (bif ((Nat.ble (0 + (u1 * 1)) (u4).length) && (Nat.ble (u1 + 1) 4294967296)) then (L_s_l01DrawFloats_0 p0 p1 m (IntKind.i64.wrap (u0 - 1)) (u1 + 1) (g_s_l01DrawFloat p1 u2 u3).2.1 (g_s_l01DrawFloat p1 u2 u3).2.2 (((u4.drop 0).take (u1 * 1)) ++ [(.flt .f32 (g_s_l01DrawFloat p1 u2 u3).1)])) else none) else none) else (bif (ok_s_l01DrawPlain p1 u2 u3) then (bif ((Nat.ble (0 + (u1 * 1)) (u4).length) && (Nat.ble (u1 + 1) 4294967296)) then (L_s_l01DrawFloats_0 p0 p1 m (IntKind.i64.wrap (u0 - 1)) (u1 + 1) (g_s_l01DrawPlain p1 u2 u3).2.1 (g_s_l01DrawPlain p1 u2 u3).2.2 (((u4.drop 0).take (u1 * 1)) ++ [(.flt .f32 (g_s_l01DrawPlain p1 u2 u3).1)])) else none) else none)) else some (u1, u2, u3, u4))
def R_s_l01DrawFloats_0 (p0 : Bool) (p1 : List (List V)) (u0 : Int) (u1 : Nat) (u2 : Int) (u3 : Int) (u4 : List V) : Nat × Int × Int × List V := (L_s_l01DrawFloats_0 p0 p1 FUEL u0 u1 u2 u3 u4).getD (0, 0, 0, [])
def K_s_l01DrawFloats_0 (p0 : Bool) (p1 : List (List V)) (u0 : Int) (u1 : Nat) (u2 : Int) (u3 : Int) (u4 : List V) : Bool := (L_s_l01DrawFloats_0 p0 p1 FUEL u0 u1 u2 u3 u4).isSome
def S_L_s_l01DrawFloats_0 : FuncId → Option Summ := fun f => match f with
  | 30 => some s_s_l01DrawFloat
  | 45 => some s_s_l01DrawPlain
  | _ => none
noncomputable def E_L_s_l01DrawFloats_0 : Env := ⟨Try.prog, S_L_s_l01DrawFloats_0, fun _ _ => [], fun _ _ => [], fun _ _ => [], 100, fun _ _ => none⟩
theorem sok_L_s_l01DrawFloats_0 : SOK E_L_s_l01DrawFloats_0 := by
  intro f s h
  have h : S_L_s_l01DrawFloats_0 f = some s := h
  unfold S_L_s_l01DrawFloats_0 at h
  split at h
  · cases h; exact summ_s_l01DrawFloat
  · cases h; exact summ_s_l01DrawPlain
  · cases h
theorem lok_L_s_l01DrawFloats_0 : LOK E_L_s_l01DrawFloats_0 := noLoops rfl
set_option maxRecDepth 100000 in
theorem turn_s_l01DrawFloats_0 {α : Type} (p0 : Bool) (p1 : List (List V)) (u0 : Int) (u1 : Nat) (u2 : Int) (u3 : Int) (u4 : List V) (Kn : St → Option α) (Ke : Cont α) : exec E_L_s_l01DrawFloats_0 (callN E_L_s_l01DrawFloats_0 4) 39 (loopAt Try.prog 39 0).1 (loopAt Try.prog 39 0).2.2 0 ⟨[(0, (.mp 0 0)), (1, (.int .i64 u0)), (5, (.ms 2 0 u1 1)), (6, (.bool p0))], [(0, some [(.sl 1 p1), (.int .i64 u2), (.int .u64 u3)]), (2, some u4)], 3, [0, 2]⟩ (loopK 2 [0, 1, 5, 6] [5] Kn Ke) = (bif (icmp .gtr u0 0) then (bif p0 then (bif (ok_s_l01DrawFloat p1 u2 u3) then (bif ((Nat.ble (0 + (u1 * 1)) (u4).length) && (Nat.ble (u1 + 1) 4294967296)) then Kn ⟨[(0, (.mp 0 0)), (1, (.int .i64 (IntKind.i64.wrap (u0 - 1)))), (5, (.ms 2 0 (u1 + 1) 1)), (6, (.bool p0))], [(0, some [(.sl 1 p1), (.int .i64 (g_s_l01DrawFloat p1 u2 u3).2.1), (.int .u64 (g_s_l01DrawFloat p1 u2 u3).2.2)]), (2, some (((u4.drop 0).take (u1 * 1)) ++ [(.flt .f32 (g_s_l01DrawFloat p1 u2 u3).1)]))], 3, [0, 2]⟩ else none) else none) else (bif (ok_s_l01DrawPlain p1 u2 u3) then (bif ((Nat.ble (0 + (u1 * 1)) (u4).length) && (Nat.ble (u1 + 1) 4294967296)) then Kn ⟨[(0, (.mp 0 0)), (1, (.int .i64 (IntKind.i64.wrap (u0 - 1)))), (5, (.ms 2 0 (u1 + 1) 1)), (6, (.bool p0))], [(0, some [(.sl 1 p1), (.int .i64 (g_s_l01DrawPlain p1 u2 u3).2.1), (.int .u64 (g_s_l01DrawPlain p1 u2 u3).2.2)]), (2, some (((u4.drop 0).take (u1 * 1)) ++ [(.flt .f32 (g_s_l01DrawPlain p1 u2 u3).1)]))], 3, [0, 2]⟩ else none) else none)) else Ke (.exit 0) ⟨[(5, (.ms 2 0 u1 1))], [(0, some [(.sl 1 p1), (.int .i64 u2), (.int .u64 u3)]), (2, some u4)], 3, [0, 2]⟩) := by kernel_rfl
def fin_s_l01DrawFloats_0 {α : Type} (p0 : Bool) (p1 : List (List V)) (K : Cont α) : Option (Nat × Int × Int × List V) → Option α
  | none => none
  | some z => K (.exit 0) ⟨[(5, (.ms 2 0 z.1 1))], [(0, some [(.sl 1 p1), (.int .i64 z.2.1), (.int .u64 z.2.2.1)]), (2, some z.2.2.2)], 3, [0, 2]⟩
theorem run_s_l01DrawFloats_0 {α : Type} (p0 : Bool) (p1 : List (List V)) (K : Cont α) (m : Nat) : ∀ (u0 : Int) (u1 : Nat) (u2 : Int) (u3 : Int) (u4 : List V), loopN (exec E_L_s_l01DrawFloats_0 (callN E_L_s_l01DrawFloats_0 4) 39 (loopAt Try.prog 39 0).1 (loopAt Try.prog 39 0).2.2 0) 2 [0, 1, 5, 6] [5] m ⟨[(0, (.mp 0 0)), (1, (.int .i64 u0)), (5, (.ms 2 0 u1 1)), (6, (.bool p0))], [(0, some [(.sl 1 p1), (.int .i64 u2), (.int .u64 u3)]), (2, some u4)], 3, [0, 2]⟩ K = fin_s_l01DrawFloats_0 p0 p1 K (L_s_l01DrawFloats_0 p0 p1 m u0 u1 u2 u3 u4) := by
  induction m with
  | zero => intros; rfl
  | succ m ih => intro u0 u1 u2 u3 u4; exact (turn_s_l01DrawFloats_0 p0 p1 u0 u1 u2 u3 u4 _ K).trans (ite_f (f := fin_s_l01DrawFloats_0 p0 p1 K) (ite_f (f := fin_s_l01DrawFloats_0 p0 p1 K) (chk_f (f := fin_s_l01DrawFloats_0 p0 p1 K) rfl (chk_f (f := fin_s_l01DrawFloats_0 p0 p1 K) rfl (ih (IntKind.i64.wrap (u0 - 1)) (u1 + 1) (g_s_l01DrawFloat p1 u2 u3).2.1 (g_s_l01DrawFloat p1 u2 u3).2.2 (((u4.drop 0).take (u1 * 1)) ++ [(.flt .f32 (g_s_l01DrawFloat p1 u2 u3).1)])))) (chk_f (f := fin_s_l01DrawFloats_0 p0 p1 K) rfl (chk_f (f := fin_s_l01DrawFloats_0 p0 p1 K) rfl (ih (IntKind.i64.wrap (u0 - 1)) (u1 + 1) (g_s_l01DrawPlain p1 u2 u3).2.1 (g_s_l01DrawPlain p1 u2 u3).2.2 (((u4.drop 0).take (u1 * 1)) ++ [(.flt .f32 (g_s_l01DrawPlain p1 u2 u3).1)]))))) rfl)
def lt_s_l01DrawFloats_0 : Nat → St → Option LT
  | 2, ⟨[(0, (.mp 0 0)), (1, (.int .i64 u0)), (5, (.ms 2 0 u1 1)), (6, (.bool p0))], [(0, some [(.sl 1 p1), (.int .i64 u2), (.int .u64 u3)]), (2, some u4)], 3, [0, 2]⟩ => some (.chk (K_s_l01DrawFloats_0 p0 p1 u0 u1 u2 u3 u4) (.leaf (.exit 0) ⟨[(5, (.ms 2 0 (R_s_l01DrawFloats_0 p0 p1 u0 u1 u2 u3 u4).1 1))], [(0, some [(.sl 1 p1), (.int .i64 (R_s_l01DrawFloats_0 p0 p1 u0 u1 u2 u3 u4).2.1), (.int .u64 (R_s_l01DrawFloats_0 p0 p1 u0 u1 u2 u3 u4).2.2.1)]), (2, some (R_s_l01DrawFloats_0 p0 p1 u0 u1 u2 u3 u4).2.2.2)], 3, [0, 2]⟩))
  | _, _ => none
theorem told_s_l01DrawFloats_0 : LoopOK Try.prog (loopAt Try.prog 39 0).1 (loopAt Try.prog 39 0).2.2 lt_s_l01DrawFloats_0 := by
  refine loop_told (E := E_L_s_l01DrawFloats_0) orders names sok_L_s_l01DrawFloats_0 lok_L_s_l01DrawFloats_0 39 0 4 [0, 1, 5, 6] [5] fun base s t h => ?_
  unfold lt_s_l01DrawFloats_0 at h
  split at h
  · cases h
    refine ⟨FUEL, fun α K => (run_s_l01DrawFloats_0 _ _ K FUEL _ _ _ _ _).trans ?_⟩
    unfold K_s_l01DrawFloats_0 R_s_l01DrawFloats_0
    cases L_s_l01DrawFloats_0 _ _ FUEL _ _ _ _ _ <;> rfl
  · cases h

-- loop.example/g01253/spec.l01DrawFloats
def r_s_l01DrawFloats (es : List (List V)) (p : List (List V) × Int × Int) : V × Cells := ((.sl 1 p.1), [(.sl 1 es), (.int .i64 p.2.1), (.int .u64 p.2.2)])
def g_s_l01DrawFloats (es : List (List V)) (at_ : Int) (seed : Int) (x0 : Int) : List (List V) × Int × Int := ((chunk (R_s_l01DrawFloats_0 (g_s_l00Src_one es at_ seed 4).1 es x0 0 (g_s_l00Src_one es at_ seed 4).2.1 (g_s_l00Src_one es at_ seed 4).2.2 ([] : List V)).1 1 ((R_s_l01DrawFloats_0 (g_s_l00Src_one es at_ seed 4).1 es x0 0 (g_s_l00Src_one es at_ seed 4).2.1 (g_s_l00Src_one es at_ seed 4).2.2 ([] : List V)).2.2.2.drop 0)), (R_s_l01DrawFloats_0 (g_s_l00Src_one es at_ seed 4).1 es x0 0 (g_s_l00Src_one es at_ seed 4).2.1 (g_s_l00Src_one es at_ seed 4).2.2 ([] : List V)).2.1, (R_s_l01DrawFloats_0 (g_s_l00Src_one es at_ seed 4).1 es x0 0 (g_s_l00Src_one es at_ seed 4).2.1 (g_s_l00Src_one es at_ seed 4).2.2 ([] : List V)).2.2.1)
def ok_s_l01DrawFloats (es : List (List V)) (at_ : Int) (seed : Int) (x0 : Int) : Bool := ((ok_s_l00Src_one es at_ seed 4) && ((K_s_l01DrawFloats_0 (g_s_l00Src_one es at_ seed 4).1 es x0 0 (g_s_l00Src_one es at_ seed 4).2.1 (g_s_l00Src_one es at_ seed 4).2.2 ([] : List V))))
def v_s_l01DrawFloats (cs : Cells) (rest : List V) : Option (V × Cells) :=
  match cs, rest with
  | [(.sl 1 es), (.int .i64 at_), (.int .u64 seed)], [(.int .i64 x0)] => some (r_s_l01DrawFloats es (g_s_l01DrawFloats es at_ seed x0))
  | _, _ => none
def c_s_l01DrawFloats (cs : Cells) (rest : List V) : Bool :=
  match cs, rest with
  | [(.sl 1 es), (.int .i64 at_), (.int .u64 seed)], [(.int .i64 x0)] => ok_s_l01DrawFloats es at_ seed x0
  | _, _ => false
def s_s_l01DrawFloats : Summ := .objC c_s_l01DrawFloats v_s_l01DrawFloats
def S_s_l01DrawFloats : FuncId → Option Summ := fun f => match f with
  | 27 => some s_s_l00Src_one
  | _ => none
def keep_s_l01DrawFloats : FuncId → Nat → List Nat := fun f c => match f, c with
  | 39, 0 => [0, 1, 5, 6]
  | _, _ => []
def kept_s_l01DrawFloats : FuncId → Nat → List Nat := fun f c => match f, c with
  | 39, 0 => [5]
  | _, _ => []
def move_s_l01DrawFloats : FuncId → Nat → List Nat := fun f c => match f, c with
  | 39, 0 => [5]
  | _, _ => []
def loops_s_l01DrawFloats : FuncId → Nat → Option (Nat → St → Option LT) := fun f c => match f, c with
  | 39, 0 => some lt_s_l01DrawFloats_0
  | _, _ => none
noncomputable def E_s_l01DrawFloats : Env := ⟨Try.prog, S_s_l01DrawFloats, keep_s_l01DrawFloats, kept_s_l01DrawFloats, move_s_l01DrawFloats, 100, loops_s_l01DrawFloats⟩
theorem sok_s_l01DrawFloats : SOK E_s_l01DrawFloats := by
  intro f s h
  have h : S_s_l01DrawFloats f = some s := h
  unfold S_s_l01DrawFloats at h
  split at h
  · cases h; exact summ_s_l00Src_one
  · cases h
theorem lok_s_l01DrawFloats : LOK E_s_l01DrawFloats := by
  intro f fn c hf hc p hp g hg
  change loops_s_l01DrawFloats f p.1 = some g at hg
  unfold loops_s_l01DrawFloats at hg
  split at hg
  · rename_i hpc; cases hg; exact lok_pick hf hc hp hpc (ids := [0]) (by kernel_rfl) 0 (by rfl) (by decide) told_s_l01DrawFloats_0
  · cases hg
set_option maxRecDepth 100000 in
theorem tree_s_l01DrawFloats (es : List (List V)) (at_ : Int) (seed : Int) (x0 : Int) : runObj E_s_l01DrawFloats 4 39 [(.sl 1 es), (.int .i64 at_), (.int .u64 seed)] [(.int .i64 x0)] = (bif (ok_s_l00Src_one es at_ seed 4) then (bif (K_s_l01DrawFloats_0 (g_s_l00Src_one es at_ seed 4).1 es x0 0 (g_s_l00Src_one es at_ seed 4).2.1 (g_s_l00Src_one es at_ seed 4).2.2 ([] : List V)) then some ((.sl 1 (chunk (R_s_l01DrawFloats_0 (g_s_l00Src_one es at_ seed 4).1 es x0 0 (g_s_l00Src_one es at_ seed 4).2.1 (g_s_l00Src_one es at_ seed 4).2.2 ([] : List V)).1 1 ((R_s_l01DrawFloats_0 (g_s_l00Src_one es at_ seed 4).1 es x0 0 (g_s_l00Src_one es at_ seed 4).2.1 (g_s_l00Src_one es at_ seed 4).2.2 ([] : List V)).2.2.2.drop 0))), [(.sl 1 es), (.int .i64 (R_s_l01DrawFloats_0 (g_s_l00Src_one es at_ seed 4).1 es x0 0 (g_s_l00Src_one es at_ seed 4).2.1 (g_s_l00Src_one es at_ seed 4).2.2 ([] : List V)).2.1), (.int .u64 (R_s_l01DrawFloats_0 (g_s_l00Src_one es at_ seed 4).1 es x0 0 (g_s_l00Src_one es at_ seed 4).2.1 (g_s_l00Src_one es at_ seed 4).2.2 ([] : List V)).2.2.1)]) else none) else none) := by kernel_rfl
theorem run_s_l01DrawFloats (es : List (List V)) (at_ : Int) (seed : Int) (x0 : Int) (h : ok_s_l01DrawFloats es at_ seed x0 = true) : runObj E_s_l01DrawFloats 4 39 [(.sl 1 es), (.int .i64 at_), (.int .u64 seed)] [(.int .i64 x0)] = some (r_s_l01DrawFloats es (g_s_l01DrawFloats es at_ seed x0)) := (tree_s_l01DrawFloats es at_ seed x0).trans ((chk_ok (F := (r_s_l01DrawFloats es)) (chk_k (F := (r_s_l01DrawFloats es)) (leaf_ok (F := (r_s_l01DrawFloats es)) (a := ((chunk (R_s_l01DrawFloats_0 (g_s_l00Src_one es at_ seed 4).1 es x0 0 (g_s_l00Src_one es at_ seed 4).2.1 (g_s_l00Src_one es at_ seed 4).2.2 ([] : List V)).1 1 ((R_s_l01DrawFloats_0 (g_s_l00Src_one es at_ seed 4).1 es x0 0 (g_s_l00Src_one es at_ seed 4).2.1 (g_s_l00Src_one es at_ seed 4).2.2 ([] : List V)).2.2.2.drop 0)), (R_s_l01DrawFloats_0 (g_s_l00Src_one es at_ seed 4).1 es x0 0 (g_s_l00Src_one es at_ seed 4).2.1 (g_s_l00Src_one es at_ seed 4).2.2 ([] : List V)).2.1, (R_s_l01DrawFloats_0 (g_s_l00Src_one es at_ seed 4).1 es x0 0 (g_s_l00Src_one es at_ seed 4).2.1 (g_s_l00Src_one es at_ seed 4).2.2 ([] : List V)).2.2.1))))) h)
theorem summ_s_l01DrawFloats : SummOK Try.prog 39 s_s_l01DrawFloats := by
  refine ⟨obj_of_run orders names sok_s_l01DrawFloats lok_s_l01DrawFloats 4 fun cs rest r h => ?_, Try.f39, by kernel_rfl, by kernel_rfl, by kernel_rfl⟩
  cases hc : c_s_l01DrawFloats cs rest
  · rw [hc] at h; cases h
  rw [hc] at h
  simp only [cond_true] at h
  unfold v_s_l01DrawFloats at h
  split at h
  · cases h; exact run_s_l01DrawFloats _ _ _ _ hc
  · cases h

-- loop.example/g01253/spec.B10Numbers
def g_s_B10Numbers (x0 : List (List V)) (x1 : Int) : List (List V) := (g_s_l01DrawFloats x0 0 0 x1).1
def ok_s_B10Numbers (x0 : List (List V)) (x1 : Int) : Bool := ((ok_s_l01DrawFloats x0 0 0 x1))
def r_s_B10Numbers (p : List (List V)) : V := (.sl 1 p)
def v_s_B10Numbers : List V → Option V
  | [(.sl 1 x0), (.int .i64 x1)] => some (r_s_B10Numbers (g_s_B10Numbers x0 x1))
  | _ => none
def c_s_B10Numbers : List V → Bool
  | [(.sl 1 x0), (.int .i64 x1)] => ok_s_B10Numbers x0 x1
  | _ => false
def s_s_B10Numbers : Summ := .pureC (fun vs => c_s_B10Numbers (fixSs [.sl 1, .any] vs)) (fun vs => v_s_B10Numbers (fixSs [.sl 1, .any] vs))
def S_s_B10Numbers : FuncId → Option Summ := fun f => match f with
  | 39 => some s_s_l01DrawFloats
  | _ => none
noncomputable def E_s_B10Numbers : Env := ⟨Try.prog, S_s_B10Numbers, fun _ _ => [], fun _ _ => [], fun _ _ => [], 100, fun _ _ => none⟩
theorem sok_s_B10Numbers : SOK E_s_B10Numbers := by
  intro f s h
  have h : S_s_B10Numbers f = some s := h
  unfold S_s_B10Numbers at h
  split at h
  · cases h; exact summ_s_l01DrawFloats
  · cases h
theorem lok_s_B10Numbers : LOK E_s_B10Numbers := noLoops rfl
set_option maxRecDepth 100000 in
theorem tree_s_B10Numbers (x0 : List (List V)) (x1 : Int) : runPureS E_s_B10Numbers 4 20 (.sl 1) [(.sl 1 x0), (.int .i64 x1)] = (bif (ok_s_l01DrawFloats x0 0 0 x1) then some (.sl 1 (g_s_l01DrawFloats x0 0 0 x1).1) else none) := by kernel_rfl
theorem run_s_B10Numbers (x0 : List (List V)) (x1 : Int) (h : ok_s_B10Numbers x0 x1 = true) : runPureS E_s_B10Numbers 4 20 (.sl 1) [(.sl 1 x0), (.int .i64 x1)] = some (r_s_B10Numbers (g_s_B10Numbers x0 x1)) := (tree_s_B10Numbers x0 x1).trans ((chk_k (F := r_s_B10Numbers) (leaf_ok (F := r_s_B10Numbers) (a := (g_s_l01DrawFloats x0 0 0 x1).1))) h)
theorem summ_s_B10Numbers : SummOK Try.prog 20 s_s_B10Numbers := by
  refine ⟨pure_of_runS orders names sok_s_B10Numbers lok_s_B10Numbers 4 [.sl 1, .any] (.sl 1) (g := fun vs => (bif c_s_B10Numbers vs then v_s_B10Numbers vs else none)) fun vs v h => ?_, Try.f20, by kernel_rfl, by kernel_rfl, by kernel_rfl⟩
  try dsimp only at h
  cases hc : c_s_B10Numbers vs
  · rw [hc] at h; cases h
  rw [hc] at h
  simp only [cond_true] at h
  unfold v_s_B10Numbers at h
  split at h
  · cases h; exact run_s_B10Numbers _ _ hc
  · cases h

-- a loop of loop.example/g01253/spec.B10Whole
def L_s_B10Whole_0 (p0 : Int) (p1 : List (List V)) : Nat → Int → Nat → Int → Int → List V → Option (Nat × Int × Int × List V)
  | 0, _, _, _, _, _ => none
  | m + 1, u0, u1, u2, u3, u4 => (bif (icmp .gtr u0 0) then (bif (ok_s_l00Src_pick p1 u2 u3 (IntKind.i64.wrap ((IntKind.i64.wrap (2 * p0)) + 1))) then (bif ((Nat.ble (0 + (u1 * 1)) (u4).length) && (Nat.ble (u1 + 1) 4294967296)) then (L_s_B10Whole_0 p0 p1 m (IntKind.i64.wrap (u0 - 1)) (u1 + 1) (g_s_l00Src_pick p1 u2 u3 (IntKind.i64.wrap ((IntKind.i64.wrap (2 * p0)) + 1))).2.1 (g_s_l00Src_pick p1 u2 u3 (IntKind.i64.wrap ((IntKind.i64.wrap (2 * p0)) + 1))).2.2 (((u4.drop 0).take (u1 * 1)) ++ [(.flt .f32 (FloatKind.f32.nearest (IntKind.i64.wrap ((g_s_l00Src_pick p1 u2 u3 (IntKind.i64.wrap ((IntKind.i64.wrap (2 * p0)) + 1))).1 - p0))))])) else none) else none) else some (u1, u2, u3, u4))
def R_s_B10Whole_0 (p0 : Int) (p1 : List (List V)) (u0 : Int) (u1 : Nat) (u2 : Int) (u3 : Int) (u4 : List V) : Nat × Int × Int × List V := (L_s_B10Whole_0 p0 p1 FUEL u0 u1 u2 u3 u4).getD (0, 0, 0, [])
def K_s_B10Whole_0 (p0 : Int) (p1 : List (List V)) (u0 : Int) (u1 : Nat) (u2 : Int) (u3 : Int) (u4 : List V) : Bool := (L_s_B10Whole_0 p0 p1 FUEL u0 u1 u2 u3 u4).isSome
def S_L_s_B10Whole_0 : FuncId → Option Summ := fun f => match f with
  | 28 => some s_s_l00Src_pick
  | _ => none
noncomputable def E_L_s_B10Whole_0 : Env := ⟨Try.prog, S_L_s_B10Whole_0, fun _ _ => [], fun _ _ => [], fun _ _ => [], 100, fun _ _ => none⟩
theorem sok_L_s_B10Whole_0 : SOK E_L_s_B10Whole_0 := by
  intro f s h
  have h : S_L_s_B10Whole_0 f = some s := h
  unfold S_L_s_B10Whole_0 at h
  split at h
  · cases h; exact summ_s_l00Src_pick
  · cases h
theorem lok_L_s_B10Whole_0 : LOK E_L_s_B10Whole_0 := noLoops rfl
set_option maxRecDepth 100000 in
theorem turn_s_B10Whole_0 {α : Type} (p0 : Int) (p1 : List (List V)) (u0 : Int) (u1 : Nat) (u2 : Int) (u3 : Int) (u4 : List V) (Kn : St → Option α) (Ke : Cont α) : exec E_L_s_B10Whole_0 (callN E_L_s_B10Whole_0 4) 24 (loopAt Try.prog 24 0).1 (loopAt Try.prog 24 0).2.2 0 ⟨[(1, (.int .i64 u0)), (2, (.int .i64 p0)), (7, (.mp 0 0)), (8, (.ms 2 0 u1 1))], [(0, some [(.sl 1 p1), (.int .i64 u2), (.int .u64 u3)]), (2, some u4)], 3, [0, 2]⟩ (loopK 2 [1, 2, 7, 8] [8] Kn Ke) = (bif (icmp .gtr u0 0) then (bif (ok_s_l00Src_pick p1 u2 u3 (IntKind.i64.wrap ((IntKind.i64.wrap (2 * p0)) + 1))) then (bif ((Nat.ble (0 + (u1 * 1)) (u4).length) && (Nat.ble (u1 + 1) 4294967296)) then Kn ⟨[(1, (.int .i64 (IntKind.i64.wrap (u0 - 1)))), (2, (.int .i64 p0)), (7, (.mp 0 0)), (8, (.ms 2 0 (u1 + 1) 1))], [(0, some [(.sl 1 p1), (.int .i64 (g_s_l00Src_pick p1 u2 u3 (IntKind.i64.wrap ((IntKind.i64.wrap (2 * p0)) + 1))).2.1), (.int .u64 (g_s_l00Src_pick p1 u2 u3 (IntKind.i64.wrap ((IntKind.i64.wrap (2 * p0)) + 1))).2.2)]), (2, some (((u4.drop 0).take (u1 * 1)) ++ [(.flt .f32 (FloatKind.f32.nearest (IntKind.i64.wrap ((g_s_l00Src_pick p1 u2 u3 (IntKind.i64.wrap ((IntKind.i64.wrap (2 * p0)) + 1))).1 - p0))))]))], 3, [0, 2]⟩ else none) else none) else Ke (.exit 0) ⟨[(8, (.ms 2 0 u1 1))], [(0, some [(.sl 1 p1), (.int .i64 u2), (.int .u64 u3)]), (2, some u4)], 3, [0, 2]⟩) := by kernel_rfl
def fin_s_B10Whole_0 {α : Type} (p0 : Int) (p1 : List (List V)) (K : Cont α) : Option (Nat × Int × Int × List V) → Option α
  | none => none
  | some z => K (.exit 0) ⟨[(8, (.ms 2 0 z.1 1))], [(0, some [(.sl 1 p1), (.int .i64 z.2.1), (.int .u64 z.2.2.1)]), (2, some z.2.2.2)], 3, [0, 2]⟩
theorem run_s_B10Whole_0 {α : Type} (p0 : Int) (p1 : List (List V)) (K : Cont α) (m : Nat) : ∀ (u0 : Int) (u1 : Nat) (u2 : Int) (u3 : Int) (u4 : List V), loopN (exec E_L_s_B10Whole_0 (callN E_L_s_B10Whole_0 4) 24 (loopAt Try.prog 24 0).1 (loopAt Try.prog 24 0).2.2 0) 2 [1, 2, 7, 8] [8] m ⟨[(1, (.int .i64 u0)), (2, (.int .i64 p0)), (7, (.mp 0 0)), (8, (.ms 2 0 u1 1))], [(0, some [(.sl 1 p1), (.int .i64 u2), (.int .u64 u3)]), (2, some u4)], 3, [0, 2]⟩ K = fin_s_B10Whole_0 p0 p1 K (L_s_B10Whole_0 p0 p1 m u0 u1 u2 u3 u4) := by
  induction m with
  | zero => intros; rfl
  | succ m ih => intro u0 u1 u2 u3 u4; exact (turn_s_B10Whole_0 p0 p1 u0 u1 u2 u3 u4 _ K).trans (ite_f (f := fin_s_B10Whole_0 p0 p1 K) (chk_f (f := fin_s_B10Whole_0 p0 p1 K) rfl (chk_f (f := fin_s_B10Whole_0 p0 p1 K) rfl (ih (IntKind.i64.wrap (u0 - 1)) (u1 + 1) (g_s_l00Src_pick p1 u2 u3 (IntKind.i64.wrap ((IntKind.i64.wrap (2 * p0)) + 1))).2.1 (g_s_l00Src_pick p1 u2 u3 (IntKind.i64.wrap ((IntKind.i64.wrap (2 * p0)) + 1))).2.2 (((u4.drop 0).take (u1 * 1)) ++ [(.flt .f32 (FloatKind.f32.nearest (IntKind.i64.wrap ((g_s_l00Src_pick p1 u2 u3 (IntKind.i64.wrap ((IntKind.i64.wrap (2 * p0)) + 1))).1 - p0))))])))) rfl)
def lt_s_B10Whole_0 : Nat → St → Option LT
  | 2, ⟨[(1, (.int .i64 u0)), (2, (.int .i64 p0)), (7, (.mp 0 0)), (8, (.ms 2 0 u1 1))], [(0, some [(.sl 1 p1), (.int .i64 u2), (.int .u64 u3)]), (2, some u4)], 3, [0, 2]⟩ => some (.chk (K_s_B10Whole_0 p0 p1 u0 u1 u2 u3 u4) (.leaf (.exit 0) ⟨[(8, (.ms 2 0 (R_s_B10Whole_0 p0 p1 u0 u1 u2 u3 u4).1 1))], [(0, some [(.sl 1 p1), (.int .i64 (R_s_B10Whole_0 p0 p1 u0 u1 u2 u3 u4).2.1), (.int .u64 (R_s_B10Whole_0 p0 p1 u0 u1 u2 u3 u4).2.2.1)]), (2, some (R_s_B10Whole_0 p0 p1 u0 u1 u2 u3 u4).2.2.2)], 3, [0, 2]⟩))
  | _, _ => none
theorem told_s_B10Whole_0 : LoopOK Try.prog (loopAt Try.prog 24 0).1 (loopAt Try.prog 24 0).2.2 lt_s_B10Whole_0 := by
  refine loop_told (E := E_L_s_B10Whole_0) orders names sok_L_s_B10Whole_0 lok_L_s_B10Whole_0 24 0 4 [1, 2, 7, 8] [8] fun base s t h => ?_
  unfold lt_s_B10Whole_0 at h
  split at h
  · cases h
    refine ⟨FUEL, fun α K => (run_s_B10Whole_0 _ _ K FUEL _ _ _ _ _).trans ?_⟩
    unfold K_s_B10Whole_0 R_s_B10Whole_0
    cases L_s_B10Whole_0 _ _ FUEL _ _ _ _ _ <;> rfl
  · cases h

-- loop.example/g01253/spec.B10Whole
def g_s_B10Whole (x0 : List (List V)) (x1 : Int) (x2 : Int) : List (List V) := (chunk (R_s_B10Whole_0 x2 x0 x1 0 0 0 ([] : List V)).1 1 ((R_s_B10Whole_0 x2 x0 x1 0 0 0 ([] : List V)).2.2.2.drop 0))
def ok_s_B10Whole (x0 : List (List V)) (x1 : Int) (x2 : Int) : Bool := ((K_s_B10Whole_0 x2 x0 x1 0 0 0 ([] : List V)))
def r_s_B10Whole (p : List (List V)) : V := (.sl 1 p)
def v_s_B10Whole : List V → Option V
  | [(.sl 1 x0), (.int .i64 x1), (.int .i64 x2)] => some (r_s_B10Whole (g_s_B10Whole x0 x1 x2))
  | _ => none
def c_s_B10Whole : List V → Bool
  | [(.sl 1 x0), (.int .i64 x1), (.int .i64 x2)] => ok_s_B10Whole x0 x1 x2
  | _ => false
def s_s_B10Whole : Summ := .pureC (fun vs => c_s_B10Whole (fixSs [.sl 1, .any, .any] vs)) (fun vs => v_s_B10Whole (fixSs [.sl 1, .any, .any] vs))
def S_s_B10Whole : FuncId → Option Summ := fun _ => none
def keep_s_B10Whole : FuncId → Nat → List Nat := fun f c => match f, c with
  | 24, 0 => [1, 2, 7, 8]
  | _, _ => []
def kept_s_B10Whole : FuncId → Nat → List Nat := fun f c => match f, c with
  | 24, 0 => [8]
  | _, _ => []
def move_s_B10Whole : FuncId → Nat → List Nat := fun f c => match f, c with
  | 24, 0 => [8]
  | _, _ => []
def loops_s_B10Whole : FuncId → Nat → Option (Nat → St → Option LT) := fun f c => match f, c with
  | 24, 0 => some lt_s_B10Whole_0
  | _, _ => none
noncomputable def E_s_B10Whole : Env := ⟨Try.prog, S_s_B10Whole, keep_s_B10Whole, kept_s_B10Whole, move_s_B10Whole, 100, loops_s_B10Whole⟩
theorem sok_s_B10Whole : SOK E_s_B10Whole := fun _ _ h => by cases h
theorem lok_s_B10Whole : LOK E_s_B10Whole := by
  intro f fn c hf hc p hp g hg
  change loops_s_B10Whole f p.1 = some g at hg
  unfold loops_s_B10Whole at hg
  split at hg
  · rename_i hpc; cases hg; exact lok_pick hf hc hp hpc (ids := [0]) (by kernel_rfl) 0 (by rfl) (by decide) told_s_B10Whole_0
  · cases hg
set_option maxRecDepth 100000 in
theorem tree_s_B10Whole (x0 : List (List V)) (x1 : Int) (x2 : Int) : runPureS E_s_B10Whole 4 24 (.sl 1) [(.sl 1 x0), (.int .i64 x1), (.int .i64 x2)] = (bif (K_s_B10Whole_0 x2 x0 x1 0 0 0 ([] : List V)) then some (.sl 1 (chunk (R_s_B10Whole_0 x2 x0 x1 0 0 0 ([] : List V)).1 1 ((R_s_B10Whole_0 x2 x0 x1 0 0 0 ([] : List V)).2.2.2.drop 0))) else none) := by kernel_rfl
theorem run_s_B10Whole (x0 : List (List V)) (x1 : Int) (x2 : Int) (h : ok_s_B10Whole x0 x1 x2 = true) : runPureS E_s_B10Whole 4 24 (.sl 1) [(.sl 1 x0), (.int .i64 x1), (.int .i64 x2)] = some (r_s_B10Whole (g_s_B10Whole x0 x1 x2)) := (tree_s_B10Whole x0 x1 x2).trans ((chk_k (F := r_s_B10Whole) (leaf_ok (F := r_s_B10Whole) (a := (chunk (R_s_B10Whole_0 x2 x0 x1 0 0 0 ([] : List V)).1 1 ((R_s_B10Whole_0 x2 x0 x1 0 0 0 ([] : List V)).2.2.2.drop 0))))) h)
theorem summ_s_B10Whole : SummOK Try.prog 24 s_s_B10Whole := by
  refine ⟨pure_of_runS orders names sok_s_B10Whole lok_s_B10Whole 4 [.sl 1, .any, .any] (.sl 1) (g := fun vs => (bif c_s_B10Whole vs then v_s_B10Whole vs else none)) fun vs v h => ?_, Try.f24, by kernel_rfl, by kernel_rfl, by kernel_rfl⟩
  try dsimp only at h
  cases hc : c_s_B10Whole vs
  · rw [hc] at h; cases h
  rw [hc] at h
  simp only [cond_true] at h
  unfold v_s_B10Whole at h
  split at h
  · cases h; exact run_s_B10Whole _ _ _ hc
  · cases h

-- loop.example/g01253/impl.listOk
def g_i_listOk (x0 : List (List V)) : Bool := (icmp .leq (Int.ofNat (x0).length) 256)
def r_i_listOk (p : Bool) : V := (.bool p)
def v_i_listOk : List V → Option V
  | [(.sl 1 x0)] => some (r_i_listOk (g_i_listOk x0))
  | _ => none
def s_i_listOk : Summ := .pure (fun vs => v_i_listOk (fixSs [.sl 1] vs))
def S_i_listOk : FuncId → Option Summ := fun _ => none
noncomputable def E_i_listOk : Env := ⟨Try.prog, S_i_listOk, fun _ _ => [], fun _ _ => [], fun _ _ => [], 100, fun _ _ => none⟩
theorem sok_i_listOk : SOK E_i_listOk := fun _ _ h => by cases h
theorem lok_i_listOk : LOK E_i_listOk := noLoops rfl
set_option maxRecDepth 100000 in
theorem tree_i_listOk (x0 : List (List V)) : runPureS E_i_listOk 4 40 (.any) [(.sl 1 x0)] = some (.bool (icmp .leq (Int.ofNat (x0).length) 256)) := by kernel_rfl
theorem run_i_listOk (x0 : List (List V)) : runPureS E_i_listOk 4 40 (.any) [(.sl 1 x0)] = some (r_i_listOk (g_i_listOk x0)) := (tree_i_listOk x0).trans (leaf_ok (F := r_i_listOk) (a := (icmp .leq (Int.ofNat (x0).length) 256)))
theorem summ_i_listOk : SummOK Try.prog 40 s_i_listOk := by
  refine ⟨pure_of_runS orders names sok_i_listOk lok_i_listOk 4 [.sl 1] (.any) (g := fun vs => v_i_listOk vs) fun vs v h => ?_, Try.f40, by kernel_rfl, by kernel_rfl, by kernel_rfl⟩
  try dsimp only at h
  unfold v_i_listOk at h
  split at h
  · cases h; exact run_i_listOk _
  · cases h

-- a loop of loop.example/g01253/impl.sum
def L_i_sum_0 (p0 : List (List V)) (p1 : Int) : Nat → Nat → Int → Option (Nat)
  | 0, _, _ => none
  | m + 1, u0, u1 => (bif (icmp .lss u1 p1) then (bif (inB u1 (p0).length) then (bif ((getAt ((getAt p0 (Int.toNat u1)).getD []) 0).isSome && (isFl .f32 ((getAt ((getAt p0 (Int.toNat u1)).getD []) 0).getD .und))) then (L_i_sum_0 p0 p1 m (fop .add .f32 u0 (asF ((getAt ((getAt p0 (Int.toNat u1)).getD []) 0).getD .und))) (IntKind.i64.wrap (u1 + 1))) else none) else none) else some (u0))
def R_i_sum_0 (p0 : List (List V)) (p1 : Int) (u0 : Nat) (u1 : Int) : Nat := (L_i_sum_0 p0 p1 FUEL u0 u1).getD (0)
def K_i_sum_0 (p0 : List (List V)) (p1 : Int) (u0 : Nat) (u1 : Int) : Bool := (L_i_sum_0 p0 p1 FUEL u0 u1).isSome
def S_L_i_sum_0 : FuncId → Option Summ := fun _ => none
noncomputable def E_L_i_sum_0 : Env := ⟨Try.prog, S_L_i_sum_0, fun _ _ => [], fun _ _ => [], fun _ _ => [], 100, fun _ _ => none⟩
theorem sok_L_i_sum_0 : SOK E_L_i_sum_0 := fun _ _ h => by cases h
theorem lok_L_i_sum_0 : LOK E_L_i_sum_0 := noLoops rfl
set_option maxRecDepth 100000 in
theorem turn_i_sum_0 {α : Type} (p0 : List (List V)) (p1 : Int) (u0 : Nat) (u1 : Int) (Kn : St → Option α) (Ke : Cont α) : exec E_L_i_sum_0 (callN E_L_i_sum_0 4) 41 (loopAt Try.prog 41 0).1 (loopAt Try.prog 41 0).2.2 0 ⟨[(3, (.flt .f32 u0)), (6, (.sl 1 p0)), (7, (.int .i64 p1)), (8, (.int .i64 u1))], [], 0, []⟩ (loopK 0 [3, 6, 7, 8] [3] Kn Ke) = (bif (icmp .lss u1 p1) then (bif (inB u1 (p0).length) then (bif ((getAt ((getAt p0 (Int.toNat u1)).getD []) 0).isSome && (isFl .f32 ((getAt ((getAt p0 (Int.toNat u1)).getD []) 0).getD .und))) then Kn ⟨[(3, (.flt .f32 (fop .add .f32 u0 (asF ((getAt ((getAt p0 (Int.toNat u1)).getD []) 0).getD .und))))), (6, (.sl 1 p0)), (7, (.int .i64 p1)), (8, (.int .i64 (IntKind.i64.wrap (u1 + 1))))], [], 0, []⟩ else none) else none) else Ke (.exit 0) ⟨[(3, (.flt .f32 u0))], [], 0, []⟩) := by kernel_rfl
def fin_i_sum_0 {α : Type} (p0 : List (List V)) (p1 : Int) (K : Cont α) : Option (Nat) → Option α
  | none => none
  | some z => K (.exit 0) ⟨[(3, (.flt .f32 z))], [], 0, []⟩
theorem run_i_sum_0 {α : Type} (p0 : List (List V)) (p1 : Int) (K : Cont α) (m : Nat) : ∀ (u0 : Nat) (u1 : Int), loopN (exec E_L_i_sum_0 (callN E_L_i_sum_0 4) 41 (loopAt Try.prog 41 0).1 (loopAt Try.prog 41 0).2.2 0) 0 [3, 6, 7, 8] [3] m ⟨[(3, (.flt .f32 u0)), (6, (.sl 1 p0)), (7, (.int .i64 p1)), (8, (.int .i64 u1))], [], 0, []⟩ K = fin_i_sum_0 p0 p1 K (L_i_sum_0 p0 p1 m u0 u1) := by
  induction m with
  | zero => intros; rfl
  | succ m ih => intro u0 u1; exact (turn_i_sum_0 p0 p1 u0 u1 _ K).trans (ite_f (f := fin_i_sum_0 p0 p1 K) (chk_f (f := fin_i_sum_0 p0 p1 K) rfl (chk_f (f := fin_i_sum_0 p0 p1 K) rfl (ih (fop .add .f32 u0 (asF ((getAt ((getAt p0 (Int.toNat u1)).getD []) 0).getD .und))) (IntKind.i64.wrap (u1 + 1))))) rfl)
def lt_i_sum_0 : Nat → St → Option LT
  | 0, ⟨[(3, (.flt .f32 u0)), (6, (.sl 1 p0)), (7, (.int .i64 p1)), (8, (.int .i64 u1))], [], 0, []⟩ => some (.chk (K_i_sum_0 p0 p1 u0 u1) (.leaf (.exit 0) ⟨[(3, (.flt .f32 (R_i_sum_0 p0 p1 u0 u1)))], [], 0, []⟩))
  | _, _ => none
theorem told_i_sum_0 : LoopOK Try.prog (loopAt Try.prog 41 0).1 (loopAt Try.prog 41 0).2.2 lt_i_sum_0 := by
  refine loop_told (E := E_L_i_sum_0) orders names sok_L_i_sum_0 lok_L_i_sum_0 41 0 4 [3, 6, 7, 8] [3] fun base s t h => ?_
  unfold lt_i_sum_0 at h
  split at h
  · cases h
    refine ⟨FUEL, fun α K => (run_i_sum_0 _ _ K FUEL _ _).trans ?_⟩
    unfold K_i_sum_0 R_i_sum_0
    cases L_i_sum_0 _ _ FUEL _ _ <;> rfl
  · cases h

-- loop.example/g01253/impl.sum
def g_i_sum (x0 : List (List V)) : Nat := (R_i_sum_0 x0 (Int.ofNat (x0).length) 0 0)
def ok_i_sum (x0 : List (List V)) : Bool := ((K_i_sum_0 x0 (Int.ofNat (x0).length) 0 0))
def r_i_sum (p : Nat) : V := (.flt .f32 p)
def v_i_sum : List V → Option V
  | [(.sl 1 x0)] => some (r_i_sum (g_i_sum x0))
  | _ => none
def c_i_sum : List V → Bool
  | [(.sl 1 x0)] => ok_i_sum x0
  | _ => false
def s_i_sum : Summ := .pureC (fun vs => c_i_sum (fixSs [.sl 1] vs)) (fun vs => v_i_sum (fixSs [.sl 1] vs))
def S_i_sum : FuncId → Option Summ := fun _ => none
def keep_i_sum : FuncId → Nat → List Nat := fun f c => match f, c with
  | 41, 0 => [3, 6, 7, 8]
  | _, _ => []
def kept_i_sum : FuncId → Nat → List Nat := fun f c => match f, c with
  | 41, 0 => [3]
  | _, _ => []
def move_i_sum : FuncId → Nat → List Nat := fun f c => match f, c with
  | 41, 0 => []
  | _, _ => []
def loops_i_sum : FuncId → Nat → Option (Nat → St → Option LT) := fun f c => match f, c with
  | 41, 0 => some lt_i_sum_0
  | _, _ => none
noncomputable def E_i_sum : Env := ⟨Try.prog, S_i_sum, keep_i_sum, kept_i_sum, move_i_sum, 100, loops_i_sum⟩
theorem sok_i_sum : SOK E_i_sum := fun _ _ h => by cases h
theorem lok_i_sum : LOK E_i_sum := by
  intro f fn c hf hc p hp g hg
  change loops_i_sum f p.1 = some g at hg
  unfold loops_i_sum at hg
  split at hg
  · rename_i hpc; cases hg; exact lok_pick hf hc hp hpc (ids := [0]) (by kernel_rfl) 0 (by rfl) (by decide) told_i_sum_0
  · cases hg
set_option maxRecDepth 100000 in
theorem tree_i_sum (x0 : List (List V)) : runPureS E_i_sum 4 41 (.any) [(.sl 1 x0)] = (bif (K_i_sum_0 x0 (Int.ofNat (x0).length) 0 0) then some (.flt .f32 (R_i_sum_0 x0 (Int.ofNat (x0).length) 0 0)) else none) := by kernel_rfl
theorem run_i_sum (x0 : List (List V)) (h : ok_i_sum x0 = true) : runPureS E_i_sum 4 41 (.any) [(.sl 1 x0)] = some (r_i_sum (g_i_sum x0)) := (tree_i_sum x0).trans ((chk_k (F := r_i_sum) (leaf_ok (F := r_i_sum) (a := (R_i_sum_0 x0 (Int.ofNat (x0).length) 0 0)))) h)
theorem summ_i_sum : SummOK Try.prog 41 s_i_sum := by
  refine ⟨pure_of_runS orders names sok_i_sum lok_i_sum 4 [.sl 1] (.any) (g := fun vs => (bif c_i_sum vs then v_i_sum vs else none)) fun vs v h => ?_, Try.f41, by kernel_rfl, by kernel_rfl, by kernel_rfl⟩
  try dsimp only at h
  cases hc : c_i_sum vs
  · rw [hc] at h; cases h
  rw [hc] at h
  simp only [cond_true] at h
  unfold v_i_sum at h
  split at h
  · cases h; exact run_i_sum _ hc
  · cases h

-- loop.example/g01253/impl.SumNumbers
def g_i_SumNumbers (x0 : List (List V)) : Nat × Bool := (bif (!(g_i_listOk x0)) then (0, false) else ((g_i_sum x0), true))
def ok_i_SumNumbers (x0 : List (List V)) : Bool := (bif (!(g_i_listOk x0)) then true else ((ok_i_sum x0)))
def r_i_SumNumbers (p : Nat × Bool) : V := (.tup [(.flt .f32 p.1), (.bool p.2)])
def v_i_SumNumbers : List V → Option V
  | [(.sl 1 x0)] => some (r_i_SumNumbers (g_i_SumNumbers x0))
  | _ => none
def c_i_SumNumbers : List V → Bool
  | [(.sl 1 x0)] => ok_i_SumNumbers x0
  | _ => false
def s_i_SumNumbers : Summ := .pureC (fun vs => c_i_SumNumbers (fixSs [.sl 1] vs)) (fun vs => v_i_SumNumbers (fixSs [.sl 1] vs))
def S_i_SumNumbers : FuncId → Option Summ := fun f => match f with
  | 40 => some s_i_listOk
  | 41 => some s_i_sum
  | _ => none
noncomputable def E_i_SumNumbers : Env := ⟨Try.prog, S_i_SumNumbers, fun _ _ => [], fun _ _ => [], fun _ _ => [], 100, fun _ _ => none⟩
theorem sok_i_SumNumbers : SOK E_i_SumNumbers := by
  intro f s h
  have h : S_i_SumNumbers f = some s := h
  unfold S_i_SumNumbers at h
  split at h
  · cases h; exact summ_i_listOk
  · cases h; exact summ_i_sum
  · cases h
theorem lok_i_SumNumbers : LOK E_i_SumNumbers := noLoops rfl
set_option maxRecDepth 100000 in
theorem tree_i_SumNumbers (x0 : List (List V)) : runPureS E_i_SumNumbers 4 21 (.many [.any, .any]) [(.sl 1 x0)] = (bif (!(g_i_listOk x0)) then some (.tup [(.flt .f32 0), (.bool false)]) else (bif (ok_i_sum x0) then some (.tup [(.flt .f32 (g_i_sum x0)), (.bool true)]) else none)) := by kernel_rfl
theorem run_i_SumNumbers (x0 : List (List V)) (h : ok_i_SumNumbers x0 = true) : runPureS E_i_SumNumbers 4 21 (.many [.any, .any]) [(.sl 1 x0)] = some (r_i_SumNumbers (g_i_SumNumbers x0)) := (tree_i_SumNumbers x0).trans ((ite_ok (F := r_i_SumNumbers) (fun _ => (leaf_ok (F := r_i_SumNumbers) (a := (0, false)))) (chk_k (F := r_i_SumNumbers) (leaf_ok (F := r_i_SumNumbers) (a := ((g_i_sum x0), true))))) h)
theorem summ_i_SumNumbers : SummOK Try.prog 21 s_i_SumNumbers := by
  refine ⟨pure_of_runS orders names sok_i_SumNumbers lok_i_SumNumbers 4 [.sl 1] (.many [.any, .any]) (g := fun vs => (bif c_i_SumNumbers vs then v_i_SumNumbers vs else none)) fun vs v h => ?_, Try.f21, by kernel_rfl, by kernel_rfl, by kernel_rfl⟩
  try dsimp only at h
  cases hc : c_i_SumNumbers vs
  · rw [hc] at h; cases h
  rw [hc] at h
  simp only [cond_true] at h
  unfold v_i_SumNumbers at h
  split at h
  · cases h; exact run_i_SumNumbers _ hc
  · cases h

-- loop.example/g01253/impl.sumPairs
def g_i_sumPairs : Nat → List (List V) → Nat
  | 0, _ => 0
  | n + 1, x0 => (bif (icmp .eql (Int.ofNat (x0).length) 0) then 0 else (bif (icmp .eql (Int.ofNat (x0).length) 1) then (asF ((getAt ((getAt x0 (Int.toNat 0)).getD []) 0).getD .und)) else (fop .add .f32 (g_i_sumPairs n ((x0.take (Int.toNat (IntKind.i64.wrap (Int.tdiv (IntKind.i64.wrap ((Int.ofNat (x0).length) + 1)) 2)))).drop 0)) (g_i_sumPairs n ((x0.take (x0).length).drop (Int.toNat (IntKind.i64.wrap (Int.tdiv (IntKind.i64.wrap ((Int.ofNat (x0).length) + 1)) 2))))))))
def ok_i_sumPairs : Nat → List (List V) → Bool
  | 0, _ => false
  | n + 1, x0 => (bif (icmp .eql (Int.ofNat (x0).length) 0) then true else (bif (icmp .eql (Int.ofNat (x0).length) 1) then ((inB 0 (x0).length) && (((getAt ((getAt x0 (Int.toNat 0)).getD []) 0).isSome && (isFl .f32 ((getAt ((getAt x0 (Int.toNat 0)).getD []) 0).getD .und))))) else (((inB (IntKind.i64.wrap (Int.tdiv (IntKind.i64.wrap ((Int.ofNat (x0).length) + 1)) 2)) ((x0).length + 1)) && true) && ((ok_i_sumPairs n ((x0.take (Int.toNat (IntKind.i64.wrap (Int.tdiv (IntKind.i64.wrap ((Int.ofNat (x0).length) + 1)) 2)))).drop 0)) && ((inB (IntKind.i64.wrap (Int.tdiv (IntKind.i64.wrap ((Int.ofNat (x0).length) + 1)) 2)) ((x0).length + 1)) && ((ok_i_sumPairs n ((x0.take (x0).length).drop (Int.toNat (IntKind.i64.wrap (Int.tdiv (IntKind.i64.wrap ((Int.ofNat (x0).length) + 1)) 2)))))))))))
def r_i_sumPairs (p : Nat) : V := (.flt .f32 p)
def v_i_sumPairs (n : Nat) : List V → Option V
  | [(.sl 1 x0)] => some (r_i_sumPairs (g_i_sumPairs n x0))
  | _ => none
def c_i_sumPairs (n : Nat) : List V → Bool
  | [(.sl 1 x0)] => ok_i_sumPairs n x0
  | _ => false
def s_i_sumPairs (n : Nat) : Summ := .pureC (fun vs => c_i_sumPairs n (fixSs [.sl 1] vs)) (fun vs => v_i_sumPairs n (fixSs [.sl 1] vs))
def S_i_sumPairs (n : Nat) : FuncId → Option Summ := fun f => match f with
  | 43 => some (s_i_sumPairs n)
  | _ => none
noncomputable def E_i_sumPairs (n : Nat) : Env := ⟨Try.prog, S_i_sumPairs n, fun _ _ => [], fun _ _ => [], fun _ _ => [], 100, fun _ _ => none⟩
theorem sok_i_sumPairs (n : Nat) (hn : SummOK Try.prog 43 (s_i_sumPairs n)) : SOK (E_i_sumPairs n) := by
  intro f s h
  have h : S_i_sumPairs n f = some s := h
  unfold S_i_sumPairs at h
  split at h
  · cases h; exact hn
  · cases h
theorem lok_i_sumPairs (n : Nat) : LOK (E_i_sumPairs n) := noLoops rfl
set_option maxRecDepth 100000 in
theorem tree_i_sumPairs (n : Nat) (x0 : List (List V)) : runPureS (E_i_sumPairs n) 4 43 (.any) [(.sl 1 x0)] = (bif (icmp .eql (Int.ofNat (x0).length) 0) then some (.flt .f32 0) else (bif (icmp .eql (Int.ofNat (x0).length) 1) then (bif (inB 0 (x0).length) then (bif ((getAt ((getAt x0 (Int.toNat 0)).getD []) 0).isSome && (isFl .f32 ((getAt ((getAt x0 (Int.toNat 0)).getD []) 0).getD .und))) then some (.flt .f32 (asF ((getAt ((getAt x0 (Int.toNat 0)).getD []) 0).getD .und))) else none) else none) else (bif ((inB (IntKind.i64.wrap (Int.tdiv (IntKind.i64.wrap ((Int.ofNat (x0).length) + 1)) 2)) ((x0).length + 1)) && true) then (bif (ok_i_sumPairs n ((x0.take (Int.toNat (IntKind.i64.wrap (Int.tdiv (IntKind.i64.wrap ((Int.ofNat (x0).length) + 1)) 2)))).drop 0)) then (bif (inB (IntKind.i64.wrap (Int.tdiv (IntKind.i64.wrap ((Int.ofNat (x0).length) + 1)) 2)) ((x0).length + 1)) then (bif (ok_i_sumPairs n ((x0.take (x0).length).drop (Int.toNat (IntKind.i64.wrap (Int.tdiv (IntKind.i64.wrap ((Int.ofNat (x0).length) + 1)) 2))))) then some (.flt .f32 (fop .add .f32 (g_i_sumPairs n ((x0.take (Int.toNat (IntKind.i64.wrap (Int.tdiv (IntKind.i64.wrap ((Int.ofNat (x0).length) + 1)) 2)))).drop 0)) (g_i_sumPairs n ((x0.take (x0).length).drop (Int.toNat (IntKind.i64.wrap (Int.tdiv (IntKind.i64.wrap ((Int.ofNat (x0).length) + 1)) 2))))))) else none) else none) else none) else none))) := by kernel_rfl
theorem run_i_sumPairs (n : Nat) (x0 : List (List V)) (h : ok_i_sumPairs (n + 1) x0 = true) : runPureS (E_i_sumPairs n) 4 43 (.any) [(.sl 1 x0)] = some (r_i_sumPairs (g_i_sumPairs (n + 1) x0)) := (tree_i_sumPairs n x0).trans ((ite_ok (F := r_i_sumPairs) (fun _ => (leaf_ok (F := r_i_sumPairs) (a := 0))) (ite_ok (F := r_i_sumPairs) (chk_ok (F := r_i_sumPairs) (chk_k (F := r_i_sumPairs) (leaf_ok (F := r_i_sumPairs) (a := (asF ((getAt ((getAt x0 (Int.toNat 0)).getD []) 0).getD .und)))))) (chk_ok (F := r_i_sumPairs) (chk_ok (F := r_i_sumPairs) (chk_ok (F := r_i_sumPairs) (chk_k (F := r_i_sumPairs) (leaf_ok (F := r_i_sumPairs) (a := (fop .add .f32 (g_i_sumPairs n ((x0.take (Int.toNat (IntKind.i64.wrap (Int.tdiv (IntKind.i64.wrap ((Int.ofNat (x0).length) + 1)) 2)))).drop 0)) (g_i_sumPairs n ((x0.take (x0).length).drop (Int.toNat (IntKind.i64.wrap (Int.tdiv (IntKind.i64.wrap ((Int.ofNat (x0).length) + 1)) 2)))))))))))))) h)
theorem c_zero_i_sumPairs (vs : List V) : c_i_sumPairs 0 vs = false := by
  unfold c_i_sumPairs
  split <;> rfl
theorem summ_i_sumPairs : ∀ n, SummOK Try.prog 43 (s_i_sumPairs n)
  | 0 => by
    refine ⟨fun _ vs _ _ v _ _ h => ?_, Try.f43, by kernel_rfl, by kernel_rfl, by kernel_rfl⟩
    have h : (bif c_i_sumPairs 0 (fixSs [.sl 1] vs) then v_i_sumPairs 0 (fixSs [.sl 1] vs) else none) = some v := h
    rw [c_zero_i_sumPairs] at h
    cases h
  | n + 1 => by
    have ih := summ_i_sumPairs n
    refine ⟨pure_of_runS orders names (sok_i_sumPairs n ih) (lok_i_sumPairs n) 4 [.sl 1] (.any) (g := fun vs => (bif c_i_sumPairs (n + 1) vs then v_i_sumPairs (n + 1) vs else none)) fun vs v h => ?_, Try.f43, by kernel_rfl, by kernel_rfl, by kernel_rfl⟩
    try dsimp only at h
    cases hc : c_i_sumPairs (n + 1) vs
    · rw [hc] at h; cases h
    rw [hc] at h
    simp only [cond_true] at h
    unfold v_i_sumPairs at h
    split at h
    · cases h; exact run_i_sumPairs n _ hc
    · cases h

-- loop.example/g01253/impl.SumPairs
def g_i_SumPairs (x0 : List (List V)) : Nat × Bool := (bif (!(g_i_listOk x0)) then (0, false) else ((g_i_sumPairs 30 x0), true))
def ok_i_SumPairs (x0 : List (List V)) : Bool := (bif (!(g_i_listOk x0)) then true else ((ok_i_sumPairs 30 x0)))
def r_i_SumPairs (p : Nat × Bool) : V := (.tup [(.flt .f32 p.1), (.bool p.2)])
def v_i_SumPairs : List V → Option V
  | [(.sl 1 x0)] => some (r_i_SumPairs (g_i_SumPairs x0))
  | _ => none
def c_i_SumPairs : List V → Bool
  | [(.sl 1 x0)] => ok_i_SumPairs x0
  | _ => false
def s_i_SumPairs : Summ := .pureC (fun vs => c_i_SumPairs (fixSs [.sl 1] vs)) (fun vs => v_i_SumPairs (fixSs [.sl 1] vs))
def S_i_SumPairs : FuncId → Option Summ := fun f => match f with
  | 40 => some s_i_listOk
  | 43 => some (s_i_sumPairs 30)
  | _ => none
noncomputable def E_i_SumPairs : Env := ⟨Try.prog, S_i_SumPairs, fun _ _ => [], fun _ _ => [], fun _ _ => [], 100, fun _ _ => none⟩
theorem sok_i_SumPairs : SOK E_i_SumPairs := by
  intro f s h
  have h : S_i_SumPairs f = some s := h
  unfold S_i_SumPairs at h
  split at h
  · cases h; exact summ_i_listOk
  · cases h; exact (summ_i_sumPairs 30)
  · cases h
theorem lok_i_SumPairs : LOK E_i_SumPairs := noLoops rfl
set_option maxRecDepth 100000 in
theorem tree_i_SumPairs (x0 : List (List V)) : runPureS E_i_SumPairs 4 23 (.many [.any, .any]) [(.sl 1 x0)] = (bif (!(g_i_listOk x0)) then some (.tup [(.flt .f32 0), (.bool false)]) else (bif (ok_i_sumPairs 30 x0) then some (.tup [(.flt .f32 (g_i_sumPairs 30 x0)), (.bool true)]) else none)) := by kernel_rfl
theorem run_i_SumPairs (x0 : List (List V)) (h : ok_i_SumPairs x0 = true) : runPureS E_i_SumPairs 4 23 (.many [.any, .any]) [(.sl 1 x0)] = some (r_i_SumPairs (g_i_SumPairs x0)) := (tree_i_SumPairs x0).trans ((ite_ok (F := r_i_SumPairs) (fun _ => (leaf_ok (F := r_i_SumPairs) (a := (0, false)))) (chk_k (F := r_i_SumPairs) (leaf_ok (F := r_i_SumPairs) (a := ((g_i_sumPairs 30 x0), true))))) h)
theorem summ_i_SumPairs : SummOK Try.prog 23 s_i_SumPairs := by
  refine ⟨pure_of_runS orders names sok_i_SumPairs lok_i_SumPairs 4 [.sl 1] (.many [.any, .any]) (g := fun vs => (bif c_i_SumPairs vs then v_i_SumPairs vs else none)) fun vs v h => ?_, Try.f23, by kernel_rfl, by kernel_rfl, by kernel_rfl⟩
  try dsimp only at h
  cases hc : c_i_SumPairs vs
  · rw [hc] at h; cases h
  rw [hc] at h
  simp only [cond_true] at h
  unfold v_i_SumPairs at h
  split at h
  · cases h; exact run_i_SumPairs _ hc
  · cases h

-- a loop of loop.example/g01253/impl.dot
def L_i_dot_0 (p0 : List (List V)) (p1 : List (List V)) (p2 : Int) : Nat → Nat → Int → Option (Nat)
  | 0, _, _ => none
  | m + 1, u0, u1 => (bif (icmp .lss u1 p2) then (bif (inB u1 (p1).length) then (bif ((getAt ((getAt p1 (Int.toNat u1)).getD []) 0).isSome && (isFl .f32 ((getAt ((getAt p1 (Int.toNat u1)).getD []) 0).getD .und))) then (bif (inB u1 (p0).length) then (bif ((getAt ((getAt p0 (Int.toNat u1)).getD []) 0).isSome && (isFl .f32 ((getAt ((getAt p0 (Int.toNat u1)).getD []) 0).getD .und))) then (L_i_dot_0 p0 p1 p2 m (fop .add .f32 u0 (fop .mul .f32 (asF ((getAt ((getAt p1 (Int.toNat u1)).getD []) 0).getD .und)) (asF ((getAt ((getAt p0 (Int.toNat u1)).getD []) 0).getD .und)))) (IntKind.i64.wrap (u1 + 1))) else none) else none) else none) else none) else some (u0))
def R_i_dot_0 (p0 : List (List V)) (p1 : List (List V)) (p2 : Int) (u0 : Nat) (u1 : Int) : Nat := (L_i_dot_0 p0 p1 p2 FUEL u0 u1).getD (0)
def K_i_dot_0 (p0 : List (List V)) (p1 : List (List V)) (p2 : Int) (u0 : Nat) (u1 : Int) : Bool := (L_i_dot_0 p0 p1 p2 FUEL u0 u1).isSome
def S_L_i_dot_0 : FuncId → Option Summ := fun _ => none
noncomputable def E_L_i_dot_0 : Env := ⟨Try.prog, S_L_i_dot_0, fun _ _ => [], fun _ _ => [], fun _ _ => [], 100, fun _ _ => none⟩
theorem sok_L_i_dot_0 : SOK E_L_i_dot_0 := fun _ _ h => by cases h
theorem lok_L_i_dot_0 : LOK E_L_i_dot_0 := noLoops rfl
set_option maxRecDepth 100000 in
theorem turn_i_dot_0 {α : Type} (p0 : List (List V)) (p1 : List (List V)) (p2 : Int) (u0 : Nat) (u1 : Int) (Kn : St → Option α) (Ke : Cont α) : exec E_L_i_dot_0 (callN E_L_i_dot_0 4) 42 (loopAt Try.prog 42 0).1 (loopAt Try.prog 42 0).2.2 0 ⟨[(1, (.sl 1 p0)), (5, (.flt .f32 u0)), (8, (.sl 1 p1)), (9, (.int .i64 p2)), (10, (.int .i64 u1))], [], 0, []⟩ (loopK 0 [1, 5, 8, 9, 10] [5] Kn Ke) = (bif (icmp .lss u1 p2) then (bif (inB u1 (p1).length) then (bif ((getAt ((getAt p1 (Int.toNat u1)).getD []) 0).isSome && (isFl .f32 ((getAt ((getAt p1 (Int.toNat u1)).getD []) 0).getD .und))) then (bif (inB u1 (p0).length) then (bif ((getAt ((getAt p0 (Int.toNat u1)).getD []) 0).isSome && (isFl .f32 ((getAt ((getAt p0 (Int.toNat u1)).getD []) 0).getD .und))) then Kn ⟨[(1, (.sl 1 p0)), (5, (.flt .f32 (fop .add .f32 u0 (fop .mul .f32 (asF ((getAt ((getAt p1 (Int.toNat u1)).getD []) 0).getD .und)) (asF ((getAt ((getAt p0 (Int.toNat u1)).getD []) 0).getD .und)))))), (8, (.sl 1 p1)), (9, (.int .i64 p2)), (10, (.int .i64 (IntKind.i64.wrap (u1 + 1))))], [], 0, []⟩ else none) else none) else none) else none) else Ke (.exit 0) ⟨[(5, (.flt .f32 u0))], [], 0, []⟩) := by kernel_rfl
def fin_i_dot_0 {α : Type} (p0 : List (List V)) (p1 : List (List V)) (p2 : Int) (K : Cont α) : Option (Nat) → Option α
  | none => none
  | some z => K (.exit 0) ⟨[(5, (.flt .f32 z))], [], 0, []⟩
theorem run_i_dot_0 {α : Type} (p0 : List (List V)) (p1 : List (List V)) (p2 : Int) (K : Cont α) (m : Nat) : ∀ (u0 : Nat) (u1 : Int), loopN (exec E_L_i_dot_0 (callN E_L_i_dot_0 4) 42 (loopAt Try.prog 42 0).1 (loopAt Try.prog 42 0).2.2 0) 0 [1, 5, 8, 9, 10] [5] m ⟨[(1, (.sl 1 p0)), (5, (.flt .f32 u0)), (8, (.sl 1 p1)), (9, (.int .i64 p2)), (10, (.int .i64 u1))], [], 0, []⟩ K = fin_i_dot_0 p0 p1 p2 K (L_i_dot_0 p0 p1 p2 m u0 u1) := by
  induction m with
  | zero => intros; rfl
  | succ m ih => intro u0 u1; exact (turn_i_dot_0 p0 p1 p2 u0 u1 _ K).trans (ite_f (f := fin_i_dot_0 p0 p1 p2 K) (chk_f (f := fin_i_dot_0 p0 p1 p2 K) rfl (chk_f (f := fin_i_dot_0 p0 p1 p2 K) rfl (chk_f (f := fin_i_dot_0 p0 p1 p2 K) rfl (chk_f (f := fin_i_dot_0 p0 p1 p2 K) rfl (ih (fop .add .f32 u0 (fop .mul .f32 (asF ((getAt ((getAt p1 (Int.toNat u1)).getD []) 0).getD .und)) (asF ((getAt ((getAt p0 (Int.toNat u1)).getD []) 0).getD .und)))) (IntKind.i64.wrap (u1 + 1))))))) rfl)
def lt_i_dot_0 : Nat → St → Option LT
  | 0, ⟨[(1, (.sl 1 p0)), (5, (.flt .f32 u0)), (8, (.sl 1 p1)), (9, (.int .i64 p2)), (10, (.int .i64 u1))], [], 0, []⟩ => some (.chk (K_i_dot_0 p0 p1 p2 u0 u1) (.leaf (.exit 0) ⟨[(5, (.flt .f32 (R_i_dot_0 p0 p1 p2 u0 u1)))], [], 0, []⟩))
  | _, _ => none
theorem told_i_dot_0 : LoopOK Try.prog (loopAt Try.prog 42 0).1 (loopAt Try.prog 42 0).2.2 lt_i_dot_0 := by
  refine loop_told (E := E_L_i_dot_0) orders names sok_L_i_dot_0 lok_L_i_dot_0 42 0 4 [1, 5, 8, 9, 10] [5] fun base s t h => ?_
  unfold lt_i_dot_0 at h
  split at h
  · cases h
    refine ⟨FUEL, fun α K => (run_i_dot_0 _ _ _ K FUEL _ _).trans ?_⟩
    unfold K_i_dot_0 R_i_dot_0
    cases L_i_dot_0 _ _ _ FUEL _ _ <;> rfl
  · cases h

-- loop.example/g01253/impl.dot
def g_i_dot (x0 : List (List V)) (x1 : List (List V)) : Nat := (R_i_dot_0 x1 x0 (Int.ofNat (x0).length) 0 0)
def ok_i_dot (x0 : List (List V)) (x1 : List (List V)) : Bool := ((K_i_dot_0 x1 x0 (Int.ofNat (x0).length) 0 0))
def r_i_dot (p : Nat) : V := (.flt .f32 p)
def v_i_dot : List V → Option V
  | [(.sl 1 x0), (.sl 1 x1)] => some (r_i_dot (g_i_dot x0 x1))
  | _ => none
def c_i_dot : List V → Bool
  | [(.sl 1 x0), (.sl 1 x1)] => ok_i_dot x0 x1
  | _ => false
def s_i_dot : Summ := .pureC (fun vs => c_i_dot (fixSs [.sl 1, .sl 1] vs)) (fun vs => v_i_dot (fixSs [.sl 1, .sl 1] vs))
def S_i_dot : FuncId → Option Summ := fun _ => none
def keep_i_dot : FuncId → Nat → List Nat := fun f c => match f, c with
  | 42, 0 => [1, 5, 8, 9, 10]
  | _, _ => []
def kept_i_dot : FuncId → Nat → List Nat := fun f c => match f, c with
  | 42, 0 => [5]
  | _, _ => []
def move_i_dot : FuncId → Nat → List Nat := fun f c => match f, c with
  | 42, 0 => []
  | _, _ => []
def loops_i_dot : FuncId → Nat → Option (Nat → St → Option LT) := fun f c => match f, c with
  | 42, 0 => some lt_i_dot_0
  | _, _ => none
noncomputable def E_i_dot : Env := ⟨Try.prog, S_i_dot, keep_i_dot, kept_i_dot, move_i_dot, 100, loops_i_dot⟩
theorem sok_i_dot : SOK E_i_dot := fun _ _ h => by cases h
theorem lok_i_dot : LOK E_i_dot := by
  intro f fn c hf hc p hp g hg
  change loops_i_dot f p.1 = some g at hg
  unfold loops_i_dot at hg
  split at hg
  · rename_i hpc; cases hg; exact lok_pick hf hc hp hpc (ids := [0]) (by kernel_rfl) 0 (by rfl) (by decide) told_i_dot_0
  · cases hg
set_option maxRecDepth 100000 in
theorem tree_i_dot (x0 : List (List V)) (x1 : List (List V)) : runPureS E_i_dot 4 42 (.any) [(.sl 1 x0), (.sl 1 x1)] = (bif (K_i_dot_0 x1 x0 (Int.ofNat (x0).length) 0 0) then some (.flt .f32 (R_i_dot_0 x1 x0 (Int.ofNat (x0).length) 0 0)) else none) := by kernel_rfl
theorem run_i_dot (x0 : List (List V)) (x1 : List (List V)) (h : ok_i_dot x0 x1 = true) : runPureS E_i_dot 4 42 (.any) [(.sl 1 x0), (.sl 1 x1)] = some (r_i_dot (g_i_dot x0 x1)) := (tree_i_dot x0 x1).trans ((chk_k (F := r_i_dot) (leaf_ok (F := r_i_dot) (a := (R_i_dot_0 x1 x0 (Int.ofNat (x0).length) 0 0)))) h)
theorem summ_i_dot : SummOK Try.prog 42 s_i_dot := by
  refine ⟨pure_of_runS orders names sok_i_dot lok_i_dot 4 [.sl 1, .sl 1] (.any) (g := fun vs => (bif c_i_dot vs then v_i_dot vs else none)) fun vs v h => ?_, Try.f42, by kernel_rfl, by kernel_rfl, by kernel_rfl⟩
  try dsimp only at h
  cases hc : c_i_dot vs
  · rw [hc] at h; cases h
  rw [hc] at h
  simp only [cond_true] at h
  unfold v_i_dot at h
  split at h
  · cases h; exact run_i_dot _ _ hc
  · cases h

-- loop.example/g01253/impl.DotNumbers
def g_i_DotNumbers (x0 : List (List V)) (x1 : List (List V)) : Nat × Bool := (bif (!(g_i_listOk x0)) then (0, false) else (bif (icmp .neq (Int.ofNat (x0).length) (Int.ofNat (x1).length)) then (0, false) else ((g_i_dot x0 x1), true)))
def ok_i_DotNumbers (x0 : List (List V)) (x1 : List (List V)) : Bool := (bif (!(g_i_listOk x0)) then true else (bif (icmp .neq (Int.ofNat (x0).length) (Int.ofNat (x1).length)) then true else ((ok_i_dot x0 x1))))
def r_i_DotNumbers (p : Nat × Bool) : V := (.tup [(.flt .f32 p.1), (.bool p.2)])
def v_i_DotNumbers : List V → Option V
  | [(.sl 1 x0), (.sl 1 x1)] => some (r_i_DotNumbers (g_i_DotNumbers x0 x1))
  | _ => none
def c_i_DotNumbers : List V → Bool
  | [(.sl 1 x0), (.sl 1 x1)] => ok_i_DotNumbers x0 x1
  | _ => false
def s_i_DotNumbers : Summ := .pureC (fun vs => c_i_DotNumbers (fixSs [.sl 1, .sl 1] vs)) (fun vs => v_i_DotNumbers (fixSs [.sl 1, .sl 1] vs))
def S_i_DotNumbers : FuncId → Option Summ := fun f => match f with
  | 40 => some s_i_listOk
  | 42 => some s_i_dot
  | _ => none
noncomputable def E_i_DotNumbers : Env := ⟨Try.prog, S_i_DotNumbers, fun _ _ => [], fun _ _ => [], fun _ _ => [], 100, fun _ _ => none⟩
theorem sok_i_DotNumbers : SOK E_i_DotNumbers := by
  intro f s h
  have h : S_i_DotNumbers f = some s := h
  unfold S_i_DotNumbers at h
  split at h
  · cases h; exact summ_i_listOk
  · cases h; exact summ_i_dot
  · cases h
theorem lok_i_DotNumbers : LOK E_i_DotNumbers := noLoops rfl
set_option maxRecDepth 100000 in
theorem tree_i_DotNumbers (x0 : List (List V)) (x1 : List (List V)) : runPureS E_i_DotNumbers 4 22 (.many [.any, .any]) [(.sl 1 x0), (.sl 1 x1)] = (bif (!(g_i_listOk x0)) then some (.tup [(.flt .f32 0), (.bool false)]) else (bif (icmp .neq (Int.ofNat (x0).length) (Int.ofNat (x1).length)) then some (.tup [(.flt .f32 0), (.bool false)]) else (bif (ok_i_dot x0 x1) then some (.tup [(.flt .f32 (g_i_dot x0 x1)), (.bool true)]) else none))) := by kernel_rfl
theorem run_i_DotNumbers (x0 : List (List V)) (x1 : List (List V)) (h : ok_i_DotNumbers x0 x1 = true) : runPureS E_i_DotNumbers 4 22 (.many [.any, .any]) [(.sl 1 x0), (.sl 1 x1)] = some (r_i_DotNumbers (g_i_DotNumbers x0 x1)) := (tree_i_DotNumbers x0 x1).trans ((ite_ok (F := r_i_DotNumbers) (fun _ => (leaf_ok (F := r_i_DotNumbers) (a := (0, false)))) (ite_ok (F := r_i_DotNumbers) (fun _ => (leaf_ok (F := r_i_DotNumbers) (a := (0, false)))) (chk_k (F := r_i_DotNumbers) (leaf_ok (F := r_i_DotNumbers) (a := ((g_i_dot x0 x1), true)))))) h)
theorem summ_i_DotNumbers : SummOK Try.prog 22 s_i_DotNumbers := by
  refine ⟨pure_of_runS orders names sok_i_DotNumbers lok_i_DotNumbers 4 [.sl 1, .sl 1] (.many [.any, .any]) (g := fun vs => (bif c_i_DotNumbers vs then v_i_DotNumbers vs else none)) fun vs v h => ?_, Try.f22, by kernel_rfl, by kernel_rfl, by kernel_rfl⟩
  try dsimp only at h
  cases hc : c_i_DotNumbers vs
  · rw [hc] at h; cases h
  rw [hc] at h
  simp only [cond_true] at h
  unfold v_i_DotNumbers at h
  split at h
  · cases h; exact run_i_DotNumbers _ _ hc
  · cases h

-- a loop of loop.example/g01253/impl.DotWide
def L_i_DotWide_0 (p0 : List (List V)) (p1 : List (List V)) (p2 : Int) : Nat → Nat → Int → Option (Nat)
  | 0, _, _ => none
  | m + 1, u0, u1 => (bif (icmp .lss u1 p2) then (bif (inB u1 (p1).length) then (bif ((getAt ((getAt p1 (Int.toNat u1)).getD []) 0).isSome && (isFl .f32 ((getAt ((getAt p1 (Int.toNat u1)).getD []) 0).getD .und))) then (bif (fconv .f32 .f64 (asF ((getAt ((getAt p1 (Int.toNat u1)).getD []) 0).getD .und))).isSome then (bif (inB u1 (p0).length) then (bif ((getAt ((getAt p0 (Int.toNat u1)).getD []) 0).isSome && (isFl .f32 ((getAt ((getAt p0 (Int.toNat u1)).getD []) 0).getD .und))) then (bif (fconv .f32 .f64 (asF ((getAt ((getAt p0 (Int.toNat u1)).getD []) 0).getD .und))).isSome then (L_i_DotWide_0 p0 p1 p2 m (fop .add .f64 u0 (fop .mul .f64 ((fconv .f32 .f64 (asF ((getAt ((getAt p1 (Int.toNat u1)).getD []) 0).getD .und))).getD 0) ((fconv .f32 .f64 (asF ((getAt ((getAt p0 (Int.toNat u1)).getD []) 0).getD .und))).getD 0))) (IntKind.i64.wrap (u1 + 1))) else none) else none) else none) else none) else none) else none) else some (u0))
def R_i_DotWide_0 (p0 : List (List V)) (p1 : List (List V)) (p2 : Int) (u0 : Nat) (u1 : Int) : Nat := (L_i_DotWide_0 p0 p1 p2 FUEL u0 u1).getD (0)
def K_i_DotWide_0 (p0 : List (List V)) (p1 : List (List V)) (p2 : Int) (u0 : Nat) (u1 : Int) : Bool := (L_i_DotWide_0 p0 p1 p2 FUEL u0 u1).isSome
def S_L_i_DotWide_0 : FuncId → Option Summ := fun _ => none
noncomputable def E_L_i_DotWide_0 : Env := ⟨Try.prog, S_L_i_DotWide_0, fun _ _ => [], fun _ _ => [], fun _ _ => [], 100, fun _ _ => none⟩
theorem sok_L_i_DotWide_0 : SOK E_L_i_DotWide_0 := fun _ _ h => by cases h
theorem lok_L_i_DotWide_0 : LOK E_L_i_DotWide_0 := noLoops rfl
set_option maxRecDepth 100000 in
theorem turn_i_DotWide_0 {α : Type} (p0 : List (List V)) (p1 : List (List V)) (p2 : Int) (u0 : Nat) (u1 : Int) (Kn : St → Option α) (Ke : Cont α) : exec E_L_i_DotWide_0 (callN E_L_i_DotWide_0 4) 25 (loopAt Try.prog 25 0).1 (loopAt Try.prog 25 0).2.2 0 ⟨[(1, (.sl 1 p0)), (6, (.flt .f64 u0)), (19, (.sl 1 p1)), (20, (.int .i64 p2)), (21, (.int .i64 u1))], [], 0, []⟩ (loopK 0 [1, 6, 19, 20, 21] [6] Kn Ke) = (bif (icmp .lss u1 p2) then (bif (inB u1 (p1).length) then (bif ((getAt ((getAt p1 (Int.toNat u1)).getD []) 0).isSome && (isFl .f32 ((getAt ((getAt p1 (Int.toNat u1)).getD []) 0).getD .und))) then (bif (fconv .f32 .f64 (asF ((getAt ((getAt p1 (Int.toNat u1)).getD []) 0).getD .und))).isSome then (bif (inB u1 (p0).length) then (bif ((getAt ((getAt p0 (Int.toNat u1)).getD []) 0).isSome && (isFl .f32 ((getAt ((getAt p0 (Int.toNat u1)).getD []) 0).getD .und))) then (bif (fconv .f32 .f64 (asF ((getAt ((getAt p0 (Int.toNat u1)).getD []) 0).getD .und))).isSome then Kn ⟨[(1, (.sl 1 p0)), (6, (.flt .f64 (fop .add .f64 u0 (fop .mul .f64 ((fconv .f32 .f64 (asF ((getAt ((getAt p1 (Int.toNat u1)).getD []) 0).getD .und))).getD 0) ((fconv .f32 .f64 (asF ((getAt ((getAt p0 (Int.toNat u1)).getD []) 0).getD .und))).getD 0))))), (19, (.sl 1 p1)), (20, (.int .i64 p2)), (21, (.int .i64 (IntKind.i64.wrap (u1 + 1))))], [], 0, []⟩ else none) else none) else none) else none) else none) else none) else Ke (.exit 0) ⟨[(6, (.flt .f64 u0))], [], 0, []⟩) := by kernel_rfl
def fin_i_DotWide_0 {α : Type} (p0 : List (List V)) (p1 : List (List V)) (p2 : Int) (K : Cont α) : Option (Nat) → Option α
  | none => none
  | some z => K (.exit 0) ⟨[(6, (.flt .f64 z))], [], 0, []⟩
theorem run_i_DotWide_0 {α : Type} (p0 : List (List V)) (p1 : List (List V)) (p2 : Int) (K : Cont α) (m : Nat) : ∀ (u0 : Nat) (u1 : Int), loopN (exec E_L_i_DotWide_0 (callN E_L_i_DotWide_0 4) 25 (loopAt Try.prog 25 0).1 (loopAt Try.prog 25 0).2.2 0) 0 [1, 6, 19, 20, 21] [6] m ⟨[(1, (.sl 1 p0)), (6, (.flt .f64 u0)), (19, (.sl 1 p1)), (20, (.int .i64 p2)), (21, (.int .i64 u1))], [], 0, []⟩ K = fin_i_DotWide_0 p0 p1 p2 K (L_i_DotWide_0 p0 p1 p2 m u0 u1) := by
  induction m with
  | zero => intros; rfl
  | succ m ih => intro u0 u1; exact (turn_i_DotWide_0 p0 p1 p2 u0 u1 _ K).trans (ite_f (f := fin_i_DotWide_0 p0 p1 p2 K) (chk_f (f := fin_i_DotWide_0 p0 p1 p2 K) rfl (chk_f (f := fin_i_DotWide_0 p0 p1 p2 K) rfl (chk_f (f := fin_i_DotWide_0 p0 p1 p2 K) rfl (chk_f (f := fin_i_DotWide_0 p0 p1 p2 K) rfl (chk_f (f := fin_i_DotWide_0 p0 p1 p2 K) rfl (chk_f (f := fin_i_DotWide_0 p0 p1 p2 K) rfl (ih (fop .add .f64 u0 (fop .mul .f64 ((fconv .f32 .f64 (asF ((getAt ((getAt p1 (Int.toNat u1)).getD []) 0).getD .und))).getD 0) ((fconv .f32 .f64 (asF ((getAt ((getAt p0 (Int.toNat u1)).getD []) 0).getD .und))).getD 0))) (IntKind.i64.wrap (u1 + 1))))))))) rfl)
def lt_i_DotWide_0 : Nat → St → Option LT
  | 0, ⟨[(1, (.sl 1 p0)), (6, (.flt .f64 u0)), (19, (.sl 1 p1)), (20, (.int .i64 p2)), (21, (.int .i64 u1))], [], 0, []⟩ => some (.chk (K_i_DotWide_0 p0 p1 p2 u0 u1) (.leaf (.exit 0) ⟨[(6, (.flt .f64 (R_i_DotWide_0 p0 p1 p2 u0 u1)))], [], 0, []⟩))
  | _, _ => none
theorem told_i_DotWide_0 : LoopOK Try.prog (loopAt Try.prog 25 0).1 (loopAt Try.prog 25 0).2.2 lt_i_DotWide_0 := by
  refine loop_told (E := E_L_i_DotWide_0) orders names sok_L_i_DotWide_0 lok_L_i_DotWide_0 25 0 4 [1, 6, 19, 20, 21] [6] fun base s t h => ?_
  unfold lt_i_DotWide_0 at h
  split at h
  · cases h
    refine ⟨FUEL, fun α K => (run_i_DotWide_0 _ _ _ K FUEL _ _).trans ?_⟩
    unfold K_i_DotWide_0 R_i_DotWide_0
    cases L_i_DotWide_0 _ _ _ FUEL _ _ <;> rfl
  · cases h

-- loop.example/g01253/impl.DotWide
def g_i_DotWide (x0 : List (List V)) (x1 : List (List V)) : Nat × Bool := (bif (!(g_i_listOk x0)) then (0, false) else (bif (icmp .neq (Int.ofNat (x0).length) (Int.ofNat (x1).length)) then (0, false) else (((fconv .f64 .f32 (R_i_DotWide_0 x1 x0 (Int.ofNat (x0).length) 0 0)).getD 0), true)))
def ok_i_DotWide (x0 : List (List V)) (x1 : List (List V)) : Bool := (bif (!(g_i_listOk x0)) then true else (bif (icmp .neq (Int.ofNat (x0).length) (Int.ofNat (x1).length)) then true else ((K_i_DotWide_0 x1 x0 (Int.ofNat (x0).length) 0 0) && ((fconv .f64 .f32 (R_i_DotWide_0 x1 x0 (Int.ofNat (x0).length) 0 0)).isSome))))
def r_i_DotWide (p : Nat × Bool) : V := (.tup [(.flt .f32 p.1), (.bool p.2)])
def v_i_DotWide : List V → Option V
  | [(.sl 1 x0), (.sl 1 x1)] => some (r_i_DotWide (g_i_DotWide x0 x1))
  | _ => none
def c_i_DotWide : List V → Bool
  | [(.sl 1 x0), (.sl 1 x1)] => ok_i_DotWide x0 x1
  | _ => false
def s_i_DotWide : Summ := .pureC (fun vs => c_i_DotWide (fixSs [.sl 1, .sl 1] vs)) (fun vs => v_i_DotWide (fixSs [.sl 1, .sl 1] vs))
def S_i_DotWide : FuncId → Option Summ := fun f => match f with
  | 40 => some s_i_listOk
  | _ => none
def keep_i_DotWide : FuncId → Nat → List Nat := fun f c => match f, c with
  | 25, 0 => [1, 6, 19, 20, 21]
  | _, _ => []
def kept_i_DotWide : FuncId → Nat → List Nat := fun f c => match f, c with
  | 25, 0 => [6]
  | _, _ => []
def move_i_DotWide : FuncId → Nat → List Nat := fun f c => match f, c with
  | 25, 0 => []
  | _, _ => []
def loops_i_DotWide : FuncId → Nat → Option (Nat → St → Option LT) := fun f c => match f, c with
  | 25, 0 => some lt_i_DotWide_0
  | _, _ => none
noncomputable def E_i_DotWide : Env := ⟨Try.prog, S_i_DotWide, keep_i_DotWide, kept_i_DotWide, move_i_DotWide, 100, loops_i_DotWide⟩
theorem sok_i_DotWide : SOK E_i_DotWide := by
  intro f s h
  have h : S_i_DotWide f = some s := h
  unfold S_i_DotWide at h
  split at h
  · cases h; exact summ_i_listOk
  · cases h
theorem lok_i_DotWide : LOK E_i_DotWide := by
  intro f fn c hf hc p hp g hg
  change loops_i_DotWide f p.1 = some g at hg
  unfold loops_i_DotWide at hg
  split at hg
  · rename_i hpc; cases hg; exact lok_pick hf hc hp hpc (ids := [0]) (by kernel_rfl) 0 (by rfl) (by decide) told_i_DotWide_0
  · cases hg
set_option maxRecDepth 100000 in
theorem tree_i_DotWide (x0 : List (List V)) (x1 : List (List V)) : runPureS E_i_DotWide 4 25 (.many [.any, .any]) [(.sl 1 x0), (.sl 1 x1)] = (bif (!(g_i_listOk x0)) then some (.tup [(.flt .f32 0), (.bool false)]) else (bif (icmp .neq (Int.ofNat (x0).length) (Int.ofNat (x1).length)) then some (.tup [(.flt .f32 0), (.bool false)]) else (bif (K_i_DotWide_0 x1 x0 (Int.ofNat (x0).length) 0 0) then (bif (fconv .f64 .f32 (R_i_DotWide_0 x1 x0 (Int.ofNat (x0).length) 0 0)).isSome then some (.tup [(.flt .f32 ((fconv .f64 .f32 (R_i_DotWide_0 x1 x0 (Int.ofNat (x0).length) 0 0)).getD 0)), (.bool true)]) else none) else none))) := by kernel_rfl
theorem run_i_DotWide (x0 : List (List V)) (x1 : List (List V)) (h : ok_i_DotWide x0 x1 = true) : runPureS E_i_DotWide 4 25 (.many [.any, .any]) [(.sl 1 x0), (.sl 1 x1)] = some (r_i_DotWide (g_i_DotWide x0 x1)) := (tree_i_DotWide x0 x1).trans ((ite_ok (F := r_i_DotWide) (fun _ => (leaf_ok (F := r_i_DotWide) (a := (0, false)))) (ite_ok (F := r_i_DotWide) (fun _ => (leaf_ok (F := r_i_DotWide) (a := (0, false)))) (chk_ok (F := r_i_DotWide) (chk_k (F := r_i_DotWide) (leaf_ok (F := r_i_DotWide) (a := (((fconv .f64 .f32 (R_i_DotWide_0 x1 x0 (Int.ofNat (x0).length) 0 0)).getD 0), true))))))) h)
theorem summ_i_DotWide : SummOK Try.prog 25 s_i_DotWide := by
  refine ⟨pure_of_runS orders names sok_i_DotWide lok_i_DotWide 4 [.sl 1, .sl 1] (.many [.any, .any]) (g := fun vs => (bif c_i_DotWide vs then v_i_DotWide vs else none)) fun vs v h => ?_, Try.f25, by kernel_rfl, by kernel_rfl, by kernel_rfl⟩
  try dsimp only at h
  cases hc : c_i_DotWide vs
  · rw [hc] at h; cases h
  rw [hc] at h
  simp only [cond_true] at h
  unfold v_i_DotWide at h
  split at h
  · cases h; exact run_i_DotWide _ _ hc
  · cases h
end Go.Proofs.Ytggfjjacafgkkaa

/-
  Lists of 32-bit numbers: draws, sums, loops.
-/
namespace Go.Proofs.Ytggfjjacafgkkaa
open Go.Ev Go Ieee

def fl32 (xs : List Nat) : List (List V) := xs.map fun x => [.flt .f32 x]
def fc32 (xs : List Nat) : List V := xs.map fun x => .flt .f32 x

theorem fl32_len (xs : List Nat) : (fl32 xs).length = xs.length := by simp [fl32]
theorem fc32_len (xs : List Nat) : (fc32 xs).length = xs.length := by simp [fc32]

theorem at_fl (xs : List Nat) {i : Nat} (h : i < xs.length) : getAt ((getAt (fl32 xs) (Int.toNat (i : Int))).getD []) 0 = some (.flt .f32 xs[i]) := by
  simp [getAt_eq, fl32, h]

theorem chunk_fc (xs : List Nat) : ∀ n, n = xs.length → chunk n 1 ((fc32 xs).drop 0) = fl32 xs := by
  induction xs with
  | nil => intro n h; subst h; rfl
  | cons x xs ih =>
    intro n h
    subst h
    have := ih xs.length rfl
    simp only [List.length_cons, chunk, List.drop_zero] at this ⊢
    simp only [fc32, List.map_cons, List.drop_succ_cons, List.drop_zero, takePad, fl32] at this ⊢
    rw [this]

theorem take_app {α : Type} (cs : List α) (n : Nat) (h : n = cs.length) : (cs.drop 0).take (n * 1) = cs := by
  subst h; simp

theorem plain_at' {zs : List Int} (hb : isBytes zs) {at_ seed : Int} (h0 : 0 ≤ at_) (h1 : at_ ≤ 700000000) : at_ ≤ (g_s_l01DrawFloat (bsV zs) at_ seed).2.1 ∧ (g_s_l01DrawFloat (bsV zs) at_ seed).2.1 ≤ at_ + 12 := by
  obtain ⟨a1, a2, a3⟩ := one_sound hb (seed := seed) h0 (by omega : at_ ≤ 900000000) (by omega : (1 : Int) ≤ 12) (by omega)
  unfold g_s_l01DrawFloat
  generalize (g_s_l00Src_one (bsV zs) at_ seed 12) = A at a2 a3 ⊢
  obtain ⟨c, s1, s2⟩ := A
  dsimp only at a2 a3 ⊢
  obtain ⟨b1, b2, b3, b4, b5⟩ := pick_sound hb (seed := s2) (by omega : 0 ≤ s1) (by omega) (by omega : (1 : Int) ≤ 4) (by omega)
  have p := plain_at hb (seed := s2) (by omega : 0 ≤ s1) (by omega)
  cases c
  · simp only [Bool.not_false, cond_true]; omega
  · simp only [Bool.not_true, cond_false]
    generalize (g_s_l00Src_pick (bsV zs) s1 s2 4) = B at b2 b3 b4 b5 ⊢
    obtain ⟨k, t1, t2⟩ := B
    dsimp only at b2 b3 b4 b5 ⊢
    obtain ⟨c1, c2, c3, c4, c5⟩ := pick_sound hb (seed := t2) (by omega : 0 ≤ t1) (by omega) (by omega : (1 : Int) ≤ 10) (by omega)
    obtain ⟨d1, d2, d3, d4, d5⟩ := pick_sound hb (seed := t2) (by omega : 0 ≤ t1) (by omega) (by omega : (1 : Int) ≤ 65536) (by omega)
    obtain ⟨f1, f2⟩ := plain_at hb (seed := t2) (by omega : 0 ≤ t1) (by omega)
    cases icmp .eql k 0
    · simp only [cond_false]
      cases icmp .eql k 1
      · simp only [cond_false]
        cases icmp .eql k 2
        · simp only [cond_false]
          generalize (g_s_l01DrawPlain (bsV zs) t1 t2) = G at f1 f2 ⊢
          obtain ⟨x, u1, u2⟩ := G
          dsimp only at f1 f2 ⊢
          obtain ⟨q1, q2, q3, q4, q5⟩ := pick_sound hb (seed := u2) (by omega : 0 ≤ u1) (by omega) (by omega : (1 : Int) ≤ 4) (by omega)
          omega
        · simp only [cond_true]; omega
      · simp only [cond_true]
        generalize (g_s_l00Src_pick (bsV zs) t1 t2 65536) = D at d2 d3 d4 d5 ⊢
        obtain ⟨x, u1, u2⟩ := D
        dsimp only at d2 d3 d4 d5 ⊢
        obtain ⟨q1, q2, q3, q4, q5⟩ := pick_sound hb (seed := u2) (by omega : 0 ≤ u1) (by omega) (by omega : (1 : Int) ≤ 65536) (by omega)
        omega
    · simp only [cond_true]; omega

theorem gtr0 (n : Nat) : icmp .gtr ((n + 1 : Nat) : Int) 0 = true := by simp [icmp] <;> omega
theorem pred_w (n : Nat) (h : n ≤ 1000000) : IntKind.i64.wrap (((n + 1 : Nat) : Int) - 1) = (n : Int) := by
  rw [IntKind.wrap_i64]; omega
theorem succ_w (n : Nat) (h : n ≤ 1000000) : IntKind.i64.wrap ((n : Int) + 1) = ((n + 1 : Nat) : Int) := by
  rw [IntKind.wrap_i64]; omega

/-- l01DrawFloats: so many numbers. -/
theorem drawFloats_loop {zs : List Int} (hb : isBytes zs) (st : Bool) : ∀ (n m : Nat) (cs : List V) (at_ seed : Int), n < m → n ≤ 1000 → cs.length + n ≤ 1000000 → 0 ≤ at_ → at_ + 16 * n ≤ 600000000 →
    ∃ (xs : List Nat) (at' seed' : Int), xs.length = n ∧ (∀ x ∈ xs, F32 x) ∧ at_ ≤ at' ∧ at' ≤ at_ + 16 * n ∧ L_s_l01DrawFloats_0 st (bsV zs) m n cs.length at_ seed cs = some (cs.length + n, at', seed', cs ++ fc32 xs) := by
  intro n
  induction n with
  | zero =>
    intro m cs at_ seed hm _ _ h0 h1
    obtain ⟨m, rfl⟩ : ∃ k, m = k + 1 := ⟨m - 1, by omega⟩
    exact ⟨[], at_, seed, rfl, fun x hx => (by cases hx), Int.le_refl _, by omega, by simp [L_s_l01DrawFloats_0, icmp, fc32]⟩
  | succ n ih =>
    intro m cs at_ seed hm hn hl h0 h1
    obtain ⟨m, rfl⟩ : ∃ k, m = k + 1 := ⟨m - 1, by omega⟩
    have hlen : ∀ v : V, (cs ++ [v]).length = cs.length + 1 := fun v => by simp
    have hg : (Nat.ble (0 + (cs.length * 1)) cs.length && Nat.ble (cs.length + 1) 4294967296) = true := by
      rw [Bool.and_eq_true, Nat.ble_eq, Nat.ble_eq]; omega
    unfold L_s_l01DrawFloats_0
    rw [gtr0, hg, pred_w n (by omega)]
    simp only [cond_true, take_app cs cs.length rfl]
    cases st
    · obtain ⟨p1, p2⟩ := plain_sound hb (seed := seed) h0 (by omega)
      obtain ⟨q1, q2⟩ := plain_at hb (seed := seed) h0 (by omega)
      rw [p1]
      simp only [cond_false, cond_true]
      obtain ⟨xs, a', s', e1, e2, e3, e4, e5⟩ := ih m (cs ++ [.flt .f32 (g_s_l01DrawPlain (bsV zs) at_ seed).1]) (g_s_l01DrawPlain (bsV zs) at_ seed).2.1 (g_s_l01DrawPlain (bsV zs) at_ seed).2.2 (by omega) (by omega) (by rw [hlen]; omega) (by omega) (by omega)
      rw [hlen] at e5
      refine ⟨(g_s_l01DrawPlain (bsV zs) at_ seed).1 :: xs, a', s', by simp [e1], fun x hx => ?_, by omega, by omega, ?_⟩
      · rcases List.mem_cons.1 hx with rfl | hx
        · exact p2
        · exact e2 x hx
      · rw [e5]
        simp [fc32]; omega
    · obtain ⟨p1, p2⟩ := float_sound hb (seed := seed) h0 (by omega)
      obtain ⟨q1, q2⟩ := plain_at' hb (seed := seed) h0 (by omega)
      rw [p1]
      simp only [cond_true]
      obtain ⟨xs, a', s', e1, e2, e3, e4, e5⟩ := ih m (cs ++ [.flt .f32 (g_s_l01DrawFloat (bsV zs) at_ seed).1]) (g_s_l01DrawFloat (bsV zs) at_ seed).2.1 (g_s_l01DrawFloat (bsV zs) at_ seed).2.2 (by omega) (by omega) (by rw [hlen]; omega) (by omega) (by omega)
      rw [hlen] at e5
      refine ⟨(g_s_l01DrawFloat (bsV zs) at_ seed).1 :: xs, a', s', by simp [e1], fun x hx => ?_, by omega, by omega, ?_⟩
      · rcases List.mem_cons.1 hx with rfl | hx
        · exact p2
        · exact e2 x hx
      · rw [e5]
        simp [fc32]; omega

theorem fuel_big : 1000000 < FUEL := by decide

theorem drawFloats_sound {zs : List Int} (hb : isBytes zs) {at_ seed : Int} (n : Nat) (hn : n ≤ 1000) (h0 : 0 ≤ at_) (h1 : at_ ≤ 500000000) :
    ok_s_l01DrawFloats (bsV zs) at_ seed n = true ∧ ∃ (xs : List Nat) (at' seed' : Int), xs.length = n ∧ (∀ x ∈ xs, F32 x) ∧ at_ ≤ at' ∧ at' ≤ at_ + 16 * n + 2 ∧ g_s_l01DrawFloats (bsV zs) at_ seed n = (fl32 xs, at', seed') := by
  obtain ⟨a1, a2, a3⟩ := one_sound hb (seed := seed) h0 (by omega : at_ ≤ 900000000) (by omega : (1 : Int) ≤ 4) (by omega)
  unfold ok_s_l01DrawFloats g_s_l01DrawFloats
  rw [a1]
  generalize (g_s_l00Src_one (bsV zs) at_ seed 4) = A at a2 a3 ⊢
  obtain ⟨c, s1, s2⟩ := A
  dsimp only at a2 a3 ⊢
  obtain ⟨xs, a', s', e1, e2, e3, e4, e5⟩ := drawFloats_loop hb c n FUEL [] s1 s2 (by have := fuel_big; omega) hn (by simp; omega) (by omega) (by omega)
  have hL : L_s_l01DrawFloats_0 c (bsV zs) FUEL n 0 s1 s2 [] = some (0 + n, a', s', [] ++ fc32 xs) := e5
  have hK : K_s_l01DrawFloats_0 c (bsV zs) n 0 s1 s2 [] = true := by unfold K_s_l01DrawFloats_0; rw [hL]; rfl
  have hR : R_s_l01DrawFloats_0 c (bsV zs) n 0 s1 s2 [] = (0 + n, a', s', [] ++ fc32 xs) := by unfold R_s_l01DrawFloats_0; rw [hL]; rfl
  rw [hK, hR]
  refine ⟨rfl, xs, a', s', e1, e2, by omega, by omega, ?_⟩
  dsimp only
  rw [List.nil_append, chunk_fc xs (0 + n) (by omega)]
end Go.Proofs.Ytggfjjacafgkkaa

/-
  Functions of the program: what each computes. Printed by wip/tools/gen2.py.
-/
namespace Go.Proofs.Ytggfjjacafgkkaa
open Go.Ev Go

-- a loop of loop.example/g01253/laws.FnSums
def L_w_FnSums_0 (p0 : List (List V)) (p1 : Int) (p2 : List (List V)) : Nat → Nat → Nat → Int → List V → Option (Nat × Nat × List V)
  | 0, _, _, _, _ => none
  | m + 1, u0, u1, u2, u3 => (bif (icmp .lss u2 p1) then (bif ((Nat.ble (0 + (u0 * 1)) (u3).length) && (Nat.ble (u0 + 1) 4294967296)) then (bif (inB u2 (p2).length) then (bif ((getAt ((getAt p2 (Int.toNat u2)).getD []) 0).isSome && (isFl .f32 ((getAt ((getAt p2 (Int.toNat u2)).getD []) 0).getD .und))) then (L_w_FnSums_0 p0 p1 p2 m (u0 + 1) (fop .add .f32 u1 (asF ((getAt ((getAt p2 (Int.toNat u2)).getD []) 0).getD .und))) (IntKind.i64.wrap (u2 + 1)) (((u3.drop 0).take (u0 * 1)) ++ [(.flt .f32 1065353216)])) else none) else none) else none) else some (u0, u1, u3))
def R_w_FnSums_0 (p0 : List (List V)) (p1 : Int) (p2 : List (List V)) (u0 : Nat) (u1 : Nat) (u2 : Int) (u3 : List V) : Nat × Nat × List V := (L_w_FnSums_0 p0 p1 p2 FUEL u0 u1 u2 u3).getD (0, 0, [])
def K_w_FnSums_0 (p0 : List (List V)) (p1 : Int) (p2 : List (List V)) (u0 : Nat) (u1 : Nat) (u2 : Int) (u3 : List V) : Bool := (L_w_FnSums_0 p0 p1 p2 FUEL u0 u1 u2 u3).isSome
def S_L_w_FnSums_0 : FuncId → Option Summ := fun _ => none
noncomputable def E_L_w_FnSums_0 : Env := ⟨Try.prog, S_L_w_FnSums_0, fun _ _ => [], fun _ _ => [], fun _ _ => [], 100, fun _ _ => none⟩
theorem sok_L_w_FnSums_0 : SOK E_L_w_FnSums_0 := fun _ _ h => by cases h
theorem lok_L_w_FnSums_0 : LOK E_L_w_FnSums_0 := noLoops rfl
set_option maxRecDepth 100000 in
theorem turn_w_FnSums_0 {α : Type} (p0 : List (List V)) (p1 : Int) (p2 : List (List V)) (u0 : Nat) (u1 : Nat) (u2 : Int) (u3 : List V) (Kn : St → Option α) (Ke : Cont α) : exec E_L_w_FnSums_0 (callN E_L_w_FnSums_0 4) 5 (loopAt Try.prog 5 0).1 (loopAt Try.prog 5 0).2.2 0 ⟨[(1, (.sl 1 p0)), (5, (.int .i64 p1)), (6, (.sl 1 p2)), (7, (.ms 1 0 u0 1)), (8, (.flt .f32 u1)), (9, (.int .i64 u2))], [(1, some u3)], 2, [1]⟩ (loopK 1 [1, 5, 6, 7, 8, 9] [1, 5, 6, 7, 8] Kn Ke) = (bif (icmp .lss u2 p1) then (bif ((Nat.ble (0 + (u0 * 1)) (u3).length) && (Nat.ble (u0 + 1) 4294967296)) then (bif (inB u2 (p2).length) then (bif ((getAt ((getAt p2 (Int.toNat u2)).getD []) 0).isSome && (isFl .f32 ((getAt ((getAt p2 (Int.toNat u2)).getD []) 0).getD .und))) then Kn ⟨[(1, (.sl 1 p0)), (5, (.int .i64 p1)), (6, (.sl 1 p2)), (7, (.ms 1 0 (u0 + 1) 1)), (8, (.flt .f32 (fop .add .f32 u1 (asF ((getAt ((getAt p2 (Int.toNat u2)).getD []) 0).getD .und))))), (9, (.int .i64 (IntKind.i64.wrap (u2 + 1))))], [(1, some (((u3.drop 0).take (u0 * 1)) ++ [(.flt .f32 1065353216)]))], 2, [1]⟩ else none) else none) else none) else Ke (.exit 0) ⟨[(1, (.sl 1 p0)), (5, (.int .i64 p1)), (6, (.sl 1 p2)), (7, (.ms 1 0 u0 1)), (8, (.flt .f32 u1))], [(1, some u3)], 2, [1]⟩) := by kernel_rfl
def fin_w_FnSums_0 {α : Type} (p0 : List (List V)) (p1 : Int) (p2 : List (List V)) (K : Cont α) : Option (Nat × Nat × List V) → Option α
  | none => none
  | some z => K (.exit 0) ⟨[(1, (.sl 1 p0)), (5, (.int .i64 p1)), (6, (.sl 1 p2)), (7, (.ms 1 0 z.1 1)), (8, (.flt .f32 z.2.1))], [(1, some z.2.2)], 2, [1]⟩
theorem run_w_FnSums_0 {α : Type} (p0 : List (List V)) (p1 : Int) (p2 : List (List V)) (K : Cont α) (m : Nat) : ∀ (u0 : Nat) (u1 : Nat) (u2 : Int) (u3 : List V), loopN (exec E_L_w_FnSums_0 (callN E_L_w_FnSums_0 4) 5 (loopAt Try.prog 5 0).1 (loopAt Try.prog 5 0).2.2 0) 1 [1, 5, 6, 7, 8, 9] [1, 5, 6, 7, 8] m ⟨[(1, (.sl 1 p0)), (5, (.int .i64 p1)), (6, (.sl 1 p2)), (7, (.ms 1 0 u0 1)), (8, (.flt .f32 u1)), (9, (.int .i64 u2))], [(1, some u3)], 2, [1]⟩ K = fin_w_FnSums_0 p0 p1 p2 K (L_w_FnSums_0 p0 p1 p2 m u0 u1 u2 u3) := by
  induction m with
  | zero => intros; rfl
  | succ m ih => intro u0 u1 u2 u3; exact (turn_w_FnSums_0 p0 p1 p2 u0 u1 u2 u3 _ K).trans (ite_f (f := fin_w_FnSums_0 p0 p1 p2 K) (chk_f (f := fin_w_FnSums_0 p0 p1 p2 K) rfl (chk_f (f := fin_w_FnSums_0 p0 p1 p2 K) rfl (chk_f (f := fin_w_FnSums_0 p0 p1 p2 K) rfl (ih (u0 + 1) (fop .add .f32 u1 (asF ((getAt ((getAt p2 (Int.toNat u2)).getD []) 0).getD .und))) (IntKind.i64.wrap (u2 + 1)) (((u3.drop 0).take (u0 * 1)) ++ [(.flt .f32 1065353216)]))))) rfl)
def lt_w_FnSums_0 : Nat → St → Option LT
  | 1, ⟨[(1, (.sl 1 p0)), (5, (.int .i64 p1)), (6, (.sl 1 p2)), (7, (.ms 1 0 u0 1)), (8, (.flt .f32 u1)), (9, (.int .i64 u2))], [(1, some u3)], 2, [1]⟩ => some (.chk (K_w_FnSums_0 p0 p1 p2 u0 u1 u2 u3) (.leaf (.exit 0) ⟨[(1, (.sl 1 p0)), (5, (.int .i64 p1)), (6, (.sl 1 p2)), (7, (.ms 1 0 (R_w_FnSums_0 p0 p1 p2 u0 u1 u2 u3).1 1)), (8, (.flt .f32 (R_w_FnSums_0 p0 p1 p2 u0 u1 u2 u3).2.1))], [(1, some (R_w_FnSums_0 p0 p1 p2 u0 u1 u2 u3).2.2)], 2, [1]⟩))
  | _, _ => none
theorem told_w_FnSums_0 : LoopOK Try.prog (loopAt Try.prog 5 0).1 (loopAt Try.prog 5 0).2.2 lt_w_FnSums_0 := by
  refine loop_told (E := E_L_w_FnSums_0) orders names sok_L_w_FnSums_0 lok_L_w_FnSums_0 5 0 4 [1, 5, 6, 7, 8, 9] [1, 5, 6, 7, 8] fun base s t h => ?_
  unfold lt_w_FnSums_0 at h
  split at h
  · cases h
    refine ⟨FUEL, fun α K => (run_w_FnSums_0 _ _ _ K FUEL _ _ _ _).trans ?_⟩
    unfold K_w_FnSums_0 R_w_FnSums_0
    cases L_w_FnSums_0 _ _ _ FUEL _ _ _ _ <;> rfl
  · cases h

-- a loop of loop.example/g01253/laws.FnSums
def L_w_FnSums_2 (p0 : Int) (p1 : List (List V)) (p2 : Nat) (p3 : Bool) (p4 : Nat) (p5 : Bool) (p6 : Nat) (p7 : Bool) (p8 : Nat) (p9 : Bool) (p10 : Nat) (p11 : Bool) (p12 : List V) (p13 : List V) : Nat → Int → Int → Int → Option (Int × Int)
  | 0, _, _, _ => none
  | m + 1, u0, u1, u2 => (bif (icmp .lss u2 p0) then (bif (inB u2 (p1).length) then (bif ((getAt ((getAt p1 (Int.toNat u2)).getD []) 0).isSome && (isFl .f32 ((getAt ((getAt p1 (Int.toNat u2)).getD []) 0).getD .und))) then (bif (floatToIntVal .f32 (asF ((getAt ((getAt p1 (Int.toNat u2)).getD []) 0).getD .und)) .i64).isSome then (bif (inB u2 (p1).length) then (bif ((getAt ((getAt p1 (Int.toNat u2)).getD []) 0).isSome && (isFl .f32 ((getAt ((getAt p1 (Int.toNat u2)).getD []) 0).getD .und))) then (bif (floatToIntVal .f32 (asF ((getAt ((getAt p1 (Int.toNat u2)).getD []) 0).getD .und)) .i64).isSome then (bif (inB u2 (p1).length) then (bif ((getAt ((getAt p1 (Int.toNat u2)).getD []) 0).isSome && (isFl .f32 ((getAt ((getAt p1 (Int.toNat u2)).getD []) 0).getD .und))) then (bif (floatToIntVal .f32 (asF ((getAt ((getAt p1 (Int.toNat u2)).getD []) 0).getD .und)) .i64).isSome then (L_w_FnSums_2 p0 p1 p2 p3 p4 p5 p6 p7 p8 p9 p10 p11 p12 p13 m (IntKind.i64.wrap (u0 + ((floatToIntVal .f32 (asF ((getAt ((getAt p1 (Int.toNat u2)).getD []) 0).getD .und)) .i64).getD 0))) (IntKind.i64.wrap (u1 + (IntKind.i64.wrap (((floatToIntVal .f32 (asF ((getAt ((getAt p1 (Int.toNat u2)).getD []) 0).getD .und)) .i64).getD 0) * ((floatToIntVal .f32 (asF ((getAt ((getAt p1 (Int.toNat u2)).getD []) 0).getD .und)) .i64).getD 0))))) (IntKind.i64.wrap (u2 + 1))) else none) else none) else none) else none) else none) else none) else none) else none) else none) else some (u0, u1))
def R_w_FnSums_2 (p0 : Int) (p1 : List (List V)) (p2 : Nat) (p3 : Bool) (p4 : Nat) (p5 : Bool) (p6 : Nat) (p7 : Bool) (p8 : Nat) (p9 : Bool) (p10 : Nat) (p11 : Bool) (p12 : List V) (p13 : List V) (u0 : Int) (u1 : Int) (u2 : Int) : Int × Int := (L_w_FnSums_2 p0 p1 p2 p3 p4 p5 p6 p7 p8 p9 p10 p11 p12 p13 FUEL u0 u1 u2).getD (0, 0)
def K_w_FnSums_2 (p0 : Int) (p1 : List (List V)) (p2 : Nat) (p3 : Bool) (p4 : Nat) (p5 : Bool) (p6 : Nat) (p7 : Bool) (p8 : Nat) (p9 : Bool) (p10 : Nat) (p11 : Bool) (p12 : List V) (p13 : List V) (u0 : Int) (u1 : Int) (u2 : Int) : Bool := (L_w_FnSums_2 p0 p1 p2 p3 p4 p5 p6 p7 p8 p9 p10 p11 p12 p13 FUEL u0 u1 u2).isSome
def S_L_w_FnSums_2 : FuncId → Option Summ := fun _ => none
noncomputable def E_L_w_FnSums_2 : Env := ⟨Try.prog, S_L_w_FnSums_2, fun _ _ => [], fun _ _ => [], fun _ _ => [], 100, fun _ _ => none⟩
theorem sok_L_w_FnSums_2 : SOK E_L_w_FnSums_2 := fun _ _ h => by cases h
theorem lok_L_w_FnSums_2 : LOK E_L_w_FnSums_2 := noLoops rfl
set_option maxRecDepth 100000 in
theorem turn_w_FnSums_2 {α : Type} (p0 : Int) (p1 : List (List V)) (p2 : Nat) (p3 : Bool) (p4 : Nat) (p5 : Bool) (p6 : Nat) (p7 : Bool) (p8 : Nat) (p9 : Bool) (p10 : Nat) (p11 : Bool) (p12 : List V) (p13 : List V) (u0 : Int) (u1 : Int) (u2 : Int) (Kn : St → Option α) (Ke : Cont α) : exec E_L_w_FnSums_2 (callN E_L_w_FnSums_2 4) 5 (loopAt Try.prog 5 1).1 (loopAt Try.prog 5 1).2.2 2 ⟨[(5, (.int .i64 p0)), (21, (.sl 1 p1)), (22, (.flt .f32 p2)), (23, (.bool p3)), (24, (.flt .f32 p4)), (25, (.bool p5)), (26, (.flt .f32 p6)), (27, (.bool p7)), (28, (.flt .f32 p8)), (29, (.bool p9)), (30, (.flt .f32 p10)), (31, (.bool p11)), (32, (.int .i64 u0)), (33, (.int .i64 u1)), (34, (.int .i64 u2))], [(1, some p12), (3, some p13)], 4, [1, 3]⟩ (loopK 4 [5, 21, 22, 23, 24, 25, 26, 27, 28, 29, 30, 31, 32, 33, 34] [22, 23, 24, 25, 26, 27, 28, 29, 30, 31, 32, 33] Kn Ke) = (bif (icmp .lss u2 p0) then (bif (inB u2 (p1).length) then (bif ((getAt ((getAt p1 (Int.toNat u2)).getD []) 0).isSome && (isFl .f32 ((getAt ((getAt p1 (Int.toNat u2)).getD []) 0).getD .und))) then (bif (floatToIntVal .f32 (asF ((getAt ((getAt p1 (Int.toNat u2)).getD []) 0).getD .und)) .i64).isSome then (bif (inB u2 (p1).length) then (bif ((getAt ((getAt p1 (Int.toNat u2)).getD []) 0).isSome && (isFl .f32 ((getAt ((getAt p1 (Int.toNat u2)).getD []) 0).getD .und))) then (bif (floatToIntVal .f32 (asF ((getAt ((getAt p1 (Int.toNat u2)).getD []) 0).getD .und)) .i64).isSome then (bif (inB u2 (p1).length) then (bif ((getAt ((getAt p1 (Int.toNat u2)).getD []) 0).isSome && (isFl .f32 ((getAt ((getAt p1 (Int.toNat u2)).getD []) 0).getD .und))) then (bif (floatToIntVal .f32 (asF ((getAt ((getAt p1 (Int.toNat u2)).getD []) 0).getD .und)) .i64).isSome then Kn ⟨[(5, (.int .i64 p0)), (21, (.sl 1 p1)), (22, (.flt .f32 p2)), (23, (.bool p3)), (24, (.flt .f32 p4)), (25, (.bool p5)), (26, (.flt .f32 p6)), (27, (.bool p7)), (28, (.flt .f32 p8)), (29, (.bool p9)), (30, (.flt .f32 p10)), (31, (.bool p11)), (32, (.int .i64 (IntKind.i64.wrap (u0 + ((floatToIntVal .f32 (asF ((getAt ((getAt p1 (Int.toNat u2)).getD []) 0).getD .und)) .i64).getD 0))))), (33, (.int .i64 (IntKind.i64.wrap (u1 + (IntKind.i64.wrap (((floatToIntVal .f32 (asF ((getAt ((getAt p1 (Int.toNat u2)).getD []) 0).getD .und)) .i64).getD 0) * ((floatToIntVal .f32 (asF ((getAt ((getAt p1 (Int.toNat u2)).getD []) 0).getD .und)) .i64).getD 0))))))), (34, (.int .i64 (IntKind.i64.wrap (u2 + 1))))], [(1, some p12), (3, some p13)], 4, [1, 3]⟩ else none) else none) else none) else none) else none) else none) else none) else none) else none) else Ke (.exit 2) ⟨[(22, (.flt .f32 p2)), (23, (.bool p3)), (24, (.flt .f32 p4)), (25, (.bool p5)), (26, (.flt .f32 p6)), (27, (.bool p7)), (28, (.flt .f32 p8)), (29, (.bool p9)), (30, (.flt .f32 p10)), (31, (.bool p11)), (32, (.int .i64 u0)), (33, (.int .i64 u1))], [(1, some p12), (3, some p13)], 4, [1, 3]⟩) := by kernel_rfl
def fin_w_FnSums_2 {α : Type} (p0 : Int) (p1 : List (List V)) (p2 : Nat) (p3 : Bool) (p4 : Nat) (p5 : Bool) (p6 : Nat) (p7 : Bool) (p8 : Nat) (p9 : Bool) (p10 : Nat) (p11 : Bool) (p12 : List V) (p13 : List V) (K : Cont α) : Option (Int × Int) → Option α
  | none => none
  | some z => K (.exit 2) ⟨[(22, (.flt .f32 p2)), (23, (.bool p3)), (24, (.flt .f32 p4)), (25, (.bool p5)), (26, (.flt .f32 p6)), (27, (.bool p7)), (28, (.flt .f32 p8)), (29, (.bool p9)), (30, (.flt .f32 p10)), (31, (.bool p11)), (32, (.int .i64 z.1)), (33, (.int .i64 z.2))], [(1, some p12), (3, some p13)], 4, [1, 3]⟩
theorem run_w_FnSums_2 {α : Type} (p0 : Int) (p1 : List (List V)) (p2 : Nat) (p3 : Bool) (p4 : Nat) (p5 : Bool) (p6 : Nat) (p7 : Bool) (p8 : Nat) (p9 : Bool) (p10 : Nat) (p11 : Bool) (p12 : List V) (p13 : List V) (K : Cont α) (m : Nat) : ∀ (u0 : Int) (u1 : Int) (u2 : Int), loopN (exec E_L_w_FnSums_2 (callN E_L_w_FnSums_2 4) 5 (loopAt Try.prog 5 1).1 (loopAt Try.prog 5 1).2.2 2) 4 [5, 21, 22, 23, 24, 25, 26, 27, 28, 29, 30, 31, 32, 33, 34] [22, 23, 24, 25, 26, 27, 28, 29, 30, 31, 32, 33] m ⟨[(5, (.int .i64 p0)), (21, (.sl 1 p1)), (22, (.flt .f32 p2)), (23, (.bool p3)), (24, (.flt .f32 p4)), (25, (.bool p5)), (26, (.flt .f32 p6)), (27, (.bool p7)), (28, (.flt .f32 p8)), (29, (.bool p9)), (30, (.flt .f32 p10)), (31, (.bool p11)), (32, (.int .i64 u0)), (33, (.int .i64 u1)), (34, (.int .i64 u2))], [(1, some p12), (3, some p13)], 4, [1, 3]⟩ K = fin_w_FnSums_2 p0 p1 p2 p3 p4 p5 p6 p7 p8 p9 p10 p11 p12 p13 K (L_w_FnSums_2 p0 p1 p2 p3 p4 p5 p6 p7 p8 p9 p10 p11 p12 p13 m u0 u1 u2) := by
  induction m with
  | zero => intros; rfl
  | succ m ih => intro u0 u1 u2; exact (turn_w_FnSums_2 p0 p1 p2 p3 p4 p5 p6 p7 p8 p9 p10 p11 p12 p13 u0 u1 u2 _ K).trans (ite_f (f := fin_w_FnSums_2 p0 p1 p2 p3 p4 p5 p6 p7 p8 p9 p10 p11 p12 p13 K) (chk_f (f := fin_w_FnSums_2 p0 p1 p2 p3 p4 p5 p6 p7 p8 p9 p10 p11 p12 p13 K) rfl (chk_f (f := fin_w_FnSums_2 p0 p1 p2 p3 p4 p5 p6 p7 p8 p9 p10 p11 p12 p13 K) rfl (chk_f (f := fin_w_FnSums_2 p0 p1 p2 p3 p4 p5 p6 p7 p8 p9 p10 p11 p12 p13 K) rfl (chk_f (f := fin_w_FnSums_2 p0 p1 p2 p3 p4 p5 p6 p7 p8 p9 p10 p11 p12 p13 K) rfl (chk_f (f := fin_w_FnSums_2 p0 p1 p2 p3 p4 p5 p6 p7 p8 p9 p10 p11 p12 p13 K) rfl (chk_f (f := fin_w_FnSums_2 p0 p1 p2 p3 p4 p5 p6 p7 p8 p9 p10 p11 p12 p13 K) rfl (chk_f (f := fin_w_FnSums_2 p0 p1 p2 p3 p4 p5 p6 p7 p8 p9 p10 p11 p12 p13 K) rfl (chk_f (f := fin_w_FnSums_2 p0 p1 p2 p3 p4 p5 p6 p7 p8 p9 p10 p11 p12 p13 K) rfl (chk_f (f := fin_w_FnSums_2 p0 p1 p2 p3 p4 p5 p6 p7 p8 p9 p10 p11 p12 p13 K) rfl (ih (IntKind.i64.wrap (u0 + ((floatToIntVal .f32 (asF ((getAt ((getAt p1 (Int.toNat u2)).getD []) 0).getD .und)) .i64).getD 0))) (IntKind.i64.wrap (u1 + (IntKind.i64.wrap (((floatToIntVal .f32 (asF ((getAt ((getAt p1 (Int.toNat u2)).getD []) 0).getD .und)) .i64).getD 0) * ((floatToIntVal .f32 (asF ((getAt ((getAt p1 (Int.toNat u2)).getD []) 0).getD .und)) .i64).getD 0))))) (IntKind.i64.wrap (u2 + 1)))))))))))) rfl)
def lt_w_FnSums_2 : Nat → St → Option LT
  | 4, ⟨[(5, (.int .i64 p0)), (21, (.sl 1 p1)), (22, (.flt .f32 p2)), (23, (.bool p3)), (24, (.flt .f32 p4)), (25, (.bool p5)), (26, (.flt .f32 p6)), (27, (.bool p7)), (28, (.flt .f32 p8)), (29, (.bool p9)), (30, (.flt .f32 p10)), (31, (.bool p11)), (32, (.int .i64 u0)), (33, (.int .i64 u1)), (34, (.int .i64 u2))], [(1, some p12), (3, some p13)], 4, [1, 3]⟩ => some (.chk (K_w_FnSums_2 p0 p1 p2 p3 p4 p5 p6 p7 p8 p9 p10 p11 p12 p13 u0 u1 u2) (.leaf (.exit 2) ⟨[(22, (.flt .f32 p2)), (23, (.bool p3)), (24, (.flt .f32 p4)), (25, (.bool p5)), (26, (.flt .f32 p6)), (27, (.bool p7)), (28, (.flt .f32 p8)), (29, (.bool p9)), (30, (.flt .f32 p10)), (31, (.bool p11)), (32, (.int .i64 (R_w_FnSums_2 p0 p1 p2 p3 p4 p5 p6 p7 p8 p9 p10 p11 p12 p13 u0 u1 u2).1)), (33, (.int .i64 (R_w_FnSums_2 p0 p1 p2 p3 p4 p5 p6 p7 p8 p9 p10 p11 p12 p13 u0 u1 u2).2))], [(1, some p12), (3, some p13)], 4, [1, 3]⟩))
  | _, _ => none
theorem told_w_FnSums_2 : LoopOK Try.prog (loopAt Try.prog 5 1).1 (loopAt Try.prog 5 1).2.2 lt_w_FnSums_2 := by
  refine loop_told (E := E_L_w_FnSums_2) orders names sok_L_w_FnSums_2 lok_L_w_FnSums_2 5 1 4 [5, 21, 22, 23, 24, 25, 26, 27, 28, 29, 30, 31, 32, 33, 34] [22, 23, 24, 25, 26, 27, 28, 29, 30, 31, 32, 33] fun base s t h => ?_
  unfold lt_w_FnSums_2 at h
  split at h
  · cases h
    refine ⟨FUEL, fun α K => (run_w_FnSums_2 _ _ _ _ _ _ _ _ _ _ _ _ _ _ K FUEL _ _ _).trans ?_⟩
    unfold K_w_FnSums_2 R_w_FnSums_2
    cases L_w_FnSums_2 _ _ _ _ _ _ _ _ _ _ _ _ _ _ FUEL _ _ _ <;> rfl
  · cases h

-- loop.example/g01253/laws.FnSums
def g_w_FnSums (x0 : List (List V)) (x1 : List (List V)) : Bool := (bif (g_w_b10Long x0 x1) then true else (bif (!(g_i_SumNumbers (g_s_B10Numbers x0 (g_w_b10At x0 0 20))).2) then false else (bif (!(g_i_DotNumbers (g_s_B10Numbers x0 (g_w_b10At x0 0 20)) (chunk (R_w_FnSums_0 x1 (g_w_b10At x0 0 20) (g_s_B10Numbers x0 (g_w_b10At x0 0 20)) 0 0 0 ([] : List V)).1 1 ((R_w_FnSums_0 x1 (g_w_b10At x0 0 20) (g_s_B10Numbers x0 (g_w_b10At x0 0 20)) 0 0 0 ([] : List V)).2.2.drop 0))).2) then false else (bif (!(g_i_SumPairs (g_s_B10Numbers x0 (g_w_b10At x0 0 20))).2) then false else (bif (!(g_i_SumPairs (((g_s_B10Numbers x0 (g_w_b10At x0 0 20)).take (Int.toNat (IntKind.i64.wrap (Int.tdiv (IntKind.i64.wrap ((g_w_b10At x0 0 20) + 1)) 2)))).drop 0)).2) then false else (bif (!(g_i_SumPairs (((g_s_B10Numbers x0 (g_w_b10At x0 0 20)).take ((g_s_B10Numbers x0 (g_w_b10At x0 0 20))).length).drop (Int.toNat (IntKind.i64.wrap (Int.tdiv (IntKind.i64.wrap ((g_w_b10At x0 0 20) + 1)) 2))))).2) then false else (bif (!(g_s_SameNumber (g_i_SumNumbers (g_s_B10Numbers x0 (g_w_b10At x0 0 20))).1 (R_w_FnSums_0 x1 (g_w_b10At x0 0 20) (g_s_B10Numbers x0 (g_w_b10At x0 0 20)) 0 0 0 ([] : List V)).2.1)) then false else (bif (!(g_s_SameNumber (g_i_DotNumbers (g_s_B10Numbers x0 (g_w_b10At x0 0 20)) (chunk (R_w_FnSums_0 x1 (g_w_b10At x0 0 20) (g_s_B10Numbers x0 (g_w_b10At x0 0 20)) 0 0 0 ([] : List V)).1 1 ((R_w_FnSums_0 x1 (g_w_b10At x0 0 20) (g_s_B10Numbers x0 (g_w_b10At x0 0 20)) 0 0 0 ([] : List V)).2.2.drop 0))).1 (R_w_FnSums_0 x1 (g_w_b10At x0 0 20) (g_s_B10Numbers x0 (g_w_b10At x0 0 20)) 0 0 0 ([] : List V)).2.1)) then false else (bif (icmp .gtr (g_w_b10At x0 0 20) 1) then (bif (!(g_s_SameNumber (g_i_SumPairs (g_s_B10Numbers x0 (g_w_b10At x0 0 20))).1 (fop .add .f32 (g_i_SumPairs (((g_s_B10Numbers x0 (g_w_b10At x0 0 20)).take (Int.toNat (IntKind.i64.wrap (Int.tdiv (IntKind.i64.wrap ((g_w_b10At x0 0 20) + 1)) 2)))).drop 0)).1 (g_i_SumPairs (((g_s_B10Numbers x0 (g_w_b10At x0 0 20)).take ((g_s_B10Numbers x0 (g_w_b10At x0 0 20))).length).drop (Int.toNat (IntKind.i64.wrap (Int.tdiv (IntKind.i64.wrap ((g_w_b10At x0 0 20) + 1)) 2))))).1))) then false else (bif (g_i_SumNumbers (g_s_B10Whole x1 (g_w_b10At x0 0 20) 100)).2 then (bif (g_i_SumPairs (g_s_B10Whole x1 (g_w_b10At x0 0 20) 100)).2 then (bif (g_i_SumPairs (chunk (0 + ((g_s_B10Whole x1 (g_w_b10At x0 0 20) 100)).length) 1 (([] ++ ((g_s_B10Whole x1 (g_w_b10At x0 0 20) 100)).flatten).drop 0))).2 then (bif (g_i_DotNumbers (g_s_B10Whole x1 (g_w_b10At x0 0 20) 100) (g_s_B10Whole x1 (g_w_b10At x0 0 20) 100)).2 then (bif (g_i_DotWide (g_s_B10Whole x1 (g_w_b10At x0 0 20) 100) (g_s_B10Whole x1 (g_w_b10At x0 0 20) 100)).2 then (bif (fcmp .eql .f32 (g_i_SumNumbers (g_s_B10Whole x1 (g_w_b10At x0 0 20) 100)).1 (FloatKind.f32.nearest (R_w_FnSums_2 (g_w_b10At x0 0 20) (g_s_B10Whole x1 (g_w_b10At x0 0 20) 100) (g_i_SumNumbers (g_s_B10Whole x1 (g_w_b10At x0 0 20) 100)).1 (g_i_SumNumbers (g_s_B10Whole x1 (g_w_b10At x0 0 20) 100)).2 (g_i_SumPairs (g_s_B10Whole x1 (g_w_b10At x0 0 20) 100)).1 (g_i_SumPairs (g_s_B10Whole x1 (g_w_b10At x0 0 20) 100)).2 (g_i_SumPairs (chunk (0 + ((g_s_B10Whole x1 (g_w_b10At x0 0 20) 100)).length) 1 (([] ++ ((g_s_B10Whole x1 (g_w_b10At x0 0 20) 100)).flatten).drop 0))).1 (g_i_SumPairs (chunk (0 + ((g_s_B10Whole x1 (g_w_b10At x0 0 20) 100)).length) 1 (([] ++ ((g_s_B10Whole x1 (g_w_b10At x0 0 20) 100)).flatten).drop 0))).2 (g_i_DotNumbers (g_s_B10Whole x1 (g_w_b10At x0 0 20) 100) (g_s_B10Whole x1 (g_w_b10At x0 0 20) 100)).1 (g_i_DotNumbers (g_s_B10Whole x1 (g_w_b10At x0 0 20) 100) (g_s_B10Whole x1 (g_w_b10At x0 0 20) 100)).2 (g_i_DotWide (g_s_B10Whole x1 (g_w_b10At x0 0 20) 100) (g_s_B10Whole x1 (g_w_b10At x0 0 20) 100)).1 (g_i_DotWide (g_s_B10Whole x1 (g_w_b10At x0 0 20) 100) (g_s_B10Whole x1 (g_w_b10At x0 0 20) 100)).2 (R_w_FnSums_0 x1 (g_w_b10At x0 0 20) (g_s_B10Numbers x0 (g_w_b10At x0 0 20)) 0 0 0 ([] : List V)).2.2 ([] ++ ((g_s_B10Whole x1 (g_w_b10At x0 0 20) 100)).flatten) 0 0 0).1)) then (bif (fcmp .eql .f32 (g_i_SumPairs (g_s_B10Whole x1 (g_w_b10At x0 0 20) 100)).1 (g_i_SumNumbers (g_s_B10Whole x1 (g_w_b10At x0 0 20) 100)).1) then (bif (fcmp .eql .f32 (g_i_SumPairs (chunk (0 + ((g_s_B10Whole x1 (g_w_b10At x0 0 20) 100)).length) 1 (([] ++ ((g_s_B10Whole x1 (g_w_b10At x0 0 20) 100)).flatten).drop 0))).1 (g_i_SumNumbers (g_s_B10Whole x1 (g_w_b10At x0 0 20) 100)).1) then (bif (fcmp .eql .f32 (g_i_DotNumbers (g_s_B10Whole x1 (g_w_b10At x0 0 20) 100) (g_s_B10Whole x1 (g_w_b10At x0 0 20) 100)).1 (FloatKind.f32.nearest (R_w_FnSums_2 (g_w_b10At x0 0 20) (g_s_B10Whole x1 (g_w_b10At x0 0 20) 100) (g_i_SumNumbers (g_s_B10Whole x1 (g_w_b10At x0 0 20) 100)).1 (g_i_SumNumbers (g_s_B10Whole x1 (g_w_b10At x0 0 20) 100)).2 (g_i_SumPairs (g_s_B10Whole x1 (g_w_b10At x0 0 20) 100)).1 (g_i_SumPairs (g_s_B10Whole x1 (g_w_b10At x0 0 20) 100)).2 (g_i_SumPairs (chunk (0 + ((g_s_B10Whole x1 (g_w_b10At x0 0 20) 100)).length) 1 (([] ++ ((g_s_B10Whole x1 (g_w_b10At x0 0 20) 100)).flatten).drop 0))).1 (g_i_SumPairs (chunk (0 + ((g_s_B10Whole x1 (g_w_b10At x0 0 20) 100)).length) 1 (([] ++ ((g_s_B10Whole x1 (g_w_b10At x0 0 20) 100)).flatten).drop 0))).2 (g_i_DotNumbers (g_s_B10Whole x1 (g_w_b10At x0 0 20) 100) (g_s_B10Whole x1 (g_w_b10At x0 0 20) 100)).1 (g_i_DotNumbers (g_s_B10Whole x1 (g_w_b10At x0 0 20) 100) (g_s_B10Whole x1 (g_w_b10At x0 0 20) 100)).2 (g_i_DotWide (g_s_B10Whole x1 (g_w_b10At x0 0 20) 100) (g_s_B10Whole x1 (g_w_b10At x0 0 20) 100)).1 (g_i_DotWide (g_s_B10Whole x1 (g_w_b10At x0 0 20) 100) (g_s_B10Whole x1 (g_w_b10At x0 0 20) 100)).2 (R_w_FnSums_0 x1 (g_w_b10At x0 0 20) (g_s_B10Numbers x0 (g_w_b10At x0 0 20)) 0 0 0 ([] : List V)).2.2 ([] ++ ((g_s_B10Whole x1 (g_w_b10At x0 0 20) 100)).flatten) 0 0 0).2)) then (fcmp .eql .f32 (g_i_DotWide (g_s_B10Whole x1 (g_w_b10At x0 0 20) 100) (g_s_B10Whole x1 (g_w_b10At x0 0 20) 100)).1 (g_i_DotNumbers (g_s_B10Whole x1 (g_w_b10At x0 0 20) 100) (g_s_B10Whole x1 (g_w_b10At x0 0 20) 100)).1) else false) else false) else false) else false) else false) else false) else false) else false) else false)) else (bif (g_i_SumNumbers (g_s_B10Whole x1 (g_w_b10At x0 0 20) 100)).2 then (bif (g_i_SumPairs (g_s_B10Whole x1 (g_w_b10At x0 0 20) 100)).2 then (bif (g_i_SumPairs (chunk (0 + ((g_s_B10Whole x1 (g_w_b10At x0 0 20) 100)).length) 1 (([] ++ ((g_s_B10Whole x1 (g_w_b10At x0 0 20) 100)).flatten).drop 0))).2 then (bif (g_i_DotNumbers (g_s_B10Whole x1 (g_w_b10At x0 0 20) 100) (g_s_B10Whole x1 (g_w_b10At x0 0 20) 100)).2 then (bif (g_i_DotWide (g_s_B10Whole x1 (g_w_b10At x0 0 20) 100) (g_s_B10Whole x1 (g_w_b10At x0 0 20) 100)).2 then (bif (fcmp .eql .f32 (g_i_SumNumbers (g_s_B10Whole x1 (g_w_b10At x0 0 20) 100)).1 (FloatKind.f32.nearest (R_w_FnSums_2 (g_w_b10At x0 0 20) (g_s_B10Whole x1 (g_w_b10At x0 0 20) 100) (g_i_SumNumbers (g_s_B10Whole x1 (g_w_b10At x0 0 20) 100)).1 (g_i_SumNumbers (g_s_B10Whole x1 (g_w_b10At x0 0 20) 100)).2 (g_i_SumPairs (g_s_B10Whole x1 (g_w_b10At x0 0 20) 100)).1 (g_i_SumPairs (g_s_B10Whole x1 (g_w_b10At x0 0 20) 100)).2 (g_i_SumPairs (chunk (0 + ((g_s_B10Whole x1 (g_w_b10At x0 0 20) 100)).length) 1 (([] ++ ((g_s_B10Whole x1 (g_w_b10At x0 0 20) 100)).flatten).drop 0))).1 (g_i_SumPairs (chunk (0 + ((g_s_B10Whole x1 (g_w_b10At x0 0 20) 100)).length) 1 (([] ++ ((g_s_B10Whole x1 (g_w_b10At x0 0 20) 100)).flatten).drop 0))).2 (g_i_DotNumbers (g_s_B10Whole x1 (g_w_b10At x0 0 20) 100) (g_s_B10Whole x1 (g_w_b10At x0 0 20) 100)).1 (g_i_DotNumbers (g_s_B10Whole x1 (g_w_b10At x0 0 20) 100) (g_s_B10Whole x1 (g_w_b10At x0 0 20) 100)).2 (g_i_DotWide (g_s_B10Whole x1 (g_w_b10At x0 0 20) 100) (g_s_B10Whole x1 (g_w_b10At x0 0 20) 100)).1 (g_i_DotWide (g_s_B10Whole x1 (g_w_b10At x0 0 20) 100) (g_s_B10Whole x1 (g_w_b10At x0 0 20) 100)).2 (R_w_FnSums_0 x1 (g_w_b10At x0 0 20) (g_s_B10Numbers x0 (g_w_b10At x0 0 20)) 0 0 0 ([] : List V)).2.2 ([] ++ ((g_s_B10Whole x1 (g_w_b10At x0 0 20) 100)).flatten) 0 0 0).1)) then (bif (fcmp .eql .f32 (g_i_SumPairs (g_s_B10Whole x1 (g_w_b10At x0 0 20) 100)).1 (g_i_SumNumbers (g_s_B10Whole x1 (g_w_b10At x0 0 20) 100)).1) then (bif (fcmp .eql .f32 (g_i_SumPairs (chunk (0 + ((g_s_B10Whole x1 (g_w_b10At x0 0 20) 100)).length) 1 (([] ++ ((g_s_B10Whole x1 (g_w_b10At x0 0 20) 100)).flatten).drop 0))).1 (g_i_SumNumbers (g_s_B10Whole x1 (g_w_b10At x0 0 20) 100)).1) then (bif (fcmp .eql .f32 (g_i_DotNumbers (g_s_B10Whole x1 (g_w_b10At x0 0 20) 100) (g_s_B10Whole x1 (g_w_b10At x0 0 20) 100)).1 (FloatKind.f32.nearest (R_w_FnSums_2 (g_w_b10At x0 0 20) (g_s_B10Whole x1 (g_w_b10At x0 0 20) 100) (g_i_SumNumbers (g_s_B10Whole x1 (g_w_b10At x0 0 20) 100)).1 (g_i_SumNumbers (g_s_B10Whole x1 (g_w_b10At x0 0 20) 100)).2 (g_i_SumPairs (g_s_B10Whole x1 (g_w_b10At x0 0 20) 100)).1 (g_i_SumPairs (g_s_B10Whole x1 (g_w_b10At x0 0 20) 100)).2 (g_i_SumPairs (chunk (0 + ((g_s_B10Whole x1 (g_w_b10At x0 0 20) 100)).length) 1 (([] ++ ((g_s_B10Whole x1 (g_w_b10At x0 0 20) 100)).flatten).drop 0))).1 (g_i_SumPairs (chunk (0 + ((g_s_B10Whole x1 (g_w_b10At x0 0 20) 100)).length) 1 (([] ++ ((g_s_B10Whole x1 (g_w_b10At x0 0 20) 100)).flatten).drop 0))).2 (g_i_DotNumbers (g_s_B10Whole x1 (g_w_b10At x0 0 20) 100) (g_s_B10Whole x1 (g_w_b10At x0 0 20) 100)).1 (g_i_DotNumbers (g_s_B10Whole x1 (g_w_b10At x0 0 20) 100) (g_s_B10Whole x1 (g_w_b10At x0 0 20) 100)).2 (g_i_DotWide (g_s_B10Whole x1 (g_w_b10At x0 0 20) 100) (g_s_B10Whole x1 (g_w_b10At x0 0 20) 100)).1 (g_i_DotWide (g_s_B10Whole x1 (g_w_b10At x0 0 20) 100) (g_s_B10Whole x1 (g_w_b10At x0 0 20) 100)).2 (R_w_FnSums_0 x1 (g_w_b10At x0 0 20) (g_s_B10Numbers x0 (g_w_b10At x0 0 20)) 0 0 0 ([] : List V)).2.2 ([] ++ ((g_s_B10Whole x1 (g_w_b10At x0 0 20) 100)).flatten) 0 0 0).2)) then (fcmp .eql .f32 (g_i_DotWide (g_s_B10Whole x1 (g_w_b10At x0 0 20) 100) (g_s_B10Whole x1 (g_w_b10At x0 0 20) 100)).1 (g_i_DotNumbers (g_s_B10Whole x1 (g_w_b10At x0 0 20) 100) (g_s_B10Whole x1 (g_w_b10At x0 0 20) 100)).1) else false) else false) else false) else false) else false) else false) else false) else false) else false))))))))))
def ok_w_FnSums (x0 : List (List V)) (x1 : List (List V)) : Bool := (bif (g_w_b10Long x0 x1) then true else ((ok_w_b10At x0 0 20) && ((ok_s_B10Numbers x0 (g_w_b10At x0 0 20)) && ((K_w_FnSums_0 x1 (g_w_b10At x0 0 20) (g_s_B10Numbers x0 (g_w_b10At x0 0 20)) 0 0 0 ([] : List V)) && ((ok_i_SumNumbers (g_s_B10Numbers x0 (g_w_b10At x0 0 20))) && ((ok_i_DotNumbers (g_s_B10Numbers x0 (g_w_b10At x0 0 20)) (chunk (R_w_FnSums_0 x1 (g_w_b10At x0 0 20) (g_s_B10Numbers x0 (g_w_b10At x0 0 20)) 0 0 0 ([] : List V)).1 1 ((R_w_FnSums_0 x1 (g_w_b10At x0 0 20) (g_s_B10Numbers x0 (g_w_b10At x0 0 20)) 0 0 0 ([] : List V)).2.2.drop 0))) && ((ok_i_SumPairs (g_s_B10Numbers x0 (g_w_b10At x0 0 20))) && (((inB (IntKind.i64.wrap (Int.tdiv (IntKind.i64.wrap ((g_w_b10At x0 0 20) + 1)) 2)) (((g_s_B10Numbers x0 (g_w_b10At x0 0 20))).length + 1)) && true) && ((ok_i_SumPairs (((g_s_B10Numbers x0 (g_w_b10At x0 0 20)).take (Int.toNat (IntKind.i64.wrap (Int.tdiv (IntKind.i64.wrap ((g_w_b10At x0 0 20) + 1)) 2)))).drop 0)) && ((inB (IntKind.i64.wrap (Int.tdiv (IntKind.i64.wrap ((g_w_b10At x0 0 20) + 1)) 2)) (((g_s_B10Numbers x0 (g_w_b10At x0 0 20))).length + 1)) && ((ok_i_SumPairs (((g_s_B10Numbers x0 (g_w_b10At x0 0 20)).take ((g_s_B10Numbers x0 (g_w_b10At x0 0 20))).length).drop (Int.toNat (IntKind.i64.wrap (Int.tdiv (IntKind.i64.wrap ((g_w_b10At x0 0 20) + 1)) 2))))) && (bif (!(g_i_SumNumbers (g_s_B10Numbers x0 (g_w_b10At x0 0 20))).2) then true else (bif (!(g_i_DotNumbers (g_s_B10Numbers x0 (g_w_b10At x0 0 20)) (chunk (R_w_FnSums_0 x1 (g_w_b10At x0 0 20) (g_s_B10Numbers x0 (g_w_b10At x0 0 20)) 0 0 0 ([] : List V)).1 1 ((R_w_FnSums_0 x1 (g_w_b10At x0 0 20) (g_s_B10Numbers x0 (g_w_b10At x0 0 20)) 0 0 0 ([] : List V)).2.2.drop 0))).2) then true else (bif (!(g_i_SumPairs (g_s_B10Numbers x0 (g_w_b10At x0 0 20))).2) then true else (bif (!(g_i_SumPairs (((g_s_B10Numbers x0 (g_w_b10At x0 0 20)).take (Int.toNat (IntKind.i64.wrap (Int.tdiv (IntKind.i64.wrap ((g_w_b10At x0 0 20) + 1)) 2)))).drop 0)).2) then true else (bif (!(g_i_SumPairs (((g_s_B10Numbers x0 (g_w_b10At x0 0 20)).take ((g_s_B10Numbers x0 (g_w_b10At x0 0 20))).length).drop (Int.toNat (IntKind.i64.wrap (Int.tdiv (IntKind.i64.wrap ((g_w_b10At x0 0 20) + 1)) 2))))).2) then true else ((ok_s_SameNumber (g_i_SumNumbers (g_s_B10Numbers x0 (g_w_b10At x0 0 20))).1 (R_w_FnSums_0 x1 (g_w_b10At x0 0 20) (g_s_B10Numbers x0 (g_w_b10At x0 0 20)) 0 0 0 ([] : List V)).2.1) && (bif (!(g_s_SameNumber (g_i_SumNumbers (g_s_B10Numbers x0 (g_w_b10At x0 0 20))).1 (R_w_FnSums_0 x1 (g_w_b10At x0 0 20) (g_s_B10Numbers x0 (g_w_b10At x0 0 20)) 0 0 0 ([] : List V)).2.1)) then true else ((ok_s_SameNumber (g_i_DotNumbers (g_s_B10Numbers x0 (g_w_b10At x0 0 20)) (chunk (R_w_FnSums_0 x1 (g_w_b10At x0 0 20) (g_s_B10Numbers x0 (g_w_b10At x0 0 20)) 0 0 0 ([] : List V)).1 1 ((R_w_FnSums_0 x1 (g_w_b10At x0 0 20) (g_s_B10Numbers x0 (g_w_b10At x0 0 20)) 0 0 0 ([] : List V)).2.2.drop 0))).1 (R_w_FnSums_0 x1 (g_w_b10At x0 0 20) (g_s_B10Numbers x0 (g_w_b10At x0 0 20)) 0 0 0 ([] : List V)).2.1) && (bif (!(g_s_SameNumber (g_i_DotNumbers (g_s_B10Numbers x0 (g_w_b10At x0 0 20)) (chunk (R_w_FnSums_0 x1 (g_w_b10At x0 0 20) (g_s_B10Numbers x0 (g_w_b10At x0 0 20)) 0 0 0 ([] : List V)).1 1 ((R_w_FnSums_0 x1 (g_w_b10At x0 0 20) (g_s_B10Numbers x0 (g_w_b10At x0 0 20)) 0 0 0 ([] : List V)).2.2.drop 0))).1 (R_w_FnSums_0 x1 (g_w_b10At x0 0 20) (g_s_B10Numbers x0 (g_w_b10At x0 0 20)) 0 0 0 ([] : List V)).2.1)) then true else (bif (icmp .gtr (g_w_b10At x0 0 20) 1) then ((ok_s_SameNumber (g_i_SumPairs (g_s_B10Numbers x0 (g_w_b10At x0 0 20))).1 (fop .add .f32 (g_i_SumPairs (((g_s_B10Numbers x0 (g_w_b10At x0 0 20)).take (Int.toNat (IntKind.i64.wrap (Int.tdiv (IntKind.i64.wrap ((g_w_b10At x0 0 20) + 1)) 2)))).drop 0)).1 (g_i_SumPairs (((g_s_B10Numbers x0 (g_w_b10At x0 0 20)).take ((g_s_B10Numbers x0 (g_w_b10At x0 0 20))).length).drop (Int.toNat (IntKind.i64.wrap (Int.tdiv (IntKind.i64.wrap ((g_w_b10At x0 0 20) + 1)) 2))))).1)) && (bif (!(g_s_SameNumber (g_i_SumPairs (g_s_B10Numbers x0 (g_w_b10At x0 0 20))).1 (fop .add .f32 (g_i_SumPairs (((g_s_B10Numbers x0 (g_w_b10At x0 0 20)).take (Int.toNat (IntKind.i64.wrap (Int.tdiv (IntKind.i64.wrap ((g_w_b10At x0 0 20) + 1)) 2)))).drop 0)).1 (g_i_SumPairs (((g_s_B10Numbers x0 (g_w_b10At x0 0 20)).take ((g_s_B10Numbers x0 (g_w_b10At x0 0 20))).length).drop (Int.toNat (IntKind.i64.wrap (Int.tdiv (IntKind.i64.wrap ((g_w_b10At x0 0 20) + 1)) 2))))).1))) then true else ((ok_s_B10Whole x1 (g_w_b10At x0 0 20) 100) && ((ok_i_SumNumbers (g_s_B10Whole x1 (g_w_b10At x0 0 20) 100)) && ((ok_i_SumPairs (g_s_B10Whole x1 (g_w_b10At x0 0 20) 100)) && ((Nat.ble (0 + ((g_s_B10Whole x1 (g_w_b10At x0 0 20) 100)).length) 4294967296) && ((ok_i_SumPairs (chunk (0 + ((g_s_B10Whole x1 (g_w_b10At x0 0 20) 100)).length) 1 (([] ++ ((g_s_B10Whole x1 (g_w_b10At x0 0 20) 100)).flatten).drop 0))) && ((ok_i_DotNumbers (g_s_B10Whole x1 (g_w_b10At x0 0 20) 100) (g_s_B10Whole x1 (g_w_b10At x0 0 20) 100)) && ((ok_i_DotWide (g_s_B10Whole x1 (g_w_b10At x0 0 20) 100) (g_s_B10Whole x1 (g_w_b10At x0 0 20) 100)) && ((K_w_FnSums_2 (g_w_b10At x0 0 20) (g_s_B10Whole x1 (g_w_b10At x0 0 20) 100) (g_i_SumNumbers (g_s_B10Whole x1 (g_w_b10At x0 0 20) 100)).1 (g_i_SumNumbers (g_s_B10Whole x1 (g_w_b10At x0 0 20) 100)).2 (g_i_SumPairs (g_s_B10Whole x1 (g_w_b10At x0 0 20) 100)).1 (g_i_SumPairs (g_s_B10Whole x1 (g_w_b10At x0 0 20) 100)).2 (g_i_SumPairs (chunk (0 + ((g_s_B10Whole x1 (g_w_b10At x0 0 20) 100)).length) 1 (([] ++ ((g_s_B10Whole x1 (g_w_b10At x0 0 20) 100)).flatten).drop 0))).1 (g_i_SumPairs (chunk (0 + ((g_s_B10Whole x1 (g_w_b10At x0 0 20) 100)).length) 1 (([] ++ ((g_s_B10Whole x1 (g_w_b10At x0 0 20) 100)).flatten).drop 0))).2 (g_i_DotNumbers (g_s_B10Whole x1 (g_w_b10At x0 0 20) 100) (g_s_B10Whole x1 (g_w_b10At x0 0 20) 100)).1 (g_i_DotNumbers (g_s_B10Whole x1 (g_w_b10At x0 0 20) 100) (g_s_B10Whole x1 (g_w_b10At x0 0 20) 100)).2 (g_i_DotWide (g_s_B10Whole x1 (g_w_b10At x0 0 20) 100) (g_s_B10Whole x1 (g_w_b10At x0 0 20) 100)).1 (g_i_DotWide (g_s_B10Whole x1 (g_w_b10At x0 0 20) 100) (g_s_B10Whole x1 (g_w_b10At x0 0 20) 100)).2 (R_w_FnSums_0 x1 (g_w_b10At x0 0 20) (g_s_B10Numbers x0 (g_w_b10At x0 0 20)) 0 0 0 ([] : List V)).2.2 ([] ++ ((g_s_B10Whole x1 (g_w_b10At x0 0 20) 100)).flatten) 0 0 0))))))))))) else ((ok_s_B10Whole x1 (g_w_b10At x0 0 20) 100) && ((ok_i_SumNumbers (g_s_B10Whole x1 (g_w_b10At x0 0 20) 100)) && ((ok_i_SumPairs (g_s_B10Whole x1 (g_w_b10At x0 0 20) 100)) && ((Nat.ble (0 + ((g_s_B10Whole x1 (g_w_b10At x0 0 20) 100)).length) 4294967296) && ((ok_i_SumPairs (chunk (0 + ((g_s_B10Whole x1 (g_w_b10At x0 0 20) 100)).length) 1 (([] ++ ((g_s_B10Whole x1 (g_w_b10At x0 0 20) 100)).flatten).drop 0))) && ((ok_i_DotNumbers (g_s_B10Whole x1 (g_w_b10At x0 0 20) 100) (g_s_B10Whole x1 (g_w_b10At x0 0 20) 100)) && ((ok_i_DotWide (g_s_B10Whole x1 (g_w_b10At x0 0 20) 100) (g_s_B10Whole x1 (g_w_b10At x0 0 20) 100)) && ((K_w_FnSums_2 (g_w_b10At x0 0 20) (g_s_B10Whole x1 (g_w_b10At x0 0 20) 100) (g_i_SumNumbers (g_s_B10Whole x1 (g_w_b10At x0 0 20) 100)).1 (g_i_SumNumbers (g_s_B10Whole x1 (g_w_b10At x0 0 20) 100)).2 (g_i_SumPairs (g_s_B10Whole x1 (g_w_b10At x0 0 20) 100)).1 (g_i_SumPairs (g_s_B10Whole x1 (g_w_b10At x0 0 20) 100)).2 (g_i_SumPairs (chunk (0 + ((g_s_B10Whole x1 (g_w_b10At x0 0 20) 100)).length) 1 (([] ++ ((g_s_B10Whole x1 (g_w_b10At x0 0 20) 100)).flatten).drop 0))).1 (g_i_SumPairs (chunk (0 + ((g_s_B10Whole x1 (g_w_b10At x0 0 20) 100)).length) 1 (([] ++ ((g_s_B10Whole x1 (g_w_b10At x0 0 20) 100)).flatten).drop 0))).2 (g_i_DotNumbers (g_s_B10Whole x1 (g_w_b10At x0 0 20) 100) (g_s_B10Whole x1 (g_w_b10At x0 0 20) 100)).1 (g_i_DotNumbers (g_s_B10Whole x1 (g_w_b10At x0 0 20) 100) (g_s_B10Whole x1 (g_w_b10At x0 0 20) 100)).2 (g_i_DotWide (g_s_B10Whole x1 (g_w_b10At x0 0 20) 100) (g_s_B10Whole x1 (g_w_b10At x0 0 20) 100)).1 (g_i_DotWide (g_s_B10Whole x1 (g_w_b10At x0 0 20) 100) (g_s_B10Whole x1 (g_w_b10At x0 0 20) 100)).2 (R_w_FnSums_0 x1 (g_w_b10At x0 0 20) (g_s_B10Numbers x0 (g_w_b10At x0 0 20)) 0 0 0 ([] : List V)).2.2 ([] ++ ((g_s_B10Whole x1 (g_w_b10At x0 0 20) 100)).flatten) 0 0 0))))))))))))))))))))))))))))))
def r_w_FnSums (p : Bool) : V := (.bool p)
def v_w_FnSums : List V → Option V
  | [(.sl 1 x0), (.sl 1 x1)] => some (r_w_FnSums (g_w_FnSums x0 x1))
  | _ => none
def c_w_FnSums : List V → Bool
  | [(.sl 1 x0), (.sl 1 x1)] => ok_w_FnSums x0 x1
  | _ => false
def s_w_FnSums : Summ := .pureC (fun vs => c_w_FnSums (fixSs [.sl 1, .sl 1] vs)) (fun vs => v_w_FnSums (fixSs [.sl 1, .sl 1] vs))
def S_w_FnSums : FuncId → Option Summ := fun f => match f with
  | 6 => some s_w_b10Long
  | 8 => some s_s_SameNumber
  | 19 => some s_w_b10At
  | 20 => some s_s_B10Numbers
  | 21 => some s_i_SumNumbers
  | 22 => some s_i_DotNumbers
  | 23 => some s_i_SumPairs
  | 24 => some s_s_B10Whole
  | 25 => some s_i_DotWide
  | _ => none
def keep_w_FnSums : FuncId → Nat → List Nat := fun f c => match f, c with
  | 5, 0 => [1, 5, 6, 7, 8, 9]
  | 5, 2 => [5, 21, 22, 23, 24, 25, 26, 27, 28, 29, 30, 31, 32, 33, 34]
  | _, _ => []
def kept_w_FnSums : FuncId → Nat → List Nat := fun f c => match f, c with
  | 5, 0 => [1, 5, 6, 7, 8]
  | 5, 2 => [22, 23, 24, 25, 26, 27, 28, 29, 30, 31, 32, 33]
  | _, _ => []
def move_w_FnSums : FuncId → Nat → List Nat := fun f c => match f, c with
  | 5, 0 => [7]
  | 5, 2 => []
  | _, _ => []
def loops_w_FnSums : FuncId → Nat → Option (Nat → St → Option LT) := fun f c => match f, c with
  | 5, 0 => some lt_w_FnSums_0
  | 5, 2 => some lt_w_FnSums_2
  | _, _ => none
noncomputable def E_w_FnSums : Env := ⟨Try.prog, S_w_FnSums, keep_w_FnSums, kept_w_FnSums, move_w_FnSums, 100, loops_w_FnSums⟩
theorem sok_w_FnSums : SOK E_w_FnSums := by
  intro f s h
  have h : S_w_FnSums f = some s := h
  unfold S_w_FnSums at h
  split at h
  · cases h; exact summ_w_b10Long
  · cases h; exact summ_s_SameNumber
  · cases h; exact summ_w_b10At
  · cases h; exact summ_s_B10Numbers
  · cases h; exact summ_i_SumNumbers
  · cases h; exact summ_i_DotNumbers
  · cases h; exact summ_i_SumPairs
  · cases h; exact summ_s_B10Whole
  · cases h; exact summ_i_DotWide
  · cases h
theorem lok_w_FnSums : LOK E_w_FnSums := by
  intro f fn c hf hc p hp g hg
  change loops_w_FnSums f p.1 = some g at hg
  unfold loops_w_FnSums at hg
  split at hg
  · rename_i hpc; cases hg; exact lok_pick hf hc hp hpc (ids := [0, 2]) (by kernel_rfl) 0 (by rfl) (by decide) told_w_FnSums_0
  · rename_i hpc; cases hg; exact lok_pick hf hc hp hpc (ids := [0, 2]) (by kernel_rfl) 1 (by rfl) (by decide) told_w_FnSums_2
  · cases hg
set_option maxRecDepth 100000 in
theorem tree_w_FnSums (x0 : List (List V)) (x1 : List (List V)) : runPureS E_w_FnSums 4 5 (.any) [(.sl 1 x0), (.sl 1 x1)] = (bif (g_w_b10Long x0 x1) then some (.bool true) else (bif (ok_w_b10At x0 0 20) then (bif (ok_s_B10Numbers x0 (g_w_b10At x0 0 20)) then (bif (K_w_FnSums_0 x1 (g_w_b10At x0 0 20) (g_s_B10Numbers x0 (g_w_b10At x0 0 20)) 0 0 0 ([] : List V)) then (bif (ok_i_SumNumbers (g_s_B10Numbers x0 (g_w_b10At x0 0 20))) then (bif (ok_i_DotNumbers (g_s_B10Numbers x0 (g_w_b10At x0 0 20)) (chunk (R_w_FnSums_0 x1 (g_w_b10At x0 0 20) (g_s_B10Numbers x0 (g_w_b10At x0 0 20)) 0 0 0 ([] : List V)).1 1 ((R_w_FnSums_0 x1 (g_w_b10At x0 0 20) (g_s_B10Numbers x0 (g_w_b10At x0 0 20)) 0 0 0 ([] : List V)).2.2.drop 0))) then (bif (ok_i_SumPairs (g_s_B10Numbers x0 (g_w_b10At x0 0 20))) then (bif ((inB (IntKind.i64.wrap (Int.tdiv (IntKind.i64.wrap ((g_w_b10At x0 0 20) + 1)) 2)) (((g_s_B10Numbers x0 (g_w_b10At x0 0 20))).length + 1)) && true) then (bif (ok_i_SumPairs (((g_s_B10Numbers x0 (g_w_b10At x0 0 20)).take (Int.toNat (IntKind.i64.wrap (Int.tdiv (IntKind.i64.wrap ((g_w_b10At x0 0 20) + 1)) 2)))).drop 0)) then (bif (inB (IntKind.i64.wrap (Int.tdiv (IntKind.i64.wrap ((g_w_b10At x0 0 20) + 1)) 2)) (((g_s_B10Numbers x0 (g_w_b10At x0 0 20))).length + 1)) then (bif (ok_i_SumPairs (((g_s_B10Numbers x0 (g_w_b10At x0 0 20)).take ((g_s_B10Numbers x0 (g_w_b10At x0 0 20))).length).drop (Int.toNat (IntKind.i64.wrap (Int.tdiv (IntKind.i64.wrap ((g_w_b10At x0 0 20) + 1)) 2))))) then (bif (!(g_i_SumNumbers (g_s_B10Numbers x0 (g_w_b10At x0 0 20))).2) then some (.bool false) else (bif (!(g_i_DotNumbers (g_s_B10Numbers x0 (g_w_b10At x0 0 20)) (chunk (R_w_FnSums_0 x1 (g_w_b10At x0 0 20) (g_s_B10Numbers x0 (g_w_b10At x0 0 20)) 0 0 0 ([] : List V)).1 1 ((R_w_FnSums_0 x1 (g_w_b10At x0 0 20) (g_s_B10Numbers x0 (g_w_b10At x0 0 20)) 0 0 0 ([] : List V)).2.2.drop 0))).2) then some (.bool false) else (bif (!(g_i_SumPairs (g_s_B10Numbers x0 (g_w_b10At x0 0 20))).2) then some (.bool false) else (bif (!(g_i_SumPairs (((g_s_B10Numbers x0 (g_w_b10At x0 0 20)).take (Int.toNat (IntKind.i64.wrap (Int.tdiv (IntKind.i64.wrap ((g_w_b10At x0 0 20) + 1)) 2)))).drop 0)).2) then some (.bool false) else (bif (!(g_i_SumPairs (((g_s_B10Numbers x0 (g_w_b10At x0 0 20)).take ((g_s_B10Numbers x0 (g_w_b10At x0 0 20))).length).drop (Int.toNat (IntKind.i64.wrap (Int.tdiv (IntKind.i64.wrap ((g_w_b10At x0 0 20) + 1)) 2))))).2) then some (.bool false) else (bif (ok_s_SameNumber (g_i_SumNumbers (g_s_B10Numbers x0 (g_w_b10At x0 0 20))).1 (R_w_FnSums_0 x1 (g_w_b10At x0 0 20) (g_s_B10Numbers x0 (g_w_b10At x0 0 20)) 0 0 0 ([] : List V)).2.1) then (bif (!(g_s_SameNumber (g_i_SumNumbers (g_s_B10Numbers x0 (g_w_b10At x0 0 20))).1 (R_w_FnSums_0 x1 (g_w_b10At x0 0 20) (g_s_B10Numbers x0 (g_w_b10At x0 0 20)) 0 0 0 ([] : List V)).2.1)) then some (.bool false) else (bif (ok_s_SameNumber (g_i_DotNumbers (g_s_B10Numbers x0 (g_w_b10At x0 0 20)) (chunk (R_w_FnSums_0 x1 (g_w_b10At x0 0 20) (g_s_B10Numbers x0 (g_w_b10At x0 0 20)) 0 0 0 ([] : List V)).1 1 ((R_w_FnSums_0 x1 (g_w_b10At x0 0 20) (g_s_B10Numbers x0 (g_w_b10At x0 0 20)) 0 0 0 ([] : List V)).2.2.drop 0))).1 (R_w_FnSums_0 x1 (g_w_b10At x0 0 20) (g_s_B10Numbers x0 (g_w_b10At x0 0 20)) 0 0 0 ([] : List V)).2.1) then (bif (!(g_s_SameNumber (g_i_DotNumbers (g_s_B10Numbers x0 (g_w_b10At x0 0 20)) (chunk (R_w_FnSums_0 x1 (g_w_b10At x0 0 20) (g_s_B10Numbers x0 (g_w_b10At x0 0 20)) 0 0 0 ([] : List V)).1 1 ((R_w_FnSums_0 x1 (g_w_b10At x0 0 20) (g_s_B10Numbers x0 (g_w_b10At x0 0 20)) 0 0 0 ([] : List V)).2.2.drop 0))).1 (R_w_FnSums_0 x1 (g_w_b10At x0 0 20) (g_s_B10Numbers x0 (g_w_b10At x0 0 20)) 0 0 0 ([] : List V)).2.1)) then some (.bool false) else (bif (icmp .gtr (g_w_b10At x0 0 20) 1) then (bif (ok_s_SameNumber (g_i_SumPairs (g_s_B10Numbers x0 (g_w_b10At x0 0 20))).1 (fop .add .f32 (g_i_SumPairs (((g_s_B10Numbers x0 (g_w_b10At x0 0 20)).take (Int.toNat (IntKind.i64.wrap (Int.tdiv (IntKind.i64.wrap ((g_w_b10At x0 0 20) + 1)) 2)))).drop 0)).1 (g_i_SumPairs (((g_s_B10Numbers x0 (g_w_b10At x0 0 20)).take ((g_s_B10Numbers x0 (g_w_b10At x0 0 20))).length).drop (Int.toNat (IntKind.i64.wrap (Int.tdiv (IntKind.i64.wrap ((g_w_b10At x0 0 20) + 1)) 2))))).1)) then (bif (!(g_s_SameNumber (g_i_SumPairs (g_s_B10Numbers x0 (g_w_b10At x0 0 20))).1 (fop .add .f32 (g_i_SumPairs (((g_s_B10Numbers x0 (g_w_b10At x0 0 20)).take (Int.toNat (IntKind.i64.wrap (Int.tdiv (IntKind.i64.wrap ((g_w_b10At x0 0 20) + 1)) 2)))).drop 0)).1 (g_i_SumPairs (((g_s_B10Numbers x0 (g_w_b10At x0 0 20)).take ((g_s_B10Numbers x0 (g_w_b10At x0 0 20))).length).drop (Int.toNat (IntKind.i64.wrap (Int.tdiv (IntKind.i64.wrap ((g_w_b10At x0 0 20) + 1)) 2))))).1))) then some (.bool false) else (bif (ok_s_B10Whole x1 (g_w_b10At x0 0 20) 100) then (bif (ok_i_SumNumbers (g_s_B10Whole x1 (g_w_b10At x0 0 20) 100)) then (bif (ok_i_SumPairs (g_s_B10Whole x1 (g_w_b10At x0 0 20) 100)) then (bif (Nat.ble (0 + ((g_s_B10Whole x1 (g_w_b10At x0 0 20) 100)).length) 4294967296) then (bif (ok_i_SumPairs (chunk (0 + ((g_s_B10Whole x1 (g_w_b10At x0 0 20) 100)).length) 1 (([] ++ ((g_s_B10Whole x1 (g_w_b10At x0 0 20) 100)).flatten).drop 0))) then (bif (ok_i_DotNumbers (g_s_B10Whole x1 (g_w_b10At x0 0 20) 100) (g_s_B10Whole x1 (g_w_b10At x0 0 20) 100)) then (bif (ok_i_DotWide (g_s_B10Whole x1 (g_w_b10At x0 0 20) 100) (g_s_B10Whole x1 (g_w_b10At x0 0 20) 100)) then (bif (K_w_FnSums_2 (g_w_b10At x0 0 20) (g_s_B10Whole x1 (g_w_b10At x0 0 20) 100) (g_i_SumNumbers (g_s_B10Whole x1 (g_w_b10At x0 0 20) 100)).1 (g_i_SumNumbers (g_s_B10Whole x1 (g_w_b10At x0 0 20) 100)).2 (g_i_SumPairs (g_s_B10Whole x1 (g_w_b10At x0 0 20) 100)).1 (g_i_SumPairs (g_s_B10Whole x1 (g_w_b10At x0 0 20) 100)).2 (g_i_SumPairs (chunk (0 + ((g_s_B10Whole x1 (g_w_b10At x0 0 20) 100)).length) 1 (([] ++ ((g_s_B10Whole x1 (g_w_b10At x0 0 20) 100)).flatten).drop 0))).1 (g_i_SumPairs (chunk (0 + ((g_s_B10Whole x1 (g_w_b10At x0 0 20) 100)).length) 1 (([] ++ ((g_s_B10Whole x1 (g_w_b10At x0 0 20) 100)).flatten).drop 0))).2 (g_i_DotNumbers (g_s_B10Whole x1 (g_w_b10At x0 0 20) 100) (g_s_B10Whole x1 (g_w_b10At x0 0 20) 100)).1 (g_i_DotNumbers (g_s_B10Whole x1 (g_w_b10At x0 0 20) 100) (g_s_B10Whole x1 (g_w_b10At x0 0 20) 100)).2 (g_i_DotWide (g_s_B10Whole x1 (g_w_b10At x0 0 20) 100) (g_s_B10Whole x1 (g_w_b10At x0 0 20) 100)).1 (g_i_DotWide (g_s_B10Whole x1 (g_w_b10At x0 0 20) 100) (g_s_B10Whole x1 (g_w_b10At x0 0 20) 100)).2 (R_w_FnSums_0 x1 (g_w_b10At x0 0 20) (g_s_B10Numbers x0 (g_w_b10At x0 0 20)) 0 0 0 ([] : List V)).2.2 ([] ++ ((g_s_B10Whole x1 (g_w_b10At x0 0 20) 100)).flatten) 0 0 0) then (bif (g_i_SumNumbers (g_s_B10Whole x1 (g_w_b10At x0 0 20) 100)).2 then (bif (g_i_SumPairs (g_s_B10Whole x1 (g_w_b10At x0 0 20) 100)).2 then (bif (g_i_SumPairs (chunk (0 + ((g_s_B10Whole x1 (g_w_b10At x0 0 20) 100)).length) 1 (([] ++ ((g_s_B10Whole x1 (g_w_b10At x0 0 20) 100)).flatten).drop 0))).2 then (bif (g_i_DotNumbers (g_s_B10Whole x1 (g_w_b10At x0 0 20) 100) (g_s_B10Whole x1 (g_w_b10At x0 0 20) 100)).2 then (bif (g_i_DotWide (g_s_B10Whole x1 (g_w_b10At x0 0 20) 100) (g_s_B10Whole x1 (g_w_b10At x0 0 20) 100)).2 then (bif (fcmp .eql .f32 (g_i_SumNumbers (g_s_B10Whole x1 (g_w_b10At x0 0 20) 100)).1 (FloatKind.f32.nearest (R_w_FnSums_2 (g_w_b10At x0 0 20) (g_s_B10Whole x1 (g_w_b10At x0 0 20) 100) (g_i_SumNumbers (g_s_B10Whole x1 (g_w_b10At x0 0 20) 100)).1 (g_i_SumNumbers (g_s_B10Whole x1 (g_w_b10At x0 0 20) 100)).2 (g_i_SumPairs (g_s_B10Whole x1 (g_w_b10At x0 0 20) 100)).1 (g_i_SumPairs (g_s_B10Whole x1 (g_w_b10At x0 0 20) 100)).2 (g_i_SumPairs (chunk (0 + ((g_s_B10Whole x1 (g_w_b10At x0 0 20) 100)).length) 1 (([] ++ ((g_s_B10Whole x1 (g_w_b10At x0 0 20) 100)).flatten).drop 0))).1 (g_i_SumPairs (chunk (0 + ((g_s_B10Whole x1 (g_w_b10At x0 0 20) 100)).length) 1 (([] ++ ((g_s_B10Whole x1 (g_w_b10At x0 0 20) 100)).flatten).drop 0))).2 (g_i_DotNumbers (g_s_B10Whole x1 (g_w_b10At x0 0 20) 100) (g_s_B10Whole x1 (g_w_b10At x0 0 20) 100)).1 (g_i_DotNumbers (g_s_B10Whole x1 (g_w_b10At x0 0 20) 100) (g_s_B10Whole x1 (g_w_b10At x0 0 20) 100)).2 (g_i_DotWide (g_s_B10Whole x1 (g_w_b10At x0 0 20) 100) (g_s_B10Whole x1 (g_w_b10At x0 0 20) 100)).1 (g_i_DotWide (g_s_B10Whole x1 (g_w_b10At x0 0 20) 100) (g_s_B10Whole x1 (g_w_b10At x0 0 20) 100)).2 (R_w_FnSums_0 x1 (g_w_b10At x0 0 20) (g_s_B10Numbers x0 (g_w_b10At x0 0 20)) 0 0 0 ([] : List V)).2.2 ([] ++ ((g_s_B10Whole x1 (g_w_b10At x0 0 20) 100)).flatten) 0 0 0).1)) then (bif (fcmp .eql .f32 (g_i_SumPairs (g_s_B10Whole x1 (g_w_b10At x0 0 20) 100)).1 (g_i_SumNumbers (g_s_B10Whole x1 (g_w_b10At x0 0 20) 100)).1) then (bif (fcmp .eql .f32 (g_i_SumPairs (chunk (0 + ((g_s_B10Whole x1 (g_w_b10At x0 0 20) 100)).length) 1 (([] ++ ((g_s_B10Whole x1 (g_w_b10At x0 0 20) 100)).flatten).drop 0))).1 (g_i_SumNumbers (g_s_B10Whole x1 (g_w_b10At x0 0 20) 100)).1) then (bif (fcmp .eql .f32 (g_i_DotNumbers (g_s_B10Whole x1 (g_w_b10At x0 0 20) 100) (g_s_B10Whole x1 (g_w_b10At x0 0 20) 100)).1 (FloatKind.f32.nearest (R_w_FnSums_2 (g_w_b10At x0 0 20) (g_s_B10Whole x1 (g_w_b10At x0 0 20) 100) (g_i_SumNumbers (g_s_B10Whole x1 (g_w_b10At x0 0 20) 100)).1 (g_i_SumNumbers (g_s_B10Whole x1 (g_w_b10At x0 0 20) 100)).2 (g_i_SumPairs (g_s_B10Whole x1 (g_w_b10At x0 0 20) 100)).1 (g_i_SumPairs (g_s_B10Whole x1 (g_w_b10At x0 0 20) 100)).2 (g_i_SumPairs (chunk (0 + ((g_s_B10Whole x1 (g_w_b10At x0 0 20) 100)).length) 1 (([] ++ ((g_s_B10Whole x1 (g_w_b10At x0 0 20) 100)).flatten).drop 0))).1 (g_i_SumPairs (chunk (0 + ((g_s_B10Whole x1 (g_w_b10At x0 0 20) 100)).length) 1 (([] ++ ((g_s_B10Whole x1 (g_w_b10At x0 0 20) 100)).flatten).drop 0))).2 (g_i_DotNumbers (g_s_B10Whole x1 (g_w_b10At x0 0 20) 100) (g_s_B10Whole x1 (g_w_b10At x0 0 20) 100)).1 (g_i_DotNumbers (g_s_B10Whole x1 (g_w_b10At x0 0 20) 100) (g_s_B10Whole x1 (g_w_b10At x0 0 20) 100)).2 (g_i_DotWide (g_s_B10Whole x1 (g_w_b10At x0 0 20) 100) (g_s_B10Whole x1 (g_w_b10At x0 0 20) 100)).1 (g_i_DotWide (g_s_B10Whole x1 (g_w_b10At x0 0 20) 100) (g_s_B10Whole x1 (g_w_b10At x0 0 20) 100)).2 (R_w_FnSums_0 x1 (g_w_b10At x0 0 20) (g_s_B10Numbers x0 (g_w_b10At x0 0 20)) 0 0 0 ([] : List V)).2.2 ([] ++ ((g_s_B10Whole x1 (g_w_b10At x0 0 20) 100)).flatten) 0 0 0).2)) then some (.bool (fcmp .eql .f32 (g_i_DotWide (g_s_B10Whole x1 (g_w_b10At x0 0 20) 100) (g_s_B10Whole x1 (g_w_b10At x0 0 20) 100)).1 (g_i_DotNumbers (g_s_B10Whole x1 (g_w_b10At x0 0 20) 100) (g_s_B10Whole x1 (g_w_b10At x0 0 20) 100)).1)) else some (.bool false)) else some (.bool false)) else some (.bool false)) else some (.bool false)) else some (.bool false)) else some (.bool false)) else some (.bool false)) else some (.bool false)) else some (.bool false)) else none) else none) else none) else none) else none) else none) else none) else none)) else none) else (bif (ok_s_B10Whole x1 (g_w_b10At x0 0 20) 100) then (bif (ok_i_SumNumbers (g_s_B10Whole x1 (g_w_b10At x0 0 20) 100)) then (bif (ok_i_SumPairs (g_s_B10Whole x1 (g_w_b10At x0 0 20) 100)) then (bif (Nat.ble (0 + ((g_s_B10Whole x1 (g_w_b10At x0 0 20) 100)).length) 4294967296) then (bif (ok_i_SumPairs (chunk (0 + ((g_s_B10Whole x1 (g_w_b10At x0 0 20) 100)).length) 1 (([] ++ ((g_s_B10Whole x1 (g_w_b10At x0 0 20) 100)).flatten).drop 0))) then (bif (ok_i_DotNumbers (g_s_B10Whole x1 (g_w_b10At x0 0 20) 100) (g_s_B10Whole x1 (g_w_b10At x0 0 20) 100)) then (bif (ok_i_DotWide (g_s_B10Whole x1 (g_w_b10At x0 0 20) 100) (g_s_B10Whole x1 (g_w_b10At x0 0 20) 100)) then (bif (K_w_FnSums_2 (g_w_b10At x0 0 20) (g_s_B10Whole x1 (g_w_b10At x0 0 20) 100) (g_i_SumNumbers (g_s_B10Whole x1 (g_w_b10At x0 0 20) 100)).1 (g_i_SumNumbers (g_s_B10Whole x1 (g_w_b10At x0 0 20) 100)).2 (g_i_SumPairs (g_s_B10Whole x1 (g_w_b10At x0 0 20) 100)).1 (g_i_SumPairs (g_s_B10Whole x1 (g_w_b10At x0 0 20) 100)).2 (g_i_SumPairs (chunk (0 + ((g_s_B10Whole x1 (g_w_b10At x0 0 20) 100)).length) 1 (([] ++ ((g_s_B10Whole x1 (g_w_b10At x0 0 20) 100)).flatten).drop 0))).1 (g_i_SumPairs (chunk (0 + ((g_s_B10Whole x1 (g_w_b10At x0 0 20) 100)).length) 1 (([] ++ ((g_s_B10Whole x1 (g_w_b10At x0 0 20) 100)).flatten).drop 0))).2 (g_i_DotNumbers (g_s_B10Whole x1 (g_w_b10At x0 0 20) 100) (g_s_B10Whole x1 (g_w_b10At x0 0 20) 100)).1 (g_i_DotNumbers (g_s_B10Whole x1 (g_w_b10At x0 0 20) 100) (g_s_B10Whole x1 (g_w_b10At x0 0 20) 100)).2 (g_i_DotWide (g_s_B10Whole x1 (g_w_b10At x0 0 20) 100) (g_s_B10Whole x1 (g_w_b10At x0 0 20) 100)).1 (g_i_DotWide (g_s_B10Whole x1 (g_w_b10At x0 0 20) 100) (g_s_B10Whole x1 (g_w_b10At x0 0 20) 100)).2 (R_w_FnSums_0 x1 (g_w_b10At x0 0 20) (g_s_B10Numbers x0 (g_w_b10At x0 0 20)) 0 0 0 ([] : List V)).2.2 ([] ++ ((g_s_B10Whole x1 (g_w_b10At x0 0 20) 100)).flatten) 0 0 0) then (bif (g_i_SumNumbers (g_s_B10Whole x1 (g_w_b10At x0 0 20) 100)).2 then (bif (g_i_SumPairs (g_s_B10Whole x1 (g_w_b10At x0 0 20) 100)).2 then (bif (g_i_SumPairs (chunk (0 + ((g_s_B10Whole x1 (g_w_b10At x0 0 20) 100)).length) 1 (([] ++ ((g_s_B10Whole x1 (g_w_b10At x0 0 20) 100)).flatten).drop 0))).2 then (bif (g_i_DotNumbers (g_s_B10Whole x1 (g_w_b10At x0 0 20) 100) (g_s_B10Whole x1 (g_w_b10At x0 0 20) 100)).2 then (bif (g_i_DotWide (g_s_B10Whole x1 (g_w_b10At x0 0 20) 100) (g_s_B10Whole x1 (g_w_b10At x0 0 20) 100)).2 then (bif (fcmp .eql .f32 (g_i_SumNumbers (g_s_B10Whole x1 (g_w_b10At x0 0 20) 100)).1 (FloatKind.f32.nearest (R_w_FnSums_2 (g_w_b10At x0 0 20) (g_s_B10Whole x1 (g_w_b10At x0 0 20) 100) (g_i_SumNumbers (g_s_B10Whole x1 (g_w_b10At x0 0 20) 100)).1 (g_i_SumNumbers (g_s_B10Whole x1 (g_w_b10At x0 0 20) 100)).2 (g_i_SumPairs (g_s_B10Whole x1 (g_w_b10At x0 0 20) 100)).1 (g_i_SumPairs (g_s_B10Whole x1 (g_w_b10At x0 0 20) 100)).2 (g_i_SumPairs (chunk (0 + ((g_s_B10Whole x1 (g_w_b10At x0 0 20) 100)).length) 1 (([] ++ ((g_s_B10Whole x1 (g_w_b10At x0 0 20) 100)).flatten).drop 0))).1 (g_i_SumPairs (chunk (0 + ((g_s_B10Whole x1 (g_w_b10At x0 0 20) 100)).length) 1 (([] ++ ((g_s_B10Whole x1 (g_w_b10At x0 0 20) 100)).flatten).drop 0))).2 (g_i_DotNumbers (g_s_B10Whole x1 (g_w_b10At x0 0 20) 100) (g_s_B10Whole x1 (g_w_b10At x0 0 20) 100)).1 (g_i_DotNumbers (g_s_B10Whole x1 (g_w_b10At x0 0 20) 100) (g_s_B10Whole x1 (g_w_b10At x0 0 20) 100)).2 (g_i_DotWide (g_s_B10Whole x1 (g_w_b10At x0 0 20) 100) (g_s_B10Whole x1 (g_w_b10At x0 0 20) 100)).1 (g_i_DotWide (g_s_B10Whole x1 (g_w_b10At x0 0 20) 100) (g_s_B10Whole x1 (g_w_b10At x0 0 20) 100)).2 (R_w_FnSums_0 x1 (g_w_b10At x0 0 20) (g_s_B10Numbers x0 (g_w_b10At x0 0 20)) 0 0 0 ([] : List V)).2.2 ([] ++ ((g_s_B10Whole x1 (g_w_b10At x0 0 20) 100)).flatten) 0 0 0).1)) then (bif (fcmp .eql .f32 (g_i_SumPairs (g_s_B10Whole x1 (g_w_b10At x0 0 20) 100)).1 (g_i_SumNumbers (g_s_B10Whole x1 (g_w_b10At x0 0 20) 100)).1) then (bif (fcmp .eql .f32 (g_i_SumPairs (chunk (0 + ((g_s_B10Whole x1 (g_w_b10At x0 0 20) 100)).length) 1 (([] ++ ((g_s_B10Whole x1 (g_w_b10At x0 0 20) 100)).flatten).drop 0))).1 (g_i_SumNumbers (g_s_B10Whole x1 (g_w_b10At x0 0 20) 100)).1) then (bif (fcmp .eql .f32 (g_i_DotNumbers (g_s_B10Whole x1 (g_w_b10At x0 0 20) 100) (g_s_B10Whole x1 (g_w_b10At x0 0 20) 100)).1 (FloatKind.f32.nearest (R_w_FnSums_2 (g_w_b10At x0 0 20) (g_s_B10Whole x1 (g_w_b10At x0 0 20) 100) (g_i_SumNumbers (g_s_B10Whole x1 (g_w_b10At x0 0 20) 100)).1 (g_i_SumNumbers (g_s_B10Whole x1 (g_w_b10At x0 0 20) 100)).2 (g_i_SumPairs (g_s_B10Whole x1 (g_w_b10At x0 0 20) 100)).1 (g_i_SumPairs (g_s_B10Whole x1 (g_w_b10At x0 0 20) 100)).2 (g_i_SumPairs (chunk (0 + ((g_s_B10Whole x1 (g_w_b10At x0 0 20) 100)).length) 1 (([] ++ ((g_s_B10Whole x1 (g_w_b10At x0 0 20) 100)).flatten).drop 0))).1 (g_i_SumPairs (chunk (0 + ((g_s_B10Whole x1 (g_w_b10At x0 0 20) 100)).length) 1 (([] ++ ((g_s_B10Whole x1 (g_w_b10At x0 0 20) 100)).flatten).drop 0))).2 (g_i_DotNumbers (g_s_B10Whole x1 (g_w_b10At x0 0 20) 100) (g_s_B10Whole x1 (g_w_b10At x0 0 20) 100)).1 (g_i_DotNumbers (g_s_B10Whole x1 (g_w_b10At x0 0 20) 100) (g_s_B10Whole x1 (g_w_b10At x0 0 20) 100)).2 (g_i_DotWide (g_s_B10Whole x1 (g_w_b10At x0 0 20) 100) (g_s_B10Whole x1 (g_w_b10At x0 0 20) 100)).1 (g_i_DotWide (g_s_B10Whole x1 (g_w_b10At x0 0 20) 100) (g_s_B10Whole x1 (g_w_b10At x0 0 20) 100)).2 (R_w_FnSums_0 x1 (g_w_b10At x0 0 20) (g_s_B10Numbers x0 (g_w_b10At x0 0 20)) 0 0 0 ([] : List V)).2.2 ([] ++ ((g_s_B10Whole x1 (g_w_b10At x0 0 20) 100)).flatten) 0 0 0).2)) then some (.bool (fcmp .eql .f32 (g_i_DotWide (g_s_B10Whole x1 (g_w_b10At x0 0 20) 100) (g_s_B10Whole x1 (g_w_b10At x0 0 20) 100)).1 (g_i_DotNumbers (g_s_B10Whole x1 (g_w_b10At x0 0 20) 100) (g_s_B10Whole x1 (g_w_b10At x0 0 20) 100)).1)) else some (.bool false)) else some (.bool false)) else some (.bool false)) else some (.bool false)) else some (.bool false)) else some (.bool false)) else some (.bool false)) else some (.bool false)) else some (.bool false)) else none) else none) else none) else none) else none) else none) else none) else none))) else none)) else none)))))) else none) else none) else none) else none) else none) else none) else none) else none) else none) else none)) := by kernel_rfl
theorem run_w_FnSums (x0 : List (List V)) (x1 : List (List V)) (h : ok_w_FnSums x0 x1 = true) : runPureS E_w_FnSums 4 5 (.any) [(.sl 1 x0), (.sl 1 x1)] = some (r_w_FnSums (g_w_FnSums x0 x1)) := (tree_w_FnSums x0 x1).trans ((ite_ok (F := r_w_FnSums) (fun _ => (leaf_ok (F := r_w_FnSums) (a := true))) (chk_ok (F := r_w_FnSums) (chk_ok (F := r_w_FnSums) (chk_ok (F := r_w_FnSums) (chk_ok (F := r_w_FnSums) (chk_ok (F := r_w_FnSums) (chk_ok (F := r_w_FnSums) (chk_ok (F := r_w_FnSums) (chk_ok (F := r_w_FnSums) (chk_ok (F := r_w_FnSums) (chk_ok (F := r_w_FnSums) (ite_ok (F := r_w_FnSums) (fun _ => (leaf_ok (F := r_w_FnSums) (a := false))) (ite_ok (F := r_w_FnSums) (fun _ => (leaf_ok (F := r_w_FnSums) (a := false))) (ite_ok (F := r_w_FnSums) (fun _ => (leaf_ok (F := r_w_FnSums) (a := false))) (ite_ok (F := r_w_FnSums) (fun _ => (leaf_ok (F := r_w_FnSums) (a := false))) (ite_ok (F := r_w_FnSums) (fun _ => (leaf_ok (F := r_w_FnSums) (a := false))) (chk_ok (F := r_w_FnSums) (ite_ok (F := r_w_FnSums) (fun _ => (leaf_ok (F := r_w_FnSums) (a := false))) (chk_ok (F := r_w_FnSums) (ite_ok (F := r_w_FnSums) (fun _ => (leaf_ok (F := r_w_FnSums) (a := false))) (ite_ok (F := r_w_FnSums) (chk_ok (F := r_w_FnSums) (ite_ok (F := r_w_FnSums) (fun _ => (leaf_ok (F := r_w_FnSums) (a := false))) (chk_ok (F := r_w_FnSums) (chk_ok (F := r_w_FnSums) (chk_ok (F := r_w_FnSums) (chk_ok (F := r_w_FnSums) (chk_ok (F := r_w_FnSums) (chk_ok (F := r_w_FnSums) (chk_ok (F := r_w_FnSums) (chk_k (F := r_w_FnSums) (ite_k (F := r_w_FnSums) (ite_k (F := r_w_FnSums) (ite_k (F := r_w_FnSums) (ite_k (F := r_w_FnSums) (ite_k (F := r_w_FnSums) (ite_k (F := r_w_FnSums) (ite_k (F := r_w_FnSums) (ite_k (F := r_w_FnSums) (ite_k (F := r_w_FnSums) (leaf_ok (F := r_w_FnSums) (a := (fcmp .eql .f32 (g_i_DotWide (g_s_B10Whole x1 (g_w_b10At x0 0 20) 100) (g_s_B10Whole x1 (g_w_b10At x0 0 20) 100)).1 (g_i_DotNumbers (g_s_B10Whole x1 (g_w_b10At x0 0 20) 100) (g_s_B10Whole x1 (g_w_b10At x0 0 20) 100)).1))) (leaf_ok (F := r_w_FnSums) (a := false))) (leaf_ok (F := r_w_FnSums) (a := false))) (leaf_ok (F := r_w_FnSums) (a := false))) (leaf_ok (F := r_w_FnSums) (a := false))) (leaf_ok (F := r_w_FnSums) (a := false))) (leaf_ok (F := r_w_FnSums) (a := false))) (leaf_ok (F := r_w_FnSums) (a := false))) (leaf_ok (F := r_w_FnSums) (a := false))) (leaf_ok (F := r_w_FnSums) (a := false))))))))))))) (chk_ok (F := r_w_FnSums) (chk_ok (F := r_w_FnSums) (chk_ok (F := r_w_FnSums) (chk_ok (F := r_w_FnSums) (chk_ok (F := r_w_FnSums) (chk_ok (F := r_w_FnSums) (chk_ok (F := r_w_FnSums) (chk_k (F := r_w_FnSums) (ite_k (F := r_w_FnSums) (ite_k (F := r_w_FnSums) (ite_k (F := r_w_FnSums) (ite_k (F := r_w_FnSums) (ite_k (F := r_w_FnSums) (ite_k (F := r_w_FnSums) (ite_k (F := r_w_FnSums) (ite_k (F := r_w_FnSums) (ite_k (F := r_w_FnSums) (leaf_ok (F := r_w_FnSums) (a := (fcmp .eql .f32 (g_i_DotWide (g_s_B10Whole x1 (g_w_b10At x0 0 20) 100) (g_s_B10Whole x1 (g_w_b10At x0 0 20) 100)).1 (g_i_DotNumbers (g_s_B10Whole x1 (g_w_b10At x0 0 20) 100) (g_s_B10Whole x1 (g_w_b10At x0 0 20) 100)).1))) (leaf_ok (F := r_w_FnSums) (a := false))) (leaf_ok (F := r_w_FnSums) (a := false))) (leaf_ok (F := r_w_FnSums) (a := false))) (leaf_ok (F := r_w_FnSums) (a := false))) (leaf_ok (F := r_w_FnSums) (a := false))) (leaf_ok (F := r_w_FnSums) (a := false))) (leaf_ok (F := r_w_FnSums) (a := false))) (leaf_ok (F := r_w_FnSums) (a := false))) (leaf_ok (F := r_w_FnSums) (a := false)))))))))))))))))))))))))))))))) h)
theorem summ_w_FnSums : SummOK Try.prog 5 s_w_FnSums := by
  refine ⟨pure_of_runS orders names sok_w_FnSums lok_w_FnSums 4 [.sl 1, .sl 1] (.any) (g := fun vs => (bif c_w_FnSums vs then v_w_FnSums vs else none)) fun vs v h => ?_, Try.f5, by kernel_rfl, by kernel_rfl, by kernel_rfl⟩
  try dsimp only at h
  cases hc : c_w_FnSums vs
  · rw [hc] at h; cases h
  rw [hc] at h
  simp only [cond_true] at h
  unfold v_w_FnSums at h
  split at h
  · cases h; exact run_w_FnSums _ _ hc
  · cases h
end Go.Proofs.Ytggfjjacafgkkaa

/-
  The loops over lists of numbers, as folds.
-/
namespace Go.Proofs.Ytggfjjacafgkkaa
open Go.Ev Go Ieee

def fsum (u : Nat) (xs : List Nat) : Nat := xs.foldl (fun u x => fop .add .f32 u x) u
def fdot (u : Nat) : List Nat → List Nat → Nat
  | x :: xs, y :: ys => fdot (fop .add .f32 u (fop .mul .f32 x y)) xs ys
  | _, _ => u

theorem eql_f {a b : Int} (h : a ≠ b) : icmp .eql a b = false := by simp [icmp, h]
theorem lss_t {i n : Nat} (h : i < n) : icmp .lss (i : Int) (n : Int) = true := by simp [icmp] <;> omega
theorem lss_f {i n : Nat} (h : ¬ i < n) : icmp .lss (i : Int) (n : Int) = false := by simp [icmp] <;> omega
theorem inB_t {i n : Nat} (h : i < n) : inB (i : Int) n = true := inB_of (by omega) (by omega)

theorem sum_loop (xs : List Nat) (hx : xs.length ≤ 1000) : ∀ (k i m u : Nat), i + k = xs.length → k < m → L_i_sum_0 (fl32 xs) (xs.length : Nat) m u i = some (fsum u (xs.drop i)) := by
  intro k
  induction k with
  | zero =>
    intro i m u hi hm
    obtain ⟨m, rfl⟩ : ∃ j, m = j + 1 := ⟨m - 1, by omega⟩
    unfold L_i_sum_0
    rw [lss_f (by omega), List.drop_eq_nil_of_le (by omega)]
    rfl
  | succ k ih =>
    intro i m u hi hm
    obtain ⟨m, rfl⟩ : ∃ j, m = j + 1 := ⟨m - 1, by omega⟩
    have hlt : i < xs.length := by omega
    unfold L_i_sum_0
    rw [lss_t hlt, fl32_len, inB_t hlt, at_fl xs hlt, succ_w i (by omega), List.drop_eq_getElem_cons hlt]
    exact ih (i + 1) m _ (by omega) (by omega)

theorem sum_sound {xs : List Nat} (hx : xs.length ≤ 256) : ok_i_SumNumbers (fl32 xs) = true ∧ g_i_SumNumbers (fl32 xs) = (fsum 0 xs, true) := by
  have hl : g_i_listOk (fl32 xs) = true := by
    unfold g_i_listOk
    rw [fl32_len]
    simp [icmp] <;> omega
  have h := sum_loop xs (by omega) xs.length 0 FUEL 0 (by omega) (by have := fuel_big; omega)
  have h' : L_i_sum_0 (fl32 xs) (Int.ofNat (fl32 xs).length) FUEL 0 0 = some (fsum 0 xs) := by rw [fl32_len]; exact h
  unfold ok_i_SumNumbers g_i_SumNumbers ok_i_sum g_i_sum K_i_sum_0 R_i_sum_0
  rw [hl, h']
  exact ⟨rfl, rfl⟩

theorem dot_loop (xs ys : List Nat) (hx : xs.length ≤ 1000) (hy : ys.length = xs.length) : ∀ (k i m u : Nat), i + k = xs.length → k < m → L_i_dot_0 (fl32 ys) (fl32 xs) (xs.length : Nat) m u i = some (fdot u (xs.drop i) (ys.drop i)) := by
  intro k
  induction k with
  | zero =>
    intro i m u hi hm
    obtain ⟨m, rfl⟩ : ∃ j, m = j + 1 := ⟨m - 1, by omega⟩
    unfold L_i_dot_0
    rw [lss_f (by omega), List.drop_eq_nil_of_le (by omega)]
    rfl
  | succ k ih =>
    intro i m u hi hm
    obtain ⟨m, rfl⟩ : ∃ j, m = j + 1 := ⟨m - 1, by omega⟩
    have hlt : i < xs.length := by omega
    have hlt' : i < ys.length := by omega
    unfold L_i_dot_0
    rw [lss_t hlt, fl32_len, fl32_len, inB_t hlt, inB_t hlt', at_fl xs hlt, at_fl ys hlt', succ_w i (by omega), List.drop_eq_getElem_cons hlt, List.drop_eq_getElem_cons hlt']
    exact ih (i + 1) m _ (by omega) (by omega)

theorem dot_sound {xs ys : List Nat} (hx : xs.length ≤ 256) (hy : ys.length = xs.length) : ok_i_DotNumbers (fl32 xs) (fl32 ys) = true ∧ g_i_DotNumbers (fl32 xs) (fl32 ys) = (fdot 0 xs ys, true) := by
  have hl : g_i_listOk (fl32 xs) = true := by
    unfold g_i_listOk
    rw [fl32_len]
    simp [icmp] <;> omega
  have hn : icmp .neq (Int.ofNat (fl32 xs).length) (Int.ofNat (fl32 ys).length) = false := by
    rw [fl32_len, fl32_len, hy]
    simp [icmp]
  have h := dot_loop xs ys (by omega) hy xs.length 0 FUEL 0 (by omega) (by have := fuel_big; omega)
  have h' : L_i_dot_0 (fl32 ys) (fl32 xs) (Int.ofNat (fl32 xs).length) FUEL 0 0 = some (fdot 0 xs ys) := by rw [fl32_len]; exact h
  unfold ok_i_DotNumbers g_i_DotNumbers ok_i_dot g_i_dot K_i_dot_0 R_i_dot_0
  rw [hl, hn, h']
  exact ⟨rfl, rfl⟩

/-- The sum of the sums of both halves. -/
def SP : Nat → List Nat → Nat
  | 0, _ => 0
  | n + 1, xs => if xs.length = 0 then 0 else if xs.length = 1 then xs.getD 0 0 else fop .add .f32 (SP n (xs.take ((xs.length + 1) / 2))) (SP n (xs.drop ((xs.length + 1) / 2)))

theorem half_w (n : Nat) (h : n ≤ 1000) : IntKind.i64.wrap (Int.tdiv (IntKind.i64.wrap ((n : Int) + 1)) 2) = (((n + 1) / 2 : Nat) : Int) := by
  rw [succ_w n (by omega)]
  have : Int.tdiv ((n + 1 : Nat) : Int) 2 = (((n + 1) / 2 : Nat) : Int) := rfl
  rw [this, IntKind.wrap_i64]
  omega

theorem fl32_take (xs : List Nat) (n : Nat) : ((fl32 xs).take n).drop 0 = fl32 (xs.take n) := by simp [fl32, List.map_take]
theorem fl32_drop (xs : List Nat) (n : Nat) : ((fl32 xs).take (fl32 xs).length).drop n = fl32 (xs.drop n) := by
  rw [List.take_length]
  simp [fl32, List.map_drop]

theorem pairs_sound : ∀ (n : Nat) (xs : List Nat), xs.length ≤ 1000 → xs.length ≤ 2 ^ n → ok_i_sumPairs (n + 1) (fl32 xs) = true ∧ g_i_sumPairs (n + 1) (fl32 xs) = SP (n + 1) xs := by
  intro n
  induction n with
  | zero =>
    intro xs h1 h2
    have h2' : xs.length ≤ 1 := by simpa using h2
    cases xs with
    | nil => exact ⟨rfl, rfl⟩
    | cons x xs =>
      cases xs with
      | nil => exact ⟨rfl, rfl⟩
      | cons y ys => simp at h2'
  | succ n ih =>
    intro xs h1 h2
    unfold ok_i_sumPairs g_i_sumPairs SP
    have e0 : (Int.ofNat (fl32 xs).length) = (xs.length : Int) := by rw [fl32_len]; rfl
    rw [e0]
    by_cases c0 : xs.length = 0
    · have : icmp .eql (xs.length : Int) 0 = true := by simp [icmp, c0]
      rw [this, if_pos c0]
      exact ⟨rfl, rfl⟩
    · have i0 : icmp .eql (xs.length : Int) 0 = false := eql_f (by omega)
      rw [i0, if_neg c0]
      by_cases c1 : xs.length = 1
      · have i1 : icmp .eql (xs.length : Int) 1 = true := by simp [icmp, c1]
        rw [i1, if_pos c1, fl32_len, c1]
        have ha := at_fl xs (i := 0) (by omega)
        have ha' : getAt ((getAt (fl32 xs) (Int.toNat 0)).getD []) 0 = some (.flt .f32 xs[0]) := ha
        rw [ha']
        refine ⟨rfl, ?_⟩
        rw [List.getD_eq_getElem?_getD, List.getElem?_eq_getElem (by omega)]
        rfl
      · have i1 : icmp .eql (xs.length : Int) 1 = false := eql_f (by omega)
        rw [i1, if_neg c1, half_w xs.length h1]
        have hb : inB (((xs.length + 1) / 2 : Nat) : Int) ((fl32 xs).length + 1) = true := by rw [fl32_len]; exact inB_t (by omega)
        have ht : Int.toNat (((xs.length + 1) / 2 : Nat) : Int) = (xs.length + 1) / 2 := rfl
        rw [hb, ht, fl32_take, fl32_drop]
        have hp : 2 ^ (n + 1) = 2 * 2 ^ n := by rw [Nat.pow_succ, Nat.mul_comm]
        obtain ⟨a1, a2⟩ := ih (xs.take ((xs.length + 1) / 2)) (by simp; omega) (by simp; omega)
        obtain ⟨b1, b2⟩ := ih (xs.drop ((xs.length + 1) / 2)) (by simp; omega) (by simp; omega)
        rw [a1, a2, b1, b2]
        exact ⟨rfl, rfl⟩

/-- Depth enough is depth enough. -/
theorem SP_more : ∀ (n m : Nat) (xs : List Nat), xs.length ≤ 2 ^ n → xs.length ≤ 2 ^ m → SP (n + 1) xs = SP (m + 1) xs := by
  intro n
  induction n with
  | zero =>
    intro m xs h1 h2
    have h1' : xs.length ≤ 1 := by simpa using h1
    unfold SP
    by_cases c0 : xs.length = 0
    · rw [if_pos c0, if_pos c0]
    · rw [if_neg c0, if_neg c0, if_pos (by omega), if_pos (by omega)]
  | succ n ih =>
    intro m xs h1 h2
    unfold SP
    by_cases c0 : xs.length = 0
    · rw [if_pos c0, if_pos c0]
    · rw [if_neg c0, if_neg c0]
      by_cases c1 : xs.length = 1
      · rw [if_pos c1, if_pos c1]
      · rw [if_neg c1, if_neg c1]
        cases m with
        | zero => have : xs.length ≤ 1 := by simpa using h2
                  omega
        | succ m =>
          have hp : 2 ^ (n + 1) = 2 * 2 ^ n := by rw [Nat.pow_succ, Nat.mul_comm]
          have hq : 2 ^ (m + 1) = 2 * 2 ^ m := by rw [Nat.pow_succ, Nat.mul_comm]
          rw [ih m _ (by simp; omega) (by simp; omega), ih m _ (by simp; omega) (by simp; omega)]

theorem pow29 : (2 : Nat) ^ 29 = 536870912 := by decide
theorem pow28 : (2 : Nat) ^ 28 = 268435456 := by decide

theorem SP_half {xs : List Nat} (h1 : 1 < xs.length) (h2 : xs.length ≤ 1000) : SP 30 xs = fop .add .f32 (SP 30 (xs.take ((xs.length + 1) / 2))) (SP 30 (xs.drop ((xs.length + 1) / 2))) := by
  have a := SP_more 28 29 (xs.take ((xs.length + 1) / 2)) (by rw [pow28]; simp; omega) (by rw [pow29]; simp; omega)
  have b := SP_more 28 29 (xs.drop ((xs.length + 1) / 2)) (by rw [pow28]; simp; omega) (by rw [pow29]; simp; omega)
  rw [← a, ← b]
  show (if xs.length = 0 then 0 else if xs.length = 1 then xs.getD 0 0 else _) = _
  rw [if_neg (by omega), if_neg (by omega)]

theorem sumPairs_sound {xs : List Nat} (hx : xs.length ≤ 256) : ok_i_SumPairs (fl32 xs) = true ∧ g_i_SumPairs (fl32 xs) = (SP 30 xs, true) := by
  have hl : g_i_listOk (fl32 xs) = true := by
    unfold g_i_listOk
    rw [fl32_len]
    simp [icmp] <;> omega
  obtain ⟨a, b⟩ := pairs_sound 29 xs (by omega) (by rw [pow29]; omega)
  unfold ok_i_SumPairs g_i_SumPairs
  rw [hl, a, b]
  exact ⟨rfl, rfl⟩

/-- The law's own sum, and its ones. -/
theorem law_sum (q : List (List V)) (xs : List Nat) (hx : xs.length ≤ 1000) : ∀ (k i m u : Nat), i + k = xs.length → k < m →
    L_w_FnSums_0 q (xs.length : Nat) (fl32 xs) m i u i (fc32 (List.replicate i 1065353216)) = some (xs.length, fsum u (xs.drop i), fc32 (List.replicate xs.length 1065353216)) := by
  intro k
  induction k with
  | zero =>
    intro i m u hi hm
    obtain ⟨m, rfl⟩ : ∃ j, m = j + 1 := ⟨m - 1, by omega⟩
    have : i = xs.length := by omega
    subst this
    unfold L_w_FnSums_0
    have hd : xs.drop xs.length = [] := List.drop_eq_nil_of_le (Nat.le_refl _)
    rw [lss_f (by omega), hd]
    rfl
  | succ k ih =>
    intro i m u hi hm
    obtain ⟨m, rfl⟩ : ∃ j, m = j + 1 := ⟨m - 1, by omega⟩
    have hlt : i < xs.length := by omega
    have hc : (fc32 (List.replicate i 1065353216)).length = i := by simp [fc32]
    have hg : (Nat.ble (0 + (i * 1)) i && Nat.ble (i + 1) 4294967296) = true := by
      rw [Bool.and_eq_true, Nat.ble_eq, Nat.ble_eq]; omega
    unfold L_w_FnSums_0
    rw [lss_t hlt, hc, hg, fl32_len, inB_t hlt, at_fl xs hlt, succ_w i (by omega), List.drop_eq_getElem_cons hlt, take_app _ i hc.symm]
    have hr : fc32 (List.replicate i 1065353216) ++ [.flt .f32 1065353216] = fc32 (List.replicate (i + 1) 1065353216) := by
      unfold fc32
      rw [← List.map_singleton (f := fun x => V.flt .f32 x), ← List.map_append, List.replicate_succ']
    rw [hr]
    exact ih (i + 1) m _ (by omega) (by omega)
end Go.Proofs.Ytggfjjacafgkkaa

/-
  The canonical words of 32 bits.
-/
namespace Go.Proofs.Ytggfjjacafgkkaa
open Go.Ev Go Ieee

/-- A canonical word: the not-a-number, an infinity, a finite one. -/
theorem F32_cases {x : Nat} (h : F32 x) : x = 2143289344 ∨ (∃ s : Bool, ∃ r, r ≤ 2139095040 ∧ x = FloatKind.f32.format.word s r) := by
  obtain ⟨h1, h2⟩ := h
  cases hn : isNan .f32 x
  · right
    rw [isNan_eq, inf32, sw32] at hn
    have hle : x % 2147483648 ≤ 2139095040 := by simpa using hn
    by_cases hx : x < 2147483648
    · refine ⟨false, x, ?_, rfl⟩
      rw [Nat.mod_eq_of_lt hx] at hle
      exact hle
    · refine ⟨true, x - 2147483648, ?_, ?_⟩
      · omega
      · unfold Format.word
        rw [sw32, if_pos rfl]
        omega
  · left
    rw [canon_of_nan hn] at h2
    exact h2.symm

theorem not_nan_word {s : Bool} {r : Nat} (hr : r ≤ 2139095040) : isNan .f32 (FloatKind.f32.format.word s r) = false := isNan_word .f32 s (by rw [inf32]; exact hr)

theorem is_word {s : Bool} {r : Nat} (hr : r < 2139095040) : Is .f32 s (val .f32 r * 2 ^ loOf .f32) (FloatKind.f32.format.word s r) := ⟨r, by rw [inf32]; omega, rfl, rfl⟩

theorem word_pos (r : Nat) : FloatKind.f32.format.word false r = r := rfl
theorem word_neg (r : Nat) : FloatKind.f32.format.word true r = 2147483648 + r := by
  unfold Format.word
  rw [sw32, if_pos rfl]

theorem order_self {x : Nat} (hn : isNan .f32 x = false) : FloatKind.f32.format.order x x = some .eq := by
  unfold Format.order
  unfold isNan at hn
  generalize FloatKind.f32.format.read x = d at hn
  cases d with
  | number s m p =>
    simp only [Datum.order]
    congr 1
    simp only [compare, compareOfLessAndEq]
    rw [if_neg (Int.lt_irrefl _), if_pos trivial]
  | infinity s => cases s <;> rfl
  | nan s t => simp [Datum.isNaN] at hn

theorem neq_self {x : Nat} (hn : isNan .f32 x = false) : fcmp .neq .f32 x x = false := by
  unfold fcmp
  simp only [order_self hn]
  decide

theorem small64 {x : Nat} (h : x < 4294967296) : IntKind.i64.wrap (x : Int) = x := small _ (by omega) (by omega)

/-- A number that is not not-a-number has its bits. -/
theorem g34_num {x : Nat} (hn : isNan .f32 x = false) (hlt : x < 4294967296) : ok_s_l01Bits x = true ∧ g_s_l01Bits x = (x : Int) := by
  obtain ⟨b1, b2⟩ := bits_num hn
  unfold ok_s_l01Bits g_s_l01Bits
  rw [b1, b2, small64 hlt, neq_self hn]
  exact ⟨rfl, rfl⟩
end Go.Proofs.Ytggfjjacafgkkaa

/-
  The next greater number.
-/
namespace Go.Proofs.Ytggfjjacafgkkaa
open Go.Ev Go Ieee

theorem g29_lt {n : Nat} (h : n < 4294967296) : g_s_l01From (n : Int) = canon .f32 n := by
  unfold g_s_l01From
  rw [IntKind.wrap_u32]
  congr 1
  omega

theorem g29_word {s : Bool} {r : Nat} (hr : r ≤ 2139095040) : g_s_l01From (FloatKind.f32.format.word s r : Nat) = FloatKind.f32.format.word s r := by
  rw [g29_lt (word_lt32 s (by rw [inf32]; exact hr)), canon_of_not (not_nan_word hr)]

theorem is_zero : Is .f32 false 0 0 := ⟨0, by rw [inf32]; omega, rfl, by decide +kernel⟩

theorem val_pos {r : Nat} (h : r ≠ 0) : val .f32 r ≠ 0 := by
  have : ∀ n, val .f32 (n + 1) ≠ 0 := fun n => by
    rw [val_succ]
    have : 0 < 2 ^ gapE .f32 n := Nat.pow_pos (by omega)
    omega
  cases r with
  | zero => exact absurd rfl h
  | succ n => exact this n

theorem size_pos {r : Nat} (h : r ≠ 0) : 0 < val .f32 r * 2 ^ loOf .f32 := Nat.mul_pos (Nat.pos_of_ne_zero (val_pos h)) (Nat.pow_pos (by omega))

theorem cmp_lt {a b : Int} (h : a < b) : compare a b = .lt := by simp only [compare, compareOfLessAndEq, if_pos h]
theorem cmp_gt {a b : Int} (h : b < a) : compare a b = .gt := by
  simp only [compare, compareOfLessAndEq]
  rw [if_neg (by omega), if_neg (by omega)]
theorem cmp_eq {a b : Int} (h : a = b) : compare a b = .eq := by
  simp only [compare, compareOfLessAndEq]
  rw [if_neg (by omega), if_pos h]

theorem cmp_zero {s : Bool} {v : Nat} (h : v ≠ 0) : compare (sz s v) (sz false 0) = if s then .lt else .gt := by
  cases s
  · exact cmp_gt (by simp only [sz]; simp; omega)
  · exact cmp_lt (by simp only [sz]; simp; omega)

/-- A finite number against zero. -/
theorem order_zero {s : Bool} {r : Nat} (hr : r < 2139095040) : FloatKind.f32.format.order (FloatKind.f32.format.word s r) 0 = some (if r = 0 then .eq else if s then .lt else .gt) := by
  rw [fcmp_eq (is_word hr) is_zero]
  by_cases h : r = 0
  · rw [if_pos h]
    have hv : val .f32 r * 2 ^ loOf .f32 = 0 := by
      have : val .f32 0 = 0 := by decide +kernel
      rw [h, this, Nat.zero_mul]
    have he : compare (sz s (val .f32 r * 2 ^ loOf .f32)) (sz false 0) = .eq := cmp_eq (by rw [hv]; cases s <;> simp [sz])
    rw [he]
  · rw [if_neg h, cmp_zero (Nat.ne_of_gt (size_pos h))]

/-- NextUp of a finite number, by rungs. -/
theorem g10_fin {s : Bool} {r : Nat} (hr : r < 2139095040) : g_s_NextUp (FloatKind.f32.format.word s r) = if r = 0 then 1 else if s then FloatKind.f32.format.word true (r - 1) else r + 1 := by
  have hn := not_nan_word (s := s) (r := r) (by omega)
  have hlt := word_lt32 s (rung := r) (by rw [inf32]; omega)
  obtain ⟨_, hg⟩ := g34_num hn hlt
  have ho := order_zero (s := s) hr
  have hne := neq_self hn
  unfold g_s_NextUp
  rw [hne, hg]
  simp only [cond_false]
  have hc : icmp .eql ((FloatKind.f32.format.word s r : Nat) : Int) 2139095040 = false := by
    unfold icmp
    have : FloatKind.f32.format.word s r ≠ 2139095040 := by
      cases s
      · rw [word_pos]; omega
      · rw [word_neg]; omega
    simp
    omega
  rw [hc]
  simp only [cond_false, fcmp, ho]
  by_cases h : r = 0
  · subst h
    rw [if_pos rfl, if_pos rfl]
    have : g_s_l01From 1 = 1 := by
      have := g29_word (s := false) (r := 1) (by omega)
      rw [word_pos] at this
      exact this
    simpa using this
  · rw [if_neg h, if_neg h]
    cases s
    · have := g29_word (s := false) (r := r + 1) (by omega)
      rw [word_pos] at this
      rw [word_pos]
      have hs : IntKind.i64.wrap ((r : Int) + 1) = ((r + 1 : Nat) : Int) := by
        have e : (r : Int) + 1 = ((r + 1 : Nat) : Int) := by omega
        rw [e, small64 (by omega)]
      simp only [hs, this]
      rfl
    · have := g29_word (s := true) (r := r - 1) (by omega)
      rw [word_neg] at this
      rw [word_neg, word_neg]
      have hs : IntKind.i64.wrap (((2147483648 + r : Nat) : Int) - 1) = ((2147483648 + (r - 1) : Nat) : Int) := by
        have e : ((2147483648 + r : Nat) : Int) - 1 = ((2147483648 + (r - 1) : Nat) : Int) := by omega
        rw [e, small64 (by omega)]
      simp only [hs, this]
      rfl
end Go.Proofs.Ytggfjjacafgkkaa

/-
  Exact differences.
-/
namespace Go.Ev
open Ieee

theorem fop_sub {k : FloatKind} {s t : Bool} {a b x y : Nat} (hx : Is k s a x) (hy : Is k t b y) : fop .sub k x y = near k.format (sgn s (!t) (sz s a + sz (!t) b)) (sz s a + sz (!t) b).natAbs := by
  obtain ⟨m, i, r1, i1, e1⟩ := hx.read
  obtain ⟨n, j, r2, j1, e2⟩ := hy.read
  have hb : floatBits .sub k x y = some (k.format.write (.number (sgn s (!t) (signed s m (i - min i j).toNat + signed (!t) n (j - min i j).toNat)) (signed s m (i - min i j).toNat + signed (!t) n (j - min i j).toNat).natAbs (min i j))) := by
    show k.format.sub x y = _
    unfold Format.sub
    rw [r1, r2]
    rfl
  unfold fop
  rw [hb]
  simp only
  rw [write_near k _ _ _ (by omega)]
  have hz : (signed s m (i - min i j).toNat + signed (!t) n (j - min i j).toNat) * ((2 ^ (min i j + 1200).toNat : Nat) : Int) = sz s a + sz (!t) b := by
    rw [Int.add_mul, signed_sz, signed_sz, sz_mul, sz_mul, Nat.mul_assoc, Nat.mul_assoc, ← Nat.pow_add, ← Nat.pow_add]
    have a1 : (i - min i j).toNat + (min i j + 1200).toNat = (i + 1200).toNat := by omega
    have a2 : (j - min i j).toNat + (min i j + 1200).toNat = (j + 1200).toNat := by omega
    rw [a1, a2, e1, e2]
  have hp : (0 : Int) < ((2 ^ (min i j + 1200).toNat : Nat) : Int) := Int.natCast_pos.2 (Nat.pow_pos (by omega))
  generalize (signed s m (i - min i j).toNat + signed (!t) n (j - min i j).toNat) = z at hz ⊢
  rw [← hz]
  have hsg : sgn s (!t) (z * ((2 ^ (min i j + 1200).toNat : Nat) : Int)) = sgn s (!t) z := by
    generalize ((2 ^ (min i j + 1200).toNat : Nat) : Int) = g at hp
    unfold sgn
    by_cases h0 : z = 0
    · subst h0; simp
    · have h1 : z * g ≠ 0 := Int.mul_ne_zero h0 (by omega)
      rw [if_neg h0, if_neg h1]
      congr 1
      refine propext ⟨fun h => ?_, fun h => ?_⟩
      · apply Classical.byContradiction
        intro hc
        have : 0 ≤ z * g := Int.mul_nonneg (by omega) (by omega)
        omega
      · exact Int.mul_neg_of_neg_of_pos h hp
  rw [hsg, Int.natAbs_mul, Int.natAbs_natCast]
end Go.Ev

/-
  What is finite.
-/
namespace Go.Proofs.Ytggfjjacafgkkaa
open Go.Ev Go Ieee

theorem sub_self {s : Bool} {a x : Nat} (h : Is .f32 s a x) : fop .sub .f32 x x = 0 := by
  rw [fop_sub h h]
  have e : sz s a + sz (!s) a = 0 := by
    unfold sz
    cases s
    · simp only [Bool.not_false, if_true, Bool.false_eq_true, if_false]; omega
    · simp only [Bool.not_true, if_true, Bool.false_eq_true, if_false]; omega
  rw [e]
  have hs : sgn s (!s) 0 = false := by cases s <;> rfl
  rw [hs]
  unfold near Format.nearest
  rw [if_pos (by rfl)]
  rfl

theorem g11_fin {s : Bool} {r : Nat} (hr : r < 2139095040) : g_s_IsFinite (FloatKind.f32.format.word s r) = true := by
  unfold g_s_IsFinite
  rw [sub_self (is_word hr)]
  decide +kernel

theorem g11_inf (s : Bool) : g_s_IsFinite (FloatKind.f32.format.word s 2139095040) = false := by
  cases s <;> decide +kernel
end Go.Proofs.Ytggfjjacafgkkaa

/-
  FnNarrowed's law on one number: between two neighbours.
-/
namespace Go.Proofs.Ytggfjjacafgkkaa
open Go.Ev Go Ieee

/-- The quotient by 2 of the sum, of two sizes of one sign. -/
theorem mean_is {s : Bool} {a b x y : Nat} (hx : Is .f64 s a x) (hy : Is .f64 s b y) (hab : a + b ≠ 0) (hr : Rep .f64 (a + b)) (he : (a + b) % 2 = 0) (hr2 : Rep .f64 ((a + b) / 2)) :
    Is .f64 s ((a + b) / 2) (fop .quo .f64 (fop .add .f64 x y) 4611686018427387904) := by
  have hz : sz s a + sz s b = sz s (a + b) := by unfold sz; cases s <;> simp <;> omega
  have hsum : fop .add .f64 x y = near FloatKind.f64.format s (a + b) := by
    rw [fop_add hx hy, hz]
    have h1 : sgn s s (sz s (a + b)) = s := by
      unfold sgn sz
      cases s
      · simp only [Bool.false_eq_true, if_false]
        rw [if_neg (by omega)]
        simp
        omega
      · simp only [if_true]
        rw [if_neg (by omega)]
        simp
        omega
    have h2 : (sz s (a + b)).natAbs = a + b := by unfold sz; cases s <;> simp <;> omega
    rw [h1, h2]
  rw [hsum, fop_half (near_is s hr) he]
  exact near_is s hr2

/-- Two neighbouring rungs, in quarters. -/
structure Nb (p q G : Nat) : Prop where
  lo : val .f32 p * 2 ^ loOf .f32 = 4 * q * G
  hi : val .f32 (p + 1) * 2 ^ loOf .f32 = 4 * (q + 1) * G
  pos : 0 < G
  rep : ∀ c, c ≤ 8 * q + 8 → Rep .f64 (c * G)

theorem nb_of {p : Nat} (hp : p < 2139095040) : ∃ q G, Nb p q G := by
  obtain ⟨q, hq, hr, hlt, hor⟩ := rung_split .f32 p
  have hb : bin .f32 = 8388608 := by decide +kernel
  have hg : gapE .f32 p ≤ 254 := by
    unfold gapE
    have : p / bin .f32 < 255 := (Nat.div_lt_iff_lt_mul (bin_pos _)).2 (by rw [hb]; omega)
    omega
  have hl : loOf .f32 = 2 + 1049 := rfl
  have h4 : 2 ^ gapE .f32 p * 2 ^ loOf .f32 = 4 * 2 ^ (gapE .f32 p + 1049) := by
    have e : gapE .f32 p + loOf .f32 = 2 + (gapE .f32 p + 1049) := by omega
    rw [← Nat.pow_add, e, Nat.pow_add 2 2]
  refine ⟨q, 2 ^ (gapE .f32 p + 1049), ?_, ?_, Nat.pow_pos (by omega), fun c hc => ?_⟩
  · rw [hq, Nat.mul_assoc, h4, ← Nat.mul_assoc, Nat.mul_comm q 4]
  · rw [val_succ, hq]
    have : q * 2 ^ gapE .f32 p + 2 ^ gapE .f32 p = (q + 1) * 2 ^ gapE .f32 p := by rw [Nat.add_mul, Nat.one_mul]
    rw [this, Nat.mul_assoc, h4, ← Nat.mul_assoc, Nat.mul_comm (q + 1) 4]
  · exact rep64 (by omega) (by omega) (by omega)

/-- A quarter, a half, three quarters on the way. -/
theorem quarters {p q G : Nat} (h : Nb p q G) (hp : p < 2139095040) (s : Bool) :
    near FloatKind.f32.format s ((4 * q + 1) * G) = FloatKind.f32.format.word s p ∧ near FloatKind.f32.format s ((4 * q + 2) * G) = FloatKind.f32.format.word s (p + p % 2) ∧ near FloatKind.f32.format s ((4 * q + 3) * G) = FloatKind.f32.format.word s (p + 1) := by
  have hG := h.pos
  have e1 : 4 * (q + 1) * G = 4 * q * G + 4 * G := by rw [Nat.mul_add, Nat.add_mul, Nat.mul_one]
  have ec : ∀ c, (4 * q + c) * G = 4 * q * G + c * G := fun c => by rw [Nat.add_mul]
  have hsum : (val .f32 p + val .f32 (p + 1)) * 2 ^ loOf .f32 = 8 * q * G + 4 * G := by
    rw [Nat.add_mul, h.lo, h.hi, e1]
    have : 8 * q * G = 4 * q * G + 4 * q * G := by rw [← Nat.add_mul]; congr 1; omega
    omega
  have e8 : 8 * q * G = 2 * (4 * q * G) := by rw [← Nat.mul_assoc, ← Nat.mul_assoc]
  have go : ∀ c, 1 ≤ c → c ≤ 3 → near FloatKind.f32.format s ((4 * q + c) * G) = FloatKind.f32.format.word s (if 2 * ((4 * q + c) * G) < (val .f32 p + val .f32 (p + 1)) * 2 ^ loOf .f32 then p else if (val .f32 p + val .f32 (p + 1)) * 2 ^ loOf .f32 < 2 * ((4 * q + c) * G) then p + 1 else p + p % 2) := by
    intro c h1 h2
    have hc : c * G ≤ 3 * G := Nat.mul_le_mul_right G h2
    have hc1 : 1 * G ≤ c * G := Nat.mul_le_mul_right G h1
    refine near_between .f32 s ?_ ?_ ?_ (by rw [inf32]; omega)
    · rw [h.lo, ec]; omega
    · rw [h.hi, e1, ec]; omega
    · rw [ec]; omega
  refine ⟨?_, ?_, ?_⟩
  · rw [go 1 (by omega) (by omega), hsum, ec, e8, if_pos (by omega)]
  · rw [go 2 (by omega) (by omega), hsum, ec, e8, if_neg (by omega), if_neg (by omega)]
  · rw [go 3 (by omega) (by omega), hsum, ec, e8, if_neg (by omega), if_pos (by omega)]
end Go.Proofs.Ytggfjjacafgkkaa
