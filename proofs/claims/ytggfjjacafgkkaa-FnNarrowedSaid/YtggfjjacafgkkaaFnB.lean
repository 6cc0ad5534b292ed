/-
  Functions of the program: what each computes. Printed by wip/tools/gen.py.
-/
import Derived.Test.YtggfjjacafgkkaaFnA
namespace Go.Proofs.Ytggfjjacafgkkaa
open Go.Ev Go

-- loop.example/g01253/laws.b10Long
def S6 : FuncId → Option Summ := fun _ => none
noncomputable def E6 : Env := ⟨Try.prog, S6, fun _ _ => [], 100⟩
theorem sok6 : SOK E6 := fun _ _ h => by cases h
def r6 (p : Bool) : V := (.bool p)
def g6 (x0 : List (List V)) (x1 : List (List V)) : Bool := (bif (icmp .gtr (Int.ofNat (x0).length) 1048576) then true else (icmp .gtr (Int.ofNat (x1).length) 1048576))
def v6 : List V → Option V
  | [(.sl 1 x0), (.sl 1 x1)] => some (r6 (g6 x0 x1))
  | _ => none
def s6 : Summ := .pure v6
set_option maxRecDepth 100000 in
theorem tree6 (x0 : List (List V)) (x1 : List (List V)) : runPure E6 4 6 [(.sl 1 x0), (.sl 1 x1)] = (bif (icmp .gtr (Int.ofNat (x0).length) 1048576) then some (.bool true) else some (.bool (icmp .gtr (Int.ofNat (x1).length) 1048576))) := by kernel_rfl
theorem run6 (x0 : List (List V)) (x1 : List (List V)) : runPure E6 4 6 [(.sl 1 x0), (.sl 1 x1)] = some (r6 (g6 x0 x1)) := (tree6 x0 x1).trans (ite_k (F := r6) (leaf_ok (F := r6) (a := true)) (leaf_ok (F := r6) (a := (icmp .gtr (Int.ofNat (x1).length) 1048576))))
theorem summ6 : SummOK Try.prog 6 s6 := by
  refine ⟨pure_of_run orders names sok6 4 fun vs v h => ?_, Try.f6, by kernel_rfl, by kernel_rfl, by kernel_rfl⟩
  unfold v6 at h
  split at h
  · cases h; exact run6 _ _
  · cases h

-- loop.example/g01253/spec.B10Number
def S7 : FuncId → Option Summ := fun f => match f with
  | 27 => some s27
  | 28 => some s28
  | 29 => some s29
  | 30 => some s30
  | _ => none
noncomputable def E7 : Env := ⟨Try.prog, S7, fun _ _ => [], 100⟩
theorem sok7 : SOK E7 := by
  intro f s h
  have h : S7 f = some s := h
  unfold S7 at h
  split at h
  · cases h; exact summ27
  · cases h; exact summ28
  · cases h; exact summ29
  · cases h; exact summ30
  · cases h
def r7 (p : Nat) : V := (.flt .f32 p)
def g7 (x0 : List (List V)) : Nat := (bif (g27 x0 0 0 2).1 then (g29 (IntKind.i64.wrap ((IntKind.i64.wrap ((g28 x0 (g27 x0 0 0 2).2.1 (g27 x0 0 0 2).2.2 65536).1 * 65536)) + (g28 x0 (g28 x0 (g27 x0 0 0 2).2.1 (g27 x0 0 0 2).2.2 65536).2.1 (g28 x0 (g27 x0 0 0 2).2.1 (g27 x0 0 0 2).2.2 65536).2.2 65536).1))) else (g30 x0 (g27 x0 0 0 2).2.1 (g27 x0 0 0 2).2.2).1)
def ok7 (x0 : List (List V)) : Bool := ((ok27 x0 0 0 2) && (bif (g27 x0 0 0 2).1 then ((ok28 x0 (g27 x0 0 0 2).2.1 (g27 x0 0 0 2).2.2 65536) && (ok28 x0 (g28 x0 (g27 x0 0 0 2).2.1 (g27 x0 0 0 2).2.2 65536).2.1 (g28 x0 (g27 x0 0 0 2).2.1 (g27 x0 0 0 2).2.2 65536).2.2 65536)) else (ok30 x0 (g27 x0 0 0 2).2.1 (g27 x0 0 0 2).2.2)))
def v7 : List V → Option V
  | [(.sl 1 x0)] => some (r7 (g7 x0))
  | _ => none
def c7 : List V → Bool
  | [(.sl 1 x0)] => ok7 x0
  | _ => false
def s7 : Summ := .pureC c7 v7
set_option maxRecDepth 100000 in
theorem tree7 (x0 : List (List V)) : runPure E7 4 7 [(.sl 1 x0)] = (bif ok27 x0 0 0 2 then (bif (g27 x0 0 0 2).1 then (bif ok28 x0 (g27 x0 0 0 2).2.1 (g27 x0 0 0 2).2.2 65536 then (bif ok28 x0 (g28 x0 (g27 x0 0 0 2).2.1 (g27 x0 0 0 2).2.2 65536).2.1 (g28 x0 (g27 x0 0 0 2).2.1 (g27 x0 0 0 2).2.2 65536).2.2 65536 then some (.flt .f32 (g29 (IntKind.i64.wrap ((IntKind.i64.wrap ((g28 x0 (g27 x0 0 0 2).2.1 (g27 x0 0 0 2).2.2 65536).1 * 65536)) + (g28 x0 (g28 x0 (g27 x0 0 0 2).2.1 (g27 x0 0 0 2).2.2 65536).2.1 (g28 x0 (g27 x0 0 0 2).2.1 (g27 x0 0 0 2).2.2 65536).2.2 65536).1)))) else none) else none) else (bif ok30 x0 (g27 x0 0 0 2).2.1 (g27 x0 0 0 2).2.2 then some (.flt .f32 (g30 x0 (g27 x0 0 0 2).2.1 (g27 x0 0 0 2).2.2).1) else none)) else none) := by kernel_rfl
theorem run7 (x0 : List (List V)) (h : ok7 x0 = true) : runPure E7 4 7 [(.sl 1 x0)] = some (r7 (g7 x0)) := (tree7 x0).trans ((chk_ok (F := r7) (ite_ok (F := r7) (chk_ok (F := r7) (chk_k (F := r7) (leaf_ok (F := r7) (a := (g29 (IntKind.i64.wrap ((IntKind.i64.wrap ((g28 x0 (g27 x0 0 0 2).2.1 (g27 x0 0 0 2).2.2 65536).1 * 65536)) + (g28 x0 (g28 x0 (g27 x0 0 0 2).2.1 (g27 x0 0 0 2).2.2 65536).2.1 (g28 x0 (g27 x0 0 0 2).2.1 (g27 x0 0 0 2).2.2 65536).2.2 65536).1))))))) (chk_k (F := r7) (leaf_ok (F := r7) (a := (g30 x0 (g27 x0 0 0 2).2.1 (g27 x0 0 0 2).2.2).1))))) h)
theorem summ7 : SummOK Try.prog 7 s7 := by
  refine ⟨pure_of_run orders names sok7 4 fun vs v h => ?_, Try.f7, by kernel_rfl, by kernel_rfl, by kernel_rfl⟩
  cases hc : c7 vs
  · rw [hc] at h; cases h
  rw [hc] at h
  simp only [cond_true] at h
  unfold v7 at h
  split at h
  · cases h; exact run7 _ hc
  · cases h

-- loop.example/g01253/laws.FnNarrowed
def S3 : FuncId → Option Summ := fun f => match f with
  | 6 => some s6
  | 7 => some s7
  | 8 => some s8
  | 9 => some s9
  | 10 => some s10
  | 11 => some s11
  | 12 => some s12
  | _ => none
noncomputable def E3 : Env := ⟨Try.prog, S3, fun _ _ => [], 100⟩
theorem sok3 : SOK E3 := by
  intro f s h
  have h : S3 f = some s := h
  unfold S3 at h
  split at h
  · cases h; exact summ6
  · cases h; exact summ7
  · cases h; exact summ8
  · cases h; exact summ9
  · cases h; exact summ10
  · cases h; exact summ11
  · cases h; exact summ12
  · cases h
def r3 (p : Bool) : V := (.bool p)
def g3 (x0 : List (List V)) (x1 : List (List V)) : Bool := (bif (g6 x0 x1) then true else (bif (!(g8 (g9 ((fconv .f32 .f64 (g7 x0)).getD 0)) (g7 x0))) then false else (bif (!(g11 (g7 x0))) then true else (bif (!(g11 (g10 (g7 x0)))) then true else (bif (icmp .eql (Int.tmod (g12 (g7 x0)) 2) 1) then (bif (fcmp .eql .f32 (g9 (fop .quo .f64 (fop .add .f64 ((fconv .f32 .f64 (g7 x0)).getD 0) ((fconv .f32 .f64 (g10 (g7 x0))).getD 0)) 4611686018427387904)) (g10 (g7 x0))) then (bif (fcmp .eql .f32 (g9 (fop .quo .f64 (fop .add .f64 ((fconv .f32 .f64 (g7 x0)).getD 0) (fop .quo .f64 (fop .add .f64 ((fconv .f32 .f64 (g7 x0)).getD 0) ((fconv .f32 .f64 (g10 (g7 x0))).getD 0)) 4611686018427387904)) 4611686018427387904)) (g7 x0)) then (fcmp .eql .f32 (g9 (fop .quo .f64 (fop .add .f64 ((fconv .f32 .f64 (g10 (g7 x0))).getD 0) (fop .quo .f64 (fop .add .f64 ((fconv .f32 .f64 (g7 x0)).getD 0) ((fconv .f32 .f64 (g10 (g7 x0))).getD 0)) 4611686018427387904)) 4611686018427387904)) (g10 (g7 x0))) else false) else false) else (bif (fcmp .eql .f32 (g9 (fop .quo .f64 (fop .add .f64 ((fconv .f32 .f64 (g7 x0)).getD 0) ((fconv .f32 .f64 (g10 (g7 x0))).getD 0)) 4611686018427387904)) (g7 x0)) then (bif (fcmp .eql .f32 (g9 (fop .quo .f64 (fop .add .f64 ((fconv .f32 .f64 (g7 x0)).getD 0) (fop .quo .f64 (fop .add .f64 ((fconv .f32 .f64 (g7 x0)).getD 0) ((fconv .f32 .f64 (g10 (g7 x0))).getD 0)) 4611686018427387904)) 4611686018427387904)) (g7 x0)) then (fcmp .eql .f32 (g9 (fop .quo .f64 (fop .add .f64 ((fconv .f32 .f64 (g10 (g7 x0))).getD 0) (fop .quo .f64 (fop .add .f64 ((fconv .f32 .f64 (g7 x0)).getD 0) ((fconv .f32 .f64 (g10 (g7 x0))).getD 0)) 4611686018427387904)) 4611686018427387904)) (g10 (g7 x0))) else false) else false))))))
def ok3 (x0 : List (List V)) (x1 : List (List V)) : Bool := (bif (g6 x0 x1) then true else ((ok7 x0) && (((fconv .f32 .f64 (g7 x0)).isSome) && ((ok9 ((fconv .f32 .f64 (g7 x0)).getD 0)) && ((ok8 (g9 ((fconv .f32 .f64 (g7 x0)).getD 0)) (g7 x0)) && (bif (!(g8 (g9 ((fconv .f32 .f64 (g7 x0)).getD 0)) (g7 x0))) then true else ((ok10 (g7 x0)) && (bif (!(g11 (g7 x0))) then true else (bif (!(g11 (g10 (g7 x0)))) then true else (((fconv .f32 .f64 (g7 x0)).isSome) && (((fconv .f32 .f64 (g10 (g7 x0))).isSome) && (((fconv .f32 .f64 (g7 x0)).isSome) && (((fconv .f32 .f64 (g10 (g7 x0))).isSome) && ((ok12 (g7 x0)) && (bif (icmp .eql (Int.tmod (g12 (g7 x0)) 2) 1) then ((ok9 (fop .quo .f64 (fop .add .f64 ((fconv .f32 .f64 (g7 x0)).getD 0) ((fconv .f32 .f64 (g10 (g7 x0))).getD 0)) 4611686018427387904)) && (bif (fcmp .eql .f32 (g9 (fop .quo .f64 (fop .add .f64 ((fconv .f32 .f64 (g7 x0)).getD 0) ((fconv .f32 .f64 (g10 (g7 x0))).getD 0)) 4611686018427387904)) (g10 (g7 x0))) then ((ok9 (fop .quo .f64 (fop .add .f64 ((fconv .f32 .f64 (g7 x0)).getD 0) (fop .quo .f64 (fop .add .f64 ((fconv .f32 .f64 (g7 x0)).getD 0) ((fconv .f32 .f64 (g10 (g7 x0))).getD 0)) 4611686018427387904)) 4611686018427387904)) && (bif (fcmp .eql .f32 (g9 (fop .quo .f64 (fop .add .f64 ((fconv .f32 .f64 (g7 x0)).getD 0) (fop .quo .f64 (fop .add .f64 ((fconv .f32 .f64 (g7 x0)).getD 0) ((fconv .f32 .f64 (g10 (g7 x0))).getD 0)) 4611686018427387904)) 4611686018427387904)) (g7 x0)) then (ok9 (fop .quo .f64 (fop .add .f64 ((fconv .f32 .f64 (g10 (g7 x0))).getD 0) (fop .quo .f64 (fop .add .f64 ((fconv .f32 .f64 (g7 x0)).getD 0) ((fconv .f32 .f64 (g10 (g7 x0))).getD 0)) 4611686018427387904)) 4611686018427387904)) else true)) else true)) else ((ok9 (fop .quo .f64 (fop .add .f64 ((fconv .f32 .f64 (g7 x0)).getD 0) ((fconv .f32 .f64 (g10 (g7 x0))).getD 0)) 4611686018427387904)) && (bif (fcmp .eql .f32 (g9 (fop .quo .f64 (fop .add .f64 ((fconv .f32 .f64 (g7 x0)).getD 0) ((fconv .f32 .f64 (g10 (g7 x0))).getD 0)) 4611686018427387904)) (g7 x0)) then ((ok9 (fop .quo .f64 (fop .add .f64 ((fconv .f32 .f64 (g7 x0)).getD 0) (fop .quo .f64 (fop .add .f64 ((fconv .f32 .f64 (g7 x0)).getD 0) ((fconv .f32 .f64 (g10 (g7 x0))).getD 0)) 4611686018427387904)) 4611686018427387904)) && (bif (fcmp .eql .f32 (g9 (fop .quo .f64 (fop .add .f64 ((fconv .f32 .f64 (g7 x0)).getD 0) (fop .quo .f64 (fop .add .f64 ((fconv .f32 .f64 (g7 x0)).getD 0) ((fconv .f32 .f64 (g10 (g7 x0))).getD 0)) 4611686018427387904)) 4611686018427387904)) (g7 x0)) then (ok9 (fop .quo .f64 (fop .add .f64 ((fconv .f32 .f64 (g10 (g7 x0))).getD 0) (fop .quo .f64 (fop .add .f64 ((fconv .f32 .f64 (g7 x0)).getD 0) ((fconv .f32 .f64 (g10 (g7 x0))).getD 0)) 4611686018427387904)) 4611686018427387904)) else true)) else true)))))))))))))))))
def v3 : List V → Option V
  | [(.sl 1 x0), (.sl 1 x1)] => some (r3 (g3 x0 x1))
  | _ => none
def c3 : List V → Bool
  | [(.sl 1 x0), (.sl 1 x1)] => ok3 x0 x1
  | _ => false
def s3 : Summ := .pureC c3 v3
set_option maxRecDepth 100000 in
theorem tree3 (x0 : List (List V)) (x1 : List (List V)) : runPure E3 4 3 [(.sl 1 x0), (.sl 1 x1)] = (bif (g6 x0 x1) then some (.bool true) else (bif ok7 x0 then (bif (fconv .f32 .f64 (g7 x0)).isSome then (bif ok9 ((fconv .f32 .f64 (g7 x0)).getD 0) then (bif ok8 (g9 ((fconv .f32 .f64 (g7 x0)).getD 0)) (g7 x0) then (bif (!(g8 (g9 ((fconv .f32 .f64 (g7 x0)).getD 0)) (g7 x0))) then some (.bool false) else (bif ok10 (g7 x0) then (bif (!(g11 (g7 x0))) then some (.bool true) else (bif (!(g11 (g10 (g7 x0)))) then some (.bool true) else (bif (fconv .f32 .f64 (g7 x0)).isSome then (bif (fconv .f32 .f64 (g10 (g7 x0))).isSome then (bif (fconv .f32 .f64 (g7 x0)).isSome then (bif (fconv .f32 .f64 (g10 (g7 x0))).isSome then (bif ok12 (g7 x0) then (bif (icmp .eql (Int.tmod (g12 (g7 x0)) 2) 1) then (bif ok9 (fop .quo .f64 (fop .add .f64 ((fconv .f32 .f64 (g7 x0)).getD 0) ((fconv .f32 .f64 (g10 (g7 x0))).getD 0)) 4611686018427387904) then (bif (fcmp .eql .f32 (g9 (fop .quo .f64 (fop .add .f64 ((fconv .f32 .f64 (g7 x0)).getD 0) ((fconv .f32 .f64 (g10 (g7 x0))).getD 0)) 4611686018427387904)) (g10 (g7 x0))) then (bif ok9 (fop .quo .f64 (fop .add .f64 ((fconv .f32 .f64 (g7 x0)).getD 0) (fop .quo .f64 (fop .add .f64 ((fconv .f32 .f64 (g7 x0)).getD 0) ((fconv .f32 .f64 (g10 (g7 x0))).getD 0)) 4611686018427387904)) 4611686018427387904) then (bif (fcmp .eql .f32 (g9 (fop .quo .f64 (fop .add .f64 ((fconv .f32 .f64 (g7 x0)).getD 0) (fop .quo .f64 (fop .add .f64 ((fconv .f32 .f64 (g7 x0)).getD 0) ((fconv .f32 .f64 (g10 (g7 x0))).getD 0)) 4611686018427387904)) 4611686018427387904)) (g7 x0)) then (bif ok9 (fop .quo .f64 (fop .add .f64 ((fconv .f32 .f64 (g10 (g7 x0))).getD 0) (fop .quo .f64 (fop .add .f64 ((fconv .f32 .f64 (g7 x0)).getD 0) ((fconv .f32 .f64 (g10 (g7 x0))).getD 0)) 4611686018427387904)) 4611686018427387904) then some (.bool (fcmp .eql .f32 (g9 (fop .quo .f64 (fop .add .f64 ((fconv .f32 .f64 (g10 (g7 x0))).getD 0) (fop .quo .f64 (fop .add .f64 ((fconv .f32 .f64 (g7 x0)).getD 0) ((fconv .f32 .f64 (g10 (g7 x0))).getD 0)) 4611686018427387904)) 4611686018427387904)) (g10 (g7 x0)))) else none) else some (.bool false)) else none) else some (.bool false)) else none) else (bif ok9 (fop .quo .f64 (fop .add .f64 ((fconv .f32 .f64 (g7 x0)).getD 0) ((fconv .f32 .f64 (g10 (g7 x0))).getD 0)) 4611686018427387904) then (bif (fcmp .eql .f32 (g9 (fop .quo .f64 (fop .add .f64 ((fconv .f32 .f64 (g7 x0)).getD 0) ((fconv .f32 .f64 (g10 (g7 x0))).getD 0)) 4611686018427387904)) (g7 x0)) then (bif ok9 (fop .quo .f64 (fop .add .f64 ((fconv .f32 .f64 (g7 x0)).getD 0) (fop .quo .f64 (fop .add .f64 ((fconv .f32 .f64 (g7 x0)).getD 0) ((fconv .f32 .f64 (g10 (g7 x0))).getD 0)) 4611686018427387904)) 4611686018427387904) then (bif (fcmp .eql .f32 (g9 (fop .quo .f64 (fop .add .f64 ((fconv .f32 .f64 (g7 x0)).getD 0) (fop .quo .f64 (fop .add .f64 ((fconv .f32 .f64 (g7 x0)).getD 0) ((fconv .f32 .f64 (g10 (g7 x0))).getD 0)) 4611686018427387904)) 4611686018427387904)) (g7 x0)) then (bif ok9 (fop .quo .f64 (fop .add .f64 ((fconv .f32 .f64 (g10 (g7 x0))).getD 0) (fop .quo .f64 (fop .add .f64 ((fconv .f32 .f64 (g7 x0)).getD 0) ((fconv .f32 .f64 (g10 (g7 x0))).getD 0)) 4611686018427387904)) 4611686018427387904) then some (.bool (fcmp .eql .f32 (g9 (fop .quo .f64 (fop .add .f64 ((fconv .f32 .f64 (g10 (g7 x0))).getD 0) (fop .quo .f64 (fop .add .f64 ((fconv .f32 .f64 (g7 x0)).getD 0) ((fconv .f32 .f64 (g10 (g7 x0))).getD 0)) 4611686018427387904)) 4611686018427387904)) (g10 (g7 x0)))) else none) else some (.bool false)) else none) else some (.bool false)) else none)) else none) else none) else none) else none) else none))) else none)) else none) else none) else none) else none)) := by kernel_rfl
theorem run3 (x0 : List (List V)) (x1 : List (List V)) (h : ok3 x0 x1 = true) : runPure E3 4 3 [(.sl 1 x0), (.sl 1 x1)] = some (r3 (g3 x0 x1)) := (tree3 x0 x1).trans ((ite_ok (F := r3) (fun _ => (leaf_ok (F := r3) (a := true))) (chk_ok (F := r3) (chk_ok (F := r3) (chk_ok (F := r3) (chk_ok (F := r3) (ite_ok (F := r3) (fun _ => (leaf_ok (F := r3) (a := false))) (chk_ok (F := r3) (ite_ok (F := r3) (fun _ => (leaf_ok (F := r3) (a := true))) (ite_ok (F := r3) (fun _ => (leaf_ok (F := r3) (a := true))) (chk_ok (F := r3) (chk_ok (F := r3) (chk_ok (F := r3) (chk_ok (F := r3) (chk_ok (F := r3) (ite_ok (F := r3) (chk_ok (F := r3) (ite_ok (F := r3) (chk_ok (F := r3) (ite_ok (F := r3) (chk_k (F := r3) (leaf_ok (F := r3) (a := (fcmp .eql .f32 (g9 (fop .quo .f64 (fop .add .f64 ((fconv .f32 .f64 (g10 (g7 x0))).getD 0) (fop .quo .f64 (fop .add .f64 ((fconv .f32 .f64 (g7 x0)).getD 0) ((fconv .f32 .f64 (g10 (g7 x0))).getD 0)) 4611686018427387904)) 4611686018427387904)) (g10 (g7 x0)))))) (fun _ => (leaf_ok (F := r3) (a := false))))) (fun _ => (leaf_ok (F := r3) (a := false))))) (chk_ok (F := r3) (ite_ok (F := r3) (chk_ok (F := r3) (ite_ok (F := r3) (chk_k (F := r3) (leaf_ok (F := r3) (a := (fcmp .eql .f32 (g9 (fop .quo .f64 (fop .add .f64 ((fconv .f32 .f64 (g10 (g7 x0))).getD 0) (fop .quo .f64 (fop .add .f64 ((fconv .f32 .f64 (g7 x0)).getD 0) ((fconv .f32 .f64 (g10 (g7 x0))).getD 0)) 4611686018427387904)) 4611686018427387904)) (g10 (g7 x0)))))) (fun _ => (leaf_ok (F := r3) (a := false))))) (fun _ => (leaf_ok (F := r3) (a := false)))))))))))))))))))) h)
theorem summ3 : SummOK Try.prog 3 s3 := by
  refine ⟨pure_of_run orders names sok3 4 fun vs v h => ?_, Try.f3, by kernel_rfl, by kernel_rfl, by kernel_rfl⟩
  cases hc : c3 vs
  · rw [hc] at h; cases h
  rw [hc] at h
  simp only [cond_true] at h
  unfold v3 at h
  split at h
  · cases h; exact run3 _ _ hc
  · cases h

-- loop.example/g01253/laws.FnBits
def S4 : FuncId → Option Summ := fun f => match f with
  | 6 => some s6
  | 7 => some s7
  | 13 => some s13
  | 14 => some s14
  | 15 => some s15
  | 16 => some s16
  | 17 => some s17
  | 18 => some s18
  | _ => none
noncomputable def E4 : Env := ⟨Try.prog, S4, fun _ _ => [], 100⟩
theorem sok4 : SOK E4 := by
  intro f s h
  have h : S4 f = some s := h
  unfold S4 at h
  split at h
  · cases h; exact summ6
  · cases h; exact summ7
  · cases h; exact summ13
  · cases h; exact summ14
  · cases h; exact summ15
  · cases h; exact summ16
  · cases h; exact summ17
  · cases h; exact summ18
  · cases h
def r4 (p : Bool) : V := (.bool p)
def g4 (x0 : List (List V)) (x1 : List (List V)) : Bool := (bif (g6 x0 x1) then true else (bif (!(g14 (g13 (g7 x0))).2) then false else (bif (icmp .lss (g13 (g7 x0)) 0) then false else (bif (icmp .gtr (g13 (g7 x0)) 4294967295) then false else (bif (!(g15 (g14 (g13 (g7 x0))).1 (g7 x0))) then false else (bif (!((g15 (g7 x0) (g7 x1)) == (icmp .eql (g13 (g7 x0)) (g13 (g7 x1))))) then false else (bif (!((fcmp .neq .f32 (g7 x0) (g7 x0)) == (icmp .eql (g13 (g7 x0)) 2143289344))) then false else (bif (!((g16 (g7 x0)) == (icmp .neq (ibits .and .i64 (g13 (g7 x0)) 2139095040) 2139095040))) then false else (bif (fcmp .neq .f32 (g7 x0) (g7 x0)) then (bif (fcmp .neq .f32 (g17 (g7 x0)) (g17 (g7 x0))) then (fcmp .neq .f32 (g18 (g7 x0)) (g18 (g7 x0))) else false) else (bif (!(g16 (g7 x0))) then (bif (fcmp .gtr .f32 (g7 x0) 0) then (bif (fcmp .eql .f32 (g17 (g7 x0)) (g7 x0)) then (bif (fcmp .lss .f32 (g18 (g7 x0)) (g7 x0)) then true else (bif (fcmp .lss .f32 (g7 x0) 0) then (bif (fcmp .gtr .f32 (g17 (g7 x0)) (g7 x0)) then (fcmp .eql .f32 (g18 (g7 x0)) (g7 x0)) else false) else false)) else (bif (fcmp .lss .f32 (g7 x0) 0) then (bif (fcmp .gtr .f32 (g17 (g7 x0)) (g7 x0)) then (fcmp .eql .f32 (g18 (g7 x0)) (g7 x0)) else false) else false)) else (bif (fcmp .lss .f32 (g7 x0) 0) then (bif (fcmp .gtr .f32 (g17 (g7 x0)) (g7 x0)) then (fcmp .eql .f32 (g18 (g7 x0)) (g7 x0)) else false) else false)) else (bif (!(fcmp .gtr .f32 (g17 (g7 x0)) (g7 x0))) then false else (bif (!(fcmp .lss .f32 (g18 (g7 x0)) (g7 x0))) then false else (bif (fcmp .gtr .f32 (g7 x1) (g7 x0)) then (bif (fcmp .lss .f32 (g7 x1) (g17 (g7 x0))) then false else (bif (fcmp .lss .f32 (g7 x1) (g7 x0)) then (bif (fcmp .gtr .f32 (g7 x1) (g18 (g7 x0))) then false else (bif (fcmp .eql .f32 (g18 (g17 (g7 x0))) (g7 x0)) then (fcmp .eql .f32 (g17 (g18 (g7 x0))) (g7 x0)) else false)) else (bif (fcmp .eql .f32 (g18 (g17 (g7 x0))) (g7 x0)) then (fcmp .eql .f32 (g17 (g18 (g7 x0))) (g7 x0)) else false))) else (bif (fcmp .lss .f32 (g7 x1) (g7 x0)) then (bif (fcmp .gtr .f32 (g7 x1) (g18 (g7 x0))) then false else (bif (fcmp .eql .f32 (g18 (g17 (g7 x0))) (g7 x0)) then (fcmp .eql .f32 (g17 (g18 (g7 x0))) (g7 x0)) else false)) else (bif (fcmp .eql .f32 (g18 (g17 (g7 x0))) (g7 x0)) then (fcmp .eql .f32 (g17 (g18 (g7 x0))) (g7 x0)) else false)))))))))))))))
def ok4 (x0 : List (List V)) (x1 : List (List V)) : Bool := (bif (g6 x0 x1) then true else ((ok7 x0) && ((ok7 x1) && ((ok13 (g7 x0)) && (bif (!(g14 (g13 (g7 x0))).2) then true else (bif (icmp .lss (g13 (g7 x0)) 0) then true else (bif (icmp .gtr (g13 (g7 x0)) 4294967295) then true else ((ok15 (g14 (g13 (g7 x0))).1 (g7 x0)) && (bif (!(g15 (g14 (g13 (g7 x0))).1 (g7 x0))) then true else ((ok15 (g7 x0) (g7 x1)) && ((ok13 (g7 x1)) && (bif (!((g15 (g7 x0) (g7 x1)) == (icmp .eql (g13 (g7 x0)) (g13 (g7 x1))))) then true else (bif (!((fcmp .neq .f32 (g7 x0) (g7 x0)) == (icmp .eql (g13 (g7 x0)) 2143289344))) then true else (bif (!((g16 (g7 x0)) == (icmp .neq (ibits .and .i64 (g13 (g7 x0)) 2139095040) 2139095040))) then true else ((ok17 (g7 x0)) && ((ok18 (g7 x0)) && (bif (fcmp .neq .f32 (g7 x0) (g7 x0)) then true else (bif (!(g16 (g7 x0))) then true else (bif (!(fcmp .gtr .f32 (g17 (g7 x0)) (g7 x0))) then true else (bif (!(fcmp .lss .f32 (g18 (g7 x0)) (g7 x0))) then true else (bif (fcmp .gtr .f32 (g7 x1) (g7 x0)) then (bif (fcmp .lss .f32 (g7 x1) (g17 (g7 x0))) then true else (bif (fcmp .lss .f32 (g7 x1) (g7 x0)) then (bif (fcmp .gtr .f32 (g7 x1) (g18 (g7 x0))) then true else ((ok18 (g17 (g7 x0))) && (bif (fcmp .eql .f32 (g18 (g17 (g7 x0))) (g7 x0)) then (ok17 (g18 (g7 x0))) else true))) else ((ok18 (g17 (g7 x0))) && (bif (fcmp .eql .f32 (g18 (g17 (g7 x0))) (g7 x0)) then (ok17 (g18 (g7 x0))) else true)))) else (bif (fcmp .lss .f32 (g7 x1) (g7 x0)) then (bif (fcmp .gtr .f32 (g7 x1) (g18 (g7 x0))) then true else ((ok18 (g17 (g7 x0))) && (bif (fcmp .eql .f32 (g18 (g17 (g7 x0))) (g7 x0)) then (ok17 (g18 (g7 x0))) else true))) else ((ok18 (g17 (g7 x0))) && (bif (fcmp .eql .f32 (g18 (g17 (g7 x0))) (g7 x0)) then (ok17 (g18 (g7 x0))) else true))))))))))))))))))))))))
def v4 : List V → Option V
  | [(.sl 1 x0), (.sl 1 x1)] => some (r4 (g4 x0 x1))
  | _ => none
def c4 : List V → Bool
  | [(.sl 1 x0), (.sl 1 x1)] => ok4 x0 x1
  | _ => false
def s4 : Summ := .pureC c4 v4
set_option maxRecDepth 100000 in
theorem tree4 (x0 : List (List V)) (x1 : List (List V)) : runPure E4 4 4 [(.sl 1 x0), (.sl 1 x1)] = (bif (g6 x0 x1) then some (.bool true) else (bif ok7 x0 then (bif ok7 x1 then (bif ok13 (g7 x0) then (bif (!(g14 (g13 (g7 x0))).2) then some (.bool false) else (bif (icmp .lss (g13 (g7 x0)) 0) then some (.bool false) else (bif (icmp .gtr (g13 (g7 x0)) 4294967295) then some (.bool false) else (bif ok15 (g14 (g13 (g7 x0))).1 (g7 x0) then (bif (!(g15 (g14 (g13 (g7 x0))).1 (g7 x0))) then some (.bool false) else (bif ok15 (g7 x0) (g7 x1) then (bif ok13 (g7 x1) then (bif (!((g15 (g7 x0) (g7 x1)) == (icmp .eql (g13 (g7 x0)) (g13 (g7 x1))))) then some (.bool false) else (bif (!((fcmp .neq .f32 (g7 x0) (g7 x0)) == (icmp .eql (g13 (g7 x0)) 2143289344))) then some (.bool false) else (bif (!((g16 (g7 x0)) == (icmp .neq (ibits .and .i64 (g13 (g7 x0)) 2139095040) 2139095040))) then some (.bool false) else (bif ok17 (g7 x0) then (bif ok18 (g7 x0) then (bif (fcmp .neq .f32 (g7 x0) (g7 x0)) then (bif (fcmp .neq .f32 (g17 (g7 x0)) (g17 (g7 x0))) then some (.bool (fcmp .neq .f32 (g18 (g7 x0)) (g18 (g7 x0)))) else some (.bool false)) else (bif (!(g16 (g7 x0))) then (bif (fcmp .gtr .f32 (g7 x0) 0) then (bif (fcmp .eql .f32 (g17 (g7 x0)) (g7 x0)) then (bif (fcmp .lss .f32 (g18 (g7 x0)) (g7 x0)) then some (.bool true) else (bif (fcmp .lss .f32 (g7 x0) 0) then (bif (fcmp .gtr .f32 (g17 (g7 x0)) (g7 x0)) then some (.bool (fcmp .eql .f32 (g18 (g7 x0)) (g7 x0))) else some (.bool false)) else some (.bool false))) else (bif (fcmp .lss .f32 (g7 x0) 0) then (bif (fcmp .gtr .f32 (g17 (g7 x0)) (g7 x0)) then some (.bool (fcmp .eql .f32 (g18 (g7 x0)) (g7 x0))) else some (.bool false)) else some (.bool false))) else (bif (fcmp .lss .f32 (g7 x0) 0) then (bif (fcmp .gtr .f32 (g17 (g7 x0)) (g7 x0)) then some (.bool (fcmp .eql .f32 (g18 (g7 x0)) (g7 x0))) else some (.bool false)) else some (.bool false))) else (bif (!(fcmp .gtr .f32 (g17 (g7 x0)) (g7 x0))) then some (.bool false) else (bif (!(fcmp .lss .f32 (g18 (g7 x0)) (g7 x0))) then some (.bool false) else (bif (fcmp .gtr .f32 (g7 x1) (g7 x0)) then (bif (fcmp .lss .f32 (g7 x1) (g17 (g7 x0))) then some (.bool false) else (bif (fcmp .lss .f32 (g7 x1) (g7 x0)) then (bif (fcmp .gtr .f32 (g7 x1) (g18 (g7 x0))) then some (.bool false) else (bif ok18 (g17 (g7 x0)) then (bif (fcmp .eql .f32 (g18 (g17 (g7 x0))) (g7 x0)) then (bif ok17 (g18 (g7 x0)) then some (.bool (fcmp .eql .f32 (g17 (g18 (g7 x0))) (g7 x0))) else none) else some (.bool false)) else none)) else (bif ok18 (g17 (g7 x0)) then (bif (fcmp .eql .f32 (g18 (g17 (g7 x0))) (g7 x0)) then (bif ok17 (g18 (g7 x0)) then some (.bool (fcmp .eql .f32 (g17 (g18 (g7 x0))) (g7 x0))) else none) else some (.bool false)) else none))) else (bif (fcmp .lss .f32 (g7 x1) (g7 x0)) then (bif (fcmp .gtr .f32 (g7 x1) (g18 (g7 x0))) then some (.bool false) else (bif ok18 (g17 (g7 x0)) then (bif (fcmp .eql .f32 (g18 (g17 (g7 x0))) (g7 x0)) then (bif ok17 (g18 (g7 x0)) then some (.bool (fcmp .eql .f32 (g17 (g18 (g7 x0))) (g7 x0))) else none) else some (.bool false)) else none)) else (bif ok18 (g17 (g7 x0)) then (bif (fcmp .eql .f32 (g18 (g17 (g7 x0))) (g7 x0)) then (bif ok17 (g18 (g7 x0)) then some (.bool (fcmp .eql .f32 (g17 (g18 (g7 x0))) (g7 x0))) else none) else some (.bool false)) else none))))))) else none) else none)))) else none) else none)) else none)))) else none) else none) else none)) := by kernel_rfl
theorem run4 (x0 : List (List V)) (x1 : List (List V)) (h : ok4 x0 x1 = true) : runPure E4 4 4 [(.sl 1 x0), (.sl 1 x1)] = some (r4 (g4 x0 x1)) := (tree4 x0 x1).trans ((ite_ok (F := r4) (fun _ => (leaf_ok (F := r4) (a := true))) (chk_ok (F := r4) (chk_ok (F := r4) (chk_ok (F := r4) (ite_ok (F := r4) (fun _ => (leaf_ok (F := r4) (a := false))) (ite_ok (F := r4) (fun _ => (leaf_ok (F := r4) (a := false))) (ite_ok (F := r4) (fun _ => (leaf_ok (F := r4) (a := false))) (chk_ok (F := r4) (ite_ok (F := r4) (fun _ => (leaf_ok (F := r4) (a := false))) (chk_ok (F := r4) (chk_ok (F := r4) (ite_ok (F := r4) (fun _ => (leaf_ok (F := r4) (a := false))) (ite_ok (F := r4) (fun _ => (leaf_ok (F := r4) (a := false))) (ite_ok (F := r4) (fun _ => (leaf_ok (F := r4) (a := false))) (chk_ok (F := r4) (chk_ok (F := r4) (ite_ok (F := r4) (fun _ => (ite_k (F := r4) (leaf_ok (F := r4) (a := (fcmp .neq .f32 (g18 (g7 x0)) (g18 (g7 x0))))) (leaf_ok (F := r4) (a := false)))) (ite_ok (F := r4) (fun _ => (ite_k (F := r4) (ite_k (F := r4) (ite_k (F := r4) (leaf_ok (F := r4) (a := true)) (ite_k (F := r4) (ite_k (F := r4) (leaf_ok (F := r4) (a := (fcmp .eql .f32 (g18 (g7 x0)) (g7 x0)))) (leaf_ok (F := r4) (a := false))) (leaf_ok (F := r4) (a := false)))) (ite_k (F := r4) (ite_k (F := r4) (leaf_ok (F := r4) (a := (fcmp .eql .f32 (g18 (g7 x0)) (g7 x0)))) (leaf_ok (F := r4) (a := false))) (leaf_ok (F := r4) (a := false)))) (ite_k (F := r4) (ite_k (F := r4) (leaf_ok (F := r4) (a := (fcmp .eql .f32 (g18 (g7 x0)) (g7 x0)))) (leaf_ok (F := r4) (a := false))) (leaf_ok (F := r4) (a := false))))) (ite_ok (F := r4) (fun _ => (leaf_ok (F := r4) (a := false))) (ite_ok (F := r4) (fun _ => (leaf_ok (F := r4) (a := false))) (ite_ok (F := r4) (ite_ok (F := r4) (fun _ => (leaf_ok (F := r4) (a := false))) (ite_ok (F := r4) (ite_ok (F := r4) (fun _ => (leaf_ok (F := r4) (a := false))) (chk_ok (F := r4) (ite_ok (F := r4) (chk_k (F := r4) (leaf_ok (F := r4) (a := (fcmp .eql .f32 (g17 (g18 (g7 x0))) (g7 x0))))) (fun _ => (leaf_ok (F := r4) (a := false)))))) (chk_ok (F := r4) (ite_ok (F := r4) (chk_k (F := r4) (leaf_ok (F := r4) (a := (fcmp .eql .f32 (g17 (g18 (g7 x0))) (g7 x0))))) (fun _ => (leaf_ok (F := r4) (a := false))))))) (ite_ok (F := r4) (ite_ok (F := r4) (fun _ => (leaf_ok (F := r4) (a := false))) (chk_ok (F := r4) (ite_ok (F := r4) (chk_k (F := r4) (leaf_ok (F := r4) (a := (fcmp .eql .f32 (g17 (g18 (g7 x0))) (g7 x0))))) (fun _ => (leaf_ok (F := r4) (a := false)))))) (chk_ok (F := r4) (ite_ok (F := r4) (chk_k (F := r4) (leaf_ok (F := r4) (a := (fcmp .eql .f32 (g17 (g18 (g7 x0))) (g7 x0))))) (fun _ => (leaf_ok (F := r4) (a := false))))))))))))))))))))))))))) h)
theorem summ4 : SummOK Try.prog 4 s4 := by
  refine ⟨pure_of_run orders names sok4 4 fun vs v h => ?_, Try.f4, by kernel_rfl, by kernel_rfl, by kernel_rfl⟩
  cases hc : c4 vs
  · rw [hc] at h; cases h
  rw [hc] at h
  simp only [cond_true] at h
  unfold v4 at h
  split at h
  · cases h; exact run4 _ _ hc
  · cases h

end Go.Proofs.Ytggfjjacafgkkaa
