/-
  What all functions' texts lean on: how trees are tied to typed functions; the functions without a body.
-/
import Derived.Test.YtggfjjacafgkkaaEv23
import Derived.Test.YtggfjjacafgkkaaChecked
import Derived.KernelRfl
namespace Go.Proofs.Ytggfjjacafgkkaa
open Go.Ev Go

theorem leaf_ok {α β : Type} {F : α → β} {a : α} : some (F a) = some (F a) := rfl
theorem ite_k {α β : Type} {F : α → β} {c : Bool} {A B : Option β} {a b : α} (h : A = some (F a)) (h' : B = some (F b)) : (bif c then A else B) = some (F (bif c then a else b)) := by
  cases c <;> assumption
theorem ite_ok {α β : Type} {F : α → β} {c p q : Bool} {A B : Option β} {a b : α} (h : p = true → A = some (F a)) (h' : q = true → B = some (F b)) (hc : (bif c then p else q) = true) : (bif c then A else B) = some (F (bif c then a else b)) := by
  cases c
  · exact h' hc
  · exact h hc
theorem chk_k {α β : Type} {F : α → β} {c : Bool} {A : Option β} {a : α} (h : A = some (F a)) (hc : c = true) : (bif c then A else none) = some (F a) := by
  rw [hc]; exact h
theorem chk_ok {α β : Type} {F : α → β} {c p : Bool} {A : Option β} {a : α} (h : p = true → A = some (F a)) (hc : (c && p) = true) : (bif c then A else none) = some (F a) := by
  rw [Bool.and_eq_true] at hc
  rw [hc.1]; exact h hc.2

theorem orders : Try.prog.follows .mixedOrders = true := by kernel_rfl
theorem names : namesOK Try.prog = true := by kernel_rfl

def bitsC (x : Nat) : Bool := (primBits .f32 [.flt .f32 x]).isSome && isI .u32 ((primBits .f32 [.flt .f32 x]).getD .und)
def bitsF (x : Nat) : Int := asI ((primBits .f32 [.flt .f32 x]).getD .und)

theorem bits_num {x : Nat} (h : isNan .f32 x = false) : bitsC x = true ∧ bitsF x = x := by
  have hp : primBits .f32 [.flt .f32 x] = some (.int .u32 x) := by
    have : primBits .f32 [.flt .f32 x] = (bif isNan .f32 x then none else some (.int .u32 x)) := rfl
    rw [this, h]; rfl
  unfold bitsC bitsF
  rw [hp]
  exact ⟨rfl, rfl⟩
end Go.Proofs.Ytggfjjacafgkkaa
