/-
  What is finite.
-/
import Derived.Test.YtggfjjacafgkkaaFlo10
import Derived.Test.YtggfjjacafgkkaaFlo11
namespace Go.Proofs.Ytggfjjacafgkkaa
open Go.Ev Go Ieee

theorem sub_self {s : Bool} {a x : Nat} (h : Is .f32 s a x) : fop .sub .f32 x x = 0 := by
  rw [fop_sub h h]
  have e : sz s a + sz (!s) a = 0 := by
    unfold sz
    cases s
    · simp only [Bool.not_false, if_true, Bool.false_eq_true, if_false]; omega
    · simp only [Bool.not_true, if_true, Bool.false_eq_true, if_false]; omega
  rw [e]
  have hs : sgn s (!s) 0 = false := by cases s <;> rfl
  rw [hs]
  unfold near Format.nearest
  rw [if_pos (by rfl)]
  rfl

theorem g11_fin {s : Bool} {r : Nat} (hr : r < 2139095040) : g11 (FloatKind.f32.format.word s r) = true := by
  unfold g11
  rw [sub_self (is_word hr)]
  decide +kernel

theorem g11_inf (s : Bool) : g11 (FloatKind.f32.format.word s 2139095040) = false := by
  cases s <;> decide +kernel
end Go.Proofs.Ytggfjjacafgkkaa
