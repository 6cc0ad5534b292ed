/-
  The canonical words of 32 bits.
-/
import Derived.Test.YtggfjjacafgkkaaNum2
import Derived.Test.YtggfjjacafgkkaaFlo8
namespace Go.Proofs.Ytggfjjacafgkkaa
open Go.Ev Go Ieee

/-- A canonical word: the not-a-number, an infinity, a finite one. -/
theorem F32_cases {x : Nat} (h : F32 x) : x = 2143289344 ∨ (∃ s : Bool, ∃ r, r ≤ 2139095040 ∧ x = FloatKind.f32.format.word s r) := by
  obtain ⟨h1, h2⟩ := h
  cases hn : isNan .f32 x
  · right
    rw [isNan_eq, inf32, sw32] at hn
    have hle : x % 2147483648 ≤ 2139095040 := by simpa using hn
    by_cases hx : x < 2147483648
    · refine ⟨false, x, ?_, rfl⟩
      rw [Nat.mod_eq_of_lt hx] at hle
      exact hle
    · refine ⟨true, x - 2147483648, ?_, ?_⟩
      · omega
      · unfold Format.word
        rw [sw32, if_pos rfl]
        omega
  · left
    rw [canon_of_nan hn] at h2
    exact h2.symm

theorem not_nan_word {s : Bool} {r : Nat} (hr : r ≤ 2139095040) : isNan .f32 (FloatKind.f32.format.word s r) = false := isNan_word .f32 s (by rw [inf32]; exact hr)

theorem is_word {s : Bool} {r : Nat} (hr : r < 2139095040) : Is .f32 s (val .f32 r * 2 ^ loOf .f32) (FloatKind.f32.format.word s r) := ⟨r, by rw [inf32]; omega, rfl, rfl⟩

theorem word_pos (r : Nat) : FloatKind.f32.format.word false r = r := rfl
theorem word_neg (r : Nat) : FloatKind.f32.format.word true r = 2147483648 + r := by
  unfold Format.word
  rw [sw32, if_pos rfl]

theorem order_self {x : Nat} (hn : isNan .f32 x = false) : FloatKind.f32.format.order x x = some .eq := by
  unfold Format.order
  unfold isNan at hn
  generalize FloatKind.f32.format.read x = d at hn
  cases d with
  | number s m p =>
    simp only [Datum.order]
    congr 1
    simp only [compare, compareOfLessAndEq]
    rw [if_neg (Int.lt_irrefl _), if_pos trivial]
  | infinity s => cases s <;> rfl
  | nan s t => simp [Datum.isNaN] at hn

theorem neq_self {x : Nat} (hn : isNan .f32 x = false) : fcmp .neq .f32 x x = false := by
  unfold fcmp
  simp only [order_self hn]
  decide

theorem small64 {x : Nat} (h : x < 4294967296) : IntKind.i64.wrap (x : Int) = x := small _ (by omega) (by omega)

/-- A number that is not not-a-number has its bits. -/
theorem g34_num {x : Nat} (hn : isNan .f32 x = false) (hlt : x < 4294967296) : ok34 x = true ∧ g34 x = (x : Int) := by
  obtain ⟨b1, b2⟩ := bits_num hn
  unfold ok34 g34
  rw [b1, b2, small64 hlt, neq_self hn]
  exact ⟨rfl, rfl⟩
end Go.Proofs.Ytggfjjacafgkkaa
