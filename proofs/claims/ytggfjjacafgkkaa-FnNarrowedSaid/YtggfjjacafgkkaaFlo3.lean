/-
  Rungs and their values; rounding between two of them.
-/
import Derived.Test.YtggfjjacafgkkaaFlo2
namespace Go.Ev
open Ieee

def bin (k : FloatKind) : Nat := 2 ^ fbOf k

/-- What a rung stands for, in units of the least place. -/
def val (k : FloatKind) (r : Nat) : Nat := if r < bin k then r else (bin k + r % bin k) * 2 ^ (r / bin k - 1)

/-- The step from a rung to the next. -/
def gapE (k : FloatKind) (r : Nat) : Nat := r / bin k - 1

theorem bin_pos (k : FloatKind) : 0 < bin k := Nat.pow_pos (by omega)
theorem bin_even (k : FloatKind) : bin k % 2 = 0 := by cases k <;> decide +kernel
theorem binade_eq (k : FloatKind) : k.format.binade = bin k := by cases k <;> rfl

/-- A rung by its step and its count. -/
theorem rung_split (k : FloatKind) (r : Nat) : ∃ q, val k r = q * 2 ^ gapE k r ∧ r = gapE k r * bin k + q ∧ q < 2 * bin k ∧ (bin k ≤ q ∨ gapE k r = 0) := by
  have hp := bin_pos k
  unfold val gapE
  by_cases h : r < bin k
  · rw [if_pos h, Nat.div_eq_of_lt h]
    exact ⟨r, by simp, by simp, by omega, .inr (by simp)⟩
  · rw [if_neg h]
    have h1 := Nat.div_add_mod r (bin k)
    have h2 := Nat.mod_lt r hp
    have h3 : 1 ≤ r / bin k := (Nat.le_div_iff_mul_le hp).2 (by omega)
    refine ⟨bin k + r % bin k, rfl, ?_, by omega, .inl (by omega)⟩
    have : r / bin k = (r / bin k - 1) + 1 := by omega
    rw [this, Nat.mul_add, Nat.mul_one, Nat.mul_comm] at h1
    omega

theorem val_succ (k : FloatKind) (r : Nat) : val k (r + 1) = val k r + 2 ^ gapE k r := by
  have hp := bin_pos k
  unfold val gapE
  by_cases h : r + 1 < bin k
  · rw [if_pos h, if_pos (by omega), Nat.div_eq_of_lt (by omega : r < bin k)]
  · rw [if_neg h]
    by_cases h' : r < bin k
    · have e : r + 1 = bin k := by omega
      rw [if_pos h', e, Nat.div_self hp, Nat.mod_self, Nat.div_eq_of_lt h']
      simp
      omega
    · rw [if_neg h']
      have h1 := Nat.div_add_mod r (bin k)
      have h2 := Nat.mod_lt r hp
      have h3 : 1 ≤ r / bin k := (Nat.le_div_iff_mul_le hp).2 (by omega)
      by_cases h4 : r % bin k + 1 < bin k
      · have hd : (r + 1) / bin k = r / bin k := by
          rw [← h1, Nat.add_assoc, Nat.mul_add_div hp, Nat.div_eq_of_lt h4, Nat.mul_add_div hp, Nat.div_eq_of_lt h2]
        have hm : (r + 1) % bin k = r % bin k + 1 := by
          rw [← h1, Nat.add_assoc, Nat.mul_add_mod, Nat.mod_eq_of_lt h4, Nat.mul_add_mod, Nat.mod_eq_of_lt h2]
        rw [hd, hm, ← Nat.add_assoc, Nat.add_mul (bin k + r % bin k), Nat.one_mul]
      · have e : r % bin k + 1 = bin k := by omega
        have hr : r + 1 = bin k * (r / bin k + 1) := by rw [Nat.mul_add, Nat.mul_one]; omega
        have hd : (r + 1) / bin k = r / bin k + 1 := by rw [hr, Nat.mul_div_cancel_left _ hp]
        have hm : (r + 1) % bin k = 0 := by rw [hr, Nat.mul_mod_right]
        rw [hd, hm]
        have : r / bin k + 1 - 1 = (r / bin k - 1) + 1 := by omega
        rw [this, Nat.pow_succ, Nat.add_zero]
        generalize 2 ^ (r / bin k - 1) = g
        have : bin k + r % bin k + 1 = 2 * bin k := by omega
        have h5 : (bin k + r % bin k) * g + g = (bin k + r % bin k + 1) * g := by rw [Nat.add_mul (bin k + r % bin k), Nat.one_mul]
        rw [h5, this, Nat.mul_comm g 2, ← Nat.mul_assoc, Nat.mul_comm (bin k) 2]
end Go.Ev
