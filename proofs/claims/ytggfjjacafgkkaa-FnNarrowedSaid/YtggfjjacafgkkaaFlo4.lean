/-
  Rounding between two rungs; what is exact.
-/
import Derived.Test.YtggfjjacafgkkaaFlo3
namespace Go.Ev
open Ieee

theorem bin_pow (k : FloatKind) : bin k = 2 ^ fbOf k := rfl

theorem rnd_between {n g q : Nat} (h1 : q * g ≤ n) (h2 : n < (q + 1) * g) : rnd n g = if 2 * n < (2 * q + 1) * g then q else if (2 * q + 1) * g < 2 * n then q + 1 else q + q % 2 := by
  have hg : 0 < g := by
    rcases Nat.eq_zero_or_pos g with h | h
    · subst h; simp at h2
    · exact h
  have hd : n / g = q := Nat.div_eq_of_lt_le h1 h2
  have hm : n % g = n - q * g := by
    have := Nat.div_add_mod n g
    rw [hd, Nat.mul_comm] at this
    omega
  have e : (2 * q + 1) * g = 2 * (q * g) + g := by rw [Nat.add_mul, Nat.one_mul, Nat.mul_assoc]
  unfold rnd
  rw [hd, hm, e]
  have hsub : q * g + (n - q * g) = n := by omega
  generalize n - q * g = t at hsub ⊢
  generalize q * g = s at hsub ⊢
  by_cases c1 : 2 * n < 2 * s + g
  · rw [if_pos c1]
    have a1 : decide (g < 2 * t) = false := by simp; omega
    have a2 : (g == 2 * t) = false := by simp; omega
    simp [a1, a2]
  · rw [if_neg c1]
    by_cases c2 : 2 * s + g < 2 * n
    · rw [if_pos c2]
      have a1 : decide (g < 2 * t) = true := by simp; omega
      simp [a1]
    · rw [if_neg c2]
      have a1 : decide (g < 2 * t) = false := by simp; omega
      have a2 : (g == 2 * t) = true := by simp; omega
      simp only [a1, a2, Bool.false_or, Bool.true_and]
      congr 1
      have : q % 2 = 0 ∨ q % 2 = 1 := by omega
      rcases this with h | h <;> rw [h] <;> rfl

theorem drop_at (k : FloatKind) {r n : Nat} (h1 : val k r * 2 ^ loOf k ≤ n) (h2 : n < val k (r + 1) * 2 ^ loOf k) (hn : n ≠ 0) : dropOf k n = gapE k r + loOf k := by
  obtain ⟨q, hq, hr, hlt, hor⟩ := rung_split k r
  rw [val_succ, hq] at h2
  rw [hq] at h1
  have hb := bin_pow k
  have up : n < 2 ^ (fbOf k + 1 + gapE k r + loOf k) := by
    refine Nat.lt_of_lt_of_le h2 ?_
    have : q * 2 ^ gapE k r + 2 ^ gapE k r = (q + 1) * 2 ^ gapE k r := by rw [Nat.add_mul, Nat.one_mul]
    rw [this, Nat.pow_add, Nat.pow_add]
    refine Nat.mul_le_mul_right _ (Nat.mul_le_mul_right _ ?_)
    rw [Nat.pow_succ, ← hb]
    omega
  have hlog : n.log2 < fbOf k + 1 + gapE k r + loOf k := (Nat.log2_lt hn).2 up
  unfold dropOf
  rcases hor with h | h
  · have lowr : 2 ^ (fbOf k + gapE k r + loOf k) ≤ n := by
      refine Nat.le_trans ?_ h1
      rw [Nat.pow_add, Nat.pow_add]
      refine Nat.mul_le_mul_right _ (Nat.mul_le_mul_right _ ?_)
      rw [← hb]
      exact h
    have : fbOf k + gapE k r + loOf k ≤ n.log2 := (Nat.le_log2 hn).2 lowr
    omega
  · rw [h] at hlog ⊢
    omega

/-- Rounding between two rungs. -/
theorem near_between (k : FloatKind) (neg : Bool) {r n : Nat} (h1 : val k r * 2 ^ loOf k ≤ n) (h2 : n < val k (r + 1) * 2 ^ loOf k) (hn : n ≠ 0) (hr : r + 1 ≤ k.format.infRung) :
    near k.format neg n = k.format.word neg (if 2 * n < (val k r + val k (r + 1)) * 2 ^ loOf k then r else if (val k r + val k (r + 1)) * 2 ^ loOf k < 2 * n then r + 1 else r + r % 2) := by
  have hd := drop_at k h1 h2 hn
  obtain ⟨q, hq, hrr, hlt, hor⟩ := rung_split k r
  rw [near_eq k neg n hn, hd]
  have e0 : gapE k r + loOf k - loOf k = gapE k r := by omega
  rw [e0, binade_eq]
  have hv : val k r * 2 ^ loOf k = q * 2 ^ (gapE k r + loOf k) := by rw [hq, Nat.pow_add, Nat.mul_assoc]
  have hv1 : val k (r + 1) * 2 ^ loOf k = (q + 1) * 2 ^ (gapE k r + loOf k) := by
    rw [val_succ, hq, Nat.pow_add, ← Nat.mul_assoc]
    congr 1
    rw [Nat.add_mul, Nat.one_mul]
  have hmid : (val k r + val k (r + 1)) * 2 ^ loOf k = (2 * q + 1) * 2 ^ (gapE k r + loOf k) := by
    rw [Nat.add_mul, hv, hv1, ← Nat.add_mul]
    congr 1
    omega
  rw [hv] at h1
  rw [hv1] at h2
  rw [rnd_between h1 h2, hmid]
  have hpar : r % 2 = q % 2 := by
    have hb := bin_even k
    have : (gapE k r * bin k) % 2 = 0 := by rw [Nat.mul_mod, hb]; simp
    omega
  congr 1
  split
  · omega
  · split
    · omega
    · rw [hpar]
      omega
end Go.Ev
