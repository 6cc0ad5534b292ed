/-
  Words and values.
-/
import Derived.Test.YtggfjjacafgkkaaFlo4
namespace Go.Ev
open Ieee

theorem near_exact (k : FloatKind) (neg : Bool) {r : Nat} (h0 : val k r ≠ 0) (hr : r + 1 ≤ k.format.infRung) : near k.format neg (val k r * 2 ^ loOf k) = k.format.word neg r := by
  have hp : 0 < 2 ^ loOf k := Nat.pow_pos (by omega)
  have hg : 0 < 2 ^ gapE k r := Nat.pow_pos (by omega)
  have hn : val k r * 2 ^ loOf k ≠ 0 := Nat.mul_ne_zero h0 (by omega)
  have hlt : val k r * 2 ^ loOf k < val k (r + 1) * 2 ^ loOf k := Nat.mul_lt_mul_of_pos_right (by rw [val_succ]; omega) hp
  rw [near_between k neg (Nat.le_refl _) hlt hn hr, if_pos ?_]
  rw [Nat.add_mul]
  omega

/-- What a word below infinity stands for. -/
theorem read_val (k : FloatKind) (neg : Bool) {r : Nat} (hr : r < k.format.infRung) : ∃ m p, k.format.read (k.format.word neg r) = .number neg m p ∧ -1200 ≤ p ∧ m * 2 ^ (p + 1200).toNat = val k r * 2 ^ loOf k := by
  have hlt : r < k.format.signWeight := Nat.lt_trans hr (infRung_lt' k)
  have hs : 0 < k.format.signWeight := by omega
  have hmod : k.format.word neg r % k.format.signWeight = r := read_word _ _ hlt
  have hneg : (k.format.word neg r / k.format.signWeight % 2 == 1) = neg := by
    unfold Format.word
    cases neg
    · simp [Nat.div_eq_of_lt hlt]
    · rw [if_pos rfl, Nat.add_div_left _ hs, Nat.div_eq_of_lt hlt]
      rfl
  have hl := least_eq k
  unfold Format.read
  simp only [hmod, hneg]
  rw [binade_eq]
  unfold val
  by_cases h : r < bin k
  · rw [if_pos h, if_pos h]
    refine ⟨r, _, rfl, by omega, ?_⟩
    congr 2
    omega
  · rw [if_neg h, if_pos hr, if_neg h]
    refine ⟨_, _, rfl, by omega, ?_⟩
    rw [Nat.mul_assoc, ← Nat.pow_add]
    congr 2
    omega

/-- A number of few digits is a word. -/
theorem near_rep (k : FloatKind) (neg : Bool) {n : Nat} (hn : n ≠ 0) (hd : 2 ^ dropOf k n ∣ n) (hr : (dropOf k n - loOf k) * bin k + 2 * bin k ≤ k.format.infRung) :
    ∃ r, r + 1 ≤ k.format.infRung ∧ near k.format neg n = k.format.word neg r ∧ val k r * 2 ^ loOf k = n := by
  obtain ⟨m, hm⟩ := hd
  have hp := bin_pos k
  have hb := bin_pow k
  have hlt : n < 2 ^ (n.log2 + 1) := Nat.lt_log2_self
  have hle : 2 ^ n.log2 ≤ n := Nat.log2_self_le hn
  have hdl : loOf k ≤ dropOf k n := Nat.le_max_right _ _
  have hdf : n.log2 ≤ dropOf k n + fbOf k := by unfold dropOf; omega
  generalize hD : dropOf k n = D at *
  have hm2 : m < 2 * bin k := by
    have : n < 2 ^ (D + fbOf k + 1) := Nat.lt_of_lt_of_le hlt (Nat.pow_le_pow_right (by omega) (by omega))
    rw [hm, Nat.add_assoc, Nat.pow_add] at this
    have := Nat.lt_of_mul_lt_mul_left this
    rw [Nat.pow_succ, ← hb] at this
    omega
  have key : ∀ r, r + 1 ≤ k.format.infRung → val k r * 2 ^ loOf k = n → ∃ r, r + 1 ≤ k.format.infRung ∧ near k.format neg n = k.format.word neg r ∧ val k r * 2 ^ loOf k = n := by
    intro r h1 h2
    refine ⟨r, h1, ?_, h2⟩
    rw [← h2]
    exact near_exact k neg (fun h => hn (by rw [← h2, h]; simp)) h1
  by_cases hc : D = loOf k
  · rw [hc] at hm hr
    by_cases hmb : m < bin k
    · refine key m (by omega) ?_
      unfold val
      rw [if_pos hmb, hm, Nat.mul_comm]
    · refine key m (by omega) ?_
      unfold val
      have h1 : m / bin k = 1 := Nat.div_eq_of_lt_le (by omega) (by omega)
      have h2 := Nat.div_add_mod m (bin k)
      rw [h1, Nat.mul_one] at h2
      rw [if_neg hmb, h1, h2, hm]
      simp [Nat.mul_comm]
  · have hdn : n.log2 = D + fbOf k := by unfold dropOf at hD; omega
    have hmb : bin k ≤ m := by
      rw [hdn, hm, Nat.pow_add] at hle
      have := Nat.le_of_mul_le_mul_left hle (Nat.pow_pos (by omega))
      rw [← hb] at this
      exact this
    refine key ((D - loOf k) * bin k + m) (by omega) ?_
    unfold val
    have h1 : ((D - loOf k) * bin k + m) / bin k = D - loOf k + 1 := by
      rw [Nat.mul_comm, Nat.mul_add_div hp, Nat.div_eq_of_lt_le (k := 1) (by omega) (by omega)]
    have h2 : ((D - loOf k) * bin k + m) % bin k = m - bin k := by
      rw [Nat.mul_comm, Nat.mul_add_mod]
      have e : m = (m - bin k) + bin k := by omega
      rw [e, Nat.add_mod_right, Nat.mod_eq_of_lt (by omega)]
      omega
    have h3 : ¬ (D - loOf k) * bin k + m < bin k := by omega
    rw [if_neg h3, h1, h2]
    have e1 : bin k + (m - bin k) = m := by omega
    have e2 : D - loOf k + 1 - 1 = D - loOf k := by omega
    rw [e1, e2, Nat.mul_assoc, ← Nat.pow_add]
    have e3 : D - loOf k + loOf k = D := by omega
    rw [e3, Nat.mul_comm]
    exact hm.symm
end Go.Ev
