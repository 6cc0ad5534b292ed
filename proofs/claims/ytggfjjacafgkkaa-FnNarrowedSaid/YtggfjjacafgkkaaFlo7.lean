/-
  Halves; from one kind to the other; order.
-/
import Derived.Test.YtggfjjacafgkkaaFlo6
namespace Go.Ev
open Ieee

/-- The place of what is read, and how many digits. -/
theorem read_low (k : FloatKind) (neg : Bool) {r : Nat} (hr : r < k.format.infRung) {m : Nat} {p : Int} (h : k.format.read (k.format.word neg r) = .number neg m p) : (loOf k : Int) - 1200 ≤ p ∧ m < 2 * bin k := by
  have hlt : r < k.format.signWeight := Nat.lt_trans hr (infRung_lt' k)
  have hmod : k.format.word neg r % k.format.signWeight = r := read_word _ _ hlt
  have hl := least_eq k
  have hp := bin_pos k
  unfold Format.read at h
  simp only [hmod] at h
  rw [binade_eq] at h
  by_cases hb : r < bin k
  · rw [if_pos hb] at h
    simp only [Datum.number.injEq] at h
    obtain ⟨_, h1, h2⟩ := h
    omega
  · rw [if_neg hb, if_pos hr] at h
    simp only [Datum.number.injEq] at h
    obtain ⟨_, h1, h2⟩ := h
    have := Nat.mod_lt r hp
    omega

theorem two_read : FloatKind.f64.format.read 4611686018427387904 = .number false 4503599627370496 (-51) := by decide +kernel

theorem fop_half {s : Bool} {a x : Nat} (hx : Is .f64 s a x) (ha : a % 2 = 0) : fop .quo .f64 x 4611686018427387904 = near FloatKind.f64.format s (a / 2) := by
  obtain ⟨r, h1, h2, h3⟩ := hx
  obtain ⟨m, i, q1, q2, q3⟩ := read_val .f64 s (by omega : r < FloatKind.f64.format.infRung)
  obtain ⟨l1, l2⟩ := read_low .f64 s (by omega : r < FloatKind.f64.format.infRung) q1
  rw [← h2] at q1
  rw [h3] at q3
  have l1' : (126 : Int) - 1200 ≤ i := l1
  have l2' : m < 9007199254740992 := by
    have : bin .f64 = 4503599627370496 := by decide +kernel
    omega
  have hlog : m.log2 ≤ 52 := by
    rcases Nat.eq_zero_or_pos m with h | h
    · subst h; decide
    · have : m.log2 < 53 := (Nat.log2_lt (by omega)).2 (by simpa using l2')
      omega
  have hlog2 : (4503599627370496 : Nat).log2 = 52 := by decide +kernel
  have hfb : FloatKind.f64.format.fractionBits + 2 = 54 := by decide +kernel
  have hdiv : ∀ e, 52 ≤ e → m <<< e / 4503599627370496 = m * 2 ^ (e - 52) ∧ m <<< e % 4503599627370496 = 0 := by
    intro e he
    have : m <<< e = m * 2 ^ (e - 52) * 4503599627370496 := by
      rw [Nat.shiftLeft_eq, Nat.mul_assoc]
      congr 1
      have : e = (e - 52) + 52 := by omega
      rw [this, Nat.pow_add]
      simp
    rw [this]
    exact ⟨Nat.mul_div_cancel _ (by omega), Nat.mul_mod_left _ _⟩
  have hb : floatBits .quo .f64 x 4611686018427387904 = some (FloatKind.f64.format.write (.number s (2 * (m * 2 ^ (54 - m.log2))) (i + 51 - (106 - m.log2 : Nat) - 1))) := by
    show FloatKind.f64.format.div x _ = _
    unfold Format.div
    rw [q1, two_read]
    simp only [Datum.quotient]
    rw [if_neg (by omega), hlog2, hfb]
    obtain ⟨d1, d2⟩ := hdiv (54 + 52 - m.log2) (by omega)
    rw [d1, d2]
    simp only [Option.map_some, Bool.xor_false]
    have e1 : 54 + 52 - m.log2 - 52 = 54 - m.log2 := by omega
    have e2 : i - -51 - ((54 + 52 - m.log2 : Nat) : Int) - 1 = i + 51 - (106 - m.log2 : Nat) - 1 := by omega
    rw [e1, e2]
    rfl
  unfold fop
  rw [hb]
  simp only
  rw [write_near .f64 _ _ _ (by omega)]
  congr 1
  have : 2 * (m * 2 ^ (54 - m.log2)) * 2 ^ (i + 51 - (106 - m.log2 : Nat) - 1 + 1200).toNat = m * 2 ^ ((i + 1200).toNat - 1) := by
    have e : (i + 1200).toNat - 1 = 1 + (54 - m.log2) + (i + 51 - (106 - m.log2 : Nat) - 1 + 1200).toNat := by omega
    rw [e, Nat.pow_add, Nat.pow_add, Nat.pow_one]
    rw [← Nat.mul_assoc, ← Nat.mul_assoc, Nat.mul_comm 2 m]
    congr 1
    rw [Nat.mul_assoc]
  rw [this]
  have e : (i + 1200).toNat = ((i + 1200).toNat - 1) + 1 := by omega
  rw [e, Nat.pow_succ, ← Nat.mul_assoc] at q3
  omega
end Go.Ev
