/-
  FnNarrowed's law on one number: between two neighbours.
-/
import Derived.Test.YtggfjjacafgkkaaFlo12
namespace Go.Proofs.Ytggfjjacafgkkaa
open Go.Ev Go Ieee

/-- The quotient by 2 of the sum, of two sizes of one sign. -/
theorem mean_is {s : Bool} {a b x y : Nat} (hx : Is .f64 s a x) (hy : Is .f64 s b y) (hab : a + b ≠ 0) (hr : Rep .f64 (a + b)) (he : (a + b) % 2 = 0) (hr2 : Rep .f64 ((a + b) / 2)) :
    Is .f64 s ((a + b) / 2) (fop .quo .f64 (fop .add .f64 x y) 4611686018427387904) := by
  have hz : sz s a + sz s b = sz s (a + b) := by unfold sz; cases s <;> simp <;> omega
  have hsum : fop .add .f64 x y = near FloatKind.f64.format s (a + b) := by
    rw [fop_add hx hy, hz]
    have h1 : sgn s s (sz s (a + b)) = s := by
      unfold sgn sz
      cases s
      · simp only [Bool.false_eq_true, if_false]
        rw [if_neg (by omega)]
        simp
        omega
      · simp only [if_true]
        rw [if_neg (by omega)]
        simp
        omega
    have h2 : (sz s (a + b)).natAbs = a + b := by unfold sz; cases s <;> simp <;> omega
    rw [h1, h2]
  rw [hsum, fop_half (near_is s hr) he]
  exact near_is s hr2

/-- Two neighbouring rungs, in quarters. -/
structure Nb (p q G : Nat) : Prop where
  lo : val .f32 p * 2 ^ loOf .f32 = 4 * q * G
  hi : val .f32 (p + 1) * 2 ^ loOf .f32 = 4 * (q + 1) * G
  pos : 0 < G
  rep : ∀ c, c ≤ 8 * q + 8 → Rep .f64 (c * G)

theorem nb_of {p : Nat} (hp : p < 2139095040) : ∃ q G, Nb p q G := by
  obtain ⟨q, hq, hr, hlt, hor⟩ := rung_split .f32 p
  have hb : bin .f32 = 8388608 := by decide +kernel
  have hg : gapE .f32 p ≤ 254 := by
    unfold gapE
    have : p / bin .f32 < 255 := (Nat.div_lt_iff_lt_mul (bin_pos _)).2 (by rw [hb]; omega)
    omega
  have hl : loOf .f32 = 2 + 1049 := rfl
  have h4 : 2 ^ gapE .f32 p * 2 ^ loOf .f32 = 4 * 2 ^ (gapE .f32 p + 1049) := by
    have e : gapE .f32 p + loOf .f32 = 2 + (gapE .f32 p + 1049) := by omega
    rw [← Nat.pow_add, e, Nat.pow_add 2 2]
  refine ⟨q, 2 ^ (gapE .f32 p + 1049), ?_, ?_, Nat.pow_pos (by omega), fun c hc => ?_⟩
  · rw [hq, Nat.mul_assoc, h4, ← Nat.mul_assoc, Nat.mul_comm q 4]
  · rw [val_succ, hq]
    have : q * 2 ^ gapE .f32 p + 2 ^ gapE .f32 p = (q + 1) * 2 ^ gapE .f32 p := by rw [Nat.add_mul, Nat.one_mul]
    rw [this, Nat.mul_assoc, h4, ← Nat.mul_assoc, Nat.mul_comm (q + 1) 4]
  · exact rep64 (by omega) (by omega) (by omega)

/-- A quarter, a half, three quarters on the way. -/
theorem quarters {p q G : Nat} (h : Nb p q G) (hp : p < 2139095040) (s : Bool) :
    near FloatKind.f32.format s ((4 * q + 1) * G) = FloatKind.f32.format.word s p ∧ near FloatKind.f32.format s ((4 * q + 2) * G) = FloatKind.f32.format.word s (p + p % 2) ∧ near FloatKind.f32.format s ((4 * q + 3) * G) = FloatKind.f32.format.word s (p + 1) := by
  have hG := h.pos
  have e1 : 4 * (q + 1) * G = 4 * q * G + 4 * G := by rw [Nat.mul_add, Nat.add_mul, Nat.mul_one]
  have ec : ∀ c, (4 * q + c) * G = 4 * q * G + c * G := fun c => by rw [Nat.add_mul]
  have hsum : (val .f32 p + val .f32 (p + 1)) * 2 ^ loOf .f32 = 8 * q * G + 4 * G := by
    rw [Nat.add_mul, h.lo, h.hi, e1]
    have : 8 * q * G = 4 * q * G + 4 * q * G := by rw [← Nat.add_mul]; congr 1; omega
    omega
  have e8 : 8 * q * G = 2 * (4 * q * G) := by rw [← Nat.mul_assoc, ← Nat.mul_assoc]
  have go : ∀ c, 1 ≤ c → c ≤ 3 → near FloatKind.f32.format s ((4 * q + c) * G) = FloatKind.f32.format.word s (if 2 * ((4 * q + c) * G) < (val .f32 p + val .f32 (p + 1)) * 2 ^ loOf .f32 then p else if (val .f32 p + val .f32 (p + 1)) * 2 ^ loOf .f32 < 2 * ((4 * q + c) * G) then p + 1 else p + p % 2) := by
    intro c h1 h2
    have hc : c * G ≤ 3 * G := Nat.mul_le_mul_right G h2
    have hc1 : 1 * G ≤ c * G := Nat.mul_le_mul_right G h1
    refine near_between .f32 s ?_ ?_ ?_ (by rw [inf32]; omega)
    · rw [h.lo, ec]; omega
    · rw [h.hi, e1, ec]; omega
    · rw [ec]; omega
  refine ⟨?_, ?_, ?_⟩
  · rw [go 1 (by omega) (by omega), hsum, ec, e8, if_pos (by omega)]
  · rw [go 2 (by omega) (by omega), hsum, ec, e8, if_neg (by omega), if_neg (by omega)]
  · rw [go 3 (by omega) (by omega), hsum, ec, e8, if_neg (by omega), if_pos (by omega)]
end Go.Proofs.Ytggfjjacafgkkaa
