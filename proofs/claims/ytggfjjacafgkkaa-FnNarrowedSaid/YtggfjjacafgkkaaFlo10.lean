/-
  The next greater number.
-/
import Derived.Test.YtggfjjacafgkkaaFlo9
namespace Go.Proofs.Ytggfjjacafgkkaa
open Go.Ev Go Ieee

theorem g29_lt {n : Nat} (h : n < 4294967296) : g29 (n : Int) = canon .f32 n := by
  unfold g29
  rw [IntKind.wrap_u32]
  congr 1
  omega

theorem g29_word {s : Bool} {r : Nat} (hr : r ≤ 2139095040) : g29 (FloatKind.f32.format.word s r : Nat) = FloatKind.f32.format.word s r := by
  rw [g29_lt (word_lt32 s (by rw [inf32]; exact hr)), canon_of_not (not_nan_word hr)]

theorem is_zero : Is .f32 false 0 0 := ⟨0, by rw [inf32]; omega, rfl, by decide +kernel⟩

theorem val_pos {r : Nat} (h : r ≠ 0) : val .f32 r ≠ 0 := by
  have : ∀ n, val .f32 (n + 1) ≠ 0 := fun n => by
    rw [val_succ]
    have : 0 < 2 ^ gapE .f32 n := Nat.pow_pos (by omega)
    omega
  cases r with
  | zero => exact absurd rfl h
  | succ n => exact this n

theorem size_pos {r : Nat} (h : r ≠ 0) : 0 < val .f32 r * 2 ^ loOf .f32 := Nat.mul_pos (Nat.pos_of_ne_zero (val_pos h)) (Nat.pow_pos (by omega))

theorem cmp_lt {a b : Int} (h : a < b) : compare a b = .lt := by simp only [compare, compareOfLessAndEq, if_pos h]
theorem cmp_gt {a b : Int} (h : b < a) : compare a b = .gt := by
  simp only [compare, compareOfLessAndEq]
  rw [if_neg (by omega), if_neg (by omega)]
theorem cmp_eq {a b : Int} (h : a = b) : compare a b = .eq := by
  simp only [compare, compareOfLessAndEq]
  rw [if_neg (by omega), if_pos h]

theorem cmp_zero {s : Bool} {v : Nat} (h : v ≠ 0) : compare (sz s v) (sz false 0) = if s then .lt else .gt := by
  cases s
  · exact cmp_gt (by simp only [sz]; simp; omega)
  · exact cmp_lt (by simp only [sz]; simp; omega)

/-- A finite number against zero. -/
theorem order_zero {s : Bool} {r : Nat} (hr : r < 2139095040) : FloatKind.f32.format.order (FloatKind.f32.format.word s r) 0 = some (if r = 0 then .eq else if s then .lt else .gt) := by
  rw [fcmp_eq (is_word hr) is_zero]
  by_cases h : r = 0
  · rw [if_pos h]
    have hv : val .f32 r * 2 ^ loOf .f32 = 0 := by
      have : val .f32 0 = 0 := by decide +kernel
      rw [h, this, Nat.zero_mul]
    have he : compare (sz s (val .f32 r * 2 ^ loOf .f32)) (sz false 0) = .eq := cmp_eq (by rw [hv]; cases s <;> simp [sz])
    rw [he]
  · rw [if_neg h, cmp_zero (Nat.ne_of_gt (size_pos h))]

/-- NextUp of a finite number, by rungs. -/
theorem g10_fin {s : Bool} {r : Nat} (hr : r < 2139095040) : g10 (FloatKind.f32.format.word s r) = if r = 0 then 1 else if s then FloatKind.f32.format.word true (r - 1) else r + 1 := by
  have hn := not_nan_word (s := s) (r := r) (by omega)
  have hlt := word_lt32 s (rung := r) (by rw [inf32]; omega)
  obtain ⟨_, hg⟩ := g34_num hn hlt
  have ho := order_zero (s := s) hr
  have hne := neq_self hn
  unfold g10
  rw [hne, hg]
  simp only [cond_false]
  have hc : icmp .eql ((FloatKind.f32.format.word s r : Nat) : Int) 2139095040 = false := by
    unfold icmp
    have : FloatKind.f32.format.word s r ≠ 2139095040 := by
      cases s
      · rw [word_pos]; omega
      · rw [word_neg]; omega
    simp
    omega
  rw [hc]
  simp only [cond_false, fcmp, ho]
  by_cases h : r = 0
  · subst h
    rw [if_pos rfl, if_pos rfl]
    have : g29 1 = 1 := by
      have := g29_word (s := false) (r := 1) (by omega)
      rw [word_pos] at this
      exact this
    simpa using this
  · rw [if_neg h, if_neg h]
    cases s
    · have := g29_word (s := false) (r := r + 1) (by omega)
      rw [word_pos] at this
      rw [word_pos]
      have hs : IntKind.i64.wrap ((r : Int) + 1) = ((r + 1 : Nat) : Int) := by
        have e : (r : Int) + 1 = ((r + 1 : Nat) : Int) := by omega
        rw [e, small64 (by omega)]
      simp only [hs, this]
      rfl
    · have := g29_word (s := true) (r := r - 1) (by omega)
      rw [word_neg] at this
      rw [word_neg, word_neg]
      have hs : IntKind.i64.wrap (((2147483648 + r : Nat) : Int) - 1) = ((2147483648 + (r - 1) : Nat) : Int) := by
        have e : ((2147483648 + r : Nat) : Int) - 1 = ((2147483648 + (r - 1) : Nat) : Int) := by omega
        rw [e, small64 (by omega)]
      simp only [hs, this]
      rfl
end Go.Proofs.Ytggfjjacafgkkaa
