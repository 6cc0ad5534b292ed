/-
  Rounding in natural numbers: units of 2 ^ -1200.
-/
import Derived.Test.YtggfjjacafgkkaaFlo1
namespace Go.Ev
open Ieee

/-- n / g, to the nearest, between two the even one. -/
def rnd (n g : Nat) : Nat := n / g + (decide (g < 2 * (n % g)) || (g == 2 * (n % g) && n / g % 2 == 1)).toNat

def loOf : FloatKind → Nat
  | .f32 => 1051
  | .f64 => 126
def fbOf : FloatKind → Nat
  | .f32 => 23
  | .f64 => 52
def dropOf (k : FloatKind) (n : Nat) : Nat := max (n.log2 - fbOf k) (loOf k)

theorem cut_rnd (neg : Bool) (n d : Nat) (_hn : n ≠ 0) : Toward.even.cut neg n d = rnd n (2 ^ d) := by
  unfold Toward.cut rnd
  by_cases h : d ≤ n.log2 + 2
  · rw [Nat.min_eq_left h]
    simp only [Nat.shiftLeft_eq, Nat.one_mul]
  · have h' : n.log2 + 2 ≤ d := by omega
    rw [Nat.min_eq_right h']
    have h1 : n < 2 ^ (n.log2 + 1) := Nat.lt_log2_self
    have h2 : 2 * 2 ^ (n.log2 + 1) = 2 ^ (n.log2 + 2) := by rw [Nat.pow_succ 2 (n.log2 + 1)]; omega
    have h3 : 2 ^ (n.log2 + 2) ≤ 2 ^ d := Nat.pow_le_pow_right (by omega) h'
    simp only [Nat.shiftLeft_eq, Nat.one_mul]
    generalize 2 ^ (n.log2 + 2) = g at h2 h3
    generalize 2 ^ d = g' at h3
    rw [Nat.div_eq_of_lt (by omega : n < g), Nat.div_eq_of_lt (by omega : n < g'), Nat.mod_eq_of_lt (by omega : n < g), Nat.mod_eq_of_lt (by omega : n < g')]
    have a1 : decide (g < 2 * n) = false := by simp; omega
    have a2 : decide (g' < 2 * n) = false := by simp; omega
    simp [a1, a2]

theorem least_eq (k : FloatKind) : k.format.leastPlace + 1200 = loOf k := by cases k <;> decide +kernel
theorem fb_eq (k : FloatKind) : k.format.fractionBits = fbOf k := by cases k <;> rfl

theorem near_eq (k : FloatKind) (neg : Bool) (n : Nat) (hn : n ≠ 0) : near k.format neg n = k.format.word neg (min ((dropOf k n - loOf k) * k.format.binade + rnd n (2 ^ dropOf k n)) k.format.infRung) := by
  have hl := least_eq k
  unfold near Format.nearest
  rw [if_neg hn]
  have hlast : max (-1200 + (n.log2 : Int) - k.format.fractionBits) k.format.leastPlace = (dropOf k n : Int) - 1200 := by
    rw [fb_eq]
    unfold dropOf
    omega
  simp only [hlast]
  have e1 : ((dropOf k n : Int) - 1200 - k.format.leastPlace).toNat = dropOf k n - loOf k := by omega
  have e2 : ((-1200 : Int) - ((dropOf k n : Int) - 1200)).toNat = 0 := by omega
  have e3 : ((dropOf k n : Int) - 1200 - -1200).toNat = dropOf k n := by omega
  rw [e1, e2, e3, Nat.shiftLeft_zero, cut_rnd neg n _ hn]
end Go.Ev
