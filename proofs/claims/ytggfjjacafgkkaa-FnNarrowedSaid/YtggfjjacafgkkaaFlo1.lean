/-
  Rounding looks at the value alone, not at how it is written.
-/
import Derived.Test.YtggfjjacafgkkaaEv3
namespace Go.Ev
open Ieee

theorem cut_two (neg : Bool) (n d : Nat) (hn : n ≠ 0) : Toward.even.cut neg (2 * n) (d + 1) = Toward.even.cut neg n d := by
  have hl : (2 * n).log2 = n.log2 + 1 := Nat.log2_two_mul hn
  have hg : 1 <<< min (d + 1) ((2 * n).log2 + 2) = 2 * 1 <<< min d (n.log2 + 2) := by
    rw [hl, show min (d + 1) (n.log2 + 1 + 2) = min d (n.log2 + 2) + 1 by omega]
    simp only [Nat.shiftLeft_eq, Nat.one_mul, Nat.pow_succ]
    omega
  unfold Toward.cut
  simp only [hg]
  generalize 1 <<< min d (n.log2 + 2) = g
  have h1 : 2 * n / (2 * g) = n / g := Nat.mul_div_mul_left n g (by omega)
  have h2 : 2 * n % (2 * g) = 2 * (n % g) := Nat.mul_mod_mul_left 2 n g
  rw [h1, h2]
  have e1 : decide (2 * g < 2 * (2 * (n % g))) = decide (g < 2 * (n % g)) := by
    congr 1
    exact propext ⟨fun h => by omega, fun h => by omega⟩
  have e2 : (2 * g == 2 * (2 * (n % g))) = (g == 2 * (n % g)) := by
    rw [Bool.eq_iff_iff]
    simp only [beq_iff_eq]
    omega
  rw [e1, e2]

theorem nearest_two (f : Format) (neg : Bool) (mag : Nat) (place : Int) : f.nearest neg (2 * mag) place = f.nearest neg mag (place + 1) := by
  by_cases hm : mag = 0
  · subst hm; rfl
  have h2 : 2 * mag ≠ 0 := by omega
  unfold Format.nearest
  rw [if_neg h2, if_neg hm]
  have hl : (2 * mag).log2 = mag.log2 + 1 := Nat.log2_two_mul hm
  have hlast : max (place + ((2 * mag).log2 : Nat) - f.fractionBits) f.leastPlace = max (place + 1 + (mag.log2 : Nat) - f.fractionBits) f.leastPlace := by
    rw [hl]
    congr 1
    omega
  simp only [hlast]
  generalize max (place + 1 + (mag.log2 : Nat) - f.fractionBits) f.leastPlace = last
  have hk : Toward.even.cut neg ((2 * mag) <<< (place - last).toNat) (last - place).toNat = Toward.even.cut neg (mag <<< (place + 1 - last).toNat) (last - (place + 1)).toNat := by
    by_cases h : last ≤ place
    · have a1 : (last - place).toNat = 0 := by omega
      have a2 : (last - (place + 1)).toNat = 0 := by omega
      have a3 : (place + 1 - last).toNat = (place - last).toNat + 1 := by omega
      rw [a1, a2, a3]
      congr 1
    · have a1 : (place - last).toNat = 0 := by omega
      have a2 : (place + 1 - last).toNat = 0 := by omega
      have a3 : (last - place).toNat = (last - (place + 1)).toNat + 1 := by omega
      rw [a1, a2, a3]
      simp only [Nat.shiftLeft_zero]
      exact cut_two neg mag _ hm
  rw [hk]

theorem nearest_scale (f : Format) (neg : Bool) (mag : Nat) (place : Int) : ∀ j : Nat, f.nearest neg (mag * 2 ^ j) place = f.nearest neg mag (place + j)
  | 0 => by simp
  | j + 1 => by
    have : mag * 2 ^ (j + 1) = 2 * (mag * 2 ^ j) := by rw [Nat.pow_succ]; rw [← Nat.mul_assoc, Nat.mul_comm]
    rw [this, nearest_two, nearest_scale f neg mag (place + 1) j]
    congr 1
    omega

/-- A value in units of 2 ^ -1200, rounded. -/
def near (f : Format) (neg : Bool) (n : Nat) : Nat := f.nearest neg n (-1200)

theorem nearest_near (f : Format) (neg : Bool) (mag : Nat) (place : Int) (h : -1200 ≤ place) : f.nearest neg mag place = near f neg (mag * 2 ^ (place + 1200).toNat) := by
  unfold near
  rw [nearest_scale]
  congr 1
  omega
end Go.Ev
