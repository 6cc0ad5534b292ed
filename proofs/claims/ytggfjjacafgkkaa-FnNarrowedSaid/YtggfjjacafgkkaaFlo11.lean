/-
  Exact differences.
-/
import Derived.Test.YtggfjjacafgkkaaFlo8
namespace Go.Ev
open Ieee

theorem fop_sub {k : FloatKind} {s t : Bool} {a b x y : Nat} (hx : Is k s a x) (hy : Is k t b y) : fop .sub k x y = near k.format (sgn s (!t) (sz s a + sz (!t) b)) (sz s a + sz (!t) b).natAbs := by
  obtain ⟨m, i, r1, i1, e1⟩ := hx.read
  obtain ⟨n, j, r2, j1, e2⟩ := hy.read
  have hb : floatBits .sub k x y = some (k.format.write (.number (sgn s (!t) (signed s m (i - min i j).toNat + signed (!t) n (j - min i j).toNat)) (signed s m (i - min i j).toNat + signed (!t) n (j - min i j).toNat).natAbs (min i j))) := by
    show k.format.sub x y = _
    unfold Format.sub
    rw [r1, r2]
    rfl
  unfold fop
  rw [hb]
  simp only
  rw [write_near k _ _ _ (by omega)]
  have hz : (signed s m (i - min i j).toNat + signed (!t) n (j - min i j).toNat) * ((2 ^ (min i j + 1200).toNat : Nat) : Int) = sz s a + sz (!t) b := by
    rw [Int.add_mul, signed_sz, signed_sz, sz_mul, sz_mul, Nat.mul_assoc, Nat.mul_assoc, ← Nat.pow_add, ← Nat.pow_add]
    have a1 : (i - min i j).toNat + (min i j + 1200).toNat = (i + 1200).toNat := by omega
    have a2 : (j - min i j).toNat + (min i j + 1200).toNat = (j + 1200).toNat := by omega
    rw [a1, a2, e1, e2]
  have hp : (0 : Int) < ((2 ^ (min i j + 1200).toNat : Nat) : Int) := Int.natCast_pos.2 (Nat.pow_pos (by omega))
  generalize (signed s m (i - min i j).toNat + signed (!t) n (j - min i j).toNat) = z at hz ⊢
  rw [← hz]
  have hsg : sgn s (!t) (z * ((2 ^ (min i j + 1200).toNat : Nat) : Int)) = sgn s (!t) z := by
    generalize ((2 ^ (min i j + 1200).toNat : Nat) : Int) = g at hp
    unfold sgn
    by_cases h0 : z = 0
    · subst h0; simp
    · have h1 : z * g ≠ 0 := Int.mul_ne_zero h0 (by omega)
      rw [if_neg h0, if_neg h1]
      congr 1
      refine propext ⟨fun h => ?_, fun h => ?_⟩
      · apply Classical.byContradiction
        intro hc
        have : 0 ≤ z * g := Int.mul_nonneg (by omega) (by omega)
        omega
      · exact Int.mul_neg_of_neg_of_pos h hp
  rw [hsg, Int.natAbs_mul, Int.natAbs_natCast]
end Go.Ev
