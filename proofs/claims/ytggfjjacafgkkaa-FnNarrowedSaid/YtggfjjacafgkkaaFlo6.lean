/-
  Words with a value; exact sums.
-/
import Derived.Test.YtggfjjacafgkkaaFlo5
namespace Go.Ev
open Ieee

/-- A finite word of a sign and of a size (in units of 2 ^ -1200). -/
def Is (k : FloatKind) (neg : Bool) (n x : Nat) : Prop := ∃ r, r + 1 ≤ k.format.infRung ∧ x = k.format.word neg r ∧ val k r * 2 ^ loOf k = n

theorem Is.read {k : FloatKind} {s : Bool} {n x : Nat} (h : Is k s n x) : ∃ m p, k.format.read x = .number s m p ∧ -1200 ≤ p ∧ m * 2 ^ (p + 1200).toNat = n := by
  obtain ⟨r, h1, rfl, h2⟩ := h
  obtain ⟨m, p, q1, q2, q3⟩ := read_val k s (by omega : r < k.format.infRung)
  exact ⟨m, p, q1, q2, q3.trans h2⟩

/-- A size that a word has. -/
def Rep (k : FloatKind) (n : Nat) : Prop := n = 0 ∨ (n ≠ 0 ∧ 2 ^ dropOf k n ∣ n ∧ (dropOf k n - loOf k) * bin k + 2 * bin k ≤ k.format.infRung)

theorem near_is {k : FloatKind} {n : Nat} (s : Bool) (h : Rep k n) : Is k s n (near k.format s n) := by
  rcases h with rfl | ⟨h1, h2, h3⟩
  · refine ⟨0, ?_, ?_, ?_⟩
    · cases k <;> decide +kernel
    · unfold near Format.nearest
      rw [if_pos rfl]
    · unfold val
      rw [if_pos (bin_pos k)]
      simp
  · obtain ⟨r, q1, q2, q3⟩ := near_rep k s h1 h2 h3
    exact ⟨r, q1, q2, q3⟩

theorem write_near (k : FloatKind) (s : Bool) (m : Nat) (p : Int) (h : -1200 ≤ p) : k.format.write (.number s m p) = near k.format s (m * 2 ^ (p + 1200).toNat) := nearest_near k.format s m p h

/-- A size with its sign. -/
def sz (s : Bool) (n : Nat) : Int := if s then -(n : Int) else n

theorem signed_sz (s : Bool) (m u : Nat) : signed s m u = sz s (m * 2 ^ u) := by
  unfold signed sz
  rw [Nat.shiftLeft_eq]

theorem sz_mul (s : Bool) (n u : Nat) : sz s n * ((2 ^ u : Nat) : Int) = sz s (n * 2 ^ u) := by
  unfold sz
  cases s
  · simp
  · simp only [if_true]
    rw [Int.neg_mul, ← Int.natCast_mul]

/-- The sign of a sum. -/
def sgn (s t : Bool) (z : Int) : Bool := if z = 0 then s && t else decide (z < 0)

theorem fop_add {k : FloatKind} {s t : Bool} {a b x y : Nat} (hx : Is k s a x) (hy : Is k t b y) : fop .add k x y = near k.format (sgn s t (sz s a + sz t b)) (sz s a + sz t b).natAbs := by
  obtain ⟨m, i, r1, i1, e1⟩ := hx.read
  obtain ⟨n, j, r2, j1, e2⟩ := hy.read
  have hb : floatBits .add k x y = some (k.format.write (.number (sgn s t (signed s m (i - min i j).toNat + signed t n (j - min i j).toNat)) (signed s m (i - min i j).toNat + signed t n (j - min i j).toNat).natAbs (min i j))) := by
    show k.format.add x y = _
    unfold Format.add
    rw [r1, r2]
    rfl
  unfold fop
  rw [hb]
  simp only
  rw [write_near k _ _ _ (by omega)]
  have hz : (signed s m (i - min i j).toNat + signed t n (j - min i j).toNat) * ((2 ^ (min i j + 1200).toNat : Nat) : Int) = sz s a + sz t b := by
    rw [Int.add_mul, signed_sz, signed_sz, sz_mul, sz_mul, Nat.mul_assoc, Nat.mul_assoc, ← Nat.pow_add, ← Nat.pow_add]
    have a1 : (i - min i j).toNat + (min i j + 1200).toNat = (i + 1200).toNat := by omega
    have a2 : (j - min i j).toNat + (min i j + 1200).toNat = (j + 1200).toNat := by omega
    rw [a1, a2, e1, e2]
  have hp : (0 : Int) < ((2 ^ (min i j + 1200).toNat : Nat) : Int) := Int.natCast_pos.2 (Nat.pow_pos (by omega))
  generalize (signed s m (i - min i j).toNat + signed t n (j - min i j).toNat) = z at hz ⊢
  rw [← hz]
  have hsg : sgn s t (z * ((2 ^ (min i j + 1200).toNat : Nat) : Int)) = sgn s t z := by
    generalize ((2 ^ (min i j + 1200).toNat : Nat) : Int) = g at hp
    unfold sgn
    by_cases h0 : z = 0
    · subst h0; simp
    · have h1 : z * g ≠ 0 := Int.mul_ne_zero h0 (by omega)
      rw [if_neg h0, if_neg h1]
      congr 1
      refine propext ⟨fun h => ?_, fun h => ?_⟩
      · apply Classical.byContradiction
        intro hc
        have : 0 ≤ z * g := Int.mul_nonneg (by omega) (by omega)
        omega
      · exact Int.mul_neg_of_neg_of_pos h hp
  rw [hsg, Int.natAbs_mul, Int.natAbs_natCast]
end Go.Ev
