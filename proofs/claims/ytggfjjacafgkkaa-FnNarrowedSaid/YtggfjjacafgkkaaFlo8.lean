/-
  From one kind to the other; sizes that 64 bits have; order.
-/
import Derived.Test.YtggfjjacafgkkaaFlo7
namespace Go.Ev
open Ieee

theorem fconv_is {s k : FloatKind} {g : Bool} {a b x : Nat} (hne : s ≠ k) (hx : Is s g a x) (hk : Is k g b (near k.format g a)) : fconv s k x = some (near k.format g a) := by
  obtain ⟨m, i, r1, i1, e1⟩ := hx.read
  have hd : s.decode x = .number g m i := r1
  have hw : k.encode (.number g m i) = near k.format g a := by
    show k.format.write _ = _
    rw [write_near k _ _ _ i1, e1]
  have hinf : (k.decode (near k.format g a)).isInfinity = false := by
    obtain ⟨m', i', r2, _, _⟩ := hk.read
    show (k.format.read _).isInfinity = false
    rw [r2]
    rfl
  unfold fconv
  split
  · exact absurd rfl hne
  · exact absurd rfl hne
  · rw [hd]
    simp only
    rw [hw, hinf]
    rfl

theorem inf64 : FloatKind.f64.format.infRung = 2047 * bin .f64 := by decide +kernel
theorem inf32' : FloatKind.f32.format.infRung = 255 * bin .f32 := by decide +kernel

/-- A size of at most 53 digits is one that 64 bits have. -/
theorem rep64 {q e : Nat} (hq : q < 9007199254740992) (he : 126 ≤ e) (he' : e ≤ 2171) : Rep .f64 (q * 2 ^ e) := by
  by_cases h0 : q * 2 ^ e = 0
  · exact .inl h0
  refine .inr ⟨h0, ?_, ?_⟩
  all_goals
    have hlog : (q * 2 ^ e).log2 < 53 + e := by
      refine (Nat.log2_lt h0).2 ?_
      rw [Nat.pow_add]
      exact Nat.mul_lt_mul_of_pos_right (by simpa using hq) (Nat.pow_pos (by omega))
    have hD : dropOf .f64 (q * 2 ^ e) ≤ e := by
      unfold dropOf
      have : fbOf .f64 = 52 := rfl
      have : loOf .f64 = 126 := rfl
      omega
  · exact Nat.dvd_trans (Nat.pow_dvd_pow 2 hD) (Nat.dvd_mul_left _ _)
  · rw [inf64, ← Nat.add_mul]
    refine Nat.mul_le_mul_right _ ?_
    have : loOf .f64 = 126 := rfl
    omega

/-- A finite word of 32 bits, in 64 bits: with t digits more to spare. -/
theorem rep_f32 {r : Nat} (hr : r < FloatKind.f32.format.infRung) (c t : Nat) (hc : c ≤ 256) (ht : t ≤ 900) : Rep .f64 (c * (val .f32 r * 2 ^ (1051 - t))) := by
  obtain ⟨q, hq, hrr, hlt, hor⟩ := rung_split .f32 r
  have hb : bin .f32 = 8388608 := by decide +kernel
  have hg : gapE .f32 r ≤ 254 := by
    unfold gapE
    rw [inf32'] at hr
    have : r / bin .f32 < 255 := (Nat.div_lt_iff_lt_mul (bin_pos _)).2 hr
    omega
  have e : c * (val .f32 r * 2 ^ (1051 - t)) = (c * q) * 2 ^ (gapE .f32 r + (1051 - t)) := by
    rw [hq, Nat.pow_add, Nat.mul_assoc, Nat.mul_assoc]
  rw [e]
  refine rep64 ?_ (by omega) (by omega)
  have : c * q ≤ 256 * (2 * 8388608) := Nat.mul_le_mul hc (by omega)
  omega

/-- Order. -/
theorem fcmp_eq {k : FloatKind} {s t : Bool} {a b x y : Nat} (hx : Is k s a x) (hy : Is k t b y) : k.format.order x y = some (compare (sz s a) (sz t b)) := by
  obtain ⟨m, i, r1, i1, e1⟩ := hx.read
  obtain ⟨n, j, r2, j1, e2⟩ := hy.read
  unfold Format.order
  rw [r1, r2]
  simp only [Datum.order]
  congr 1
  have hz1 : (signed s m (i - min i j).toNat) * ((2 ^ (min i j + 1200).toNat : Nat) : Int) = sz s a := by
    rw [signed_sz, sz_mul, Nat.mul_assoc, ← Nat.pow_add]
    have a1 : (i - min i j).toNat + (min i j + 1200).toNat = (i + 1200).toNat := by omega
    rw [a1, e1]
  have hz2 : (signed t n (j - min i j).toNat) * ((2 ^ (min i j + 1200).toNat : Nat) : Int) = sz t b := by
    rw [signed_sz, sz_mul, Nat.mul_assoc, ← Nat.pow_add]
    have a1 : (j - min i j).toNat + (min i j + 1200).toNat = (j + 1200).toNat := by omega
    rw [a1, e2]
  have hp : (0 : Int) < ((2 ^ (min i j + 1200).toNat : Nat) : Int) := Int.natCast_pos.2 (Nat.pow_pos (by omega))
  rw [← hz1, ← hz2]
  generalize (signed s m (i - min i j).toNat) = u
  generalize (signed t n (j - min i j).toNat) = v
  generalize ((2 ^ (min i j + 1200).toNat : Nat) : Int) = g at hp
  have h1 : u < v ↔ u * g < v * g := ⟨fun h => Int.mul_lt_mul_of_pos_right h hp, fun h => Int.lt_of_mul_lt_mul_right h (Int.le_of_lt hp)⟩
  have h2 : u = v ↔ u * g = v * g := ⟨fun h => by rw [h], fun h => Int.eq_of_mul_eq_mul_right (by omega) h⟩
  show compareOfLessAndEq u v = compareOfLessAndEq (u * g) (v * g)
  unfold compareOfLessAndEq
  by_cases c1 : u < v
  · rw [if_pos c1, if_pos (h1.1 c1)]
  · rw [if_neg c1, if_neg (fun h => c1 (h1.2 h))]
    by_cases c2 : u = v
    · rw [if_pos c2, if_pos (h2.1 c2)]
    · rw [if_neg c2, if_neg (fun h => c2 (h2.2 h))]
end Go.Ev
