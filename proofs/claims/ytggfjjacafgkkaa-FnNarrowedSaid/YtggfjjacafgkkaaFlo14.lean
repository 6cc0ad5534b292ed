/-
  The three numbers between two neighbours, narrowed.
-/
import Derived.Test.YtggfjjacafgkkaaFlo13
namespace Go.Proofs.Ytggfjjacafgkkaa
open Go.Ev Go Ieee

/-- Up to 64 bits. -/
theorem up_is {s : Bool} {a x : Nat} (hx : Is .f32 s a x) (hr : Rep .f64 a) : (fconv .f32 .f64 x).isSome = true ∧ Is .f64 s a ((fconv .f32 .f64 x).getD 0) := by
  have h := near_is s hr
  rw [fconv_is (by decide) hx h]
  exact ⟨rfl, h⟩

/-- Down to 32 bits. -/
theorem down_is {s : Bool} {a x r : Nat} (hx : Is .f64 s a x) (hr : r < 2139095040) (hn : near FloatKind.f32.format s a = FloatKind.f32.format.word s r) : ok9 x = true ∧ g9 x = FloatKind.f32.format.word s r := by
  have h : Is .f32 s (val .f32 r * 2 ^ loOf .f32) (near FloatKind.f32.format s a) := by rw [hn]; exact is_word hr
  unfold ok9 g9
  rw [fconv_is (by decide) hx h, hn]
  exact ⟨rfl, rfl⟩

theorem mean_q {s : Bool} {c d G x y : Nat} (hx : Is .f64 s (c * G) x) (hy : Is .f64 s (d * G) y) (hG : 0 < G) (hcd : (c + d) % 2 = 0) (h0 : c + d ≠ 0) (hr : Rep .f64 ((c + d) * G)) (hr2 : Rep .f64 ((c + d) / 2 * G)) :
    Is .f64 s ((c + d) / 2 * G) (fop .quo .f64 (fop .add .f64 x y) 4611686018427387904) := by
  have e : c * G + d * G = (c + d) * G := by rw [Nat.add_mul]
  have e2 : (c + d) * G = 2 * ((c + d) / 2 * G) := by
    rw [← Nat.mul_assoc]
    congr 1
    omega
  have h := mean_is hx hy (by rw [e]; exact Nat.mul_ne_zero h0 (by omega)) (by rw [e]; exact hr) (by rw [e, e2]; omega) (by
    have : (c * G + d * G) / 2 = (c + d) / 2 * G := by rw [e]; omega
    rw [this]; exact hr2)
  have : (c * G + d * G) / 2 = (c + d) / 2 * G := by rw [e]; omega
  rw [this] at h
  exact h

/-- x and its neighbour away from zero, in 64 bits; what is in the middle, and in the middle of each and it. -/
theorem three {p q G : Nat} (h : Nb p q G) (hp : p + 1 < 2139095040) {s : Bool} {X Y : Nat} (hX : Is .f64 s (4 * q * G) X) (hY : Is .f64 s (4 * (q + 1) * G) Y) :
    (∃ M, fop .quo .f64 (fop .add .f64 X Y) 4611686018427387904 = M ∧ Is .f64 s ((4 * q + 2) * G) M) ∧ (∃ M, fop .quo .f64 (fop .add .f64 Y X) 4611686018427387904 = M ∧ Is .f64 s ((4 * q + 2) * G) M) ∧
    ∀ M, Is .f64 s ((4 * q + 2) * G) M → (ok9 M = true ∧ g9 M = FloatKind.f32.format.word s (p + p % 2)) ∧
      (ok9 (fop .quo .f64 (fop .add .f64 X M) 4611686018427387904) = true ∧ g9 (fop .quo .f64 (fop .add .f64 X M) 4611686018427387904) = FloatKind.f32.format.word s p) ∧
      (ok9 (fop .quo .f64 (fop .add .f64 Y M) 4611686018427387904) = true ∧ g9 (fop .quo .f64 (fop .add .f64 Y M) 4611686018427387904) = FloatKind.f32.format.word s (p + 1)) := by
  obtain ⟨n1, n2, n3⟩ := quarters h (by omega) s
  have hG := h.pos
  refine ⟨⟨_, rfl, ?_⟩, ⟨_, rfl, ?_⟩, fun M hM => ⟨?_, ?_, ?_⟩⟩
  · have := mean_q hX hY hG (by omega) (by omega) (h.rep _ (by omega)) (h.rep _ (by omega))
    have e : (4 * q + 4 * (q + 1)) / 2 = 4 * q + 2 := by omega
    rw [e] at this
    exact this
  · have := mean_q hY hX hG (by omega) (by omega) (h.rep _ (by omega)) (h.rep _ (by omega))
    have e : (4 * (q + 1) + 4 * q) / 2 = 4 * q + 2 := by omega
    rw [e] at this
    exact this
  · exact down_is hM (by omega) n2
  · have := mean_q hX hM hG (by omega) (by omega) (h.rep _ (by omega)) (h.rep _ (by omega))
    have e : (4 * q + (4 * q + 2)) / 2 = 4 * q + 1 := by omega
    rw [e] at this
    exact down_is this (by omega) n1
  · have := mean_q hY hM hG (by omega) (by omega) (h.rep _ (by omega)) (h.rep _ (by omega))
    have e : (4 * (q + 1) + (4 * q + 2)) / 2 = 4 * q + 3 := by omega
    rw [e] at this
    exact down_is this (by omega) n3
end Go.Proofs.Ytggfjjacafgkkaa
