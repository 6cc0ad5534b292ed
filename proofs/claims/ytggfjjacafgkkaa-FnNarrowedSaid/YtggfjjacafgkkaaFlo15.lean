/-
  FnNarrowed's law.
-/
import Derived.Test.YtggfjjacafgkkaaFlo14
namespace Go.Proofs.Ytggfjjacafgkkaa
open Go.Ev Go Ieee

theorem eql_self {x : Nat} (hn : isNan .f32 x = false) : fcmp .eql .f32 x x = true := by
  unfold fcmp
  simp only [order_self hn]
  decide

theorem same_self {x : Nat} (hn : isNan .f32 x = false) (hlt : x < 4294967296) : ok8 x x = true ∧ g8 x x = true := by
  obtain ⟨o, g⟩ := g34_num hn hlt
  unfold ok8 g8 ok31 g31
  rw [o]
  refine ⟨rfl, ?_⟩
  unfold icmp
  simp

/-- A number that is narrowed is itself. -/
theorem narrow_self {s : Bool} {r : Nat} (hr : r < 2139095040) {X : Nat} (hX : Is .f64 s (val .f32 r * 2 ^ loOf .f32) X) : ok9 X = true ∧ g9 X = FloatKind.f32.format.word s r := by
  refine down_is hX hr ?_
  by_cases h : r = 0
  · subst h
    have : val .f32 0 = 0 := by decide +kernel
    rw [this, Nat.zero_mul]
    unfold near Format.nearest
    rw [if_pos rfl]
  · exact near_exact .f32 s (val_pos h) (by rw [inf32]; omega)

theorem rep_word {r : Nat} (hr : r < 2139095040) : Rep .f64 (val .f32 r * 2 ^ loOf .f32) := by
  have := rep_f32 (r := r) (by rw [inf32]; exact hr) 1 0 (by omega) (by omega)
  rw [Nat.one_mul, show 1051 - 0 = loOf .f32 by decide +kernel] at this
  exact this

theorem par (n : Nat) : icmp .eql (Int.tmod (n : Int) 2) 1 = decide (n % 2 = 1) := by
  unfold icmp
  have : Int.tmod (n : Int) 2 = ((n % 2 : Nat) : Int) := rfl
  rw [this, Bool.eq_iff_iff]
  simp
  omega

/-- What is said of a finite number and its next one, which is finite too, by three narrowed numbers. -/
theorem mid_pos {r : Nat} (hr : r + 1 < 2139095040) {X Y : Nat} (hX : Is .f64 false (val .f32 r * 2 ^ loOf .f32) X) (hY : Is .f64 false (val .f32 (r + 1) * 2 ^ loOf .f32) Y) :
    let M := fop .quo .f64 (fop .add .f64 X Y) 4611686018427387904
    (ok9 M = true ∧ g9 M = r + r % 2) ∧ (ok9 (fop .quo .f64 (fop .add .f64 X M) 4611686018427387904) = true ∧ g9 (fop .quo .f64 (fop .add .f64 X M) 4611686018427387904) = r) ∧
      (ok9 (fop .quo .f64 (fop .add .f64 Y M) 4611686018427387904) = true ∧ g9 (fop .quo .f64 (fop .add .f64 Y M) 4611686018427387904) = r + 1) := by
  obtain ⟨q, G, h⟩ := nb_of (p := r) (by omega)
  rw [h.lo] at hX
  rw [h.hi] at hY
  obtain ⟨⟨M, e, hM⟩, _, t⟩ := three h hr hX hY
  intro M'
  have : M' = M := e
  rw [this]
  exact t M hM

theorem mid_neg {r : Nat} (hr : r + 1 < 2139095040) {X Y : Nat} (hX : Is .f64 true (val .f32 (r + 1) * 2 ^ loOf .f32) X) (hY : Is .f64 true (val .f32 r * 2 ^ loOf .f32) Y) :
    let M := fop .quo .f64 (fop .add .f64 X Y) 4611686018427387904
    (ok9 M = true ∧ g9 M = FloatKind.f32.format.word true (r + r % 2)) ∧ (ok9 (fop .quo .f64 (fop .add .f64 X M) 4611686018427387904) = true ∧ g9 (fop .quo .f64 (fop .add .f64 X M) 4611686018427387904) = FloatKind.f32.format.word true (r + 1)) ∧
      (ok9 (fop .quo .f64 (fop .add .f64 Y M) 4611686018427387904) = true ∧ g9 (fop .quo .f64 (fop .add .f64 Y M) 4611686018427387904) = FloatKind.f32.format.word true r) := by
  obtain ⟨q, G, h⟩ := nb_of (p := r) (by omega)
  rw [h.hi] at hX
  rw [h.lo] at hY
  obtain ⟨_, ⟨M, e, hM⟩, t⟩ := three h hr hY hX
  intro M'
  have : M' = M := e
  rw [this]
  obtain ⟨t1, t2, t3⟩ := t M hM
  exact ⟨t1, t3, t2⟩
end Go.Proofs.Ytggfjjacafgkkaa
