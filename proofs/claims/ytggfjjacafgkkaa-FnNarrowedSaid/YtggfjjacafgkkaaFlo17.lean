/-
  FnNarrowed's law: all numbers.
-/
import Derived.Test.YtggfjjacafgkkaaFlo16
namespace Go.Proofs.Ytggfjjacafgkkaa
open Go.Ev Go Ieee

/-- What the law's body needs of a number, its next, and what is between them. -/
theorem body_of {x y X Y : Nat} (hxn : isNan .f32 x = false) (hxl : x < 4294967296) (hyn : isNan .f32 y = false) (hx : (fconv .f32 .f64 x) = some X) (hy : (fconv .f32 .f64 y) = some Y) (hy10 : g10 x = y)
    (hX : ok9 X = true ∧ g9 X = x) (hfx : g11 x = true) (hfy : g11 y = true)
    (hM : ok9 (fop .quo .f64 (fop .add .f64 X Y) 4611686018427387904) = true ∧ g9 (fop .quo .f64 (fop .add .f64 X Y) 4611686018427387904) = if x % 2 = 1 then y else x)
    (hL : ok9 (fop .quo .f64 (fop .add .f64 X (fop .quo .f64 (fop .add .f64 X Y) 4611686018427387904)) 4611686018427387904) = true ∧ g9 (fop .quo .f64 (fop .add .f64 X (fop .quo .f64 (fop .add .f64 X Y) 4611686018427387904)) 4611686018427387904) = x)
    (hH : ok9 (fop .quo .f64 (fop .add .f64 Y (fop .quo .f64 (fop .add .f64 X Y) 4611686018427387904)) 4611686018427387904) = true ∧ g9 (fop .quo .f64 (fop .add .f64 Y (fop .quo .f64 (fop .add .f64 X Y) 4611686018427387904)) 4611686018427387904) = y) :
    okb3 x = true ∧ body3 x = true := by
  obtain ⟨s1, s2⟩ := same_self hxn hxl
  obtain ⟨o34, e34⟩ := g34_num hxn hxl
  have h10 : ok10 x = true := o34
  have h12 : ok12 x = true ∧ g12 x = (x : Int) := ⟨o34, e34⟩
  have hs : (some X).isSome = true := rfl
  have hs' : (some Y).isSome = true := rfl
  have hg : (some X).getD 0 = X := rfl
  have hg' : (some Y).getD 0 = Y := rfl
  unfold okb3 body3
  rw [hy10, hx, hy, hs, hs', hg, hg', hX.1, hX.2, s1, s2, hfx, hfy, h10, h12.1, h12.2, par, hM.1, hM.2, hL.1, hL.2, hH.1, hH.2, eql_self hxn, eql_self hyn]
  by_cases hp : x % 2 = 1
  · rw [if_pos hp, decide_eq_true hp, eql_self hyn]
    exact ⟨rfl, rfl⟩
  · rw [if_neg hp, decide_eq_false hp, eql_self hxn]
    exact ⟨rfl, rfl⟩

theorem body_pos {r : Nat} (h0 : r ≠ 0) (hr : r + 1 < 2139095040) : okb3 r = true ∧ body3 r = true := by
  have hx : Is .f32 false (val .f32 r * 2 ^ loOf .f32) r := is_word (s := false) (by omega)
  have hy : Is .f32 false (val .f32 (r + 1) * 2 ^ loOf .f32) (r + 1) := is_word (s := false) hr
  have hX := near_is (k := .f64) false (rep_word (r := r) (by omega))
  have hY := near_is (k := .f64) false (rep_word (r := r + 1) hr)
  obtain ⟨m1, m2, m3⟩ := mid_pos hr hX hY
  have hn := not_nan_word (s := false) (r := r) (by omega)
  have hn' := not_nan_word (s := false) (r := r + 1) (by omega)
  rw [word_pos] at hn hn'
  have h10 := g10_fin (s := false) (r := r) (by omega)
  rw [word_pos, if_neg h0] at h10
  have f1 := g11_fin (s := false) (r := r) (by omega)
  have f2 := g11_fin (s := false) (r := r + 1) hr
  rw [word_pos] at f1 f2
  have ns := narrow_self (s := false) (r := r) (by omega) hX
  rw [word_pos] at ns
  refine body_of hn (by omega) hn' (fconv_is (by decide) hx hX) (fconv_is (by decide) hy hY) h10 ns f1 f2 ?_ m2 m3
  refine ⟨m1.1, m1.2.trans ?_⟩
  split <;> omega

theorem body_neg {r : Nat} (hr : r + 1 < 2139095040) : okb3 (FloatKind.f32.format.word true (r + 1)) = true ∧ body3 (FloatKind.f32.format.word true (r + 1)) = true := by
  have hx : Is .f32 true (val .f32 (r + 1) * 2 ^ loOf .f32) (FloatKind.f32.format.word true (r + 1)) := is_word hr
  have hy : Is .f32 true (val .f32 r * 2 ^ loOf .f32) (FloatKind.f32.format.word true r) := is_word (by omega)
  have hX := near_is (k := .f64) true (rep_word (r := r + 1) hr)
  have hY := near_is (k := .f64) true (rep_word (r := r) (by omega))
  obtain ⟨m1, m2, m3⟩ := mid_neg hr hX hY
  have hn := not_nan_word (s := true) (r := r + 1) (by omega)
  have hn' := not_nan_word (s := true) (r := r) (by omega)
  have h10 := g10_fin (s := true) (r := r + 1) hr
  rw [if_neg (by omega), if_pos rfl] at h10
  have hlt := word_lt32 true (rung := r + 1) (by rw [inf32]; omega)
  refine body_of hn hlt hn' (fconv_is (by decide) hx hX) (fconv_is (by decide) hy hY) h10 (narrow_self hr hX) (g11_fin hr) (g11_fin (by omega)) ?_ m2 m3
  refine ⟨m1.1, m1.2.trans ?_⟩
  rw [word_neg, word_neg, word_neg]
  split <;> omega

/-- The law holds of each number. -/
theorem body_all {x : Nat} (h : F32 x) : okb3 x = true ∧ body3 x = true := by
  rcases F32_cases h with rfl | ⟨s, r, hr, rfl⟩
  · exact body_nan
  · by_cases h1 : r = 2139095040
    · subst h1; exact body_inf s
    · by_cases h0 : r = 0
      · subst h0; exact body_zero s
      · cases s
        · by_cases h2 : r = 2139095039
          · subst h2; exact body_most
          · rw [word_pos]
            exact body_pos (r := r) h0 (by omega)
        · obtain ⟨q, rfl⟩ : ∃ q, r = q + 1 := ⟨r - 1, by omega⟩
          exact body_neg (by omega)

theorem law3 (zs0 zs1 : List Int) (h0 : isBytes zs0) : ok3 (bsV zs0) (bsV zs1) = true ∧ g3 (bsV zs0) (bsV zs1) = true := by
  obtain ⟨n1, n2⟩ := number_sound h0
  obtain ⟨b1, b2⟩ := body_all n2
  rw [ok3_body, g3_body, n1, b1, b2]
  cases g6 (bsV zs0) (bsV zs1) <;> exact ⟨rfl, rfl⟩
end Go.Proofs.Ytggfjjacafgkkaa
