/-
  Any 32-bit number that is drawn.
-/
import Derived.Test.YtggfjjacafgkkaaNum
namespace Go.Proofs.Ytggfjjacafgkkaa
open Go.Ev Go Ieee

theorem one_sound {zs : List Int} (hb : isBytes zs) {at_ seed n : Int} (h0 : 0 ≤ at_) (h1 : at_ ≤ 900000000) (hn : 1 ≤ n) (hm : n ≤ 65536) :
    ok27 (bsV zs) at_ seed n = true ∧ at_ ≤ (g27 (bsV zs) at_ seed n).2.1 ∧ (g27 (bsV zs) at_ seed n).2.1 ≤ at_ + 2 := by
  obtain ⟨a1, a2, a3, a4, a5⟩ := pick_sound hb (seed := seed) h0 h1 hn hm
  exact ⟨a1, a2, a3⟩

theorem plain_at {zs : List Int} (hb : isBytes zs) {at_ seed : Int} (h0 : 0 ≤ at_) (h1 : at_ ≤ 800000000) : at_ ≤ (g45 (bsV zs) at_ seed).2.1 ∧ (g45 (bsV zs) at_ seed).2.1 ≤ at_ + 4 := by
  obtain ⟨a1, a2, a3, a4, a5⟩ := pick_sound hb (seed := seed) h0 (by omega : at_ ≤ 900000000) (by omega : (1 : Int) ≤ 129) (by omega)
  obtain ⟨b1, b2, b3⟩ := one_sound hb (seed := (g28 (bsV zs) at_ seed 129).2.2) (by omega : (0 : Int) ≤ (g28 (bsV zs) at_ seed 129).2.1) (by omega) (by omega : (1 : Int) ≤ 4) (by omega)
  unfold g45
  cases (g27 (bsV zs) (g28 (bsV zs) at_ seed 129).2.1 (g28 (bsV zs) at_ seed 129).2.2 4).1
  · exact ⟨by simp only [cond_false]; omega, by simp only [cond_false]; omega⟩
  · exact ⟨by simp only [cond_true]; omega, by simp only [cond_true]; omega⟩

theorem inB_of {i : Int} {n : Nat} (h0 : 0 ≤ i) (h1 : i < n) : inB i n = true := by
  unfold inB
  rw [Bool.and_eq_true, decide_eq_true_eq, decide_eq_true_eq]
  exact ⟨h0, h1⟩

theorem list10 {i : Int} (h0 : 0 ≤ i) (h1 : i < 10) : (getAt ([(.int .i64 0), (.int .i64 2147483648), (.int .i64 2139095040), (.int .i64 4286578688), (.int .i64 2143289344), (.int .i64 1), (.int .i64 2139095039), (.int .i64 8388608), (.int .i64 8388607), (.int .i64 2147483649)] : List V) (0 + Int.toNat i * 1)).isSome = true ∧
    isI .i64 ((getAt ([(.int .i64 0), (.int .i64 2147483648), (.int .i64 2139095040), (.int .i64 4286578688), (.int .i64 2143289344), (.int .i64 1), (.int .i64 2139095039), (.int .i64 8388608), (.int .i64 8388607), (.int .i64 2147483649)] : List V) (0 + Int.toNat i * 1)).getD .und) = true := by
  have : i = 0 ∨ i = 1 ∨ i = 2 ∨ i = 3 ∨ i = 4 ∨ i = 5 ∨ i = 6 ∨ i = 7 ∨ i = 8 ∨ i = 9 := by omega
  rcases this with rfl | rfl | rfl | rfl | rfl | rfl | rfl | rfl | rfl | rfl <;> exact ⟨rfl, rfl⟩

theorem list4 {i : Int} (h0 : 0 ≤ i) (h1 : i < 4) : (getAt ([(.int .i64 8388608), (.int .i64 2130706432), (.int .i64 1610612736), (.int .i64 536870912)] : List V) (0 + Int.toNat i * 1)).isSome = true ∧
    isI .i64 ((getAt ([(.int .i64 8388608), (.int .i64 2130706432), (.int .i64 1610612736), (.int .i64 536870912)] : List V) (0 + Int.toNat i * 1)).getD .und) = true := by
  have : i = 0 ∨ i = 1 ∨ i = 2 ∨ i = 3 := by omega
  rcases this with rfl | rfl | rfl | rfl <;> exact ⟨rfl, rfl⟩

theorem float_sound {zs : List Int} (hb : isBytes zs) {at_ seed : Int} (h0 : 0 ≤ at_) (h1 : at_ ≤ 700000000) :
    ok30 (bsV zs) at_ seed = true ∧ F32 (g30 (bsV zs) at_ seed).1 := by
  obtain ⟨a1, a2, a3⟩ := one_sound hb (seed := seed) h0 (by omega : at_ ≤ 900000000) (by omega : (1 : Int) ≤ 12) (by omega)
  unfold ok30 g30
  rw [a1]
  generalize (g27 (bsV zs) at_ seed 12) = A at a2 a3 ⊢
  obtain ⟨c, s1, s2⟩ := A
  dsimp only at a2 a3 ⊢
  obtain ⟨p1, p2⟩ := plain_sound hb (seed := s2) (by omega : 0 ≤ s1) (by omega)
  obtain ⟨b1, b2, b3, b4, b5⟩ := pick_sound hb (seed := s2) (by omega : 0 ≤ s1) (by omega) (by omega : (1 : Int) ≤ 4) (by omega)
  cases c
  · simp only [Bool.not_false, cond_true, Bool.true_and]
    exact ⟨p1, p2⟩
  · simp only [Bool.not_true, cond_false, Bool.true_and]
    rw [b1]
    generalize (g28 (bsV zs) s1 s2 4) = B at b2 b3 b4 b5 ⊢
    obtain ⟨k, t1, t2⟩ := B
    dsimp only at b2 b3 b4 b5 ⊢
    obtain ⟨c1, c2, c3, c4, c5⟩ := pick_sound hb (seed := t2) (by omega : 0 ≤ t1) (by omega) (by omega : (1 : Int) ≤ 10) (by omega)
    obtain ⟨d1, d2, d3, d4, d5⟩ := pick_sound hb (seed := t2) (by omega : 0 ≤ t1) (by omega) (by omega : (1 : Int) ≤ 65536) (by omega)
    obtain ⟨e1, e2⟩ := plain_sound hb (seed := t2) (by omega : 0 ≤ t1) (by omega)
    obtain ⟨f1, f2⟩ := plain_at hb (seed := t2) (by omega : 0 ≤ t1) (by omega)
    rw [c1, d1, e1]
    simp only [Bool.true_and]
    cases icmp .eql k 0
    · simp only [cond_false]
      cases icmp .eql k 1
      · simp only [cond_false]
        cases icmp .eql k 2
        · simp only [cond_false]
          generalize (g45 (bsV zs) t1 t2) = G at e2 f1 f2 ⊢
          obtain ⟨x, u1, u2⟩ := G
          dsimp only at e2 f1 f2 ⊢
          obtain ⟨q1, q2, q3, q4, q5⟩ := pick_sound hb (seed := u2) (by omega : 0 ≤ u1) (by omega) (by omega : (1 : Int) ≤ 4) (by omega)
          obtain ⟨l1, l2⟩ := list4 q4 q5
          rw [q1, inB_of q4 q5, l1, l2]
          exact ⟨rfl, fop_F32 _ _ _⟩
        · simp only [cond_true]
          exact ⟨trivial, from_F32 _⟩
      · simp only [cond_true]
        generalize (g28 (bsV zs) t1 t2 65536) = D at d2 d3 d4 d5 ⊢
        obtain ⟨x, u1, u2⟩ := D
        dsimp only at d2 d3 d4 d5 ⊢
        obtain ⟨q1, q2, q3, q4, q5⟩ := pick_sound hb (seed := u2) (by omega : 0 ≤ u1) (by omega) (by omega : (1 : Int) ≤ 65536) (by omega)
        exact ⟨q1, from_F32 _⟩
    · simp only [cond_true]
      obtain ⟨l1, l2⟩ := list10 c4 c5
      rw [inB_of c4 c5, l1, l2]
      exact ⟨rfl, from_F32 _⟩

/-- B10Number. -/
theorem number_sound {zs : List Int} (hb : isBytes zs) : ok7 (bsV zs) = true ∧ F32 (g7 (bsV zs)) := by
  obtain ⟨a1, a2, a3⟩ := one_sound hb (seed := 0) (Int.le_refl 0) (by omega) (by omega : (1 : Int) ≤ 2) (by omega)
  unfold ok7 g7
  rw [a1]
  generalize (g27 (bsV zs) 0 0 2) = A at a2 a3 ⊢
  obtain ⟨c, s1, s2⟩ := A
  dsimp only at a2 a3 ⊢
  obtain ⟨d1, d2, d3, d4, d5⟩ := pick_sound hb (seed := s2) (by omega : 0 ≤ s1) (by omega) (by omega : (1 : Int) ≤ 65536) (by omega)
  obtain ⟨e1, e2⟩ := float_sound hb (seed := s2) (by omega : 0 ≤ s1) (by omega)
  rw [d1, e1]
  simp only [Bool.true_and]
  cases c
  · simp only [cond_false]
    exact ⟨trivial, e2⟩
  · simp only [cond_true]
    generalize (g28 (bsV zs) s1 s2 65536) = D at d2 d3 d4 d5 ⊢
    obtain ⟨x, u1, u2⟩ := D
    dsimp only at d2 d3 d4 d5 ⊢
    obtain ⟨q1, q2, q3, q4, q5⟩ := pick_sound hb (seed := u2) (by omega : 0 ≤ u1) (by omega) (by omega : (1 : Int) ≤ 65536) (by omega)
    exact ⟨q1, from_F32 _⟩
end Go.Proofs.Ytggfjjacafgkkaa
