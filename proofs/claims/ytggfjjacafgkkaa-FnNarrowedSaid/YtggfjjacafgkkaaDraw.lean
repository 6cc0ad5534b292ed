/-
  The source of draws: what is drawn lies in its range, and can be drawn.
-/
import Derived.Test.YtggfjjacafgkkaaTie
import Derived.Test.YtggfjjacafgkkaaFnB
namespace Go.Proofs.Ytggfjjacafgkkaa
open Go.Ev Go

theorem and255 (x : Int) : 0 ≤ ibits .and .u64 x 255 ∧ ibits .and .u64 x 255 ≤ 255 := by
  have h : (BitVec.ofInt 64 x &&& BitVec.ofInt 64 255).toNat ≤ 255 := by
    rw [BitVec.toNat_and]
    exact Nat.and_le_right
  have e : ibits .and .u64 x 255 = IntKind.u64.wrap (((BitVec.ofInt 64 x &&& BitVec.ofInt 64 255).toNat : Nat) : Int) := rfl
  rw [e, IntKind.wrap_u64]
  omega

theorem at_byte (zs : List Int) {i : Int} (h0 : 0 ≤ i) (h1 : i < zs.length) : getAt ((getAt (bsV zs) (Int.toNat i)).getD []) 0 = some (.int .u8 (zs.getD i.toNat 0)) := by
  have hi : i.toNat < zs.length := by omega
  simp [getAt_eq, bsV, hi]

theorem next_ok {zs : List Int} {at_ seed : Int} (h0 : 0 ≤ at_) : ok44 (bsV zs) at_ seed = true := by
  unfold ok44
  have hl : (Int.ofNat (bsV zs).length) = (zs.length : Int) := by simp [bsV]
  rw [hl]
  by_cases h : at_ < zs.length
  · have hc : icmp .lss at_ zs.length = true := by simpa [icmp] using h
    have hin : inB at_ (bsV zs).length = true := by
      unfold inB
      rw [Bool.and_eq_true, decide_eq_true_eq, decide_eq_true_eq]
      exact ⟨h0, by simpa [bsV] using h⟩
    rw [hc, hin, at_byte zs h0 h]
    rfl
  · have hc : icmp .lss at_ zs.length = false := by simpa [icmp] using h
    rw [hc]
    rfl

theorem small (n : Int) (h0 : 0 ≤ n) (h1 : n ≤ 1000000000000) : IntKind.i64.wrap n = n := by
  rw [IntKind.wrap_i64]
  omega

theorem next_sound {zs : List Int} (hb : isBytes zs) {at_ seed : Int} (h0 : 0 ≤ at_) (h1 : at_ ≤ 1000000000) :
    (g44 (bsV zs) at_ seed).2.1 = at_ + 1 ∧ 0 ≤ (g44 (bsV zs) at_ seed).1 ∧ (g44 (bsV zs) at_ seed).1 ≤ 255 := by
  have hw : IntKind.i64.wrap (at_ + 1) = at_ + 1 := small _ (by omega) (by omega)
  have hl : (Int.ofNat (bsV zs).length) = (zs.length : Int) := by simp [bsV]
  have hand : ∀ x, 0 ≤ IntKind.i64.wrap (ibits .and .u64 x 255) ∧ IntKind.i64.wrap (ibits .and .u64 x 255) ≤ 255 := fun x => by
    have := and255 x
    rw [small _ this.1 (by omega)]
    exact this
  unfold g44
  rw [hl, hw]
  by_cases h : at_ < zs.length
  · have hc : icmp .lss at_ zs.length = true := by simpa [icmp] using h
    have hz : 0 ≤ zs.getD at_.toNat 0 ∧ zs.getD at_.toNat 0 ≤ 255 := by
      have hi : at_.toNat < zs.length := by omega
      have : zs.getD at_.toNat 0 ∈ zs := by simp [hi]
      exact hb _ this
    rw [hc, at_byte zs h0 h]
    simp only [cond_true, Option.getD_some, asI]
    cases icmp .leq (at_ + 1) zs.length
    · exact ⟨rfl, hand _⟩
    · simp only [cond_true]
      rw [small _ hz.1 (by omega)]
      exact ⟨trivial, hz⟩
  · have hc : icmp .lss at_ zs.length = false := by simpa [icmp] using h
    rw [hc]
    simp only [cond_false]
    cases icmp .leq (at_ + 1) zs.length
    · exact ⟨rfl, hand _⟩
    · exact ⟨rfl, by simp, by simp⟩

/-- A pick: it can be made; a number from 0 to n - 1; at most two bytes on. -/
theorem pick_sound {zs : List Int} (hb : isBytes zs) {at_ seed n : Int} (h0 : 0 ≤ at_) (h1 : at_ ≤ 900000000) (hn : 1 ≤ n) (hm : n ≤ 65536) :
    ok28 (bsV zs) at_ seed n = true ∧ at_ ≤ (g28 (bsV zs) at_ seed n).2.1 ∧ (g28 (bsV zs) at_ seed n).2.1 ≤ at_ + 2 ∧ 0 ≤ (g28 (bsV zs) at_ seed n).1 ∧ (g28 (bsV zs) at_ seed n).1 < n := by
  obtain ⟨a1, a2, a3⟩ := next_sound hb (seed := seed) h0 (by omega : at_ ≤ 1000000000)
  obtain ⟨b1, b2, b3⟩ := next_sound hb (seed := (g44 (bsV zs) at_ seed).2.2) (by omega : (0 : Int) ≤ (g44 (bsV zs) at_ seed).2.1) (by omega)
  have o1 := next_ok (zs := zs) (seed := seed) h0
  have o2 := next_ok (zs := zs) (seed := (g44 (bsV zs) at_ seed).2.2) (by omega : (0 : Int) ≤ (g44 (bsV zs) at_ seed).2.1)
  unfold ok28 g28
  by_cases c1 : n ≤ 1
  · have hc : icmp .leq n 1 = true := by simpa [icmp] using c1
    rw [hc]
    simp only [cond_true]
    refine ⟨trivial, Int.le_refl _, by omega, Int.le_refl _, by omega⟩
  · have hc : icmp .leq n 1 = false := by simpa [icmp] using c1
    have hz : (!(n == 0)) = true := by simp; omega
    rw [hc, o1]
    simp only [cond_false, Bool.true_and]
    by_cases c2 : n > 200
    · have hc : icmp .gtr n 200 = true := by simpa [icmp] using c2
      rw [hc, o2, hz]
      simp only [cond_true, Bool.true_and]
      have hw1 : IntKind.i64.wrap ((g44 (bsV zs) at_ seed).1 * 256) = (g44 (bsV zs) at_ seed).1 * 256 := small _ (by omega) (by omega)
      rw [hw1, small _ (by omega) (by omega)]
      refine ⟨trivial, by omega, by omega, ?_, ?_⟩
      · exact Int.tmod_nonneg _ (by omega)
      · exact Int.tmod_lt_of_pos _ (by omega)
    · have hc : icmp .gtr n 200 = false := by simpa [icmp] using c2
      rw [hc, hz]
      simp only [cond_false]
      refine ⟨trivial, by omega, by omega, ?_, ?_⟩
      · exact Int.tmod_nonneg _ (by omega)
      · exact Int.tmod_lt_of_pos _ (by omega)
end Go.Proofs.Ytggfjjacafgkkaa
