/-
  32-bit numbers that are drawn: canonical words.
-/
import Derived.Test.YtggfjjacafgkkaaDraw
namespace Go.Proofs.Ytggfjjacafgkkaa
open Go.Ev Go Ieee

/-- A canonical word of 32 bits. -/
def F32 (n : Nat) : Prop := n < 4294967296 ∧ canon .f32 n = n

theorem sw32 : FloatKind.f32.format.signWeight = 2147483648 := by decide +kernel
theorem inf32 : FloatKind.f32.format.infRung = 2139095040 := by decide +kernel

theorem canon_F32 {n : Nat} (h : n < 4294967296) : F32 (canon .f32 n) := by
  refine ⟨?_, canon_canon _ _⟩
  unfold canon
  cases isNan .f32 n
  · exact h
  · show qnan .f32 < 4294967296
    decide

theorem from_F32 (v : Int) : F32 (g29 v) := by
  refine canon_F32 ?_
  rw [IntKind.wrap_u32]
  omega

theorem word_lt32 (neg : Bool) {rung : Nat} (h : rung ≤ FloatKind.f32.format.infRung) : FloatKind.f32.format.word neg rung < 4294967296 := by
  rw [inf32] at h
  unfold Format.word
  rw [sw32]
  split <;> omega

theorem write_lt32 (d : Datum) (h : d.isNaN = false) : FloatKind.f32.format.write d < 4294967296 := by
  cases d with
  | number neg mag place =>
    show FloatKind.f32.format.nearest neg mag place < _
    unfold Format.nearest
    split
    · exact word_lt32 neg (Nat.zero_le _)
    · exact word_lt32 neg (Nat.min_le_right _ _)
  | infinity neg => exact word_lt32 neg (Nat.le_refl _)
  | nan _ _ => simp [Datum.isNaN] at h

theorem map_write_lt {o : Option Datum} {r : Nat} (hn : ∀ d, o = some d → d.isNaN = false) (h : o.map FloatKind.f32.format.write = some r) : r < 4294967296 := by
  cases o with
  | none => cases h
  | some d => cases h; exact write_lt32 d (hn d rfl)

theorem floatBits_lt {op : BinOp} {a b r : Nat} (h : floatBits op .f32 a b = some r) : r < 4294967296 := by
  unfold floatBits at h
  cases op <;> simp only at h <;> first | (cases h; done) | skip
  · exact map_write_lt (fun _ => sum_notNaN) h
  · exact map_write_lt (fun _ => sum_notNaN) h
  · exact map_write_lt (fun _ => product_notNaN) h
  · exact map_write_lt (fun _ => quotient_notNaN) h

theorem fop_F32 (op : BinOp) (a b : Nat) : F32 (fop op .f32 a b) := by
  unfold fop
  split
  · rename_i r h
    exact ⟨floatBits_lt h, canon_of_not (floatBits_not h)⟩
  · exact ⟨by decide, canon_of_nan (isNan_qnan .f32)⟩

/-- The draw of a number: it can be made, and is a canonical word. -/
theorem plain_sound {zs : List Int} (hb : isBytes zs) {at_ seed : Int} (h0 : 0 ≤ at_) (h1 : at_ ≤ 800000000) :
    ok45 (bsV zs) at_ seed = true ∧ F32 (g45 (bsV zs) at_ seed).1 := by
  obtain ⟨a1, a2, a3, a4, a5⟩ := pick_sound hb (seed := seed) h0 (by omega : at_ ≤ 900000000) (by omega : (1 : Int) ≤ 129) (by omega)
  obtain ⟨b1, b2, b3, b4, b5⟩ := pick_sound hb (seed := (g28 (bsV zs) at_ seed 129).2.2) (by omega : (0 : Int) ≤ (g28 (bsV zs) at_ seed 129).2.1) (by omega) (by omega : (1 : Int) ≤ 4) (by omega)
  refine ⟨?_, ?_⟩
  · unfold ok45 ok27
    rw [a1, b1]
    rfl
  · unfold g45
    cases (g27 (bsV zs) (g28 (bsV zs) at_ seed 129).2.1 (g28 (bsV zs) at_ seed 129).2.2 4).1
    · exact fop_F32 _ _ _
    · exact fop_F32 _ _ _
end Go.Proofs.Ytggfjjacafgkkaa
