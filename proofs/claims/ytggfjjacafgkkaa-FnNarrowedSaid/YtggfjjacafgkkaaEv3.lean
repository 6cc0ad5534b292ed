/-
  Floats with one not-a-number: the model's operations on any bits, and the evaluator's on the canonical ones.
-/
import Derived.Test.YtggfjjacafgkkaaEv2
namespace Go.Ev
open Ieee

theorem read_word (f : Format) (neg : Bool) {rung : Nat} (h : rung < f.signWeight) : f.word neg rung % f.signWeight = rung := by
  unfold Format.word
  split
  · rw [Nat.add_mod_left, Nat.mod_eq_of_lt h]
  · exact Nat.mod_eq_of_lt h

theorem binade_le_inf (f : Format) (h : 2 ≤ f.exponentBits) : f.binade ≤ f.infRung := by
  unfold Format.infRung
  have : 2 ^ 2 ≤ 2 ^ f.exponentBits := Nat.pow_le_pow_right (by omega) h
  exact Nat.le_mul_of_pos_left _ (by omega)

theorem isNaN_read (f : Format) (h : 2 ≤ f.exponentBits) (b : Nat) : (f.read b).isNaN = decide (f.infRung < b % f.signWeight) := by
  have hb := binade_le_inf f h
  unfold Format.read
  dsimp only
  split
  · simp [Datum.isNaN]; omega
  · split
    · simp [Datum.isNaN]; omega
    · split
      · rename_i h3; simp [Datum.isNaN, h3]
      · simp [Datum.isNaN]; omega

theorem expo_two (k : FloatKind) : 2 ≤ k.format.exponentBits := by cases k <;> decide

theorem isNan_eq (k : FloatKind) (b : Nat) : isNan k b = decide (k.format.infRung < b % k.format.signWeight) := isNaN_read _ (expo_two k) b

theorem isNan_qnan (k : FloatKind) : isNan k (qnan k) = true := by cases k <;> decide +kernel

theorem isNan_canon (k : FloatKind) (b : Nat) : isNan k (canon k b) = isNan k b := by
  unfold canon
  cases h : isNan k b
  · simpa using h
  · simpa using isNan_qnan k

theorem canon_canon (k : FloatKind) (b : Nat) : canon k (canon k b) = canon k b := by
  rw [canon, isNan_canon]
  unfold canon
  cases h : isNan k b <;> simp

theorem canon_of_not {k : FloatKind} {b : Nat} (h : isNan k b = false) : canon k b = b := by simp [canon, h]

theorem canon_of_nan {k : FloatKind} {b : Nat} (h : isNan k b = true) : canon k b = qnan k := by simp [canon, h]

theorem read_nan {k : FloatKind} {b : Nat} (h : isNan k b = true) : ∃ s t, k.format.read b = .nan s t := by
  unfold isNan at h
  cases hr : k.format.read b with
  | nan s t => exact ⟨s, t, rfl⟩
  | number _ _ _ => rw [hr] at h; simp [Datum.isNaN] at h
  | infinity _ => rw [hr] at h; simp [Datum.isNaN] at h

/-- What looks at what a number stands for, and tells of a not-a-number nothing but that, is the same at the canonical bits. -/
theorem of_canon {α : Type} (k : FloatKind) (F : Datum → α) (hF : ∀ s t s' t', F (.nan s t) = F (.nan s' t')) (b : Nat) : F (k.format.read (canon k b)) = F (k.format.read b) := by
  cases h : isNan k b
  · rw [canon_of_not h]
  · rw [canon_of_nan h]
    obtain ⟨s, t, e⟩ := read_nan h
    obtain ⟨s', t', e'⟩ := read_nan (isNan_qnan k)
    rw [e, e']
    exact hF _ _ _ _

theorem order_canon (k : FloatKind) (a b : Nat) : k.format.order (canon k a) (canon k b) = k.format.order a b := by
  unfold Format.order
  rw [of_canon k (fun d => d.order (k.format.read (canon k b))) (fun _ _ _ _ => rfl) a]
  refine of_canon k (fun d => (k.format.read a).order d) (fun _ _ _ _ => ?_) b
  cases k.format.read a <;> rfl

theorem sum_nan (d : Datum) (s : Bool) (t : Nat) : d.sum (.nan s t) = none := by cases d <;> rfl
theorem product_nan (d : Datum) (s : Bool) (t : Nat) : d.product (.nan s t) = none := by cases d <;> rfl
theorem quotient_nan (n : Nat) (d : Datum) (s : Bool) (t : Nat) : d.quotient n (.nan s t) = none := by cases d <;> rfl

theorem floatBits_canon (op : BinOp) (k : FloatKind) (a b : Nat) : floatBits op k (canon k a) (canon k b) = floatBits op k a b := by
  unfold floatBits
  cases op <;> dsimp only
  · unfold Format.add
    rw [of_canon k (fun d => (d.sum (k.format.read (canon k b))).map k.format.write) (fun _ _ _ _ => rfl) a]
    exact of_canon k (fun d => ((k.format.read a).sum d).map k.format.write) (fun _ _ _ _ => by simp only [sum_nan]) b
  · unfold Format.sub
    rw [of_canon k (fun d => (d.sum (k.format.read (canon k b)).opposite).map k.format.write) (fun _ _ _ _ => rfl) a]
    exact of_canon k (fun d => ((k.format.read a).sum d.opposite).map k.format.write) (fun _ _ _ _ => by simp only [Datum.opposite, sum_nan]) b
  · unfold Format.mul
    rw [of_canon k (fun d => (d.product (k.format.read (canon k b))).map k.format.write) (fun _ _ _ _ => rfl) a]
    exact of_canon k (fun d => ((k.format.read a).product d).map k.format.write) (fun _ _ _ _ => by simp only [product_nan]) b
  · unfold Format.div
    rw [of_canon k (fun d => (d.quotient (k.format.fractionBits + 2) (k.format.read (canon k b))).map k.format.write) (fun _ _ _ _ => rfl) a]
    exact of_canon k (fun d => ((k.format.read a).quotient (k.format.fractionBits + 2) d).map k.format.write) (fun _ _ _ _ => by simp only [quotient_nan]) b

theorem infRung_lt' (k : FloatKind) : k.format.infRung < k.format.signWeight := k.format.infRung_lt

theorem isNan_word (k : FloatKind) (neg : Bool) {rung : Nat} (h : rung ≤ k.format.infRung) : isNan k (k.format.word neg rung) = false := by
  rw [isNan_eq, read_word _ _ (Nat.lt_of_le_of_lt h (infRung_lt' k))]
  simpa using h

theorem isNan_nearest (k : FloatKind) (neg : Bool) (mag : Nat) (place : Int) : isNan k (k.format.nearest neg mag place) = false := by
  unfold Format.nearest
  split
  · exact isNan_word k neg (Nat.zero_le _)
  · exact isNan_word k neg (Nat.min_le_right _ _)

theorem isNan_write (k : FloatKind) (d : Datum) (h : d.isNaN = false) : isNan k (k.format.write d) = false := by
  cases d with
  | number neg mag place => exact isNan_nearest k neg mag place
  | infinity neg => exact isNan_word k neg (Nat.le_refl _)
  | nan _ _ => simp [Datum.isNaN] at h

theorem sum_notNaN {x y d : Datum} (h : x.sum y = some d) : d.isNaN = false := by
  unfold Datum.sum at h
  split at h <;> first
    | (cases h; done)
    | (cases h; rfl)
    | (split at h <;> cases h; rfl)

theorem product_notNaN {x y d : Datum} (h : x.product y = some d) : d.isNaN = false := by
  unfold Datum.product at h
  split at h <;> first
    | (cases h; done)
    | (cases h; rfl)
    | (split at h <;> cases h; rfl)

theorem quotient_notNaN {n : Nat} {x y d : Datum} (h : x.quotient n y = some d) : d.isNaN = false := by
  unfold Datum.quotient at h
  split at h <;> first
    | (cases h; done)
    | (cases h; rfl)
    | (dsimp only at h; split at h <;> first | (split at h <;> cases h <;> rfl) | (cases h; rfl))

theorem map_write_not {k : FloatKind} {o : Option Datum} {r : Nat} (hn : ∀ d, o = some d → d.isNaN = false) (h : o.map k.format.write = some r) : isNan k r = false := by
  cases o with
  | none => cases h
  | some d => cases h; exact isNan_write k d (hn d rfl)

theorem floatBits_not {op : BinOp} {k : FloatKind} {a b r : Nat} (h : floatBits op k a b = some r) : isNan k r = false := by
  unfold floatBits at h
  cases op <;> simp only at h <;> first | (cases h; done) | skip
  · exact map_write_not (fun _ => sum_notNaN) h
  · exact map_write_not (fun _ => sum_notNaN) h
  · exact map_write_not (fun _ => product_notNaN) h
  · exact map_write_not (fun _ => quotient_notNaN) h

theorem nan32 (t : Nat) : isNan .f32 ((t % 2) * 2 ^ 31 + 0x7f800000 + 1 + (t / 2) % (2 ^ 23 - 1)) = true := by
  have e1 : FloatKind.f32.format.infRung = 2139095040 := by decide +kernel
  have e2 : FloatKind.f32.format.signWeight = 2147483648 := by decide +kernel
  rw [isNan_eq, e1, e2]
  simp only [Nat.reducePow, Nat.reduceSub, decide_eq_true_eq]
  have h1 : t % 2 = 0 ∨ t % 2 = 1 := by omega
  generalize t % 2 = u at h1
  generalize hm : t / 2 % _ = m
  have hm' := Nat.mod_lt (t / 2) (show 8388607 > 0 by decide)
  rw [hm] at hm'
  rcases h1 with rfl | rfl <;> omega

theorem nan64 (t : Nat) : isNan .f64 ((t % 2) * 2 ^ 63 + 0x7ff0000000000000 + 1 + (t / 2) % (2 ^ 52 - 1)) = true := by
  have e1 : FloatKind.f64.format.infRung = 9218868437227405312 := by decide +kernel
  have e2 : FloatKind.f64.format.signWeight = 9223372036854775808 := by decide +kernel
  rw [isNan_eq, e1, e2]
  simp only [Nat.reducePow, Nat.reduceSub, decide_eq_true_eq]
  have h1 : t % 2 = 0 ∨ t % 2 = 1 := by omega
  generalize t % 2 = u at h1
  generalize hm : t / 2 % _ = m
  have hm' := Nat.mod_lt (t / 2) (show 4503599627370495 > 0 by decide)
  rw [hm] at hm'
  rcases h1 with rfl | rfl <;> omega

theorem cut_nanBits (k : FloatKind) (x y t : Nat) : isNan k ((Question.nanBits k x y).cut t) = true := by
  cases k
  · exact nan32 t
  · exact nan64 t

theorem cut_nanConv (k : FloatKind) (x t : Nat) : isNan k ((Question.nanConv k x).cut t) = true := by
  cases k
  · exact nan32 t
  · exact nan64 t

theorem cut_nanMinMax (k : FloatKind) (m : Bool) (x y t : Nat) : isNan k ((Question.nanMinMax k m x y).cut t) = true := by
  cases k
  · exact nan32 t
  · exact nan64 t

theorem isNan_neg (k : FloatKind) (b : Nat) : isNan k (Op.negFloat k b) = isNan k b := by
  rw [isNan_eq, isNan_eq]
  unfold Op.negFloat Format.signWeight
  rw [Nat.xor_mod_two_pow, Nat.mod_self, Nat.xor_zero]

theorem fneg_canon (k : FloatKind) (b : Nat) : fneg k (canon k b) = canon k (Op.negFloat k b) := by
  unfold fneg
  rw [isNan_canon]
  cases h : isNan k b
  · rw [canon_of_not h, canon_of_not (by rw [isNan_neg]; exact h)]; rfl
  · rw [canon_of_nan (b := Op.negFloat k b) (by rw [isNan_neg]; exact h)]; rfl

section
variable {P : Program}

/-- '+', '-', '*', '/' on floats. -/
theorem run_fop (op : BinOp) (t : TypeId) (k : FloatKind) (a b : Nat) (w : World) (ho : op = .add ∨ op = .sub ∨ op = .mul ∨ op = .quo) :
    ∃ r w', (binOp op t (.float k a) (.float k b)).run P w = .ok (.float k r) w' ∧ w'.hoo = w.hoo ∧ canon k r = fop op k (canon k a) (canon k b) := by
  unfold fop
  rw [floatBits_canon]
  cases h : floatBits op k a b with
  | some r => exact ⟨r, w, run_float_arith w op t k a b r h, rfl, canon_of_not (floatBits_not h)⟩
  | none =>
    refine ⟨(Question.nanBits k a b).cut (w.tape w.drawn (.nanBits k a b)), { w with drawn := w.drawn + 1 }, ?_, rfl, ?_⟩
    · unfold floatBits at h
      rcases ho with rfl | rfl | rfl | rfl <;> simp only at h <;> simp [binOp, Op.floatArith, h, Question.forced]
    · rw [canon_of_nan (cut_nanBits k a b _)]

theorem run_fcmp (op : BinOp) (t : TypeId) (k : FloatKind) (a b : Nat) (w : World) (ho : isCmp op = true) :
    (binOp op t (.float k a) (.float k b)).run P w = .ok (.bool (fcmp op k (canon k a) (canon k b))) w := by
  cases op <;> simp [isCmp] at ho <;> simp [binOp, Op.floatCmp, fcmp, order_canon]

theorem decode_canon_nan {k : FloatKind} {b : Nat} (h : isNan k b = true) : ∃ s t, k.decode b = .nan s t := read_nan h

theorem fconv_sound (s k : FloatKind) (b r : Nat) (w : World) (h : fconv s k (canon s b) = some r) :
    ∃ q w', (Conv.floatToFloat s b k).run P w = .ok (.float k q) w' ∧ w'.hoo = w.hoo ∧ canon k q = r := by
  unfold Conv.floatToFloat
  by_cases e : s = k
  · subst e
    refine ⟨b, w, by simp, rfl, ?_⟩
    cases s <;> simpa [fconv] using h
  · have h' : (match s.decode (canon s b) with
      | .nan _ _ => some (qnan k)
      | .infinity g => some (k.encode (.infinity g))
      | .number g m e => bif (k.decode (k.encode (.number g m e))).isInfinity then none else some (k.encode (.number g m e))) = some r := by
      cases s <;> cases k <;> first | (exact absurd rfl e) | exact h
    cases hn : isNan s b
    · rw [canon_of_not hn] at h'
      cases hd : s.decode b with
      | nan g t =>
        unfold isNan at hn
        unfold FloatKind.decode at hd
        rw [hd] at hn
        simp [Datum.isNaN] at hn
      | infinity g =>
        rw [hd] at h'
        simp only [Option.some.injEq] at h'
        exact ⟨k.encode (.infinity g), w, by simp [e], rfl, by rw [← h']; exact canon_of_not (isNan_write k _ rfl)⟩
      | number g m p =>
        rw [hd] at h'
        simp only at h'
        cases hi : (k.decode (k.encode (.number g m p))).isInfinity
        · rw [hi] at h'
          simp only [cond_false, Option.some.injEq] at h'
          exact ⟨k.encode (.number g m p), w, by simp [e, hi], rfl, by rw [← h']; exact canon_of_not (isNan_write k _ rfl)⟩
        · rw [hi] at h'
          simp at h'
    · rw [canon_of_nan hn] at h'
      obtain ⟨g, t, hd⟩ := decode_canon_nan hn
      obtain ⟨g', t', hd'⟩ := decode_canon_nan (isNan_qnan s)
      rw [hd'] at h'
      simp only [Option.some.injEq] at h'
      refine ⟨(Question.nanConv k b).cut (w.tape w.drawn (.nanConv k b)), { w with drawn := w.drawn + 1 }, ?_, rfl, ?_⟩
      · simp [e, hd, Question.forced]
      · rw [canon_of_nan (cut_nanConv k b _), ← h']

theorem toIntVal_not {f : FloatKind} {b : Nat} {k : IntKind} {n : Int} (h : floatToIntVal f (canon f b) k = some n) : canon f b = b := by
  cases hn : isNan f b
  · exact canon_of_not hn
  · rw [canon_of_nan hn] at h
    obtain ⟨g, t, hd⟩ := decode_canon_nan (isNan_qnan f)
    unfold floatToIntVal at h
    rw [hd] at h
    simp [Datum.toInt, Datum.integral] at h

theorem isNan_encode_number (k : FloatKind) (g : Bool) (m : Nat) (e : Int) : isNan k (k.encode (.number g m e)) = false := isNan_write k _ rfl
end
end Go.Ev
