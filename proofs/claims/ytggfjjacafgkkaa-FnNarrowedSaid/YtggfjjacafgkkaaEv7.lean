/-
  Slices, arithmetic, conversions, the builtin functions.
-/
import Derived.Test.YtggfjjacafgkkaaEv6
namespace Go.Ev
section
variable {P : Program} {get : Get} {J : Im} {μ : Mu} {w : World}

theorem bound_sound {x : V} {g : Value} {n k : Nat} (h : bound x n = some k) (hr : Rv J μ x g) (m : Nat) (hm : n ≤ m) (code : BoundsCode) : (Instr.sliceBound g m code).run P w = .ok k w ∧ k ≤ n := by
  unfold bound at h
  split at h
  · rename_i kk i
    cases hr
    obtain ⟨rfl, hlt⟩ := natBelow_some h
    refine ⟨?_, by omega⟩
    have := run_sliceBound (P := P) w kk (k : Int) m code (by omega) (by omega)
    simpa using this
  · cases h

def RvO (J : Im) (μ : Mu) : Option V → Option Value → Prop
  | none, none => True
  | some v, some g => Rv J μ v g
  | _, _ => False

theorem bounds_sound {lo hi : Option V} {glo ghi : Option Value} {n cap h l : Nat} {b : Bool} (hh : boundHi hi n = some h) (hl : boundLo lo h = some l) (rl : RvO J μ lo glo) (rh : RvO J μ hi ghi) (hc : n ≤ cap) :
    (Instr.sliceBounds b n cap glo ghi none).run P w = .ok (l, h, cap) w ∧ l ≤ h ∧ h ≤ n := by
  have h1 : (match ghi with
      | some v => Instr.sliceBound v cap (if b then .sliceAcap else .sliceAlen)
      | none => pure n : Sem Nat).run P w = .ok h w ∧ h ≤ n := by
    unfold boundHi at hh
    cases hi <;> cases ghi <;> simp only [RvO] at rh
    · simp only [Option.some.injEq] at hh; subst hh; exact ⟨rfl, Nat.le_refl _⟩
    · exact bound_sound hh rh cap hc _
  have h2 : (match glo with
      | some v => Instr.sliceBound v h .sliceB
      | none => pure 0 : Sem Nat).run P w = .ok l w ∧ l ≤ h := by
    unfold boundLo at hl
    cases lo <;> cases glo <;> simp only [RvO] at rl
    · simp only [Option.some.injEq] at hl; subst hl; exact ⟨rfl, Nat.zero_le _⟩
    · exact bound_sound hl rl h (Nat.le_refl _) _
  refine ⟨?_, h2.2, h1.2⟩
  have h1' := h1.1
  have h2' := h2.1
  cases ghi <;> cases glo <;> simp_all [Instr.sliceBounds]

theorem sliceE_sound {t : TypeId} {a v : V} {lo hi mx : Option V} {ga : Value} {glo ghi gmx : Option Value} (h : sliceE P t a lo hi mx = some v) (ha : Rv J μ a ga) (rl : RvO J μ lo glo) (rh : RvO J μ hi ghi) (rm : RvO J μ mx gmx) :
    ∃ g, (Instr.sliceAt t ga glo ghi gmx).run P w = .ok g w ∧ Rv J μ v g := by
  unfold sliceE at h
  split at h
  · rename_i e hu
    split at h
    · rename_i n hn
      split at h
      · -- no third bound
        have hmx : gmx = none := by cases gmx <;> simp_all [RvO]
        subst hmx
        split at h
        · rename_i sz es
          split at h
          · rename_i hh hhi
            split at h
            · rename_i l hlo
              cases hb : Nat.beq sz n
              · rw [hb] at h; cases h
              · rw [hb] at h
                simp only [cond_true, Option.some.injEq] at h
                subst h
                have hz : sz = n := Nat.eq_of_beq_eq_true hb
                subst hz
                cases ha with
                | sl0 =>
                  rename_i a0 c
                  obtain ⟨h1, h2, h3⟩ := bounds_sound (P := P) (w := w) (cap := c) (b := true) hhi hlo rl rh (Nat.zero_le _)
                  simp only [List.length_nil] at h1 h3
                  refine ⟨_, by simp [Instr.sliceAt, run_underlying hu, Instr.slice, h1, run_sizeOf hn]; rfl, ?_⟩
                  have e1 : hh = 0 := by omega
                  have e2 : l = 0 := by omega
                  subst e1; subst e2
                  exact .sl0
                | sl hcap hj hsz k1 k2 k3 =>
                  rename_i cap cc blk off gs
                  obtain ⟨h1, h2, h3⟩ := bounds_sound (P := P) (w := w) (cap := cap) (b := true) hhi hlo rl rh hcap
                  refine ⟨_, by simp [Instr.sliceAt, run_underlying hu, Instr.slice, h1, run_sizeOf hn]; rfl, ?_⟩
                  by_cases hlt : l < hh
                  · rw [if_neg (by omega), addr_add]
                    have hlen : ((es.take hh).drop l).length = hh - l := by simp; omega
                    rw [← hlen]
                    have hget : ∀ (i : Nat) e', ((es.take hh).drop l)[i]? = some e' → es[l + i]? = some e' := by
                      intro i e' hi'
                      rw [List.getElem?_drop] at hi'
                      have : l + i < hh := by have := lt_of_some hi'; simp at this; omega
                      rwa [List.getElem?_take_of_lt this] at hi'
                    refine .sl (sz := sz) (c := cc) (gs := fun i j => gs (l + i) j) (by omega) hj (fun e' he' => ?_) (fun i j e' v' he' hv' => ?_) (fun i j e' v' he' hv' => ?_) (fun i j e' v' he' hv' => k3 (l + i) j e' v' (hget i e' he') hv')
                    · exact hsz e' (List.mem_of_mem_take (List.mem_of_mem_drop he'))
                    · have := k1 (l + i) j e' v' (hget i e' he') hv'
                      rw [Nat.add_mul] at this
                      rw [← this]
                      congr 1
                      omega
                    · exact k2 (l + i) j e' v' (hget i e' he') hv'
                  · have e1 : hh - l = 0 := by omega
                    have e2 : (es.take hh).drop l = [] := by
                      apply List.drop_eq_nil_of_le
                      simp; omega
                    rw [e1, e2]
                    exact .sl0
            · cases h
          · cases h
        · rename_i id off len sz
          split at h
          · rename_i hh hhi
            split at h
            · rename_i l hlo
              cases hb : Nat.beq sz n
              · rw [hb] at h; cases h
              · rw [hb] at h
                simp only [cond_true] at h
                have hz : sz = n := Nat.eq_of_beq_eq_true hb
                subst hz
                cases ha with
                | ms hl hc hle =>
                  rename_i m cap
                  obtain ⟨h1, h2, h3⟩ := bounds_sound (P := P) (w := w) (cap := cap) (b := true) hhi hlo rl rh hc
                  refine ⟨_, by simp [Instr.sliceAt, run_underlying hu, Instr.slice, h1, run_sizeOf hn]; rfl, ?_⟩
                  cases hlt : Nat.blt l hh
                  · rw [hlt] at h
                    simp only [cond_false, Option.some.injEq] at h
                    subst h
                    have hlt' : ¬ l < hh := fun hc => by
                      have hc' : Nat.blt l hh = true := by simpa [Nat.blt_eq] using hc
                      rw [hlt] at hc'
                      cases hc'
                    have e1 : hh - l = 0 := by omega
                    rw [e1]
                    exact .sl0
                  · rw [hlt] at h
                    simp only [cond_true, Option.some.injEq] at h
                    subst h
                    have hlt' : l < hh := by simpa [Nat.blt_eq] using hlt
                    rw [if_neg (by omega), addr_add, Nat.add_assoc]
                    refine .ms hl (by omega) ?_
                    have e : off + l * sz + (cap - l) * sz = off + cap * sz := by
                      rw [Nat.add_assoc, ← Nat.add_mul]
                      congr 2
                      omega
                    omega
            · cases h
          · cases h
        · cases h
      · -- [:0:0]
        rename_i k0
        split at h
        · rename_i k1
          have hgm : gmx = some (.int k0 0) := by
            cases gmx with
            | none => simp [RvO] at rm
            | some g => simp only [RvO] at rm; cases rm; rfl
          have hgh : ghi = some (.int k1 0) := by
            cases ghi with
            | none => simp [RvO] at rh
            | some g => simp only [RvO] at rh; cases rh; rfl
          have hgl : glo = none := by cases glo <;> simp_all [RvO]
          subst hgm; subst hgh; subst hgl
          have hb0 : ∀ (y : Nat) (code : BoundsCode), (Instr.sliceBound (.int k0 0) y code).run P w = .ok 0 w := fun y code => by
            have := run_sliceBound (P := P) w k0 0 y code (by omega) (by omega); simpa using this
          have hb1 : ∀ (y : Nat) (code : BoundsCode), (Instr.sliceBound (.int k1 0) y code).run P w = .ok 0 w := fun y code => by
            have := run_sliceBound (P := P) w k1 0 y code (by omega) (by omega); simpa using this
          have key : ∀ (a : Option Addr) (len cap : Nat), (Instr.sliceAt t (.slice a len cap) none (some (.int k1 0)) (some (.int k0 0))).run P w = .ok (.slice a 0 0) w := by
            intro a len cap
            simp [Instr.sliceAt, run_underlying hu, Instr.slice, Instr.sliceBounds, hb0, hb1, run_sizeOf hn]
          split at h
          · cases h
            cases ha with
            | sl0 => exact ⟨_, key _ _ _, .nil⟩
            | sl _ _ _ _ _ _ => exact ⟨_, key _ _ _, .nil⟩
          · cases h
            cases ha with
            | ms _ _ _ => exact ⟨_, key _ _ _, .nil⟩
          · cases h
            cases ha with
            | nil => exact ⟨_, key _ _ _, .nil⟩
          · cases h
        · cases h
      · cases h
    · cases h
  · rename_i hu
    split at h
    · have hmx : gmx = none := by cases gmx <;> simp_all [RvO]
      subst hmx
      split at h
      · rename_i s
        split at h
        · rename_i hh hhi
          split at h
          · rename_i l hlo
            cases h
            cases ha
            obtain ⟨h1, h2, h3⟩ := bounds_sound (P := P) (w := w) (cap := s.size) (b := false) hhi hlo rl rh (Nat.le_refl _)
            exact ⟨.string (s.extract l hh), by simp [Instr.sliceAt, run_underlying hu, Instr.slice, h1], .str⟩
          · cases h
        · cases h
      · cases h
    · cases h
  · cases h

theorem sameI_eq {a b : IntKind} (h : sameI a b = true) : a = b := of_decide_eq_true h
theorem sameF_eq {a b : FloatKind} (h : sameF a b = true) : a = b := of_decide_eq_true h

theorem binE_sound {op : BinOp} {t : TypeId} {x y v : V} {gx gy : Value} (h : binE op x y = some v) (hx : Rv J μ x gx) (hy : Rv J μ y gy) :
    ∃ g w', (binOp op t gx gy).run P w = .ok g w' ∧ w'.hoo = w.hoo ∧ Rv J μ v g := by
  unfold binE at h
  split at h
  · rename_i k a k' b
    cases hx; cases hy
    split at h
    · split at h
      · rename_i n
        cases h
        refine ⟨.int k (k.wrap (a * 2 ^ (min n k.bits))), w, ?_, rfl, .int⟩
        have : ¬ ((n : Int) < 0) := by omega
        simp [binOp, Op.shift, this]
      · cases h
    · split at h
      · rename_i n
        cases h
        refine ⟨.int k (a.fdiv (2 ^ (min n k.bits))), w, ?_, rfl, .int⟩
        have : ¬ ((n : Int) < 0) := by omega
        simp [binOp, Op.shift, this]
      · cases h
    · rename_i hn1 hn2
      cases hs : sameI k k'
      · rw [hs] at h; cases h
      · rw [hs] at h
        simp only [cond_true] at h
        have := sameI_eq hs
        subst this
        cases op <;> simp only [ibin] at h
        case add => cases h; exact ⟨.int k (k.wrap (a + b)), w, by simp [binOp, Op.intArith], rfl, .int⟩
        case sub => cases h; exact ⟨.int k (k.wrap (a - b)), w, by simp [binOp, Op.intArith], rfl, .int⟩
        case mul => cases h; exact ⟨.int k (k.wrap (a * b)), w, by simp [binOp, Op.intArith], rfl, .int⟩
        case quo =>
          cases hb : (b == 0)
          · rw [hb] at h
            cases h
            have h0 : b ≠ 0 := by simpa using hb
            exact ⟨.int k (k.wrap (a.tdiv b)), w, by simp [binOp, Op.intDiv, h0], rfl, .int⟩
          · rw [hb] at h; cases h
        case rem =>
          cases hb : (b == 0)
          · rw [hb] at h
            cases h
            have h0 : b ≠ 0 := by simpa using hb
            exact ⟨.int k (a.tmod b), w, by simp [binOp, Op.intDiv, h0], rfl, .int⟩
          · rw [hb] at h; cases h
        case and => cases h; exact ⟨.int k (ibits .and k a b), w, by simp [binOp, Op.intBits, ibits], rfl, .int⟩
        case or => cases h; exact ⟨.int k (ibits .or k a b), w, by simp [binOp, Op.intBits, ibits], rfl, .int⟩
        case xor => cases h; exact ⟨.int k (ibits .xor k a b), w, by simp [binOp, Op.intBits, ibits], rfl, .int⟩
        case andNot => cases h; exact ⟨.int k (ibits .andNot k a b), w, by simp [binOp, Op.intBits, ibits], rfl, .int⟩
        case shl => cases h
        case shr => cases h
        case eql => cases h; exact ⟨.bool (icmp .eql a b), w, by simp [binOp, Op.intCmp, icmp], rfl, .bool⟩
        case neq => cases h; exact ⟨.bool (icmp .neq a b), w, by simp [binOp, Op.intCmp, icmp], rfl, .bool⟩
        case lss => cases h; exact ⟨.bool (icmp .lss a b), w, by simp [binOp, Op.intCmp, icmp], rfl, .bool⟩
        case leq => cases h; exact ⟨.bool (icmp .leq a b), w, by simp [binOp, Op.intCmp, icmp], rfl, .bool⟩
        case gtr => cases h; exact ⟨.bool (icmp .gtr a b), w, by simp [binOp, Op.intCmp, icmp], rfl, .bool⟩
        case geq => cases h; exact ⟨.bool (icmp .geq a b), w, by simp [binOp, Op.intCmp, icmp], rfl, .bool⟩
  · rename_i k a k' b
    cases hs : sameF k k'
    · rw [hs] at h; cases h
    · rw [hs] at h
      simp only [cond_true] at h
      have := sameF_eq hs
      subst this
      cases hx with
      | flt ex =>
        rename_i bx
        cases hy with
        | flt ey =>
          rename_i by_
          subst ex; subst ey
          have arith : ∀ op, (op = .add ∨ op = .sub ∨ op = .mul ∨ op = .quo) → some (V.flt k (fop op k (canon k bx) (canon k by_))) = some v →
              ∃ g w', (binOp op t (.float k bx) (.float k by_)).run P w = .ok g w' ∧ w'.hoo = w.hoo ∧ Rv J μ v g := by
            intro op ho hv
            obtain ⟨r, w', h1, h2, h3⟩ := run_fop (P := P) op t k bx by_ w ho
            cases hv
            exact ⟨_, w', h1, h2, .flt h3.symm⟩
          have cmp : ∀ op, isCmp op = true → some (V.bool (fcmp op k (canon k bx) (canon k by_))) = some v →
              ∃ g w', (binOp op t (.float k bx) (.float k by_)).run P w = .ok g w' ∧ w'.hoo = w.hoo ∧ Rv J μ v g := by
            intro op ho hv
            cases hv
            exact ⟨_, w, run_fcmp op t k bx by_ w ho, rfl, .bool⟩
          cases op <;> simp only [fbin, isCmp, cond_true, cond_false] at h <;> first
            | (cases h; done)
            | exact arith _ (by simp) h
            | exact cmp _ rfl h
  · rename_i a b
    cases hx; cases hy
    cases op <;> simp only [sbin] at h
    case eql => cases h; exact ⟨.bool (a.toList == b.toList), w, by simp [binOp, Op.stringOp], rfl, .bool⟩
    case neq => cases h; exact ⟨.bool (!(a.toList == b.toList)), w, by simp [binOp, Op.stringOp], rfl, .bool⟩
    case add =>
      cases hb : Nat.ble (a.size + b.size) 9223372036854775807
      · rw [hb] at h; cases h
      · rw [hb] at h
        simp only [cond_true, Option.some.injEq] at h
        subst h
        have hle : a.size + b.size ≤ 9223372036854775807 := Nat.le_of_ble_eq_true hb
        refine ⟨.string (a ++ b), w, ?_, rfl, .str⟩
        have hm : IntKind.i64.max = 9223372036854775807 := by decide
        have : ¬ (9223372036854775807 < (a.size : Int) + (b.size : Int)) := by omega
        simp [binOp, Op.stringOp, hm, this]
    all_goals cases h
  · cases h

theorem run_equal_bool {t : TypeId} {a b : Bool} (h : P.underlying t = some .bool) (w : World) : (Op.equal t (.bool a) (.bool b)).run P w = .ok (a == b) w := by
  unfold Op.equal
  have : Op.maxDepth = (Op.maxDepth - 1) + 1 := rfl
  rw [this]
  exact run_equalIn_bool w _ t a b h

theorem binB_sound {op : BinOp} {t : TypeId} {x y v : V} {gx gy : Value} (h : binB P op t x y = some v) (hx : Rv J μ x gx) (hy : Rv J μ y gy) :
    ∃ g w', (binOp op t gx gy).run P w = .ok g w' ∧ w'.hoo = w.hoo ∧ Rv J μ v g := by
  unfold binB at h
  split at h
  · rename_i a b
    cases hx; cases hy
    split at h
    · rename_i hu
      cases h
      exact ⟨.bool (a == b), w, by simp [binOp, run_equal_bool hu], rfl, .bool⟩
    · cases h
  · rename_i a b
    cases hx; cases hy
    split at h
    · rename_i hu
      cases h
      exact ⟨.bool (!(a == b)), w, by simp [binOp, run_equal_bool hu], rfl, .bool⟩
    · cases h
  · exact binE_sound h hx hy

theorem unE_sound {op : UnOp} {x v : V} {gx : Value} (h : unE op x = some v) (hx : Rv J μ x gx) : ∃ g, (Op.unary op gx).run P w = .ok g w ∧ Rv J μ v g := by
  unfold unE at h
  split at h
  · rename_i k n
    cases h; cases hx
    exact ⟨.int k (k.wrap (0 - n)), by simp [Op.unary, Op.intArith], .int⟩
  · rename_i k b
    cases h
    cases hx with
    | flt e =>
      rename_i b'
      subst e
      exact ⟨.float k (Op.negFloat k b'), by simp [Op.unary], .flt (fneg_canon _ _)⟩
  · rename_i b
    cases h; cases hx
    exact ⟨.bool (!b), by simp [Op.unary], .bool⟩
  · cases h
end
end Go.Ev
