/-
  From a run of the evaluator to a row: two slices of bytes in, true back, memory as it was.
-/
import Derived.Test.YtggfjjacafgkkaaFnPre
import Derived.Test.YtggfjjacafgkkaaRows
import Derived.ProofKit
import Derived.Carry
namespace Go.Proofs.Ytggfjjacafgkkaa
open Go.ChangeShapes Go.WideShapes Go.ChangeAt Go.RowKit Go.Ev

theorem Try.own : ownKnob Try.prog.godebug = none := by kernel_rfl
theorem Try.laidOut : laidOutB Try.prog = true := by kernel_rfl

theorem post_of_below {H : Type} {enc : TypeId × Value → H} {P : Program} {f : Func} {s : ChangeSpec} {apart fresh handsOn again : Bool} {W W' : World} {args : Array Value} {v : Value} {ds gs : List (DataW H)} {before : List MemPlace}
    (hW : DataW.Whole enc P f.params.toList s.vars apart W args.toList ds gs before)
    (hres : ∀ (b : Nat) (sp : Nat → Bool) (hd : Bool), DataW.TrodAll enc P W' b sp hd f.resultTypes.toList (v.resultList f.resultTypes.size) (s.fn H (ds ++ gs)).results [])
    (hargs : ∀ sp : Nat → Bool, (∀ p ∈ before, sp p.block = true) → DataW.TrodAll enc P W' 0 sp true f.params.toList args.toList (s.fn H (ds ++ gs)).args before)
    (hvars : ∀ sp : Nat → Bool, (∀ p ∈ before, sp p.block = true) → DataW.TrodVars enc P W' sp s.vars (s.fn H (ds ++ gs)).vars [])
    (hb : Below W.heap.size W W')
    (hok : ∀ (j : Nat) (t : TypeId) (r : Value), f.resultTypes[j]? = some t → (v.resultList f.resultTypes.size)[j]? = some r → Value.okWide P W' .any 0 t r) :
    s.post enc P f apart fresh handsOn again W args v W' := by
  have hlt : ∀ p ∈ before, p.block < W.heap.size := fun p hp => by simpa using hW.lt p hp
  have hold : ∀ p ∈ before, (fun b => decide (b < W.heap.size)) p.block = true := fun p hp => by simpa using hW.lt p hp
  refine ⟨ds, gs, before, [], before, [], hW, hres _ _ _, hargs _ hold, hvars _ hold, World.keptBut_mono (fun p hp => False.elim hp) (hb.frame fun _ => False), fun _ => ?_⟩
  obtain ⟨_, _, _, _, _, hz, hn⟩ := hW
  refine ⟨hok, _, _, ([] ++ before) ++ [], ⟨[] ++ before, [], trodAll_append (hargs _ (fun _ _ => rfl)) (hres _ _ _), hvars _ (fun _ _ => rfl), rfl, ?_, ?_⟩, ?_⟩
  · intro b off hp
    have hp' : MemPlace.cell b off ∈ before := by simpa using hp
    rw [hb.frozen (hlt _ hp')]
    exact hz b off hp'
  · intro ha
    simpa using hn ha
  · intro p hp _
    simpa using hp

def heapIm (W : World) : Im := fun b =>
  match W.heap[b]? with
  | some (.cells c _ _) => some c
  | _ => none

theorem heapIm_ok (W : World) : ImOK (heapIm W) W := by
  intro b c h
  unfold heapIm at h
  split at h
  · rename_i c' e fz hh
    cases h
    exact ⟨e, fz, hh⟩
  · cases h

/-- Bytes as a slice's elements. -/
def bsV (zs : List Int) : List (List V) := zs.map fun z => [.int .u8 z]

theorem bytes_rv {W : World} {a : Addr} {len cap : Nat} {zs : List Int} (hl : len ≤ cap) (hz : zs.length = cap) (hc : ∀ i, i < zs.length → W.cell? (a.add i) = some (.int .u8 (zs.getD i 0))) :
    Rv (heapIm W) noMu (.sl 1 (bsV (zs.take len))) (.slice (some a) len cap) := by
  cases len with
  | zero => exact .sl0
  | succ n =>
    have h0 := hc 0 (by omega)
    obtain ⟨blk, off, spot⟩ := a
    have hcells : ∃ c e fz, W.heap[blk]? = some (.cells c e fz) ∧ spot = none := by
      simp only [Addr.add, if_true, World.cell?] at h0
      split at h0
      · rename_i c e fz hh
        split at h0
        · cases h0
        · rename_i hs
          exact ⟨c, e, fz, hh, by cases spot <;> simp_all⟩
      · cases h0
    obtain ⟨c, e, fz, hh, rfl⟩ := hcells
    have hat : ∀ i, i < zs.length → c[off + i]? = some (.int .u8 (zs.getD i 0)) := by
      intro i hi
      have := hc i hi
      rw [addr_add] at this
      simpa [World.cell?, hh] using this
    have hlen : (bsV (zs.take (n + 1))).length = n + 1 := by simp [bsV]; omega
    have hel : ∀ (i : Nat) e', (bsV (zs.take (n + 1)))[i]? = some e' → i < n + 1 ∧ e' = [.int .u8 (zs.getD i 0)] := by
      intro i e' h
      have hi : i < n + 1 := by rw [← hlen]; exact lt_of_some h
      refine ⟨hi, ?_⟩
      simp only [bsV, List.getElem?_map, List.getElem?_take, hi, if_true] at h
      have hi' : i < zs.length := by omega
      simp [hi'] at h
      simp [← h, hi']
    have key : Rv (heapIm W) noMu (.sl 1 (bsV (zs.take (n + 1)))) (.slice (some ⟨blk, off, none⟩) (bsV (zs.take (n + 1))).length cap) := by
      refine .sl (c := c) (gs := fun i _ => .int .u8 (zs.getD i 0)) (by rw [hlen]; exact hl) (by simp [heapIm, hh]) (fun e' he => ?_) (fun i j e' v he hv => ?_) (fun i j e' v he hv => ?_) (fun i j e' v he hv => ?_)
      · obtain ⟨i, hi⟩ := List.getElem?_of_mem he
        rw [(hel i e' hi).2]; rfl
      · obtain ⟨h1, rfl⟩ := hel i e' he
        cases j with
        | zero =>
          have := hat i (by omega)
          simpa using this
        | succ j => simp at hv
      · obtain ⟨h1, rfl⟩ := hel i e' he
        cases j with
        | zero => simp at hv; subst hv; exact .int
        | succ j => simp at hv
      · obtain ⟨h1, rfl⟩ := hel i e' he
        cases j with
        | zero => simp at hv; subst hv; exact ⟨rfl, rfl⟩
        | succ j => simp at hv
    rw [hlen] at key
    exact key

theorem bytes_take {zs : List Int} (h : ∀ n ∈ zs, (Lit.int .u8 n).wf = true) (len : Nat) : ∀ n ∈ zs.take len, 0 ≤ n ∧ n ≤ 255 := by
  intro n hn
  have := h n (List.mem_of_mem_take hn)
  simp [Lit.wf, IntKind.min, IntKind.max, IntKind.signed, IntKind.bits] at this
  omega

def isBytes (zs : List Int) : Prop := ∀ n ∈ zs, 0 ≤ n ∧ n ≤ 255

/-- A slice of bytes that came in, for the evaluator. -/
theorem open_bytes {H : Type} {enc : TypeId × Value → H} {W : World} {v : Value} {d : DataW H} {ps : List MemPlace} (hv : ∃ a len cap, v = .slice a len cap) (h : DataW.Trod enc Try.prog W 0 (fun _ => true) true 22 v d ps) :
    ∃ zs, isBytes zs ∧ Rv (heapIm W) noMu (.sl 1 (bsV zs)) v := by
  obtain ⟨a0, len, cap, rfl⟩ := hv
  obtain ⟨fuel, hf⟩ := h
  rcases open_ints (k := .u8) (by kernel_rfl : Try.prog.underlying 22 = some (.slice 5)) (by kernel_rfl) (by kernel_rfl) hf with ⟨hcs, hx⟩ | ⟨a, len', cap', zs, hcs, _, hl, hm, hz, hx, hcell, hwz⟩
  · refine ⟨[], fun n hn => by simp at hn, ?_⟩
    simp only [Value.cells] at hcs
    have : (Value.slice a0 len cap) = .slice none 0 0 := by simpa [Value.cells] using hcs
    rw [this]
    exact .sl0
  · have : (Value.slice a0 len cap) = .slice (some a) len' cap' := by simpa [Value.cells] using hcs
    rw [this]
    exact ⟨zs.take len', bytes_take hwz len', bytes_rv hl (by simpa using hz) hcell⟩

theorem rvs_two {J : Im} {μ : Mu} {v u : V} {g g' : Value} (h : Rv J μ v g) (h' : Rv J μ u g') : Rvs J μ [v, u] #[g, g'] := by
  refine ⟨rfl, fun j x y hx hy => ?_⟩
  match j with
  | 0 => simp at hx hy; subst hx; subst hy; exact h
  | 1 => simp at hx hy; subst hx; subst hy; exact h'
  | j + 2 => simp at hx

/-- What is true of each two lists of bytes, by the evaluator, is true of the call. -/
theorem law_calls {E : Env} (hE : E.P = Try.prog) (hS : SOK E) {d f : Nat} {W : World} {v0 v1 : Value} {zs0 zs1 : List Int} (h0 : Rv (heapIm W) noMu (.sl 1 (bsV zs0)) v0) (h1 : Rv (heapIm W) noMu (.sl 1 (bsV zs1)) v1)
    (hrun : runPure E d f [.sl 1 (bsV zs0), .sl 1 (bsV zs1)] = some (.bool true)) :
    Calls Try.prog f #[v0, v1] W fun e W' => e = .returned (.bool true) ∧ Below W.heap.size W W' := by
  rw [← hE]
  refine (runPure_calls (by rw [hE]; exact orders) (by rw [hE]; exact names) hS hrun (heapIm_ok W) (rvs_two h0 h1)).mono ?_
  rintro e W' ⟨gv, J', rfl, hr, _, _, _, hsz, hbl, hos, hout⟩
  refine ⟨?_, hos, congrArg (·.2) hout, congrArg (·.1) hout, hsz, hbl⟩
  cases hr
  rfl
end Go.Proofs.Ytggfjjacafgkkaa
