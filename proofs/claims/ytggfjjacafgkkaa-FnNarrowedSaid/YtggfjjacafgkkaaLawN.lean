/-
  FnNarrowed: the row.
-/
import Derived.Test.YtggfjjacafgkkaaTie
import Derived.Test.YtggfjjacafgkkaaFlo17
namespace Go.Proofs.Ytggfjjacafgkkaa
open Go.ChangeShapes Go.WideShapes Go.ChangeAt Go.RowKit Go.Ev

theorem plain3 (zs0 zs1 : List Int) (h0 : isBytes zs0) (_h1 : isBytes zs1) : runPure E3 4 3 [.sl 1 (bsV zs0), .sl 1 (bsV zs1)] = some (.bool true) := by
  obtain ⟨o, g⟩ := law3 zs0 zs1 h0
  rw [run3 _ _ o, g]
  rfl

set_option maxRecDepth 100000 in
theorem fnNarrowed_lifted (os : Os) (started : os.Started) (H : Type) (enc : TypeId × Value → H) :
    ReturnsInHanded {} Try.checked os 3 .any (Rows.fnNarrowedSpec.pre6 enc Try.prog Try.f3 Rows.fnNarrowedRow.domain false) (Rows.fnNarrowedSpec.post enc Try.prog Try.f3 false true false false) := by
  refine returnsInHanded_of_change (C := Try.checked) Try.own started (by kernel_rfl) Try.func3
    (ChangeSpec.witness6 (enc := enc) (C := Try.checked) false ⟨#[], #[.slice none 0 0, .slice none 0 0], []⟩ 8 (by kernel_rfl) (by kernel_rfl) (by kernel_rfl) (by kernel_rfl)) ?_
  intro W base args ds gs before hval0 hW hcnd _
  have hval : ∀ (j : Nat) t v, Try.f3.params[j]? = some t → args[j]? = some v → Value.okWide Try.prog W .any base t v := hval0
  have hW' := hW
  obtain ⟨p, q, hA0, hV, rfl, hfz, hnd⟩ := hW
  have hA : DataW.TrodAll enc Try.prog W 0 (fun _ => true) true Try.f3.params.toList args.toList ds p := hA0
  rw [Try.params3] at hA hval
  obtain ⟨v0, v1, d0, d1, p0, p1, rfl, rfl, rfl, h0, h1⟩ := trodAll_two hA
  obtain ⟨rfl, rfl⟩ := trodVars_none hV
  obtain ⟨zs0, b0, r0⟩ := open_bytes (okWide_slice (by kernel_rfl : Try.prog.underlying 22 = some (.slice 5)) (hval 0 22 v0 rfl rfl)) h0
  obtain ⟨zs1, b1, r1⟩ := open_bytes (okWide_slice (by kernel_rfl : Try.prog.underlying 22 = some (.slice 5)) (hval 1 22 v1 rfl rfl)) h1
  clear hA0 hval0
  simp only [List.append_nil] at hW'
  refine (law_calls (E := E3) rfl sok3 r0 r1 (plain3 zs0 zs1 b0 b1)).mono fun e W' ⟨he, hb⟩ => ?_
  subst he
  have hlt : ∀ x ∈ p0 ++ p1, x.block < W.heap.size := fun x hx => by simpa using hW'.lt x hx
  refine ⟨_, rfl, post_of_below hW' (fun _ _ _ => trodAll_mk1 (shut_bool (by kernel_rfl : Try.prog.underlying 4 = some .bool) _)) (fun sp hsp => ?_) (fun _ _ => rfl) hb (ok_one (by kernel_rfl) rfl (okWide_bool_mk (by kernel_rfl : Try.prog.underlying 4 = some .bool) _))⟩
  exact trodAll_mk2 (WideElems.Trod_stays Try.laidOut (by kernel_rfl) (of_decide_eq_true (by kernel_rfl)) h0 (fun x hx => hb.same (hlt x (List.mem_append_left _ hx))) (fun x hx => hsp x (List.mem_append_left _ hx)))
    (WideElems.Trod_stays Try.laidOut (by kernel_rfl) (of_decide_eq_true (by kernel_rfl)) h1 (fun x hx => hb.same (hlt x (List.mem_append_right _ hx))) (fun x hx => hsp x (List.mem_append_right _ hx)))

theorem fnNarrowed_holds : Rows.FnNarrowedSaid :=
  OpenClaim.holds_of_wide 3 Try.f3 rfl rfl rfl rfl rfl rfl rfl ⟨rfl, rfl, rfl, rfl, rfl⟩ rfl rfl rfl rfl rfl (by kernel_rfl) Try.func3 (by kernel_rfl)
    (of_decide_eq_true (by kernel_rfl)) (by unfold Func.isWrapper; first | (rw [if_pos (by decide +kernel)]; kernel_rfl) | (rw [if_neg (by decide +kernel)]; exact ⟨rfl, rfl⟩))
    (fun os started H enc _ => fnNarrowed_lifted os started H enc)
end Go.Proofs.Ytggfjjacafgkkaa
