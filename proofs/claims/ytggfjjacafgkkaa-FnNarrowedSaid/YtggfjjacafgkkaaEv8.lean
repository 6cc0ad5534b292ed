/-
  Conversions, lengths, appends.
-/
import Derived.Test.YtggfjjacafgkkaaEv7
namespace Go.Ev
section
variable {P : Program} {get : Get} {J : Im} {μ : Mu} {w : World}

theorem bytesOf_sound : ∀ (cs : Cells) (l : List UInt8), bytesOf cs = some l → ∃ ns : List Int, cs = ns.map (V.int .u8) ∧ l = ns.map fun n => UInt8.ofNat n.toNat
  | [], l, h => by simp [bytesOf] at h; subst h; exact ⟨[], rfl, rfl⟩
  | c :: r, l, h => by
    cases c <;> try (simp [bytesOf] at h; done)
    rename_i k n
    cases k <;> try (simp [bytesOf] at h; done)
    simp only [bytesOf] at h
    cases hr : bytesOf r with
    | none => rw [hr] at h; cases h
    | some l' =>
      rw [hr] at h
      simp only [Option.some.injEq] at h
      subst h
      obtain ⟨ns, e1, e2⟩ := bytesOf_sound r l' hr
      exact ⟨n :: ns, by rw [e1]; rfl, by rw [e2]; rfl⟩

theorem push_fold (ns : List Int) (s : ByteArray) : ns.foldl (fun r n => r.push (UInt8.ofNat n.toNat)) s = ⟨(s.data.toList ++ ns.map fun n => UInt8.ofNat n.toNat).toArray⟩ := by
  induction ns generalizing s with
  | nil => cases s; simp
  | cons n ns ih =>
    simp only [List.foldl_cons, ih, List.map_cons]
    congr 1
    simp [ByteArray.push]

theorem convE_sound {src dst : TypeId} {x v : V} {gx : Value} (hI : Inv get J μ w) (h : convE P get src dst x = some v) (hx : Rv J μ x gx) :
    ∃ g w', (convert src dst gx).run P w = .ok g w' ∧ w'.hoo = w.hoo ∧ Rv J μ v g := by
  unfold convE at h
  split at h
  · rename_i s k hs hd
    split at h
    · rename_i k' n
      cases h; cases hx
      refine ⟨.int k (k.wrap n), w, ?_, rfl, .int⟩
      cases s <;> simp [convert, run_underlying hs, run_underlying hd, Conv.intToInt]
    · rename_i f b
      split at h
      · rename_i n hn
        cases h
        cases hx with
        | flt e =>
          rename_i b'
          subst e
          rw [toIntVal_not hn] at hn
          exact ⟨.int k n, w, run_convert_float_int w src dst f k b' n (by rw [hs]; rfl) hd hn, rfl, .int⟩
      · cases h
    · cases h
  · rename_i s k hs hd
    split at h
    · rename_i k' n
      cases h; cases hx
      refine ⟨.float k (k.nearest n), w, ?_, rfl, .flt ?_⟩
      · cases s <;> simp [convert, run_underlying hs, run_underlying hd, Conv.intToFloat]
      · rw [canon_of_not]
        exact isNan_encode_number k _ _ _
    · rename_i f b
      split at h
      · rename_i r hr
        cases h
        cases hx with
        | flt e =>
          rename_i b'
          subst e
          obtain ⟨q, w', h1, h2, h3⟩ := fconv_sound (P := P) f k b' r w hr
          refine ⟨.float k q, w', ?_, h2, .flt h3.symm⟩
          cases s <;> simp [convert, run_underlying hs, run_underlying hd, h1]
      · cases h
    · cases h
  · rename_i e hs hd
    split at h
    · rename_i he
      split at h
      · rename_i id off len sz
        split at h
        · rename_i cs hg
          cases hb : (Nat.beq sz 1 && Nat.ble (off + len) cs.length)
          · rw [hb] at h; cases h
          · rw [hb] at h
            simp only [cond_true] at h
            rw [Bool.and_eq_true] at hb
            have hz : sz = 1 := Nat.eq_of_beq_eq_true hb.1
            have hle : off + len ≤ cs.length := Nat.le_of_ble_eq_true hb.2
            subst hz
            split at h
            · rename_i l hl
              cases h
              obtain ⟨ns, e1, e2⟩ := bytesOf_sound _ _ hl
              cases hx with
              | ms hloc hc hle' =>
                rename_i lc cap
                obtain ⟨gc, elem, _, hh, _, _, _, hcs⟩ := hI.at hg hloc
                have hlen : ns.length = len := by
                  have := congrArg List.length e1
                  simp at this
                  omega
                have hload : (loadCells ⟨lc.blk, lc.base + off, none⟩ len).run P w = .ok (ns.map (Value.int .u8)).toArray w := by
                  have := run_loadCells_list (P := P) w ⟨lc.blk, lc.base + off, none⟩ (ns.map (Value.int .u8)) (fun j v hv => by
                    rw [addr_add]
                    have hj := lt_of_some hv
                    simp at hj
                    have hcell : cs[off + j]? = some (V.int .u8 (ns[j]'hj)) := by
                      have := congrArg (fun l => l[j]?) e1
                      simp only [List.getElem?_take_of_lt (show j < len by omega), List.getElem?_drop, List.getElem?_map, List.getElem?_eq_getElem hj, Option.map_some] at this
                      exact this
                    obtain ⟨g, h1, h2⟩ := hcs _ _ hcell
                    cases h2
                    have ev : v = Value.int .u8 (ns[j]'hj) := by
                      simp [List.getElem?_map, List.getElem?_eq_getElem hj] at hv
                      exact hv.symm
                    rw [ev]
                    exact cell?_at hh (by rw [Nat.add_assoc]; exact h1))
                  rwa [List.length_map, hlen] at this
                refine ⟨.string ⟨l.toArray⟩, w, ?_, rfl, .str⟩
                rw [run_convert_bytes_string w src dst e _ _ _ hs he hd, run_bytesToString w _ len cap ns hload, push_fold]
                rw [e2]
                rfl
            · cases h
        · cases h
      · cases h
    · cases h
  · rename_i hs hd
    split at h
    · cases h; cases hx
      exact ⟨.string _, w, by simp [convert, run_underlying hs, run_underlying hd], rfl, .str⟩
    · cases h
  · cases h

theorem lenE_sound {t ty : TypeId} {x v : V} {gx : Value} {ts : Array TypeId} {gs : Array Value} (h : lenE P t x = some v) (hx : Rv J μ x gx) (ht : ts[0]? = some t) (hg : gs[0]? = some gx) :
    ∃ g, (Builtin.len_ ts ty gs).run P w = .ok g w ∧ Rv J μ v g := by
  unfold lenE at h
  split at h
  · rename_i e hu
    split at h
    · rename_i sz es
      cases h
      cases hx with
      | sl0 => exact ⟨goInt 0, by simp [Builtin.len_, ht, hg, run_underlying hu], .int⟩
      | sl _ _ _ _ _ _ => exact ⟨goInt es.length, by simp [Builtin.len_, ht, hg, run_underlying hu], .int⟩
    · cases h
      cases hx with
      | ms _ _ _ => rename_i len _ _ _; exact ⟨_, by simp [Builtin.len_, ht, hg, run_underlying hu]; rfl, .int⟩
    · cases h
      cases hx
      exact ⟨goInt 0, by simp [Builtin.len_, ht, hg, run_underlying hu], .int⟩
    · cases h
  · rename_i hu
    split at h
    · cases h
      cases hx
      exact ⟨_, by simp [Builtin.len_, ht, hg, run_underlying hu]; rfl, .int⟩
    · cases h
  · rename_i n e hu
    split at h
    · cases h
    · cases h
      exact ⟨goInt n, by cases gx <;> simp [Builtin.len_, ht, hg, run_underlying hu], .int⟩
  · cases h

theorem flatten_get {es : List (List V)} {sz : Nat} (hz : ∀ e ∈ es, e.length = sz) (hp : 0 < sz) (m : Nat) : es.flatten[m]? = (es[m / sz]?).bind (·[m % sz]?) := by
  induction es generalizing m with
  | nil => simp
  | cons e es ih =>
    have he : e.length = sz := hz e List.mem_cons_self
    simp only [List.flatten_cons]
    by_cases hm : m < sz
    · rw [List.getElem?_append_left (by omega), Nat.div_eq_of_lt hm, Nat.mod_eq_of_lt hm]
      simp
    · rw [List.getElem?_append_right (by omega), ih (fun e' h' => hz e' (List.mem_cons_of_mem _ h')) (m - e.length)]
      obtain ⟨k, rfl⟩ : ∃ k, m = sz + k := ⟨m - sz, by omega⟩
      rw [he, Nat.add_sub_cancel_left, Nat.add_comm sz k, Nat.add_div_right _ hp, Nat.add_mod_right]
      simp

theorem flatten_len {es : List (List V)} {sz : Nat} (hz : ∀ e ∈ es, e.length = sz) : es.flatten.length = es.length * sz := by
  induction es with
  | nil => simp
  | cons e es ih =>
    simp only [List.flatten_cons, List.length_append, List.length_cons, ih (fun e' h' => hz e' (List.mem_cons_of_mem _ h')), hz e List.mem_cons_self, Nat.add_mul]
    omega

/-- What is appended. -/
theorem src_sound {x : V} {gx : Value} {size n : Nat} {cs : Cells} (hI : Inv get J μ w) (h : srcE get x size = some (cs, n)) (hx : Rv J μ x gx) :
    ∃ gcs : Array Value, (Builtin.lenOf gx).run P w = .ok n w ∧ (∀ w' : World, w'.heap = w.heap → (Builtin.firstCells size n gx).run P w' = .ok gcs w') ∧ gcs.size = cs.length ∧ cs.length = n * size ∧
      (∀ (j : Nat) g, gcs[j]? = some g → g.oneCell' = true) ∧ ∀ (j : Nat) v g, cs[j]? = some v → gcs[j]? = some g → Rv J μ v g := by
  -- from known cells in one block
  have main : ∀ (blk o len cap : Nat) (cs : Cells), cs.length = n * size → (∀ (j : Nat) v, cs[j]? = some v → ∃ g, w.cell? ⟨blk, o + j, none⟩ = some g ∧ g.oneCell' = true ∧ Rv J μ v g) →
      ∃ gcs : Array Value, (∀ w' : World, w'.heap = w.heap → (Builtin.firstCells size n (.slice (some ⟨blk, o, none⟩) len cap)).run P w' = .ok gcs w') ∧ gcs.size = cs.length ∧
      (∀ (j : Nat) g, gcs[j]? = some g → g.oneCell' = true) ∧ ∀ (j : Nat) v g, cs[j]? = some v → gcs[j]? = some g → Rv J μ v g := by
    intro blk o len cap cs hl hc
    let f : Nat → Value := fun j => (w.cell? ⟨blk, o + j, none⟩).getD undef
    have hf : ∀ j, j < n * size → w.cell? ⟨blk, o + j, none⟩ = some (f j) ∧ (f j).oneCell' = true ∧ ∃ v, cs[j]? = some v ∧ Rv J μ v (f j) := by
      intro j hj
      obtain ⟨g, h1, h2, h3⟩ := hc j (cs[j]'(by omega)) (List.getElem?_eq_getElem (by omega))
      have : f j = g := by simp [f, h1]
      rw [this]
      exact ⟨h1, h2, cs[j]'(by omega), List.getElem?_eq_getElem (by omega), h3⟩
    refine ⟨((List.range (n * size)).map f).toArray, fun w' hw => ?_, by simp [hl], fun j g hg => ?_, fun j v g hv hg => ?_⟩
    · simp only [Builtin.firstCells]
      refine run_loadCells w' _ _ f fun j hj => ?_
      rw [addr_add]
      have := (hf j hj).1
      simpa [World.cell?, hw] using this
    · have hj : j < n * size := by
        rcases Nat.lt_or_ge j (n * size) with h' | h'
        · exact h'
        · simp [h'] at hg
      simp only [List.getElem?_toArray, List.getElem?_map, List.getElem?_range hj, Option.map_some, Option.some.injEq] at hg
      subst hg
      exact (hf j hj).2.1
    · have hj : j < n * size := by
        rcases Nat.lt_or_ge j (n * size) with h' | h'
        · exact h'
        · simp [h'] at hg
      simp only [List.getElem?_toArray, List.getElem?_map, List.getElem?_range hj, Option.map_some, Option.some.injEq] at hg
      subst hg
      obtain ⟨u, hu, hr⟩ := (hf j hj).2.2
      rw [hu] at hv
      cases hv
      exact hr
  have zero : ∀ (a : Option Addr) (c : Nat) (w' : World), (Builtin.firstCells size 0 (.slice a 0 c)).run P w' = .ok #[] w' := by
    intro a c w'
    cases a with
    | none => simp [Builtin.firstCells]
    | some a =>
      simp only [Builtin.firstCells, Nat.zero_mul]
      have := run_loadCells (P := P) w' a 0 (fun _ => undef) (fun j hj => by omega)
      simpa using this
  unfold srcE at h
  split at h
  · rename_i sz es
    cases hb : Nat.beq sz size
    · rw [hb] at h; cases h
    · rw [hb] at h
      simp only [cond_true, Option.some.injEq, Prod.mk.injEq] at h
      obtain ⟨rfl, rfl⟩ := h
      have hz : sz = size := Nat.eq_of_beq_eq_true hb
      subst hz
      cases hx with
      | sl0 =>
        refine ⟨#[], by simp [Builtin.lenOf], fun w' _ => zero _ _ w', by simp, by simp, fun j g hg => by simp at hg, fun j v g hv _ => by simp at hv⟩
      | sl hcap hj hsz h1 h2 h3 =>
        rename_i cap cc blk off gs
        obtain ⟨elem, fz, hh⟩ := hI.im _ _ hj
        have hfl := flatten_len hsz
        obtain ⟨gcs, e1, e2, e3, e4⟩ := main blk off es.length cap es.flatten hfl (fun j v hv => by
          have hp : 0 < sz := by
            rcases Nat.eq_zero_or_pos sz with h0 | h0
            · have := lt_of_some hv
              rw [hfl, h0] at this
              omega
            · exact h0
          rw [flatten_get hsz hp] at hv
          cases he : es[j / sz]? with
          | none => rw [he] at hv; cases hv
          | some e =>
            rw [he] at hv
            simp only [Option.bind_some] at hv
            have hcell := h1 _ _ e v he hv
            have ej : off + j / sz * sz + j % sz = off + j := by
              have := Nat.div_add_mod j sz
              rw [Nat.mul_comm] at this
              omega
            rw [ej] at hcell
            exact ⟨_, cell?_at hh hcell, (h3 _ _ e v he hv).1, (h2 _ _ e v he hv).mono (Im.le_refl _) (noMu_le _)⟩)
        exact ⟨gcs, by simp [Builtin.lenOf], e1, e2, hfl, e3, e4⟩
  · rename_i id off len sz
    split at h
    · rename_i ds hg
      cases hb : (Nat.beq sz size && Nat.ble (off + len * sz) ds.length)
      · rw [hb] at h; cases h
      · rw [hb] at h
        simp only [cond_true, Option.some.injEq, Prod.mk.injEq] at h
        rw [Bool.and_eq_true] at hb
        obtain ⟨rfl, rfl⟩ := h
        have hz : sz = size := Nat.eq_of_beq_eq_true hb.1
        subst hz
        have hle : off + len * sz ≤ ds.length := Nat.le_of_ble_eq_true hb.2
        cases hx with
        | ms hl hc hle' =>
          rename_i l cap
          obtain ⟨gc, elem, _, hh, _, _, hgo, hcs⟩ := hI.at hg hl
          have hlen : ((ds.drop off).take (len * sz)).length = len * sz := by simp; omega
          obtain ⟨gcs, e1, e2, e3, e4⟩ := main l.blk (l.base + off) len cap _ hlen (fun j v hv => by
            have hj := lt_of_some hv
            rw [hlen] at hj
            rw [List.getElem?_take_of_lt hj, List.getElem?_drop] at hv
            obtain ⟨g, k1, k3⟩ := hcs _ _ hv
            exact ⟨g, cell?_at hh (by rw [Nat.add_assoc]; exact k1), hgo _ _ k1, k3⟩)
          exact ⟨gcs, by simp [Builtin.lenOf], e1, e2, hlen, e3, e4⟩
    · cases h
  · simp only [Option.some.injEq, Prod.mk.injEq] at h
    obtain ⟨rfl, rfl⟩ := h
    cases hx
    exact ⟨#[], by simp [Builtin.lenOf], fun w' _ => zero _ _ w', by simp, by simp, fun j g hg => by simp at hg, fun j v g hv _ => by simp at hv⟩
  · cases h
end
end Go.Ev
