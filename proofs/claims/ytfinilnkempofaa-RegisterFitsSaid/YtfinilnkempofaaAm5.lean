/- Operations, further: composites, addresses, slices. -/
import Derived.Test.YtfinilnkempofaaAm4
set_option linter.all false
set_option linter.unusedVariables false
set_option linter.unusedSimpArgs false
set_option linter.unnecessarySimpa false
namespace Go.Am

section
variable {P : Program} {ρ ρ' : Ren} {H : List Blk} {w : World}

theorem pureRun_bind {α β : Type} (x : Sem α) (f : α → Sem β) : pureRun P (x >>= f) = (pureRun P x).bind fun a => pureRun P (f a) := by
  show pureRun P (x.bind f) = _
  induction x with
  | pure a => rfl
  | program k ih => simp only [Sem.bind, pureRun]; exact ih P
  | mark m k ih => simp only [Sem.bind, pureRun]; exact ih
  | _ => rfl

theorem pure_bounds {α : Type} (k : IntKind) (i y : Int) (c : BoundsCode) : pureRun P (boundsPanic k i y c : Sem α) = none := by
  unfold boundsPanic runtimePanic
  split <;> simp [pureRun_bind, choose, pureRun, program, goPanic, Functor.map, bind, Sem.bind, pure]

theorem parts_rel {sh : Sh} {parts parts' : List (Nat × Value)} (h : parts.map (·.1) = parts'.map (·.1)) (hr : LRel P ρ sh (parts.map (·.2)) (parts'.map (·.2))) :
    ∀ {i v rest}, parts = (i, v) :: rest → ∃ v' rest', parts' = (i, v') :: rest' ∧ VRel P ρ sh v v' ∧ rest.map (·.1) = rest'.map (·.1) ∧ LRel P ρ sh (rest.map (·.2)) (rest'.map (·.2)) := by
  intro i v rest he
  subst he
  cases parts' with
  | nil => simp at h
  | cons p r =>
    obtain ⟨j, u⟩ := p
    simp only [List.map_cons, List.cons.injEq] at h
    obtain ⟨h1, h2⟩ := h
    subst h1
    have := LRel.head hr
    exact ⟨u, r, rfl, this.1, h2, this.2⟩

theorem zipIdx_fold {sh : Sh} (off : Nat) : ∀ (l l' : List Value) (cs cs' : Array Value) (k : Nat), LRel P ρ sh l l' → LRel P ρ sh cs.toList cs'.toList →
    LRel P ρ sh ((l.zipIdx k).foldl (fun cs x => cs.setIfInBounds (off + x.2) x.1) cs).toList ((l'.zipIdx k).foldl (fun cs x => cs.setIfInBounds (off + x.2) x.1) cs').toList
  | [], l', cs, cs', k, hl, hc => by
    have : l' = [] := by have := hl.1; simp at this; exact List.eq_nil_of_length_eq_zero this.symm
    subst this; simpa using hc
  | v :: l, [], cs, cs', k, hl, hc => by have := hl.1; simp at this
  | v :: l, v' :: l', cs, cs', k, hl, hc => by
    have := hl.head
    simp only [List.zipIdx_cons, List.foldl_cons]
    refine zipIdx_fold off l l' _ _ (k + 1) this.2 ?_
    simp only [Array.toList_setIfInBounds]
    exact hc.set _ this.1

theorem fold_arr (off : Nat) (a : Array Value) (cs : Array Value) : a.zipIdx.foldl (fun cs x => cs.setIfInBounds (off + x.2) x.1) cs = (a.toList.zipIdx 0).foldl (fun cs x => cs.setIfInBounds (off + x.2) x.1) cs := by
  rw [← Array.foldl_toList]; simp

theorem fill_rel {sh : Sh} (place : Nat → Option (Nat × Nat)) : ∀ (parts parts' : List (Nat × Value)) (cs cs' r : Array Value), parts.map (·.1) = parts'.map (·.1) → LRel P ρ sh (parts.map (·.2)) (parts'.map (·.2)) →
    (parts.all fun p => allCells p.2.cells.toList) = true → LRel P ρ sh cs.toList cs'.toList → Instr.fill place cs parts = some r →
    ∃ r', Instr.fill place cs' parts' = some r' ∧ LRel P ρ sh r.toList r'.toList
  | [], parts', cs, cs', r, h1, h2, h3, h4, h => by
    have : parts' = [] := by simpa using h1.symm
    subst this
    simp [Instr.fill] at h; subst h
    exact ⟨cs', rfl, h4⟩
  | (i, v) :: rest, parts', cs, cs', r, h1, h2, h3, h4, h => by
    obtain ⟨v', rest', rfl, hv, h5, h6⟩ := parts_rel h1 h2 rfl
    simp only [List.all_cons, Bool.and_eq_true] at h3
    have hL := cells_rel hv h3.1
    have hsz : v.cells.size = v'.cells.size := by have := hL.1; simpa using this
    have hcz : cs.size = cs'.size := by have := h4.1; simpa using this
    simp only [Instr.fill] at h ⊢
    cases hp : place i with
    | none => simp [hp] at h
    | some x =>
      obtain ⟨off, size⟩ := x
      simp only [hp] at h ⊢
      rw [← hsz, ← hcz]
      split at h
      · simp at h
      · rename_i hn
        rw [if_neg hn]
        refine fill_rel place rest rest' _ _ r h5 h6 h3.2 ?_ h
        have := zipIdx_fold (P := P) (ρ := ρ) (sh := sh) off v.cells.toList v'.cells.toList cs cs' 0 hL h4
        rw [← fold_arr, ← fold_arr] at this
        exact this

theorem zeroP_of {t : TypeId} {z : Value} (h : pureRun P (zeroValue t) = some z) : zeroP P t = some z := by
  unfold zeroValue typeInfo at h
  simp only [pureRun_bind, program, pureRun, Option.bind_some] at h
  cases hi : P.info? t with
  | none => simp [hi, stuck, pureRun] at h
  | some i =>
    simp [hi, pureRun, pure] at h
    cases hz : i.zero with
    | none => simp [hz, unsupported, pureRun] at h
    | some z' => simp [hz, pureRun] at h; subst h; simp [zeroP, hi, hz]

theorem aBuild_sound {sh : Sh} {t : TypeId} {parts parts' : List (Nat × Value)} {v : Value} (h1 : parts.map (·.1) = parts'.map (·.1)) (h2 : LRel P ρ sh (parts.map (·.2)) (parts'.map (·.2)))
    (h : aBuild P t parts = some v) : ∃ cv, (∀ w, (Instr.build t parts'.toArray).run P w = .ok cv w) ∧ VRel P ρ sh v cv := by
  unfold aBuild at h
  split at h
  case h_2 => simp at h
  rename_i z0 hz0
  split at h
  · rename_i hh
    obtain ⟨hpz, hac⟩ := hh
    unfold Instr.build at h
    simp only [pureRun_bind] at h
    cases hz : pureRun P (zeroValue t) with
    | none => simp [hz] at h
    | some z =>
      have hzz := zeroP_of hz
      rw [hz0] at hzz; simp at hzz; subst hzz
      simp only [hz, Option.bind_some] at h
      cases hd : pureRun P (underlying t) with
      | none => simp [hd] at h
      | some d =>
        simp only [hd, Option.bind_some] at h
        have hz' := pureRun_run _ _ hz
        have hd' := pureRun_run _ _ hd
        cases d with
        | struct fields =>
          simp only [pureRun_bind] at h
          generalize hm : pureRun P (fields.mapM fun f => do pure (f.offset, ← sizeOf f.type)) = m at h
          cases m with
          | none => simp at h
          | some places =>
            have hm' := pureRun_run _ _ hm
            simp only [Option.bind_some] at h
            split at h
            · rename_i cells hf
              simp [pureRun, pure] at h; subst h
              obtain ⟨r', hr', hL⟩ := fill_rel (P := P) (ρ := ρ) (sh := sh) _ parts parts' z0.cells z0.cells cells h1 h2 hac (.refl_plain hpz) hf
              refine ⟨.agg r', fun w => ?_, .agg (LRel.arr hL).1 (LRel.arr hL).2⟩
              simp only [Instr.build, Sem.run_bind, hz', hd', hm', Result.andThen_ok]
              simp [hr']
            · simp [stuck, pureRun] at h
        | array n elem =>
          simp only [pureRun_bind] at h
          cases hs : pureRun P (sizeOf elem) with
          | none => simp [hs] at h
          | some size =>
            simp only [hs, Option.bind_some] at h
            have hs' := pureRun_run _ _ hs
            split at h
            · rename_i cells hf
              simp [pureRun, pure] at h; subst h
              obtain ⟨r', hr', hL⟩ := fill_rel (P := P) (ρ := ρ) (sh := sh) _ parts parts' z0.cells z0.cells cells h1 h2 hac (.refl_plain hpz) hf
              refine ⟨.agg r', fun w => ?_, .agg (LRel.arr hL).1 (LRel.arr hL).2⟩
              simp only [Instr.build, Sem.run_bind, hz', hd', hs', Result.andThen_ok]
              simp [hr']
            · simp [stuck, pureRun] at h
        | _ => simp [stuck, pureRun] at h
  · simp at h

theorem fieldAddr_sound {sh : Sh} {s : TypeId} {x cx v : Value} {f : Nat} (h : aFieldAddr P s x f = some v) (hx : VRel P ρ sh x cx) :
    ∃ cv, (∀ w, (Instr.fieldAt s cx f).run P w = .ok cv w) ∧ VRel P ρ sh v cv := by
  unfold aFieldAddr at h
  split at h
  · rename_i fields a hu
    split at h
    · rename_i fd hf
      split at h
      · rename_i n hn
        split at h
        · simp at h
        · rename_i hn0
          simp at h; subst h
          obtain ⟨cb, base, hs, hr, rfl⟩ := hx.ptr_inv
          obtain ⟨ab, ao, asp⟩ := a
          simp only at hs hr; subst hs
          refine ⟨.pointer (some ⟨cb, base + ao + fd.offset, none⟩), fun w => ?_, ?_⟩
          · simp [Instr.fieldAt, run_underlying hu, hf, Instr.sureAddr, fieldPlace, run_sizeP hn, hn0, add_none]
          · rw [add_none, Nat.add_assoc]; exact .ptr hr
      · simp at h
    · simp at h
  · rename_i fields off row hu
    split at h
    · rename_i fd hf
      split at h
      · rename_i n hn
        split at h
        · simp at h
        · rename_i hn0
          simp at h; subst h
          obtain ⟨cb, base, c, a', rfl, hz, hc, hL⟩ := hx.tptr_inv
          refine ⟨.pointer (some ⟨cb, base + off + fd.offset, none⟩), fun w => ?_, ?_⟩
          · simp [Instr.fieldAt, run_underlying hu, hf, Instr.sureAddr, fieldPlace, run_sizeP hn, hn0, add_none]
          · rw [Nat.add_assoc]; simpa [tField, tPtr] using VRel.tptr_list hz hc hL
      · simp at h
    · simp at h
  · simp at h

theorem VRel.slice_inv {sh : Sh} {a : Addr} {len cap : Nat} {v : Value} (h : VRel P ρ sh (.slice (some a) len cap) v) :
    (∃ cb base cap', a.spot = none ∧ ρ a.block = some (cb, base) ∧ v = .slice (some ⟨cb, base + a.off, none⟩) len cap' ∧ (cap ≠ UNK → cap' = cap) ∧ len ≤ cap' ∧ (cap = UNK → ∃ e n, sh cb = some (e, n) ∧ base + a.off + cap' * P.cellsOf e ≤ n)) ∨
    (∃ a', a.spot = none ∧ (ρ a.block).isSome = true ∧ v = .slice (some a') 0 0 ∧ len = 0 ∧ (cap ≠ UNK → cap = 0)) := by
  cases h with
  | same _ h => simp [plain] at h
  | slice h hc hl hu => exact .inl ⟨_, _, _, rfl, h, rfl, hc, hl, hu⟩
  | slice0 hb hc => exact .inr ⟨_, rfl, hb, rfl, rfl, hc⟩

theorem indexAddr_sound {sh : Sh} {t : TypeId} {x cx ix cix v : Value} (h : aIndexAddr P t x ix = some v) (hx : VRel P ρ sh x cx) (hix : VRel P ρ sh ix cix) :
    ∃ cv, (∀ w, (Instr.indexAt t cx cix).run P w = .ok cv w) ∧ VRel P ρ sh v cv := by
  unfold aIndexAddr at h
  split at h
  · rename_i elem a len cap k i hu
    split at h
    · rename_i n hn
      split at h
      · rename_i hi
        simp at h; subst h
        have := hix.int_inv; subst this
        rcases hx.slice_inv with ⟨cb, base, cap', hs, hr, rfl, _, hl, _⟩ | ⟨a', hs, _, rfl, rfl, _⟩
        · obtain ⟨ab, ao, asp⟩ := a
          simp only at hs hr; subst hs
          refine ⟨.pointer (some ⟨cb, base + ao + i.toNat * n, none⟩), fun w => ?_, ?_⟩
          · simp [Instr.indexAt, asIntOf, run_underlying hu, run_sizeP hn, hi, add_none]
          · rw [add_none, Nat.add_assoc]; exact .ptr hr
        · omega
      · simp at h
    · simp at h
  · rename_i len elem a k i hu
    split at h
    · rename_i n hn
      split at h
      · rename_i hi
        simp at h; subst h
        have := hix.int_inv; subst this
        obtain ⟨cb, base, hs, hr, rfl⟩ := hx.ptr_inv
        obtain ⟨ab, ao, asp⟩ := a
        simp only at hs hr; subst hs
        refine ⟨.pointer (some ⟨cb, base + ao + i.toNat * n, none⟩), fun w => ?_, ?_⟩
        · simp [Instr.indexAt, asIntOf, run_underlying hu, Instr.sureAddr, run_sizeP hn, hi, add_none]
        · rw [add_none, Nat.add_assoc]; exact .ptr hr
      · simp at h
    · simp at h
  · rename_i elem len row k i hu
    split at h
    · rename_i n hn
      unfold tIndex at h
      split at h
      · rename_i hi
        simp at h; subst h
        have := hix.int_inv; subst this
        rcases hx.ptree_inv with ⟨cb, base, cap', c, a', rfl, hz, hc, hl, hL⟩ | ⟨rfl, _⟩
        · refine ⟨.pointer (some ⟨cb, base + i.toNat * n, none⟩), fun w => ?_, ?_⟩
          · simp [Instr.indexAt, asIntOf, run_underlying hu, run_sizeP hn, hi, add_none]
          · simpa [tPtr] using VRel.tptr_list hz hc hL
        · omega
      · simp at h
    · simp at h
  · rename_i len elem off row k i hu
    split at h
    · rename_i n hn
      unfold tIndex at h
      split at h
      · rename_i hi
        simp at h; subst h
        have := hix.int_inv; subst this
        obtain ⟨cb, base, c, a', rfl, hz, hc, hL⟩ := hx.tptr_inv
        refine ⟨.pointer (some ⟨cb, base + off + i.toNat * n, none⟩), fun w => ?_, ?_⟩
        · simp [Instr.indexAt, asIntOf, run_underlying hu, Instr.sureAddr, run_sizeP hn, hi, add_none]
        · rw [Nat.add_assoc]; simpa [tPtr] using VRel.tptr_list hz hc hL
      · simp at h
    · simp at h
  · simp at h

/-- a part of a struct's or an array's cells -/
theorem part_rel {sh : Sh} {t : TypeId} {cs cs' : Array Value} {off : Nat} {v : Value} (h : pureRun P (part t cs off) = some v) (hL : LRel P ρ sh cs.toList cs'.toList) :
    ∃ cv, (∀ w, (part t cs' off).run P w = .ok cv w) ∧ VRel P ρ sh v cv := by
  unfold part at h
  simp only [pureRun_bind] at h
  cases hg : pureRun P (isAgg t) with
  | none => simp [hg] at h
  | some g =>
    have hg' := pureRun_run _ _ hg
    simp only [hg, Option.bind_some] at h
    cases g with
    | true =>
      simp only [if_true, pureRun_bind] at h
      cases hs : pureRun P (sizeOf t) with
      | none => simp [hs] at h
      | some n =>
        have hs' := pureRun_run _ _ hs
        simp [hs, pureRun, pure] at h; subst h
        refine ⟨.agg (cs'.extract off (off + n)), fun w => by simp [part, hg', hs'], ?_⟩
        have := LRel.arr (a := cs.extract off (off + n)) (a' := cs'.extract off (off + n)) (by simpa using (hL.drop off).take n)
        exact .agg this.1 this.2
    | false =>
      simp at h
      cases hc : cs[off]? with
      | none => simp [hc, stuck, pureRun] at h
      | some u =>
        simp [hc, pureRun, pure] at h; subst h
        obtain ⟨y, hy, hr⟩ := hL.2 off u (by simpa using hc)
        refine ⟨y, fun w => ?_, hr⟩
        have : cs'[off]? = some y := by simpa using hy
        simp [part, hg', this]

theorem field_sound {sh : Sh} {t : TypeId} {x cx v : Value} {f : Nat} (h : pureRun P (Instr.field t x f) = some v) (hx : VRel P ρ sh x cx) :
    ∃ cv, (∀ w, (Instr.field t cx f).run P w = .ok cv w) ∧ VRel P ρ sh v cv := by
  unfold Instr.field at h
  simp only [pureRun_bind] at h
  cases hd : pureRun P (underlying t) with
  | none => simp [hd] at h
  | some d =>
    have hd' := pureRun_run _ _ hd
    simp only [hd, Option.bind_some] at h
    cases d with
    | struct fields =>
      simp only at h
      cases hf : fields[f]? with
      | none => simp [hf, stuck, pureRun] at h
      | some fd =>
        simp only [hf] at h
        cases x with
        | agg cs =>
          obtain ⟨cs', rfl, hL⟩ := hx.agg_inv
          simp [asAgg, pureRun_bind, pureRun, pure] at h
          obtain ⟨cv, h1, h2⟩ := part_rel h hL
          exact ⟨cv, fun w => by simp [Instr.field, hd', hf, asAgg, h1], h2⟩
        | _ => simp [asAgg, pureRun_bind, pureRun, stuck] at h
    | _ => simp [stuck, pureRun] at h

theorem extract_sound {sh : Sh} {x cx v : Value} {i : Nat} (h : pureRun P (Instr.extract x i) = some v) (hx : VRel P ρ sh x cx) :
    ∃ cv, (∀ w, (Instr.extract cx i).run P w = .ok cv w) ∧ VRel P ρ sh v cv := by
  cases x with
  | tuple vs =>
    obtain ⟨vs', rfl, hL⟩ := hx.tuple_inv
    simp only [Instr.extract] at h
    cases hc : vs[i]? with
    | none => simp [hc, stuck, pureRun] at h
    | some u =>
      simp [hc, pureRun, pure] at h; subst h
      obtain ⟨y, hy, hr⟩ := hL.2 i u (by simpa using hc)
      have : vs'[i]? = some y := by simpa using hy
      exact ⟨y, fun w => by simp [Instr.extract, this], hr⟩
  | _ => simp [Instr.extract, stuck, pureRun] at h

theorem index_sound {sh : Sh} {t : TypeId} {x cx ix cix v : Value} (hp : plain ix = true) (h : pureRun P (Instr.index t x ix) = some v) (hx : VRel P ρ sh x cx) (hix : VRel P ρ sh ix cix) :
    ∃ cv, (∀ w, (Instr.index t cx cix).run P w = .ok cv w) ∧ VRel P ρ sh v cv := by
  have := hix.eq_of_plain hp; subst this
  cases x with
  | agg cs =>
    obtain ⟨cs', rfl, hL⟩ := hx.agg_inv
    unfold Instr.index at h
    simp only [pureRun_bind] at h
    cases hk : pureRun P (asIntOf cix) with
    | none => simp [hk] at h
    | some ki =>
      obtain ⟨k, i⟩ := ki
      have hk' := pureRun_run _ _ hk
      simp only [hk, Option.bind_some] at h
      cases hd : pureRun P (underlying t) with
      | none => simp [hd] at h
      | some d =>
        have hd' := pureRun_run _ _ hd
        simp only [hd, Option.bind_some] at h
        cases d with
        | array len elem =>
          simp only at h
          split at h
          · rename_i hi
            simp only [pureRun_bind] at h
            cases hs : pureRun P (sizeOf elem) with
            | none => simp [hs] at h
            | some n =>
              have hs' := pureRun_run _ _ hs
              simp only [hs, Option.bind_some] at h
              obtain ⟨cv, h1, h2⟩ := part_rel h hL
              exact ⟨cv, fun w => by simp [Instr.index, hk', hd', hs', hi, h1], h2⟩
          · exfalso
            rw [pure_bounds] at h; simp at h
        | _ => simp [stuck, pureRun] at h
  | string s =>
    have := hx.string_inv; subst this
    have hv := h
    unfold Instr.index at h
    refine ⟨v, fun w => pureRun_run _ _ hv w, ?_⟩
    simp only [pureRun_bind] at h
    cases hk : pureRun P (asIntOf cix) with
    | none => simp [hk] at h
    | some ki =>
      simp only [hk, Option.bind_some] at h
      cases hd : pureRun P (underlying t) with
      | none => simp [hd] at h
      | some d =>
        simp only [hd, Option.bind_some] at h
        cases d with
        | string =>
          simp only at h
          split at h
          · simp [pureRun, pure] at h; subst h; exact .same _ rfl
          · exfalso
            rw [pure_bounds] at h; simp at h
        | _ => simp [stuck, pureRun] at h
  | _ =>
    exfalso
    unfold Instr.index at h
    simp only [pureRun_bind] at h
    cases hk : pureRun P (asIntOf cix) with
    | none => simp [hk] at h
    | some ki =>
      simp only [hk, Option.bind_some] at h
      cases hd : pureRun P (underlying t) with
      | none => simp [hd] at h
      | some d =>
        simp only [hd, Option.bind_some] at h
        cases d <;> simp [stuck, pureRun] at h

end
end Go.Am
