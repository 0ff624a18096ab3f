/- Walks over maps; a slice's row as an array. -/
import Derived.Test.YtfinilnkempofaaAm9f
import Derived.Maps.RangeRun
import Derived.Laws.Cover3
set_option linter.all false
set_option linter.unusedVariables false
set_option linter.unusedSimpArgs false
set_option linter.unnecessarySimpa false
namespace Go.Am

section
variable {P : Program} {ρ ρ' : Ren} {H : List Blk} {w : World}

theorem arr_sound {sh : Sh} {t : TypeId} {x cx v : Value} (hs : aArr P t x = some v) (hx : VRel P ρ sh x cx) : ∃ cv, (∀ w : World, (Instr.arrayAt t cx).run P w = .ok cv w) ∧ VRel P ρ sh v cv := by
  unfold aArr at hs
  split at hs
  · rename_i n e a len cap hu
    rw [ite_some] at hs
    obtain ⟨⟨hn0, hn⟩, hv⟩ := hs
    simp at hv; subst hv
    rcases hx.slice_inv with ⟨cb, base, cap', hsp, hr, rfl, hc, hl, hun⟩ | ⟨a', hsp, hb', rfl, rfl, hc⟩
    · obtain ⟨ab, ao, asp⟩ := a
      simp only at hsp hr; subst hsp
      exact ⟨_, fun w => run_arrayAt w t e n _ _ _ hu hn, .ptr hr⟩
    · omega
  · rename_i n e len row hu
    rw [ite_some] at hs
    obtain ⟨⟨hn0, hn⟩, hv⟩ := hs
    simp at hv; subst hv
    cases hx with
    | same _ h => simp [plain] at h
    | tree hz hc hl ha ha' => exact ⟨_, fun w => run_arrayAt w t e n _ _ _ hu hn, .tptr (off := 0) hz hc ha ha'⟩
    | tree0 hn' => omega
  · simp at hs

theorem iter_get (h : Rel P ρ H w) {b : Nat} {m : Option Nat} {a c : Nat} {s : List Nat} (hb : H[b]? = some (.iter m a s c)) :
    ∃ cb cm, ρ b = some (cb, 0) ∧ w.heap[cb]? = some (.mapIter cm a s.toArray c) ∧ IRel ρ m cm := by
  obtain ⟨cb, base, o, h1, h2, rfl, cm, rfl, h3⟩ := h.blk b _ hb rfl
  exact ⟨cb, cm, h1, h2, h3⟩

theorem range_sound (h : Rel P ρ H w) {t : TypeId} {x cx v : Value} {s : AS} {e : Option Nat} (hs : aRange P t x ⟨H, e⟩ = some (v, s)) (hx : VRel P ρ w.shape? x cx) :
    ∃ cv w', (Instr.range t cx).run P w = .ok cv w' ∧ Out P H.length ρ H w s.H v cv w' := by
  unfold aRange at hs
  have hself : ∀ c, upd ρ H.length c H.length = some c := fun c => by simp [upd]
  split at hs
  · rename_i kt et hu
    simp at hs; obtain ⟨rfl, rfl⟩ := hs
    have : cx = .map none := hx.eq_of_plain rfl
    subst this
    have hal := alloc_rel h (.iter none 0 [] 0) (.mapIter none 0 #[] 0) ⟨rfl, none, rfl, .inl ⟨rfl, rfl⟩⟩
    refine ⟨_, _, run_range_nilMap w t kt et hu, ⟨⟨_, hal.1, hal.2, ?_⟩, by simp [newBlk]⟩⟩
    exact .ptr (hself _)
  · rename_i kt et r hu
    split at hs
    · rename_i es clock hr
      simp at hs; obtain ⟨rfl, rfl⟩ := hs
      obtain ⟨cr, ces, h1, h2, h3, h4⟩ := map_get h hr
      obtain ⟨cr', h5, rfl⟩ := hx.map_inv
      rw [h1] at h5; simp at h5; subst h5
      have hlt := lt_of_get hr
      have hal := alloc_rel h (.iter (some r) clock [] clock) (.mapIter (some cr) clock #[] clock) ⟨rfl, some cr, rfl, .inr ⟨r, cr, rfl, rfl, by
        have : r ≠ H.length := by simp only at hlt; omega
        show (if r = H.length then _ else ρ r) = _
        rw [if_neg this]; exact h1⟩⟩
      refine ⟨_, _, run_range_map w t kt et cr ces clock hu h2, ⟨⟨_, hal.1, hal.2, ?_⟩, by simp [newBlk]⟩⟩
      exact .ptr (hself _)
    · simp at hs
  · simp at hs

/-- what is left, of both -/
theorem left_fwd {sh : Sh} {es : List MapEntry} {ces : Array MapEntry} {seen : List Nat} (h1 : ces.size = es.length) (h2 : ∀ (i : Nat) (e : MapEntry), es[i]? = some e → ∃ ce : MapEntry, ces[i]? = some ce ∧ ERel P ρ sh e ce)
    {ce : MapEntry} (hc : ce ∈ (leftOf ces seen.toArray).toList) : ∃ e ∈ es.filter (fun e => !seen.contains e.born), ERel P ρ sh e ce := by
  obtain ⟨hm, hs⟩ := mem_left hc
  obtain ⟨i, hi⟩ := List.mem_iff_getElem?.1 hm
  have hlt := lt_of_get hi
  have hlt' : i < es.length := by simp at hlt; omega
  obtain ⟨ce', g1, g2⟩ := h2 i _ (List.getElem?_eq_getElem hlt')
  have : ce' = ce := by
    have h3 : ces.toList[i]? = some ce' := by simpa using g1
    rw [h3] at hi; simpa using hi
  subst this
  refine ⟨es[i], List.mem_filter.2 ⟨List.getElem_mem hlt', ?_⟩, g2⟩
  rw [← g2.2.2]
  simpa using hs

theorem left_bwd {sh : Sh} {es : List MapEntry} {ces : Array MapEntry} {seen : List Nat} (h2 : ∀ (i : Nat) (e : MapEntry), es[i]? = some e → ∃ ce : MapEntry, ces[i]? = some ce ∧ ERel P ρ sh e ce)
    {e : MapEntry} (hc : e ∈ es.filter (fun e => !seen.contains e.born)) : ∃ ce ∈ (leftOf ces seen.toArray).toList, ERel P ρ sh e ce := by
  obtain ⟨hm, hs⟩ := List.mem_filter.1 hc
  obtain ⟨i, hi⟩ := List.mem_iff_getElem?.1 hm
  obtain ⟨ce, g1, g2⟩ := h2 i _ hi
  refine ⟨ce, ?_, g2⟩
  unfold leftOf
  rw [Array.mem_toList_iff, Array.mem_filter]
  refine ⟨Array.mem_of_getElem? g1, ?_⟩
  rw [g2.2.2]
  simpa using hs

theorem next_sound (h : Rel P ρ H w) {x cx : Value} {e : Option Nat} {q : Nat × (Nat → Value × AS)} (ty : TypeId) (hs : aNext x ⟨H, e⟩ = some q) (hx : VRel P ρ w.shape? x cx) :
    ∃ i, i < q.1 ∧ ∃ cv w', (Instr.next cx false ty).run P w = .ok cv w' ∧ Out P H.length ρ H w (q.2 i).2.H (q.2 i).1 cv w' := by
  unfold aNext at hs
  split at hs
  case h_2 => simp at hs
  rename_i b
  obtain ⟨cb, base, _, hr, rfl⟩ := hx.ptr_inv
  split at hs
  · rename_i a s c hb
    simp at hs; subst hs
    obtain ⟨cb', cm, h1, h2, h3⟩ := iter_get h hb
    rw [h1] at hr; simp at hr; obtain ⟨rfl, rfl⟩ := hr
    rcases h3 with ⟨_, rfl⟩ | ⟨r, cr, h3, _, _⟩
    · refine ⟨0, by simp, .tuple #[.bool false], w, ?_, ⟨⟨ρ, h, .refl _, .same _ rfl⟩, Nat.le_refl _⟩⟩
      simp only [Instr.next, getObj, Sem.run_bind, Sem.run, h2, Result.andThen]
      rfl
    · simp at h3
  · rename_i r since seen stepped hb
    obtain ⟨cb', cm, h1, h2, h3⟩ := iter_get h hb
    rw [h1] at hr; simp at hr; obtain ⟨rfl, rfl⟩ := hr
    rcases h3 with ⟨h3, _⟩ | ⟨r', cr, h3, rfl, hrr⟩
    · simp at h3
    simp at h3; subst h3
    split at hs
    case h_2 => simp at hs
    rename_i es clock hm
    obtain ⟨cr', ces, m1, m2, m3, m4⟩ := map_get h hm
    rw [m1] at hrr; simp at hrr; subst hrr
    rw [ite_some] at hs
    obtain ⟨⟨hold, hsc⟩, hs⟩ := hs
    have hold' : ∀ x ∈ ces.toList, x.born < since := by
      intro x hx
      obtain ⟨i, hi⟩ := List.mem_iff_getElem?.1 hx
      have hlt := lt_of_get hi
      have hlt' : i < es.length := by simp at hlt; omega
      obtain ⟨ce', g1, g2⟩ := m4 i _ (List.getElem?_eq_getElem hlt')
      have : ce' = x := by
        have h3 : ces.toList[i]? = some ce' := by simpa using g1
        rw [h3] at hi; simpa using hi
      subst this
      rw [List.all_eq_true] at hold
      have := hold es[i] (List.getElem_mem hlt')
      rw [g2.2.2]; simpa using this
    have hrun := run_next_at (P := P) w ty cb' cr' since stepped seen.toArray ces clock h2 m2 hold' hsc
    split at hs
    · rename_i hl
      simp at hs; subst hs
      rcases hrun with ⟨_, hrun⟩ | ⟨ce, hce, _⟩
      · exact ⟨0, by simp, _, w, hrun, ⟨⟨ρ, h, .refl _, .same _ rfl⟩, Nat.le_refl _⟩⟩
      · obtain ⟨e', he', _⟩ := left_fwd m3 m4 hce
        rw [hl] at he'; simp at he'
    · rename_i e0 l hl
      simp at hs; subst hs
      rcases hrun with ⟨h0, _⟩ | ⟨ce, hce, w1, hw1, hrun⟩
      · obtain ⟨ce, hce, _⟩ := left_bwd (sh := w.shape?) (ρ := ρ) (P := P) (seen := seen) m4 (e := e0) (by rw [hl]; simp)
        have : leftOf ces seen.toArray = #[] := Array.eq_empty_of_size_eq_zero h0
        rw [this] at hce; simp at hce
      · obtain ⟨e', he', hE⟩ := left_fwd m3 m4 hce
        rw [hl] at he'
        obtain ⟨i, hi⟩ := List.mem_iff_getElem?.1 he'
        have hget : ((e0 :: l)[i]?).getD e0 = e' := by rw [hi]; rfl
        have hh : w1.heap = w.heap := by rcases hw1 with rfl | rfl <;> rfl
        have ho : w1.os = w.os := by rcases hw1 with rfl | rfl <;> rfl
        have hu : w1.output = w.output := by rcases hw1 with rfl | rfl <;> rfl
        have h' : Rel P ρ H w1 := h.congr hh
        have hst : Step H.length ρ H w ρ H w1 := .congr _ hh ho hu
        have hsh : w1.shape? = w.shape? := by funext r; simp [World.shape?, hh]
        have hset := set_rel h' (k' := .iter (some r) since (seen ++ [e'.born]) clock) (o' := .mapIter (some cr') since (seen.toArray.push ce.born) clock) hb rfl h1 (by rw [hh]; exact h2) rfl rfl
          ⟨rfl, some cr', by rw [hE.2.2]; simp, .inr ⟨r, cr', rfl, rfl, m1⟩⟩
        refine ⟨i, by have := lt_of_get hi; simpa using this, _, _, hrun, ⟨⟨ρ, ?_, ?_, ?_⟩, by simp⟩⟩
        · simp only [hget]; exact hset.1
        · simp only [hget]; exact hst.trans hset.2
        · simp only [hget]
          have hsh2 : (ChangeMaps.setBlock w1 cb' (.mapIter (some cr') since (seen.toArray.push ce.born) clock)).shape? = w.shape? := by
            have := setBlk_shape (w := w1) (cb := cb') (o := .mapIter (some cr') since (seen.toArray.push ce.born) clock) (o' := .mapIter (some cr') since seen.toArray stepped) (by rw [hh]; exact h2) rfl
            rw [← hsh, ← this]; rfl
          rw [hsh2]
          refine .tuple rfl (fun j g1 g2 => ?_)
          match j, g1, g2 with
          | 0, _, _ => exact .same _ rfl
          | 1, _, _ => exact hE.1
          | 2, _, _ => exact hE.2.1
          | j + 3, g1, _ => exact absurd g1 (by show ¬ (j + 3 < 3); omega)
  · simp at hs

theorem find_rel {sh : Sh} (q : Nat) : ∀ {es ces : List MapEntry}, es.length = ces.length → (∀ (i : Nat) (e : MapEntry), es[i]? = some e → ∃ ce : MapEntry, ces[i]? = some ce ∧ ERel P ρ sh e ce) → ∀ {e : MapEntry}, es.find? (·.born == q) = some e →
    ∃ ce, ces.find? (·.born == q) = some ce ∧ ERel P ρ sh e ce
  | [], _, _, _, e, h => by simp at h
  | x :: xs, [], hl, _, e, h => by simp at hl
  | x :: xs, c :: cs, hl, hi, e, h => by
    obtain ⟨ce, h1, h2⟩ := hi 0 x rfl
    simp at h1; subst h1
    rw [List.find?_cons] at h ⊢
    rw [h2.2.2]
    cases hb : x.born == q with
    | true => rw [hb] at h; simp at h; subst h; exact ⟨c, rfl, h2⟩
    | false =>
      rw [hb] at h
      exact find_rel q (by simpa using hl) (fun i e he => hi (i + 1) e (by simpa using he)) h

theorem entry_sound (h : Rel P ρ H w) {x cx v : Value} {e : Option Nat} (hs : aEntry x ⟨H, e⟩ = some v) (hx : VRel P ρ w.shape? x cx) :
    ∃ cv, (Instr.entry cx).run P w = .ok cv w ∧ VRel P ρ w.shape? v cv := by
  unfold aEntry at hs
  split at hs
  case h_2 => simp at hs
  rename_i b
  obtain ⟨cb, base, _, hr, rfl⟩ := hx.ptr_inv
  split at hs
  case h_2 => simp at hs
  rename_i r since seen stepped hb
  obtain ⟨cb', cm, h1, h2, h3⟩ := iter_get h hb
  rw [h1] at hr; simp at hr; obtain ⟨rfl, rfl⟩ := hr
  rcases h3 with ⟨h3, _⟩ | ⟨r', cr, h3, rfl, hrr⟩
  · simp at h3
  simp at h3; subst h3
  split at hs
  case h_2 => simp at hs
  rename_i q es clock hq hm
  obtain ⟨cr', ces, m1, m2, m3, m4⟩ := map_get h hm
  rw [m1] at hrr; simp at hrr; subst hrr
  rw [ite_some] at hs
  obtain ⟨rfl, hs⟩ := hs
  rw [Option.map_eq_some_iff] at hs
  obtain ⟨en, hen, rfl⟩ := hs
  obtain ⟨ce, g1, g2⟩ := find_rel (P := P) (ρ := ρ) (sh := w.shape?) q (es := es) (ces := ces.toList) (by simp [m3]) (fun i e he => by obtain ⟨ce, c1, c2⟩ := m4 i e he; exact ⟨ce, by simpa using c1, c2⟩) hen
  rw [Array.find?_toList] at g1
  have hbk : seen.toArray.back? = some q := by simpa using hq
  refine ⟨.tuple #[ce.key, ce.val], ?_, .tuple rfl (fun j h1 h2 => ?_)⟩
  · simp only [Instr.entry, getObj, Sem.run_bind, Sem.run, h2, m2, Result.andThen, hbk, bne_self_eq_false, Bool.false_eq_true, if_false, g1]
    rfl
  · match j, h1, h2 with
    | 0, _, _ => exact g2.1
    | 1, _, _ => exact g2.2.1
    | j + 2, h1, _ => exact absurd h1 (by show ¬ (j + 2 < 2); omega)

end
end Go.Am
