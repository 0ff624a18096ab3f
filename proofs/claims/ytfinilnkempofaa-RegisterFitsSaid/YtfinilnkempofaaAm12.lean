/- What is stored into an earlier block is known: 'esc'. -/
import Derived.Test.YtfinilnkempofaaAm11
set_option linter.all false
set_option linter.unusedVariables false
set_option linter.unusedSimpArgs false
set_option linter.unnecessarySimpa false
namespace Go.Am

/-- later blocks that an earlier one names were there before, or are told -/
def Up (H H' : List Blk) (e' : Option Nat) : Prop :=
  ∀ (b : Nat) (k : Blk) (r : Nat), b < H.length → H'[b]? = some k → r ∈ blkRefs k → b < r → (∃ k0, H[b]? = some k0 ∧ r ∈ blkRefs k0) ∨ (∃ m, e' = some m ∧ m ≤ b)

def escLe (e e' : Option Nat) : Prop := ∀ m, e = some m → ∃ m', e' = some m' ∧ m' ≤ m

def UpC (st s : AS) : Prop := Up st.H s.H s.esc ∧ escLe st.esc s.esc ∧ st.H.length ≤ s.H.length

theorem escLe.refl (e : Option Nat) : escLe e e := fun m h => ⟨m, h, Nat.le_refl _⟩
theorem escLe.trans {a b c : Option Nat} (h : escLe a b) (h' : escLe b c) : escLe a c := fun m hm => by
  obtain ⟨m1, h1, h2⟩ := h m hm
  obtain ⟨m2, h3, h4⟩ := h' m1 h1
  exact ⟨m2, h3, Nat.le_trans h4 h2⟩

theorem UpC.refl (st : AS) : UpC st st := ⟨fun b k r _ hk hr _ => .inl ⟨k, hk, hr⟩, .refl _, Nat.le_refl _⟩

theorem Up.step {H H1 H2 : List Blk} {e1 e2 : Option Nat} (h : Up H H1 e1) (hn : H.length ≤ H1.length) (h' : Up H1 H2 e2) (he : escLe e1 e2) : Up H H2 e2 := by
  intro b k r hb hk hr hlt
  rcases h' b k r (Nat.lt_of_lt_of_le hb hn) hk hr hlt with ⟨k1, h1, h2⟩ | h3
  · rcases h b k1 r hb h1 h2 hlt with h4 | ⟨m, h5, h6⟩
    · exact .inl h4
    · obtain ⟨m', h7, h8⟩ := he m h5
      exact .inr ⟨m', h7, Nat.le_trans h8 h6⟩
  · exact .inr h3

theorem UpC.trans {a b c : AS} (h : UpC a b) (h' : UpC b c) : UpC a c := ⟨h.1.step h.2.2 h'.1 h'.2.1, h.2.1.trans h'.2.1, Nat.le_trans h.2.2 h'.2.2⟩

theorem UpC.app {st s : AS} {L : List Blk} (h1 : s.H = st.H ++ L) (h2 : s.esc = st.esc) : UpC st s := by
  refine ⟨fun b k r hb hk hr _ => .inl ?_, by rw [h2]; exact .refl _, by rw [h1]; simp⟩
  rw [h1, List.getElem?_append_left hb] at hk
  exact ⟨k, hk, hr⟩

theorem minO_le (e : Option Nat) (b : Nat) : ∃ m, minO e b = some m ∧ m ≤ b := by
  cases e with
  | none => exact ⟨b, rfl, Nat.le_refl _⟩
  | some a => exact ⟨min a b, rfl, Nat.min_le_right _ _⟩

theorem minO_esc (e : Option Nat) (b : Nat) : escLe e (minO e b) := by
  intro m hm; subst hm; exact ⟨min m b, rfl, Nat.min_le_left _ _⟩

theorem escOf_le (b : Nat) : ∀ (l : List Nat) (e : Option Nat), escLe e (escOf e b l)
  | [], e => .refl _
  | r :: rs, e => by
    simp only [escOf]
    split
    · exact minO_esc e b
    · exact escOf_le b rs e

theorem escOf_mem (b : Nat) : ∀ (l : List Nat) (e : Option Nat) (r : Nat), r ∈ l → b < r → ∃ m, escOf e b l = some m ∧ m ≤ b
  | [], e, r, h, _ => by simp at h
  | x :: xs, e, r, h, hlt => by
    simp only [escOf]
    by_cases hx : b < x
    · rw [if_pos hx]; exact minO_le e b
    · rw [if_neg hx]
      rcases List.mem_cons.1 h with rfl | h
      · exact absurd hlt hx
      · exact escOf_mem b xs _ r h hlt

theorem UpC.set {st s : AS} {b : Nat} {k k' : Blk} {l : List Nat} (hk : st.H[b]? = some k) (h1 : s.H = st.H.set b k') (h2 : s.esc = escOf st.esc b l) (h3 : ∀ r ∈ blkRefs k', r ∈ blkRefs k ∨ r ∈ l) : UpC st s := by
  refine ⟨fun c k1 r hc hk1 hr hlt => ?_, by rw [h2]; exact escOf_le _ _ _, by rw [h1]; simp⟩
  rw [h1] at hk1
  by_cases hcb : b = c
  · subst hcb
    rw [List.getElem?_set_self hc] at hk1; simp at hk1; subst hk1
    rcases h3 r hr with h4 | h4
    · exact .inl ⟨k, hk, h4⟩
    · exact .inr (by rw [h2]; exact escOf_mem _ _ _ r h4 hlt)
  · rw [List.getElem?_set_ne hcb] at hk1
    exact .inl ⟨k1, hk1, hr⟩

theorem UpC.kill {st s : AS} {b : Nat} (h1 : s.H = st.H.set b .dead) (h2 : s.esc = st.esc) : UpC st s := by
  refine ⟨fun c k1 r hc hk1 hr hlt => ?_, by rw [h2]; exact .refl _, by rw [h1]; simp⟩
  rw [h1] at hk1
  by_cases hcb : b = c
  · subst hcb
    rw [List.getElem?_set_self hc] at hk1; simp at hk1; subst hk1; simp [blkRefs] at hr
  · rw [List.getElem?_set_ne hcb] at hk1
    exact .inl ⟨k1, hk1, hr⟩

theorem lrefs_append (a b : List Value) : lrefs (a ++ b) = lrefs a ++ lrefs b := by
  induction a with
  | nil => rfl
  | cons x xs ih => simp [lrefs, ih]

theorem putCells_refs {cs vs : List Value} {off r : Nat} (h : r ∈ lrefs (putCells cs off vs)) : r ∈ lrefs cs ∨ r ∈ lrefs vs := by
  unfold putCells at h
  rw [lrefs_append, lrefs_append] at h
  simp only [List.mem_append] at h
  rcases h with (h | h) | h
  · obtain ⟨v, hv, hr⟩ := mem_lrefs.1 h
    exact .inl (mem_lrefs.2 ⟨v, List.mem_of_mem_take hv, hr⟩)
  · exact .inr h
  · obtain ⟨v, hv, hr⟩ := mem_lrefs.1 h
    exact .inl (mem_lrefs.2 ⟨v, List.mem_of_mem_drop hv, hr⟩)

theorem storeL_up {st s : AS} {b off : Nat} {vs : List Value} (h : storeL st b off vs = some s) : UpC st s := by
  unfold storeL at h
  split at h
  · rename_i cs e hb
    rw [ite_some] at h
    obtain ⟨_, h⟩ := h
    simp at h; subst h
    exact .set hb rfl rfl (fun r hr => putCells_refs hr)
  · simp at h

theorem append_up {P : Program} {argTypes : Array TypeId} {x y v : Value} {st s : AS} (h : aAppend P argTypes x y st = some (v, s)) : UpC st s := by
  unfold aAppend at h
  split at h
  case h_2 => simp at h
  split at h
  case h_2 => simp at h
  split at h
  case h_2 => simp at h
  rw [ite_some] at h
  obtain ⟨_, h⟩ := h
  split at h
  · split at h
    · split at h
      · simp at h; obtain ⟨_, rfl⟩ := h; exact .refl _
      · split at h
        · simp [aRow, newBlk] at h; obtain ⟨_, rfl⟩ := h; exact .app rfl rfl
        · simp at h
    · simp at h
  · split at h
    · simp at h; obtain ⟨_, rfl⟩ := h; exact .refl _
    · split at h
      · split at h
        · split at h
          · simp only [Option.map_eq_some_iff] at h
            obtain ⟨s', h1, h2⟩ := h
            simp at h2; obtain ⟨_, rfl⟩ := h2
            exact storeL_up h1
          · simp only [Option.map_eq_some_iff] at h
            obtain ⟨old, h1, h2⟩ := h
            simp [aRow, newBlk] at h2; obtain ⟨_, rfl⟩ := h2; exact .app rfl rfl
        · split at h
          · rw [ite_some] at h
            obtain ⟨_, h⟩ := h
            simp [aRow, newBlk] at h; obtain ⟨_, rfl⟩ := h
            refine UpC.trans (b := ⟨st.H.set _ .dead, st.esc⟩) ?_ (UpC.app rfl rfl)
            exact .kill rfl rfl
          · simp at h
      · simp at h
  · simp at h

theorem copy_up {P : Program} {argTypes : Array TypeId} {x y v : Value} {st s : AS} (h : aCopy P argTypes x y st = some (v, s)) : UpC st s := by
  unfold aCopy at h
  split at h
  · simp at h
  · split at h
    · split at h
      · split at h
        · simp at h; obtain ⟨_, rfl⟩ := h; exact .refl _
        · simp only [Option.map_eq_some_iff] at h
          obtain ⟨s', h1, h2⟩ := h
          simp at h2; obtain ⟨_, rfl⟩ := h2
          exact storeL_up h1
      · split at h
        · simp at h; obtain ⟨_, rfl⟩ := h; exact .refl _
        · simp at h
      · simp at h
    · simp at h

theorem range_up {P : Program} {t : TypeId} {x v : Value} {st s : AS} (h : aRange P t x st = some (v, s)) : UpC st s := by
  unfold aRange at h
  split at h
  · simp at h; obtain ⟨_, rfl⟩ := h; exact .app rfl rfl
  · split at h
    · simp at h; obtain ⟨_, rfl⟩ := h; exact .app rfl rfl
    · simp at h
  · simp at h

theorem next_up {x : Value} {st : AS} {q : Nat × (Nat → Value × AS)} (h : aNext x st = some q) : 0 < q.1 ∧ ∀ i, UpC st (q.2 i).2 := by
  unfold aNext at h
  split at h
  · split at h
    · simp at h; subst h; exact ⟨by simp, fun i => .refl _⟩
    · rename_i r a s c hb
      split at h
      · rename_i es clock hm
        rw [ite_some] at h
        obtain ⟨_, h⟩ := h
        split at h
        · simp at h; subst h; exact ⟨by simp, fun i => .refl _⟩
        · simp at h; subst h
          exact ⟨by simp, fun i => UpC.set (l := []) hb rfl rfl (fun r hr => .inl hr)⟩
      · simp at h
    · simp at h
  · simp at h

theorem mapUpdate_up {P : Program} {t : TypeId} {m k v : Value} {st s : AS} (h : aMapUpdate P t m k v st = some s) : UpC st s := by
  unfold aMapUpdate at h
  split at h
  · split at h
    · rename_i es clock hr
      rw [ite_some] at h
      obtain ⟨⟨hpk, _, _⟩, h⟩ := h
      have hkr : vrefs k = [] := VRel.known.plain_refs k hpk
      split at h
      · split at h
        · rename_i i hi en hen
          rw [ite_some] at h
          obtain ⟨_, h⟩ := h
          simp at h; subst h
          refine .set hr rfl rfl (fun r hr => ?_)
          simp only [blkRefs, List.mem_flatMap, List.mem_append] at hr ⊢
          obtain ⟨e', he', hr'⟩ := hr
          rcases List.mem_or_eq_of_mem_set he' with he' | rfl
          · exact .inl ⟨e', he', hr'⟩
          · simp only [hkr] at hr'
            rcases hr' with hr' | hr'
            · simp at hr'
            · exact .inr hr'
        · simp at h
      · simp at h; subst h
        refine .set hr rfl rfl (fun r hr => ?_)
        simp only [blkRefs, List.flatMap_append, List.mem_append, List.flatMap_cons, List.flatMap_nil, hkr, List.nil_append, List.append_nil] at hr ⊢
        exact hr
      · simp at h
    · simp at h
  · simp at h

theorem delete_up {P : Program} {at_ : Array TypeId} {m k : Value} {st s : AS} (h : aDelete P at_ m k st = some s) : UpC st s := by
  unfold aDelete at h
  split at h
  · split at h
    · rename_i es clock hr
      rw [ite_some] at h
      obtain ⟨_, h⟩ := h
      split at h
      · simp at h; subst h
        refine .set (l := []) hr rfl rfl (fun r hr => .inl ?_)
        simp only [blkRefs, List.mem_flatMap] at hr ⊢
        obtain ⟨e', he', hr'⟩ := hr
        exact ⟨e', List.mem_of_mem_eraseIdx he', hr'⟩
      · simp at h; subst h; exact .refl _
      · simp at h
    · simp at h
  · simp at h

theorem conv_up {P : Program} {a b : TypeId} {x v : Value} {st s : AS} (h : aConv P a b x st = some (v, s)) : UpC st s := by
  unfold aConv at h
  split at h
  · simp at h; obtain ⟨_, rfl⟩ := h; exact .refl _
  · simp at h; obtain ⟨_, rfl⟩ := h; exact .refl _
  · rw [ite_some] at h
    obtain ⟨_, h⟩ := h
    simp [aRow, newBlk] at h; obtain ⟨_, rfl⟩ := h; exact .app rfl rfl
  · rw [ite_some] at h
    obtain ⟨_, h⟩ := h
    simp at h; obtain ⟨_, rfl⟩ := h; exact .refl _
  · rw [ite_some] at h
    obtain ⟨_, h⟩ := h
    simp only [Option.map_eq_some_iff] at h
    obtain ⟨l, _, h⟩ := h
    simp at h; obtain ⟨_, rfl⟩ := h; exact .refl _
  · split at h
    · rw [ite_some] at h
      obtain ⟨_, h⟩ := h
      simp at h; obtain ⟨_, rfl⟩ := h; exact .refl _
    · simp at h
  · rw [ite_some] at h
    obtain ⟨_, h⟩ := h
    simp only [Option.map_eq_some_iff] at h
    obtain ⟨l, _, h⟩ := h
    simp at h; obtain ⟨_, rfl⟩ := h; exact .refl _
  · simp at h

theorem makeSlice_up {P : Program} {t : TypeId} {x y v : Value} {st s : AS} (h : aMakeSlice P t x y st = some (v, s)) : UpC st s := by
  unfold aMakeSlice at h
  split at h
  · split at h
    · rw [ite_some] at h
      obtain ⟨_, h⟩ := h
      simp [aRow, newBlk] at h; obtain ⟨_, rfl⟩ := h; exact .app rfl rfl
    · simp at h
  · simp at h

theorem buildSlice_up {P : Program} {t : TypeId} {n : Nat} {l : List (Nat × Value)} {v : Value} {st s : AS} (h : aBuildSlice P t n l st = some (v, s)) : UpC st s := by
  unfold aBuildSlice at h
  split at h
  · split at h
    · rw [ite_some] at h
      obtain ⟨_, h⟩ := h
      split at h
      · simp [aRow, newBlk] at h; obtain ⟨_, rfl⟩ := h; exact .app rfl rfl
      · simp at h
    · simp at h
  · simp at h

theorem frz_up {P : Program} (n0 k : Nat) (l : List Value) (st : AS) : UpC st ⟨(frzL (frz P n0 k) l st.H).2, st.esc⟩ := by
  obtain ⟨h1, h2⟩ := frzL_kill (frz_kill (P := P) n0 k) l st.H
  refine ⟨fun c k1 r hc hk1 hr hlt => ?_, .refl _, Nat.le_of_eq h1.symm⟩
  rcases h2 c with h | h
  · exact .inl ⟨k1, by rw [← h]; exact hk1, hr⟩
  · rw [h] at hk1; simp at hk1; subst hk1; simp [blkRefs] at hr

theorem box_up {e : TypeId} {x v : Value} {st s : AS} (h : aBox e x st = some (v, s)) : UpC st s := by
  unfold aBox at h
  rw [ite_some] at h
  obtain ⟨_, h⟩ := h
  simp [newBlk] at h; obtain ⟨_, rfl⟩ := h; exact .app rfl rfl

theorem store_up {n : Nat} {p v : Value} {st s : AS} (h : aStore n st p v = some s) : UpC st s := by
  unfold aStore at h
  split at h
  · rw [ite_some] at h
    exact storeL_up h.2
  · simp at h

/-- a callee tells what it let escape -/
def CUp (C : Callee) : Prop := ∀ (f : FuncId) (args : List Value) (H : List Blk) (v : Value) (H' : List Blk) (e : Option Nat), C f args H = some (v, H', e) → Up H H' e ∧ H.length ≤ H'.length

theorem call_up {C : Callee} (hC : CUp C) {f : FuncId} {args : List Value} {v : Value} {st : AS} {H' : List Blk} {e : Option Nat} (h : C f args st.H = some (v, H', e)) : UpC st ⟨H', joinEsc st.esc e⟩ := by
  obtain ⟨h1, h2⟩ := hC _ _ _ _ _ _ h
  refine ⟨fun b k r hb hk hr hlt => ?_, ?_, h2⟩
  · rcases h1 b k r hb hk hr hlt with h3 | ⟨m, h3, h4⟩
    · exact .inl h3
    · subst h3
      obtain ⟨m', h5, h6⟩ := minO_le st.esc m
      exact .inr ⟨m', h5, Nat.le_trans h6 h4⟩
  · cases e with
    | none => exact .refl _
    | some m => exact minO_esc _ _

section
variable {R : Type} {P : Program}
open Classical in
/-- what comes behind an operation may ask for it -/
theorem eop_guard {C : Callee} (hC : CUp C) {o : Oper} {fr : List Value} {st : AS} {k : Value → AS → Option R} {r : R} (h : eop P C fr st o k = some r) :
    eop P C fr st o (fun v s => if UpC st s then k v s else none) = some r := by
  have hr : UpC st st := .refl _
  have pure1 : ∀ (x : Option Value), x.bind (k · st) = some r → x.bind (fun v => if UpC st st then k v st else none) = some r := by
    intro x hx
    cases x with
    | none => simp at hx
    | some v => simpa [hr] using hx
  have two : ∀ (x : Option (Value × AS)), (∀ v s, x = some (v, s) → UpC st s) → (x.bind fun r => k r.1 r.2) = some r → (x.bind fun r => if UpC st r.2 then k r.1 r.2 else none) = some r := by
    intro x hu hx
    cases x with
    | none => simp at hx
    | some v => simpa [hu v.1 v.2 rfl] using hx
  have one : ∀ (x : Option AS) (v : Value), (∀ s, x = some s → UpC st s) → (x.bind fun s => k v s) = some r → (x.bind fun s => if UpC st s then k v s else none) = some r := by
    intro x v hu hx
    cases x with
    | none => simp at hx
    | some s => simpa [hu s rfl] using hx
  cases hop : o.op <;> simp only [eop, hop] at h ⊢
  case move x => rw [if_pos hr]; exact h
  case assign x => rw [if_pos hr]; exact h
  case pick c a b => exact pure1 _ h
  case alloc elem =>
    obtain ⟨z, hz, h⟩ := Option.bind_eq_some_iff.1 h
    rw [hz]; simp only [Option.bind_some]
    rw [ite_some] at h
    rw [if_pos h.1]
    exact two _ (fun v s hs => box_up hs) h.2
  case box elem x => exact two _ (fun v s hs => box_up hs) h
  case build t parts => exact pure1 _ h
  case buildSlice t n parts => exact two _ (fun v s hs => (frz_up 0 8 _ st).trans (buildSlice_up hs)) h
  case load t a =>
    cases h1 : isAggP P t with
    | none => simp [h1] at h
    | some g =>
      cases h2 : sizeP P t with
      | none => simp [h1, h2] at h
      | some n => simp only [h1, h2] at h ⊢; exact pure1 _ h
  case store t a x =>
    cases h2 : sizeP P t with
    | none => simp [h2] at h
    | some n => simp only [h2] at h ⊢; exact one _ _ (fun s hs => store_up hs) h
  case nilCheck x => exact pure1 _ h
  case binOp op t x y u => exact pure1 _ h
  case unOp op t x => exact pure1 _ h
  case convert s d x => exact two _ (fun v s hs => conv_up hs) h
  case makeFunc fn a b => split at h <;> first | (rw [if_pos hr]; exact h) | (simp at h)
  case makeMap t x =>
    cases x with
    | none => simp only at h ⊢; rw [if_pos (.app rfl rfl)]; exact h
    | some x => simp at h
  case makeSlice t l c => exact two _ (fun v s hs => makeSlice_up hs) h
  case slice t x lo hi mx => exact pure1 _ h
  case fieldAddr s x f => exact pure1 _ h
  case field t x f => exact pure1 _ h
  case indexAddr t x ix => exact pure1 _ h
  case index t x ix =>
    rw [ite_some] at h
    rw [if_pos h.1]
    exact pure1 _ h.2
  case lookup t m ky ok => exact pure1 _ h
  case mapUpdate t m ky x => exact one _ _ (fun s hs => mapUpdate_up hs) h
  case insert t m ky x => exact one _ _ (fun s hs => mapUpdate_up hs) h
  case sliceToArrayPointer t x => exact pure1 _ h
  case range t x => exact two _ (fun v s hs => range_up hs) h
  case entry x => exact pure1 _ h
  case extract t ix => exact pure1 _ h
  case call c =>
    cases hcal : c.callee with
    | value f =>
      simp only [hcal] at h ⊢
      obtain ⟨g, hg, h⟩ := Option.bind_eq_some_iff.1 h
      obtain ⟨⟨v, H', e'⟩, hcall, h⟩ := Option.bind_eq_some_iff.1 h
      rw [hg]; simp only [Option.bind_some]
      rw [hcall]; simp only [Option.bind_some]
      rw [if_pos (call_up hC hcall)]; exact h
    | builtin b =>
      simp only [hcal] at h ⊢
      unfold eBuiltin at h ⊢
      split at h
      · obtain ⟨t, ht, h⟩ := Option.bind_eq_some_iff.1 h
        rw [ht]; exact pure1 _ h
      · exact two _ (fun v s hs => append_up hs) h
      · exact two _ (fun v s hs => copy_up hs) h
      · exact one _ _ (fun s hs => delete_up hs) h
      · exact pure1 _ h
      · exact pure1 _ h
      · simp at h
    | invoke a m => simp [hcal] at h
  all_goals (simp at h)

end
end Go.Am
