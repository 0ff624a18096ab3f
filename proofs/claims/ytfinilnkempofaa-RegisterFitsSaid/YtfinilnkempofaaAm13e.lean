/- Blocks that are made in no order with a call. -/
import Derived.Test.YtfinilnkempofaaAm13d
set_option linter.all false
set_option linter.unusedVariables false
set_option linter.unusedSimpArgs false
set_option linter.unnecessarySimpa false
namespace Go.Am

section
variable {P : Program}

/-! ### The block, and the operation that makes it -/

/-- the model's block -/
def objOf : Blk → Obj
  | .cells cs e _ => .cells cs.toArray e
  | .map _ c => .map #[] c
  | .iter _ a _ c => .mapIter none a #[] c
  | .dead => .map #[] 0

/-- what is known of a block that is made of literals -/
structure LateF (P : Program) (kb : Blk) (mk : Nat → Value) : Prop where
  owns : kb.owns = true
  brel : ∀ ρ sh, BRel P ρ sh kb 0 (objOf kb)
  vrel : ∀ (ρ : Ren) sh n cb, ρ n = some (cb, 0) → VRel P ρ sh (mk n) (mk cb)

theorem frz_lit {n0 k : Nat} {v : Value} {H : List Blk} (h : litV v = true) : frz P n0 k v H = (v, H) := by
  cases k with
  | zero => rfl
  | succ k => cases v <;> simp_all [frz, litV]

theorem frzL_lit {n0 k : Nat} : ∀ (l : List Value) (H : List Blk), l.all litV = true → frzL (frz P n0 k) l H = (l, H)
  | [], _, _ => rfl
  | v :: vs, H, h => by
    simp only [List.all_cons, Bool.and_eq_true] at h
    simp only [frzL, frz_lit h.1, frzL_lit vs H h.2]

theorem litV_plain {v : Value} (h : litV v = true) : plain v = true ∧ allCells v.cells.toList = true := by
  cases v <;> simp_all [litV, plain, allCells, cellV, Value.cells]

theorem litV_plainL {l : List Value} (h : l.all litV = true) : plainL l = true := by
  induction l with
  | nil => rfl
  | cons x xs ih =>
    simp only [List.all_cons, Bool.and_eq_true] at h
    simp [plainL, (litV_plain h.1).1, ih h.2]

theorem aBuildSlice_any {t : TypeId} {len : Nat} {l : List (Nat × Value)} {st s : AS} {v : Value} (h : aBuildSlice P t len l st = some (v, s)) :
    ∃ elem size zero cells, P.underlying t = some (.slice elem) ∧ sizeP P elem = some size ∧ zeroP P elem = some zero ∧ len * size ≤ 16777216 ∧ 0 < size ∧ zero.cells.size = size ∧ (l.all fun p => allCells p.2.cells.toList) = true ∧ allCells zero.cells.toList = true ∧ plainL zero.cells.toList = true ∧
      Instr.fill (fun i => some (i * size, size)) ((Array.range (len * size)).map (zero.cells[· % zero.cells.size]!)) l = some cells ∧
      (∀ st', aBuildSlice P t len l st' = some (.slice (some ⟨st'.H.length, 0, none⟩) len len, newBlk st' (.cells cells.toList elem true))) := by
  unfold aBuildSlice at h
  split at h
  case h_2 => simp at h
  rename_i elem hu
  split at h
  case h_2 => simp at h
  rename_i size zero hsz hz
  rw [ite_some] at h
  obtain ⟨hc, h⟩ := h
  split at h
  case h_2 => simp at h
  rename_i cells hfill
  refine ⟨elem, size, zero, cells, hu, hsz, hz, hc.1, hc.2.1, hc.2.2.1, hc.2.2.2.1, hc.2.2.2.2.1, hc.2.2.2.2.2, hfill, fun st' => ?_⟩
  unfold aBuildSlice
  simp only [hu, hsz, hz]
  rw [if_pos hc, hfill]
  rfl

/-- what the machine makes of it, wherever it is asked -/
theorem lateOk_eop {R : Type} {C : Callee} {o : Oper} {fr : List Value} {st : AS} {k : Value → AS → Option R} {r : R} (hl : lateOk P fr o = true) (h : eop P C fr st o k = some r) :
    ∃ kb mk, lateK P fr o = some (kb, mk) ∧ k (mk st.H.length) (newBlk st kb) = some r := by
  cases hop : o.op <;> simp only [lateOk, hop] at hl <;> simp only [eop, hop] at h <;> try (simp at hl; done)
  case alloc elem =>
    obtain ⟨z, hz, h⟩ := Option.bind_eq_some_iff.1 h
    rw [ite_some] at h
    obtain ⟨hpl, h⟩ := h
    obtain ⟨⟨v, s⟩, hv, h⟩ := Option.bind_eq_some_iff.1 h
    unfold aBox at hv
    rw [ite_some] at hv
    obtain ⟨hac, hv⟩ := hv
    simp [newPtr] at hv; obtain ⟨rfl, rfl⟩ := hv
    refine ⟨.cells z.cells.toList elem true, fun n => .pointer (some ⟨n, 0, none⟩), ?_, h⟩
    simp only [lateK, hop, hz]
    rw [if_pos ⟨hpl, hac⟩]
  case makeMap t x =>
    cases x with
    | none => exact ⟨.map [] 0, fun n => .map (some n), by simp only [lateK, hop], h⟩
    | some x => simp at hl
  case buildSlice t len parts =>
    simp only [Bool.and_eq_true, decide_eq_true_eq] at hl
    rw [frzL_lit _ _ hl.1] at h
    obtain ⟨⟨v, s⟩, hv, h⟩ := Option.bind_eq_some_iff.1 h
    obtain ⟨elem, size, zero, cells, _, _, _, _, _, _, _, _, _, _, hall⟩ := aBuildSlice_any hv
    rw [hall] at hv
    simp only [Option.some.injEq, Prod.mk.injEq] at hv
    obtain ⟨rfl, rfl⟩ := hv
    refine ⟨.cells cells.toList elem true, fun n => .slice (some ⟨n, 0, none⟩) len len, ?_, h⟩
    simp only [lateK, hop]
    rw [if_pos hl, hall]
    rfl

theorem lateK_fine {o : Oper} {fr : List Value} {kb : Blk} {mk : Nat → Value} (h : lateK P fr o = some (kb, mk)) : LateF P kb mk := by
  cases hop : o.op <;> simp only [lateK, hop] at h <;> try (simp at h; done)
  case alloc elem =>
    split at h
    case h_2 => simp at h
    rename_i z hz
    rw [ite_some] at h
    obtain ⟨⟨hpl, hac⟩, h⟩ := h
    simp only [Option.some.injEq, Prod.mk.injEq] at h
    obtain ⟨rfl, rfl⟩ := h
    refine ⟨rfl, fun ρ sh => ⟨_, (0, 0), rfl, ?_, fun _ => .inl rfl, hac⟩, fun ρ sh n cb hr => .ptr (base := 0) (o := 0) hr⟩
    simp only [List.drop_zero]
    rw [List.take_of_length_le (by simp)]
    exact .refl_plain hpl
  case makeMap t x =>
    cases x with
    | none =>
      simp only [Option.some.injEq, Prod.mk.injEq] at h
      obtain ⟨rfl, rfl⟩ := h
      exact ⟨rfl, fun ρ sh => ⟨rfl, #[], rfl, rfl, fun i e he => by simp at he⟩, fun ρ sh n cb hr => .map hr⟩
    | some x => simp at h
  case buildSlice t len parts =>
    rw [ite_some] at h
    obtain ⟨⟨hlit, hlen⟩, h⟩ := h
    split at h
    case h_2 => simp at h
    rename_i v k e hb
    obtain ⟨elem, size, zero, cells, hu, hsz, hz, hle, hpos, hzs, hac, hzac, hzp, hfill, hall⟩ := aBuildSlice_any hb
    rw [hall] at hb
    simp only [Option.some.injEq, Prod.mk.injEq] at hb h
    obtain ⟨_, hb⟩ := hb
    have hk : k = .cells cells.toList elem true := by
      have := congrArg AS.H hb
      simp [newBlk] at this
      exact this.symm
    obtain ⟨rfl, rfl⟩ := h
    subst hk
    refine ⟨rfl, fun ρ sh => ⟨_, (0, 0), rfl, ?_, fun _ => .inl rfl, ?_⟩, fun ρ sh n cb hr => .slice (base := 0) (o := 0) hr (fun _ => rfl) (Nat.le_refl _) (fun he => absurd he (by omega))⟩
    · simp only [List.drop_zero]
      rw [List.take_of_length_le (by simp)]
      have hzc : plainL ((Array.range (len * size)).map (zero.cells[· % zero.cells.size]!)).toList = true := by
        have hpl : ∀ l : List Value, plainL l = true ↔ ∀ v ∈ l, plain v = true := by
          intro l; induction l with
          | nil => simp [plainL]
          | cons x xs ih => simp [plainL, ih]
        refine (hpl _).2 fun v hv => ?_
        simp only [Array.toList_map, List.mem_map] at hv
        obtain ⟨i, _, rfl⟩ := hv
        have hlt : i % zero.cells.size < zero.cells.size := Nat.mod_lt _ (by omega)
        have e2 : zero.cells[i % zero.cells.size]! = zero.cells[i % zero.cells.size] := getElem!_pos zero.cells _ hlt
        rw [e2]
        exact (hpl _).1 hzp _ (by simp)
      have hpv : plainL (((parts.toList.map (·.1)).zip (parts.toList.map fun p => ev fr p.2)).map (·.2)) = true := by
        have : ((parts.toList.map (·.1)).zip (parts.toList.map fun p => ev fr p.2)).map (·.2) = parts.toList.map fun p => ev fr p.2 := by
          rw [List.map_snd_zip]; simp
        rw [this]; exact litV_plainL hlit
      obtain ⟨r', hr', hL⟩ := fill_rel (P := P) (ρ := ρ) (sh := sh) _ _ _ _ _ cells rfl (.refl_plain hpv) hac (.refl_plain hzc) hfill
      rw [hfill] at hr'
      simp at hr'; subst hr'
      simpa using hL
    · have := (rfl : True = True)
      exact fill_cells _ _ _ _ hac (by
        unfold allCells at *
        rw [List.all_eq_true] at *
        intro v hv
        simp only [Array.toList_map, List.mem_map] at hv
        obtain ⟨i, _, rfl⟩ := hv
        have hlt : i % zero.cells.size < zero.cells.size := Nat.mod_lt _ (by omega)
        have e2 : zero.cells[i % zero.cells.size]! = zero.cells[i % zero.cells.size] := getElem!_pos zero.cells _ hlt
        rw [e2]
        exact hzac _ (by simp)) hfill
where
  fill_cells (place : Nat → Option (Nat × Nat)) (ps : List (Nat × Value)) (cs r : Array Value) (h1 : (ps.all fun p => allCells p.2.cells.toList) = true) (h2 : allCells cs.toList = true) (h3 : Instr.fill place cs ps = some r) : allCells r.toList = true := by
    induction ps generalizing cs with
    | nil => simp [Instr.fill] at h3; subst h3; exact h2
    | cons p ps ih =>
      obtain ⟨i, v⟩ := p
      simp only [List.all_cons, Bool.and_eq_true] at h1
      simp only [Instr.fill] at h3
      split at h3
      · simp at h3
      · split at h3
        · simp at h3
        · refine ih _ h1.2 ?_ h3
          rw [fold_arr]
          have fold : ∀ (l : List Value) (k off : Nat) (cs : Array Value), allCells l = true → allCells cs.toList = true → allCells ((l.zipIdx k).foldl (fun cs x => cs.setIfInBounds (off + x.2) x.1) cs).toList = true := by
            intro l
            induction l with
            | nil => intro k off cs _ h; simpa using h
            | cons x xs ih =>
              intro k off cs hl hc
              simp only [allCells, List.all_cons, Bool.and_eq_true] at hl
              simp only [List.zipIdx_cons, List.foldl_cons]
              refine ih _ _ _ (by simpa [allCells] using hl.2) ?_
              unfold allCells at *
              rw [List.all_eq_true] at *
              intro y hy
              rw [Array.toList_setIfInBounds] at hy
              rcases List.mem_or_eq_of_mem_set hy with hy | rfl
              · exact hc y hy
              · exact hl.1
          exact fold _ _ _ _ h1.1 h2

/-- what the model makes of it -/
theorem lateK_run {o : Oper} {fr : List Value} {kb : Blk} {mk : Nat → Value} {ρ : Ren} {sh : Sh} {a : Act} {w : World} (h : lateK P fr o = some (kb, mk)) (hfr : LRel P ρ sh fr a.tmps.toList) :
    (execOp a.eval o).run P w = .ok (.value (mk w.heap.size)) (w.alloc (objOf kb)) := by
  cases hop : o.op <;> simp only [lateK, hop] at h <;> try (simp at h; done)
  case alloc elem =>
    split at h
    case h_2 => simp at h
    rename_i z hz
    rw [ite_some] at h
    obtain ⟨⟨hpl, hac⟩, h⟩ := h
    simp only [Option.some.injEq, Prod.mk.injEq] at h
    obtain ⟨rfl, rfl⟩ := h
    simp [execOp, hop, Instr.alloc, run_zeroP hz, newVar, newRow, objOf]
  case makeMap t x =>
    cases x with
    | none =>
      simp only [Option.some.injEq, Prod.mk.injEq] at h
      obtain ⟨rfl, rfl⟩ := h
      simp [execOp, hop, Instr.makeMap, objOf]
    | some x => simp at h
  case buildSlice t len parts =>
    rw [ite_some] at h
    obtain ⟨⟨hlit, hlen⟩, h⟩ := h
    split at h
    case h_2 => simp at h
    rename_i v k e hb
    obtain ⟨elem, size, zero, cells, hu, hsz, hz, hle, hpos, hzs, hac, hzac, hzp, hfill, hall⟩ := aBuildSlice_any hb
    rw [hall] at hb
    simp only [Option.some.injEq, Prod.mk.injEq] at hb h
    obtain ⟨_, hb⟩ := hb
    have hk : k = .cells cells.toList elem true := by
      have := congrArg AS.H hb
      simp [newBlk] at this
      exact this.symm
    obtain ⟨rfl, rfl⟩ := h
    subst hk
    have hev : ∀ p ∈ parts.toList, a.eval p.2 = ev fr p.2 := by
      intro p hp
      refine ((ev_rel hfr p.2).eq_of_plain (litV_plain ?_).1)
      rw [List.all_eq_true] at hlit
      exact hlit _ (List.mem_map.2 ⟨p, hp, rfl⟩)
    have e0 : (parts.toList.map (·.1)).zip (parts.toList.map fun p => ev fr p.2) = parts.toList.map fun p => (p.1, a.eval p.2) := by
      have : ∀ l : List (Nat × Operand), (∀ p ∈ l, a.eval p.2 = ev fr p.2) → (l.map (·.1)).zip (l.map fun p => ev fr p.2) = l.map fun p => (p.1, a.eval p.2) := by
        intro l
        induction l with
        | nil => intro _; rfl
        | cons x xs ih => intro h; simp only [List.map_cons, List.zip_cons_cons, ih (fun p hp => h p (by simp [hp])), h x (by simp)]
      exact this _ hev
    rw [e0] at hfill
    have e1 : (parts.map (fun x => (x.1, a.eval x.2))).toList = parts.toList.map fun p => (p.1, a.eval p.2) := by simp
    by_cases h0 : len * size = 0
    · have r0 : Array.range 0 = #[] := by simp
      simp only [execOp, hop, Instr.buildSlice, Sem.run_bind, run_underlying hu, Result.andThen_ok, run_sizeP hsz]
      rw [if_neg (by omega)]
      rw [h0, r0, Array.map_empty] at hfill
      simp only [Sem.run_bind, Sem.run_pure, Result.andThen_ok, h0, if_true, e1, r0, Array.map_empty]
      simp [hfill, newRow, objOf]
    · simp only [execOp, hop, Instr.buildSlice, Sem.run_bind, run_underlying hu, Result.andThen_ok, run_sizeP hsz]
      rw [if_neg (by omega)]
      simp only [Sem.run_bind, Sem.run_pure, Result.andThen_ok, h0, if_false, run_zeroP hz, e1]
      simp [hfill, newRow, objOf]

end
end Go.Am
