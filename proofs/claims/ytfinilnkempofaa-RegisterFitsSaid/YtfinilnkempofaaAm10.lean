/- One operation, a region. -/
import Derived.Test.YtfinilnkempofaaAm9g
set_option linter.all false
set_option linter.unusedVariables false
set_option linter.unusedSimpArgs false
set_option linter.unnecessarySimpa false
namespace Go.Am

section
variable {P : Program} {ρ ρ' : Ren} {H : List Blk} {w : World}

/-- a callee's word holds of the model -/
def CSound (P : Program) (C : Callee) : Prop := ∀ (f : FuncId) (args : List Value) (H : List Blk) (v : Value) (H' : List Blk) (e : Option Nat) (ρ : Ren) (w : World) (cargs : Array Value),
  C f args H = some (v, H', e) → Rel P ρ H w → LRel P ρ w.shape? args cargs.toList → Calls P f cargs w fun en w' => ∃ cv, en = .returned cv ∧ Out P H.length ρ H w H' v cv w'

/-- what was there when the call began stands as it stood -/
structure Kept (w w' : World) : Prop where
  os : w'.os = w.os
  output : w'.output = w.output
  block : ∀ k, k < w.heap.size → w'.heap[k]? = w.heap[k]?

/-- a function without arguments that says true whatever, and leaves all as it was -/
def Lives (P : Program) (f : FuncId) : Prop := ∀ w, Calls P f #[] w fun e w' => e = .returned (.bool true) ∧ Kept w w'

theorem ev_rel {sh : Sh} {fr : List Value} {a : Act} (hfr : LRel P ρ sh fr a.tmps.toList) (x : Operand) : VRel P ρ sh (ev fr x) (a.eval x) := by
  cases x with
  | tmp t =>
    have := hfr.getD t undef
    simpa [ev, Act.eval] using this
  | const v =>
    simp only [ev, Act.eval]
    split
    · rename_i h; exact .same _ h
    · exact .any _
  | global g => exact .any _
  | func f => exact .same _ rfl

theorem evs_rel {sh : Sh} {fr : List Value} {a : Act} (hfr : LRel P ρ sh fr a.tmps.toList) (l : List Operand) : LRel P ρ sh (l.map (ev fr)) (l.map a.eval) := by
  induction l with
  | nil => exact .nil
  | cons x xs ih => exact .cons (ev_rel hfr x) ih

theorem evo_rel {sh : Sh} {fr : List Value} {a : Act} (hfr : LRel P ρ sh fr a.tmps.toList) (x : Option Operand) : ORel P ρ sh (x.map (ev fr)) (x.map a.eval) := by
  cases x with
  | none => exact ⟨fun v h => by simp at h, fun _ => rfl⟩
  | some x => exact ⟨fun v h => by simp at h; subst h; exact ⟨_, rfl, ev_rel hfr x⟩, fun h => by simp at h⟩

theorem LRel.snoc {sh : Sh} {l l' : List Value} {v v' : Value} (h : LRel P ρ sh l l') (hv : VRel P ρ sh v v') : LRel P ρ sh (l ++ [v]) (l' ++ [v']) := h.append (.cons hv .nil)

theorem Out.same (h : Rel P ρ H w) {v cv : Value} (hv : VRel P ρ w.shape? v cv) : Out P H.length ρ H w H v cv w := ⟨⟨ρ, h, .refl _, hv⟩, Nat.le_refl _⟩

theorem Out.of {n : Nat} {H' : List Blk} {w' : World} {v cv : Value} (h : Rel P ρ' H' w') (hs : Step n ρ H w ρ' H' w') (hv : VRel P ρ' w'.shape? v cv) (hn : n ≤ H'.length) : Out P n ρ H w H' v cv w' := ⟨⟨ρ', h, hs, hv⟩, hn⟩

theorem minmax_run (isMax : Bool) : ∀ (l : List Value) (k : IntKind) (x : Int) (v : Value), l.foldlM (init := Value.int k x) (fun a b => match a, b with
    | .int k x, .int k' y => if k = k' then some (.int k (if isMax then (if y > x then y else x) else (if y < x then y else x))) else none
    | _, _ => none) = some v → (∃ k n, v = .int k n) ∧ ∀ w : World, (l.foldlM (if isMax then Builtin.max2 else Builtin.min2) (Value.int k x)).run P w = .ok v w
  | [], k, x, v, h => by simp at h; subst h; exact ⟨⟨_, _, rfl⟩, fun w => by simp⟩
  | y :: l, k, x, v, h => by
    simp only [List.foldlM_cons] at h
    cases y with
    | int k' y =>
      by_cases hk : k = k'
      · subst hk
        simp only [if_true] at h
        have ih := minmax_run isMax l k _ v (by simpa using h)
        refine ⟨ih.1, fun w => ?_⟩
        simp only [List.foldlM_cons, Sem.run_bind]
        have e : (if isMax = true then Builtin.max2 else Builtin.min2) (.int k x) (.int k y) = pure (.int k (if isMax then (if y > x then y else x) else (if y < x then y else x))) := by
          cases isMax <;> simp [Builtin.max2, Builtin.min2]
        rw [e]
        simp only [Sem.run_pure, Result.andThen_ok]
        exact ih.2 w
      · simp [hk] at h
    | _ => simp at h

theorem minmax_sound {sh : Sh} (isMax : Bool) {l l' : List Value} {v : Value} (h : aMinMax isMax l = some v) (hl : LRel P ρ sh l l') :
    ∃ cv, (∀ w (at_ : Array TypeId) (ty : TypeId), (if isMax then Builtin.max_ at_ ty l'.toArray else Builtin.min_ at_ ty l'.toArray).run P w = .ok cv w) ∧ VRel P ρ sh v cv := by
  cases l with
  | nil => simp [aMinMax] at h
  | cons x rest =>
    cases x with
    | int k x =>
      simp only [aMinMax] at h
      have := minmax_run (P := P) isMax rest k x v h
      have hp : plainL (Value.int k x :: rest) = true := by
        have : ∀ (l : List Value) (k : IntKind) (x : Int), (∃ v, l.foldlM (init := Value.int k x) (fun a b => match a, b with
            | .int k x, .int k' y => if k = k' then some (.int k (if isMax then (if y > x then y else x) else (if y < x then y else x))) else none
            | _, _ => none) = some v) → plainL l = true := by
          intro l
          induction l with
          | nil => intro _ _ _; rfl
          | cons y l ih =>
            intro k x ⟨v, hv⟩
            simp only [List.foldlM_cons] at hv
            cases y with
            | int k' y =>
              by_cases hk : k = k'
              · subst hk
                simp only [if_true] at hv
                simp only [plainL, plain, Bool.true_and]
                exact ih _ _ ⟨v, by simpa using hv⟩
              · simp [hk] at hv
            | _ => simp at hv
        simp only [plainL, plain, Bool.true_and]
        exact this rest k x ⟨v, h⟩
      have := hl.eq_of_plain hp
      subst this
      obtain ⟨⟨k', n, rfl⟩, hrun⟩ := this
      refine ⟨.int k' n, fun w at_ ty => ?_, .same _ rfl⟩
      have := hrun w
      cases isMax with
      | true => simpa [Builtin.max_] using this
      | false => simpa [Builtin.min_] using this
    | _ => simp [aMinMax] at h

theorem list2 {l : List Operand} {f : Operand → Value} {x y : Value} (h : l.map f = [x, y]) : ∃ p q, l = [p, q] ∧ f p = x ∧ f q = y := by
  match l, h with
  | [p, q], h => simp at h; exact ⟨p, q, rfl, h.1, h.2⟩
theorem list1 {l : List Operand} {f : Operand → Value} {x : Value} (h : l.map f = [x]) : ∃ p, l = [p] ∧ f p = x := by
  match l, h with
  | [p], h => simp at h; exact ⟨p, rfl, h⟩

theorem arr_of_list {α : Type} {a : Array α} {l : List α} (h : a.toList = l) : a = l.toArray := by subst h; simp

variable {R : Type}

theorem eBuiltin_sound {b : Builtin} {argTypes : Array TypeId} {args : Array Operand} {ty : TypeId} {consts : Array Bool} {fr : List Value} {st : AS} {a : Act} {k : Value → AS → Option R} {r : R}
    (hfr : LRel P ρ w.shape? fr a.tmps.toList) (hrel : Rel P ρ st.H w) (h : eBuiltin P b argTypes (args.toList.map (ev fr)) st k = some r) :
    ∃ v s cv w', k v s = some r ∧ (builtin b argTypes ty consts (args.map a.eval)).run P w = .ok (.value cv) w' ∧ Out P st.H.length ρ st.H w s.H v cv w' := by
  obtain ⟨H, e⟩ := st
  unfold eBuiltin at h
  split at h
  · rename_i x hargs
    obtain ⟨p, hp, rfl⟩ := list1 hargs
    have := arr_of_list hp; subst this
    obtain ⟨t, ht, h⟩ := Option.bind_eq_some_iff.1 h
    obtain ⟨v, hv, h⟩ := Option.bind_eq_some_iff.1 h
    obtain ⟨cv, hrun, hr⟩ := len_sound (ty := ty) hrel ht hv (ev_rel hfr p)
    exact ⟨v, _, cv, w, h, by simp [builtin, hrun], .same hrel hr⟩
  · rename_i x y hargs
    obtain ⟨p, q, hp, rfl, rfl⟩ := list2 hargs
    have := arr_of_list hp; subst this
    obtain ⟨⟨v, s⟩, hv, h⟩ := Option.bind_eq_some_iff.1 h
    obtain ⟨cv, w', hrun, ho⟩ := append_sound (ty := ty) hrel hv (ev_rel hfr p) (ev_rel hfr q)
    exact ⟨v, s, cv, w', h, by simp [builtin, hrun], ho⟩
  · rename_i x y hargs
    obtain ⟨p, q, hp, rfl, rfl⟩ := list2 hargs
    have := arr_of_list hp; subst this
    obtain ⟨⟨v, s⟩, hv, h⟩ := Option.bind_eq_some_iff.1 h
    obtain ⟨cv, w', hrun, ho⟩ := copy_sound (ty := ty) hrel hv (ev_rel hfr p) (ev_rel hfr q)
    exact ⟨v, s, cv, w', h, by simp [builtin, hrun], ho⟩
  · rename_i x y hargs
    obtain ⟨p, q, hp, rfl, rfl⟩ := list2 hargs
    have := arr_of_list hp; subst this
    obtain ⟨s, hv, h⟩ := Option.bind_eq_some_iff.1 h
    obtain ⟨w', hrun, h1, h2, h3⟩ := delete_sound (ty := ty) hrel hv (ev_rel hfr p) (ev_rel hfr q)
    exact ⟨_, s, .tuple #[], w', h, by simp [builtin, hrun], .of h1 h2 (.same _ rfl) (by rw [h3]; exact Nat.le_refl _)⟩
  · obtain ⟨v, hv, h⟩ := Option.bind_eq_some_iff.1 h
    obtain ⟨cv, hrun, hr⟩ := minmax_sound true hv (evs_rel hfr args.toList)
    have := hrun w argTypes ty
    have e1 : (args.toList.map a.eval).toArray = args.map a.eval := by apply Array.ext'; simp
    rw [e1] at this
    exact ⟨v, _, cv, w, h, by simp at this; simp [builtin, this], .same hrel hr⟩
  · obtain ⟨v, hv, h⟩ := Option.bind_eq_some_iff.1 h
    obtain ⟨cv, hrun, hr⟩ := minmax_sound false hv (evs_rel hfr args.toList)
    have := hrun w argTypes ty
    have e1 : (args.toList.map a.eval).toArray = args.map a.eval := by apply Array.ext'; simp
    rw [e1] at this
    exact ⟨v, _, cv, w, h, by simp at this; simp [builtin, this], .same hrel hr⟩
  · simp at h

theorem wp_of_value {o : Oper} {a : Act} {w w' : World} {next : Act → World → Prop} {Q : Exit → Act → World → Prop} {cv : Value} (hrun : (execOp a.eval o).run P w = .ok (.value cv) w') (hn : next (a.put o.dst cv) w') : o.wp P a w next Q := by
  unfold Oper.wp; rw [hrun]; exact hn

theorem wp_of_skip {o : Oper} {a : Act} {w w' : World} {next : Act → World → Prop} {Q : Exit → Act → World → Prop} (hrun : (execOp a.eval o).run P w = .ok .skip w') (hn : next (a.put o.dst undef) w') : o.wp P a w next Q := by
  unfold Oper.wp; rw [hrun]; exact hn

theorem parts_list {sh : Sh} {fr : List Value} {a : Act} (hfr : LRel P ρ sh fr a.tmps.toList) (parts : Array (Nat × Operand)) :
    (parts.toList.map fun p => (p.1, ev fr p.2)).map (·.1) = (parts.toList.map fun p => (p.1, a.eval p.2)).map (·.1) ∧
    LRel P ρ sh ((parts.toList.map fun p => (p.1, ev fr p.2)).map (·.2)) ((parts.toList.map fun p => (p.1, a.eval p.2)).map (·.2)) := by
  refine ⟨by simp, ?_⟩
  have := evs_rel hfr (parts.toList.map (·.2))
  simpa only [List.map_map, Function.comp_def] using this

theorem eop_sound {C : Callee} (hC : CSound P C) {o : Oper} {fr : List Value} {st : AS} {a : Act} {k : Value → AS → Option R} {r : R} {next : Act → World → Prop} {Q : Exit → Act → World → Prop}
    (hfr : LRel P ρ w.shape? fr a.tmps.toList) (hrel : Rel P ρ st.H w) (h : eop P C fr st o k = some r)
    (hk : ∀ v s cv w', k v s = some r → Out P st.H.length ρ st.H w s.H v cv w' → next (a.put o.dst cv) w') : o.wp P a w next Q := by
  obtain ⟨H, e⟩ := st
  simp only at hrel hk
  unfold eop at h
  split at h
  -- move
  · rename_i x hop
    exact wp_of_value (by simp [execOp, hop]) (hk _ _ _ _ h (.same hrel (ev_rel hfr x)))
  · rename_i x hop
    exact wp_of_value (by simp [execOp, hop]) (hk _ _ _ _ h (.same hrel (ev_rel hfr x)))
  -- pick
  · rename_i c x y hop
    have hc := ev_rel hfr c
    obtain ⟨v, hv, h⟩ := Option.bind_eq_some_iff.1 h
    unfold aPick at hv
    split at hv
    · rename_i he; rw [he] at hc; have := hc.bool_inv
      simp at hv; subst hv
      exact wp_of_value (by simp [execOp, hop, this, asBool]) (hk _ _ _ _ h (.same hrel (ev_rel hfr x)))
    · rename_i he; rw [he] at hc; have := hc.bool_inv
      simp at hv; subst hv
      exact wp_of_value (by simp [execOp, hop, this, asBool]) (hk _ _ _ _ h (.same hrel (ev_rel hfr y)))
    · simp at hv
  -- alloc
  · rename_i elem hop
    obtain ⟨z, hz, h⟩ := Option.bind_eq_some_iff.1 h
    rw [ite_some] at h
    obtain ⟨hpl, h⟩ := h
    obtain ⟨⟨v, s⟩, hv, h⟩ := Option.bind_eq_some_iff.1 h
    unfold aBox at hv
    rw [ite_some] at hv
    obtain ⟨hac, hv⟩ := hv
    simp [newPtr, newBlk] at hv; obtain ⟨rfl, rfl⟩ := hv
    have hrow := row_sound (extra := []) (own := true) hrel (e := elem) (LRel.refl_plain hpl) hac
    simp only [List.append_nil, Array.toArray_toList] at hrow
    refine wp_of_value (w' := w.alloc (.cells z.cells elem)) (cv := .pointer (some ⟨w.heap.size, 0, none⟩)) ?_ (hk _ _ _ _ h (.of hrow.1 hrow.2 (.ptr (upd_self _ _ _)) (by simp)))
    simp [execOp, hop, Instr.alloc, run_zeroP hz, newVar, newRow]
  -- box
  · rename_i elem x hop
    obtain ⟨⟨v, s⟩, hv, h⟩ := Option.bind_eq_some_iff.1 h
    obtain ⟨ρ', cpv, hrun, h1, h2, h3, h4⟩ := aBox_sound hrel hv (ev_rel hfr x)
    exact wp_of_value (by simp [execOp, hop, hrun]) (hk _ _ _ _ h (.of h1 h2 h4 h3))
  -- build
  · rename_i t parts hop
    obtain ⟨v, hv, h⟩ := Option.bind_eq_some_iff.1 h
    obtain ⟨cv, hrun, hr⟩ := aBuild_sound (parts_list hfr parts).1 (parts_list hfr parts).2 hv
    refine wp_of_value (cv := cv) (w' := w) ?_ (hk _ _ _ _ h (.same hrel hr))
    have e1 : parts.map (fun x => (x.1, a.eval x.2)) = (parts.toList.map fun p => (p.1, a.eval p.2)).toArray := by apply Array.ext'; simp
    have := hrun w
    rw [← e1] at this
    simp [execOp, hop, this]
  -- buildSlice
  · rename_i t len parts hop
    simp only at h
    have hps : LRel P ρ w.shape? (parts.toList.map fun p => ev fr p.2) (parts.toList.map fun p => a.eval p.2) := by
      have := (parts_list hfr parts).2
      simpa only [List.map_map, Function.comp_def] using this
    obtain ⟨ρ1, fa, hrel1, fs, fL, fn⟩ := frzL_sound (frz_sound 0 8) _ _ ρ H hrel hps
    have fl := frzL_len (f := frz P 0 8) (parts.toList.map fun p => ev fr p.2) H
    generalize hq : frzL (frz P 0 8) (parts.toList.map fun p => ev fr p.2) H = q at h hrel1 fs fL fn fl
    obtain ⟨⟨v, s⟩, hv, h⟩ := Option.bind_eq_some_iff.1 h
    rw [← fn] at hk
    replace hk : ∀ v s cv w', k v s = some r → Out P q.2.length ρ1 q.2 w s.H v cv w' → next (a.put o.dst cv) w' := fun v s cv w' h1 h2 => hk v s cv w' h1 (by
      obtain ⟨⟨ρ2, x1, x2, x3⟩, x4⟩ := h2
      exact ⟨⟨ρ2, x1, (fs.less (by omega)).trans x2, x3⟩, x4⟩)
    have hzm : ∀ (l : List (Nat × Operand)) (l2 : List Value), l2.length = l.length → ((l.map (·.1)).zip l2).map (·.1) = l.map (·.1) ∧ ((l.map (·.1)).zip l2).map (·.2) = l2 := by
      intro l
      induction l with
      | nil => intro l2 h; cases l2 with
        | nil => exact ⟨rfl, rfl⟩
        | cons _ _ => simp at h
      | cons x xs ih => intro l2 h; cases l2 with
        | nil => simp at h
        | cons y ys => have := ih ys (by simpa using h); exact ⟨by simp [this.1], by simp [this.2]⟩
    obtain ⟨hz1, hz2⟩ := hzm parts.toList q.1 (by simpa using fl)
    have hpl : ((parts.toList.map (·.1)).zip q.1).map (·.1) = (parts.toList.map fun p => (p.1, a.eval p.2)).map (·.1) ∧
        LRel P ρ1 w.shape? (((parts.toList.map (·.1)).zip q.1).map (·.2)) ((parts.toList.map fun p => (p.1, a.eval p.2)).map (·.2)) := by
      refine ⟨by rw [hz1]; simp, ?_⟩
      rw [hz2]
      simpa only [List.map_map, Function.comp_def] using fL
    unfold aBuildSlice at hv
    split at hv
    case h_2 => simp at hv
    rename_i elem hu
    split at hv
    case h_2 => simp at hv
    rename_i size zero hsz hz
    rw [ite_some] at hv
    obtain ⟨⟨hle, hpos, hzs, hac, hzac, hzp⟩, hv⟩ := hv
    split at hv
    case h_2 => simp at hv
    rename_i cells hfill
    simp [aRow, newBlk] at hv; obtain ⟨rfl, rfl⟩ := hv
    have hzc : plainL ((Array.range (len * size)).map (zero.cells[· % zero.cells.size]!)).toList = true ∧ allCells ((Array.range (len * size)).map (zero.cells[· % zero.cells.size]!)).toList = true := by
      have key : ∀ (p : Value → Bool), (∀ v ∈ zero.cells.toList, p v = true) → ∀ v ∈ ((Array.range (len * size)).map (zero.cells[· % zero.cells.size]!)).toList, p v = true := by
        intro p hp v hv
        simp only [Array.toList_map, List.mem_map] at hv
        obtain ⟨i, _, rfl⟩ := hv
        have hlt : i % zero.cells.size < zero.cells.size := Nat.mod_lt _ (by omega)
        have e2 : zero.cells[i % zero.cells.size]! = zero.cells[i % zero.cells.size] := getElem!_pos zero.cells _ hlt
        rw [e2]
        exact hp _ (by simp)
      have hpl : ∀ l : List Value, plainL l = true ↔ ∀ v ∈ l, plain v = true := by
        intro l; induction l with
        | nil => simp [plainL]
        | cons x xs ih => simp [plainL, ih]
      exact ⟨(hpl _).2 (key _ ((hpl _).1 hzp)), by unfold allCells at *; rw [List.all_eq_true] at *; exact key _ hzac⟩
    obtain ⟨r', hr', hL⟩ := fill_rel (P := P) (ρ := ρ1) (sh := w.shape?) _ _ _ _ _ cells hpl.1 hpl.2 hac (.refl_plain hzc.1) hfill
    have hcac : allCells cells.toList = true := by
      have : ∀ (place : Nat → Option (Nat × Nat)) (ps : List (Nat × Value)) (cs r : Array Value), (ps.all fun p => allCells p.2.cells.toList) = true → allCells cs.toList = true → Instr.fill place cs ps = some r → allCells r.toList = true := by
        intro place ps
        induction ps with
        | nil => intro cs r _ h1 h2; simp [Instr.fill] at h2; subst h2; exact h1
        | cons p ps ih =>
          obtain ⟨i, v⟩ := p
          intro cs r h1 h2 h3
          simp only [List.all_cons, Bool.and_eq_true] at h1
          simp only [Instr.fill] at h3
          split at h3
          · simp at h3
          · split at h3
            · simp at h3
            · refine ih _ _ h1.2 ?_ h3
              rw [fold_arr]
              have fold : ∀ (l : List Value) (k off : Nat) (cs : Array Value), allCells l = true → allCells cs.toList = true → allCells ((l.zipIdx k).foldl (fun cs x => cs.setIfInBounds (off + x.2) x.1) cs).toList = true := by
                intro l
                induction l with
                | nil => intro k off cs _ h; simpa using h
                | cons x xs ih =>
                  intro k off cs hl hc
                  simp only [allCells, List.all_cons, Bool.and_eq_true] at hl
                  simp only [List.zipIdx_cons, List.foldl_cons]
                  refine ih _ _ _ (by simpa [allCells] using hl.2) ?_
                  unfold allCells at *
                  rw [List.all_eq_true] at *
                  intro y hy
                  rw [Array.toList_setIfInBounds] at hy
                  rcases List.mem_or_eq_of_mem_set hy with hy | rfl
                  · exact hc y hy
                  · exact hl.1
              exact fold _ _ _ _ h1.1 h2
      exact this _ _ _ _ hac hzc.2 hfill
    have hrow := row_sound (extra := []) (own := true) hrel1 (e := elem) hL hcac
    simp only [List.append_nil, Array.toArray_toList] at hrow
    refine wp_of_value (w' := w.alloc (.cells r' elem)) (cv := .slice (some ⟨w.heap.size, 0, none⟩) len len) ?_ (hk _ _ _ _ h (.of hrow.1 hrow.2 ?_ (by simp)))
    · have e1 : (parts.map (fun x => (x.1, a.eval x.2))).toList = parts.toList.map fun p => (p.1, a.eval p.2) := by simp
      have hle' : ¬ (2 ^ 24 < len * size) := by omega
      by_cases h0 : len * size = 0
      · have r0 : Array.range 0 = #[] := by simp
        simp only [execOp, hop, Instr.buildSlice, Sem.run_bind, run_underlying hu, Result.andThen_ok, run_sizeP hsz]
        rw [if_neg (by omega)]
        rw [h0, r0, Array.map_empty] at hr'
        simp only [Sem.run_bind, Sem.run_pure, Result.andThen_ok, h0, if_true, e1, r0, Array.map_empty]
        simp [hr', newRow]
      · simp only [execOp, hop, Instr.buildSlice, Sem.run_bind, run_underlying hu, Result.andThen_ok, run_sizeP hsz]
        rw [if_neg (by omega)]
        simp only [Sem.run_bind, Sem.run_pure, Result.andThen_ok, h0, if_false, run_zeroP hz, e1]
        simp [hr', newRow]
    · refine .slice (base := 0) (o := 0) (upd_self _ _ _) (fun _ => rfl) (Nat.le_refl _) (fun he => ?_)
      exfalso; unfold UNK at he
      have : len ≤ len * size := Nat.le_mul_of_pos_right _ hpos
      omega
  -- load
  · rename_i t x hop
    split at h
    · rename_i g n hg hn
      obtain ⟨v, hv, h⟩ := Option.bind_eq_some_iff.1 h
      obtain ⟨cv, hrun, hr⟩ := aLoad_sound hrel hg hn hv (ev_rel hfr x)
      exact wp_of_value (by simp [execOp, hop, hrun]) (hk _ _ _ _ h (.same hrel hr))
    · simp at h
  -- store
  · rename_i t x y hop
    split at h
    · rename_i n hn
      obtain ⟨s, hv, h⟩ := Option.bind_eq_some_iff.1 h
      obtain ⟨w', hrun, h1, h2, h3⟩ := aStore_sound hrel hn hv (ev_rel hfr x) (ev_rel hfr y)
      exact wp_of_skip (by simp [execOp, hop, hrun]) (hk _ _ _ _ h (.of h1 h2 (.same _ rfl) (by rw [h3]; exact Nat.le_refl _)))
    · simp at h
  -- nilCheck
  · rename_i x hop
    have hx := ev_rel hfr x
    obtain ⟨v, hv, h⟩ := Option.bind_eq_some_iff.1 h
    unfold aNil at hv
    split at hv
    · rename_i ad he
      rw [he] at hx
      simp at hv; subst hv
      obtain ⟨cb, base, _, _, hcx⟩ := hx.ptr_inv
      exact wp_of_value (cv := a.eval x) (w' := w) (by simp [execOp, hop, hcx]) (hk _ _ _ _ h (.same hrel hx))
    · rename_i off row he
      rw [he] at hx
      simp at hv; subst hv
      obtain ⟨cb, base, _, _, hcx, _⟩ := hx.tptr_inv
      exact wp_of_value (cv := a.eval x) (w' := w) (by simp [execOp, hop, hcx]) (hk _ _ _ _ h (.same hrel hx))
    · rename_i f b c he
      rw [he] at hx
      simp at hv; subst hv
      obtain ⟨b', c', hcx, _, _⟩ := hx.func_inv
      exact wp_of_value (cv := a.eval x) (w' := w) (by simp [execOp, hop, hcx]) (hk _ _ _ _ h (.same hrel hx))
    · simp at hv
  -- binOp
  · rename_i op t x y u hop
    obtain ⟨v, hv, h⟩ := Option.bind_eq_some_iff.1 h
    obtain ⟨cv, hrun, hr⟩ := aBin_sound hv (ev_rel hfr x) (ev_rel hfr y)
    refine wp_of_value (cv := cv) (w' := w) ?_ (hk _ _ _ _ h (.same hrel hr))
    have := hrun w
    simp only [execOp, hop, Sem.run_bind] at this ⊢
    rw [this]; rfl
  -- unOp
  · rename_i op t x hop
    obtain ⟨v, hv, h⟩ := Option.bind_eq_some_iff.1 h
    obtain ⟨cv, hrun, hr⟩ := aUn_sound hv (ev_rel hfr x)
    exact wp_of_value (by simp [execOp, hop, hrun w]) (hk _ _ _ _ h (.same hrel hr))
  -- convert
  · rename_i s d x hop
    obtain ⟨⟨v, st'⟩, hv, h⟩ := Option.bind_eq_some_iff.1 h
    obtain ⟨cv, w', hrun, ho⟩ := conv_sound hrel hv (ev_rel hfr x)
    exact wp_of_value (by simp [execOp, hop, hrun]) (hk _ _ _ _ h ho)
  -- makeFunc
  · rename_i fn first captured hop
    split at h
    · rename_i f
      refine wp_of_value (cv := .func (.func f) (first.map a.eval) (captured.map a.eval)) (w' := w) (by simp [execOp, hop, Instr.makeFunc]) (hk _ _ _ _ h (.same hrel ?_))
      have h1 := LRel.arr (a := (first.toList.map (ev fr)).toArray) (a' := first.map a.eval) (by simpa using evs_rel hfr first.toList)
      have h2 := LRel.arr (a := (captured.toList.map (ev fr)).toArray) (a' := captured.map a.eval) (by simpa using evs_rel hfr captured.toList)
      exact .func h1.1 h2.1 h1.2 h2.2
    · simp at h
  -- makeMap
  · rename_i t hop
    have hal := alloc_rel hrel (.map [] 0) (.map #[] 0) ⟨rfl, #[], rfl, rfl, fun i e he => by simp at he⟩
    exact wp_of_value (w' := w.alloc (.map #[] 0)) (cv := .map (some w.heap.size)) (by simp [execOp, hop, Instr.makeMap]) (hk _ _ _ _ h (.of hal.1 hal.2 (.map (upd_self _ _ _)) (by simp [newBlk])))
  -- makeSlice
  · rename_i t l c hop
    obtain ⟨⟨v, st'⟩, hv, h⟩ := Option.bind_eq_some_iff.1 h
    obtain ⟨cv, w', hrun, ho⟩ := makeSlice_sound hrel hv (ev_rel hfr l) (ev_rel hfr c)
    exact wp_of_value (by simp [execOp, hop, hrun]) (hk _ _ _ _ h ho)
  -- slice
  · rename_i t x lo hi mx hop
    obtain ⟨v, hv, h⟩ := Option.bind_eq_some_iff.1 h
    obtain ⟨cv, hrun, hr⟩ := slice_sound hrel hv (ev_rel hfr x) (evo_rel hfr lo) (evo_rel hfr hi) (evo_rel hfr mx)
    exact wp_of_value (by simp [execOp, hop, hrun]) (hk _ _ _ _ h (.same hrel hr))
  -- fieldAddr
  · rename_i s x f hop
    obtain ⟨v, hv, h⟩ := Option.bind_eq_some_iff.1 h
    obtain ⟨cv, hrun, hr⟩ := fieldAddr_sound hv (ev_rel hfr x)
    exact wp_of_value (by simp [execOp, hop, hrun w]) (hk _ _ _ _ h (.same hrel hr))
  -- field
  · rename_i t x f hop
    obtain ⟨v, hv, h⟩ := Option.bind_eq_some_iff.1 h
    obtain ⟨cv, hrun, hr⟩ := field_sound hv (ev_rel hfr x)
    exact wp_of_value (by simp [execOp, hop, hrun w]) (hk _ _ _ _ h (.same hrel hr))
  -- indexAddr
  · rename_i t x ix hop
    obtain ⟨v, hv, h⟩ := Option.bind_eq_some_iff.1 h
    obtain ⟨cv, hrun, hr⟩ := indexAddr_sound hv (ev_rel hfr x) (ev_rel hfr ix)
    exact wp_of_value (by simp [execOp, hop, hrun w]) (hk _ _ _ _ h (.same hrel hr))
  -- index
  · rename_i t x ix hop
    rw [ite_some] at h
    obtain ⟨hp, h⟩ := h
    obtain ⟨v, hv, h⟩ := Option.bind_eq_some_iff.1 h
    obtain ⟨cv, hrun, hr⟩ := index_sound hp hv (ev_rel hfr x) (ev_rel hfr ix)
    exact wp_of_value (by simp [execOp, hop, hrun w]) (hk _ _ _ _ h (.same hrel hr))
  -- lookup
  · rename_i t m ky ok hop
    obtain ⟨v, hv, h⟩ := Option.bind_eq_some_iff.1 h
    obtain ⟨cv, hrun, hr⟩ := lookup_sound hrel hv (ev_rel hfr m) (ev_rel hfr ky)
    exact wp_of_value (by simp [execOp, hop, hrun]) (hk _ _ _ _ h (.same hrel hr))
  -- mapUpdate
  · rename_i t m ky x hop
    obtain ⟨s, hv, h⟩ := Option.bind_eq_some_iff.1 h
    obtain ⟨w', hrun, h1, h2, h3⟩ := mapUpdate_sound hrel hv (ev_rel hfr m) (ev_rel hfr ky) (ev_rel hfr x)
    exact wp_of_skip (by simp [execOp, hop, hrun]) (hk _ _ _ _ h (.of h1 h2 (.same _ rfl) (by rw [h3]; exact Nat.le_refl _)))
  -- insert
  · rename_i t m ky x hop
    obtain ⟨s, hv, h⟩ := Option.bind_eq_some_iff.1 h
    obtain ⟨w', hrun, h1, h2, h3⟩ := mapUpdate_sound hrel hv (ev_rel hfr m) (ev_rel hfr ky) (ev_rel hfr x)
    exact wp_of_skip (by simp [execOp, hop, hrun]) (hk _ _ _ _ h (.of h1 h2 (.same _ rfl) (by rw [h3]; exact Nat.le_refl _)))
  -- sliceToArrayPointer
  · rename_i t x hop
    obtain ⟨v, hv, h⟩ := Option.bind_eq_some_iff.1 h
    obtain ⟨cv, hrun, hr⟩ := arr_sound hv (ev_rel hfr x)
    exact wp_of_value (by simp [execOp, hop, hrun w]) (hk _ _ _ _ h (.same hrel hr))
  -- range
  · rename_i t x hop
    obtain ⟨⟨v, st'⟩, hv, h⟩ := Option.bind_eq_some_iff.1 h
    obtain ⟨cv, w', hrun, ho⟩ := range_sound hrel hv (ev_rel hfr x)
    exact wp_of_value (by simp [execOp, hop, hrun]) (hk _ _ _ _ h ho)
  -- entry
  · rename_i x hop
    obtain ⟨v, hv, h⟩ := Option.bind_eq_some_iff.1 h
    obtain ⟨cv, hrun, hr⟩ := entry_sound hrel hv (ev_rel hfr x)
    exact wp_of_value (by simp [execOp, hop, hrun]) (hk _ _ _ _ h (.same hrel hr))
  -- extract
  · rename_i t ix hop
    obtain ⟨v, hv, h⟩ := Option.bind_eq_some_iff.1 h
    obtain ⟨cv, hrun, hr⟩ := extract_sound hv (ev_rel hfr t)
    exact wp_of_value (by simp [execOp, hop, hrun w]) (hk _ _ _ _ h (.same hrel hr))
  -- call
  · rename_i c hop
    split at h
    · rename_i f hcal
      obtain ⟨⟨g, args⟩, hg, h⟩ := Option.bind_eq_some_iff.1 h
      obtain ⟨⟨v, H', e'⟩, hcall, h9⟩ := Option.bind_eq_some_iff.1 h
      have hf := ev_rel hfr f
      unfold aFn at hg
      split at hg
      · rename_i g' first captured he
        rw [he] at hf
        obtain ⟨first', captured', hcf, hL1, hL2⟩ := hf.func_inv
        split at hg
        · rename_i fn hfn
          rw [ite_some] at hg
          obtain ⟨⟨hbody, hname⟩, hg⟩ := hg
          simp only [Option.some.injEq, Prod.mk.injEq] at hg
          obtain ⟨rfl, rfl⟩ := hg
          have hargs : LRel P ρ w.shape? (first.toList ++ c.args.toList.map (ev fr) ++ captured.toList) (first' ++ c.args.map a.eval ++ captured').toList := by
            simpa using (hL1.append (evs_rel hfr c.args.toList)).append hL2
          have hcs := hC _ _ _ _ _ _ _ _ _ hcall hrel hargs
          have hbn : fn.body.isNone = false := by cases hb : fn.body <;> simp_all
          have hrun : (execOp a.eval o).run P w = .ok (.enter g' (first' ++ c.args.map a.eval ++ captured')) w := by
            have hname' : ¬ fn.name = "runtime.NumGoroutine" := by simpa using hname
            simp only [execOp, hop, resolve, hcal, hcf, Deferred.ofValue, invoke, callFunc, Sem.run_bind, Sem.run_pure, Result.andThen_ok, run_program, hfn, hname, hbn, Bool.false_eq_true, if_false]
          unfold Oper.wp
          rw [hrun]
          refine hcs.mono fun en w' hen => ?_
          obtain ⟨cv, rfl, ho⟩ := hen
          exact hk v _ cv w' h9 ho
        · simp at hg
      · simp at hg
    · rename_i b hcal
      have hex : ∃ consts, (execOp a.eval o).run P w = (builtin b c.argTypes o.type consts (c.args.map a.eval)).run P w :=
        ⟨_, by simp only [execOp, hop, resolve, hcal, invoke, Sem.run_bind, Sem.run_pure, Result.andThen_ok]; rfl⟩
      obtain ⟨consts, hex⟩ := hex
      obtain ⟨v, s, cv, w', h1, hrun, ho⟩ := eBuiltin_sound (ty := o.type) (consts := consts) hfr hrel h
      exact wp_of_value (cv := cv) (w' := w') (by rw [hex, hrun]) (hk _ _ _ _ h1 ho)
    · simp at h
  · simp at h

end
end Go.Am
