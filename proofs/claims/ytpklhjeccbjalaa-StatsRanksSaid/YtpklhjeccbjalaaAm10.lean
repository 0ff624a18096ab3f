/- A part of the proof: Am10, Am11, Am12, Am13. Its conditions: none. -/
import Derived.Test.YtpklhjeccbjalaaAm6
import Derived.OrdersIn
import Derived.RangeFuncNested
import Derived.LoopNIn
set_option linter.all false
set_option linter.unusedVariables false
set_option linter.unusedSimpArgs false
set_option linter.unnecessarySimpa false
section
namespace Go.Am

section
variable {P : Program} {ρ ρ' : Ren} {H : List Blk} {w : World}

/-- any activation, within a round or not -/
abbrev Wd (ro : Option Nat) : Fence := { fn := fun _ => True, depth := none, alive := false, round := ro }

/-- a callee's word holds of the model -/
structure CSound (P : Program) (C : Callee) : Prop where
  fn : ∀ (f : FuncId) (args : List Value) (H : List Blk) (v : Value) (H' : List Blk) (e : Option Nat) (ρ : Ren) (w : World) (cargs : Array Value),
    f < yidB → C f args H = some (v, H', e) → Rel P ρ H w → LRel P ρ w.shape? args cargs.toList → Calls P f cargs w fun en w' => ∃ cv, en = .returned cv ∧ Out P H.length ρ H w H' v cv w'
  yd : ∀ (l : Nat) (args : List Value) (H : List Blk) (v : Value) (H' : List Blk) (e : Option Nat) (ρ : Ren) (w : World) (cargs : Array Value),
    C (l + yidB) args H = some (v, H', e) → Rel P ρ H w → LRel P ρ w.shape? args cargs.toList → ∃ cl fn tm x y, ρ l = some (cl, 0) ∧ (Instr.yield cl cargs).run P w = .ok (.round cl fn tm x y) w ∧
      RoundIn Fence.wide 0 P cl fn tm x y w fun en w' => ∃ cv, en = .returned cv ∧ Out P H.length ρ H w H' v cv w'
/-- and of a deferred call -/
structure DSound (P : Program) (C : Callee) (nd : FuncId → Bool) : Prop where
  df : ∀ (f : FuncId) (args : List Value) (H : List Blk) (v : Value) (H' : List Blk) (e : Option Nat) (ρ : Ren) (w : World) (cargs : Array Value),
    f < yidB → args ≠ [] → plainD P f = true → nd f = true → C f args H = some (v, H', e) → Rel P ρ H w → LRel P ρ w.shape? args cargs.toList → CallsDIn Fence.wide 0 P f cargs .returning w fun en u w' => u = .returning ∧ ∃ cv, en = .returned cv ∧ Out P H.length ρ H w H' v cv w'

/-- what was there when the call began stands as it stood -/
structure Kept (w w' : World) : Prop where
  os : w'.os = w.os
  output : w'.output = w.output
  block : ∀ k, k < w.heap.size → w'.heap[k]? = w.heap[k]?

/-- a function without arguments that says true whatever, and leaves all as it was -/
def Lives (P : Program) (f : FuncId) : Prop := ∀ w, Calls P f #[] w fun e w' => e = .returned (.bool true) ∧ Kept w w'

theorem ev_rel {sh : Sh} {fr : List Value} {a : Act} (hfr : LRel P ρ sh fr a.tmps.toList) (x : Operand) : VRel P ρ sh (ev fr x) (a.eval x) := by
  cases x with
  | tmp t =>
    have := hfr.getD t undef
    simpa [ev, Act.eval] using this
  | const v =>
    simp only [ev, Act.eval]
    split
    · rename_i h; exact .same _ h
    · exact .any _
  | global g => exact .any _
  | func f => exact .same _ rfl

theorem evs_rel {sh : Sh} {fr : List Value} {a : Act} (hfr : LRel P ρ sh fr a.tmps.toList) (l : List Operand) : LRel P ρ sh (l.map (ev fr)) (l.map a.eval) := by
  induction l with
  | nil => exact .nil
  | cons x xs ih => exact .cons (ev_rel hfr x) ih

theorem evo_rel {sh : Sh} {fr : List Value} {a : Act} (hfr : LRel P ρ sh fr a.tmps.toList) (x : Option Operand) : ORel P ρ sh (x.map (ev fr)) (x.map a.eval) := by
  cases x with
  | none => exact ⟨fun v h => by simp at h, fun _ => rfl⟩
  | some x => exact ⟨fun v h => by simp at h; subst h; exact ⟨_, rfl, ev_rel hfr x⟩, fun h => by simp at h⟩

theorem LRel.snoc {sh : Sh} {l l' : List Value} {v v' : Value} (h : LRel P ρ sh l l') (hv : VRel P ρ sh v v') : LRel P ρ sh (l ++ [v]) (l' ++ [v']) := h.append (.cons hv .nil)

theorem Out.same (h : Rel P ρ H w) {v cv : Value} (hv : VRel P ρ w.shape? v cv) : Out P H.length ρ H w H v cv w := ⟨⟨ρ, h, .refl _, hv⟩, Nat.le_refl _⟩

theorem Out.of {n : Nat} {H' : List Blk} {w' : World} {v cv : Value} (h : Rel P ρ' H' w') (hs : Step n ρ H w ρ' H' w') (hv : VRel P ρ' w'.shape? v cv) (hn : n ≤ H'.length) : Out P n ρ H w H' v cv w' := ⟨⟨ρ', h, hs, hv⟩, hn⟩

theorem minmax_run (isMax : Bool) : ∀ (l : List Value) (k : IntKind) (x : Int) (v : Value), l.foldlM (init := Value.int k x) (fun a b => match a, b with
    | .int k x, .int k' y => if k = k' then some (.int k (if isMax then (if y > x then y else x) else (if y < x then y else x))) else none
    | _, _ => none) = some v → (∃ k n, v = .int k n) ∧ ∀ w : World, (l.foldlM (if isMax then Builtin.max2 else Builtin.min2) (Value.int k x)).run P w = .ok v w
  | [], k, x, v, h => by simp at h; subst h; exact ⟨⟨_, _, rfl⟩, fun w => by simp⟩
  | y :: l, k, x, v, h => by
    simp only [List.foldlM_cons] at h
    cases y with
    | int k' y =>
      by_cases hk : k = k'
      · subst hk
        simp only [if_true] at h
        have ih := minmax_run isMax l k _ v (by simpa using h)
        refine ⟨ih.1, fun w => ?_⟩
        simp only [List.foldlM_cons, Sem.run_bind]
        have e : (if isMax = true then Builtin.max2 else Builtin.min2) (.int k x) (.int k y) = pure (.int k (if isMax then (if y > x then y else x) else (if y < x then y else x))) := by
          cases isMax <;> simp [Builtin.max2, Builtin.min2]
        rw [e]
        simp only [Sem.run_pure, Result.andThen_ok]
        exact ih.2 w
      · simp [hk] at h
    | _ => simp at h

theorem minmax_sound {sh : Sh} (isMax : Bool) {l l' : List Value} {v : Value} (h : aMinMax isMax l = some v) (hl : LRel P ρ sh l l') :
    ∃ cv, (∀ w (at_ : Array TypeId) (ty : TypeId), (if isMax then Builtin.max_ at_ ty l'.toArray else Builtin.min_ at_ ty l'.toArray).run P w = .ok cv w) ∧ VRel P ρ sh v cv := by
  cases l with
  | nil => simp [aMinMax] at h
  | cons x rest =>
    cases x with
    | int k x =>
      simp only [aMinMax] at h
      have := minmax_run (P := P) isMax rest k x v h
      have hp : plainL (Value.int k x :: rest) = true := by
        have : ∀ (l : List Value) (k : IntKind) (x : Int), (∃ v, l.foldlM (init := Value.int k x) (fun a b => match a, b with
            | .int k x, .int k' y => if k = k' then some (.int k (if isMax then (if y > x then y else x) else (if y < x then y else x))) else none
            | _, _ => none) = some v) → plainL l = true := by
          intro l
          induction l with
          | nil => intro _ _ _; rfl
          | cons y l ih =>
            intro k x ⟨v, hv⟩
            simp only [List.foldlM_cons] at hv
            cases y with
            | int k' y =>
              by_cases hk : k = k'
              · subst hk
                simp only [if_true] at hv
                simp only [plainL, plain, Bool.true_and]
                exact ih _ _ ⟨v, by simpa using hv⟩
              · simp [hk] at hv
            | _ => simp at hv
        simp only [plainL, plain, Bool.true_and]
        exact this rest k x ⟨v, h⟩
      have := hl.eq_of_plain hp
      subst this
      obtain ⟨⟨k', n, rfl⟩, hrun⟩ := this
      refine ⟨.int k' n, fun w at_ ty => ?_, .same _ rfl⟩
      have := hrun w
      cases isMax with
      | true => simpa [Builtin.max_] using this
      | false => simpa [Builtin.min_] using this
    | _ => simp [aMinMax] at h

theorem list2 {l : List Operand} {f : Operand → Value} {x y : Value} (h : l.map f = [x, y]) : ∃ p q, l = [p, q] ∧ f p = x ∧ f q = y := by
  match l, h with
  | [p, q], h => simp at h; exact ⟨p, q, rfl, h.1, h.2⟩
theorem list1 {l : List Operand} {f : Operand → Value} {x : Value} (h : l.map f = [x]) : ∃ p, l = [p] ∧ f p = x := by
  match l, h with
  | [p], h => simp at h; exact ⟨p, rfl, h⟩

theorem arr_of_list {α : Type} {a : Array α} {l : List α} (h : a.toList = l) : a = l.toArray := by subst h; simp

variable {R : Type}

theorem clear_sound (h : Rel P ρ H w) {argTypes : Array TypeId} {ty : TypeId} {m cm : Value} {st' : AS} {e : Option Nat} (hs : aClear P argTypes m ⟨H, e⟩ = some st') (hm : VRel P ρ w.shape? m cm) :
    ∃ w', (Builtin.clear_ argTypes ty #[cm]).run P w = .ok (.tuple #[]) w' ∧ Rel P ρ st'.H w' ∧ Step H.length ρ H w ρ st'.H w' ∧ st'.H.length = H.length := by
  unfold aClear at hs
  split at hs
  · rename_i d hut
    obtain ⟨t, hat, hu⟩ := Option.bind_eq_some_iff.1 hut
    simp at hs; subst hs
    have hcm : cm = .map none := hm.eq_of_plain rfl
    subst hcm
    refine ⟨w, ?_, h, .refl _, rfl⟩
    simp [Builtin.clear_, hat, run_underlying hu, Sem.run_bind, Result.andThen]
  · rename_i kt et r hut
    obtain ⟨t, hat, hu⟩ := Option.bind_eq_some_iff.1 hut
    split at hs
    case h_2 => simp at hs
    rename_i es clock hr
    simp at hs; subst hs
    obtain ⟨cr, ces, h1, h2, h3, h4⟩ := map_get h hr
    obtain ⟨cr', h5, rfl⟩ := hm.map_inv
    rw [h1] at h5; simp at h5; subst h5
    have hset := set_rel h (k' := .map [] clock) (o' := .map #[] clock) hr rfl h1 h2 rfl rfl ⟨rfl, #[], rfl, rfl, fun i e he => by simp at he⟩
    refine ⟨_, ?_, hset.1, hset.2, by simp⟩
    have a0 : (#[Value.map (some cr)] : Array Value)[0]? = some (.map (some cr)) := rfl
    simp only [Builtin.clear_, hat, a0, Sem.run_bind, run_underlying hu, Result.andThen_ok, run_getMap h2, run_setMap h2, Sem.run_pure]
  · simp at hs

theorem eBuiltin_sound {b : Builtin} {argTypes : Array TypeId} {args : Array Operand} {ty : TypeId} {consts : Array Bool} {fr : List Value} {st : AS} {a : Act} {k : Value → AS → Option R} {r : R}
    (hfr : LRel P ρ w.shape? fr a.tmps.toList) (hrel : Rel P ρ st.H w) (h : eBuiltin P b argTypes (args.toList.map (ev fr)) st k = some r) :
    ∃ v s cv w', k v s = some r ∧ (builtin b argTypes ty consts (args.map a.eval)).run P w = .ok (.value cv) w' ∧ Out P st.H.length ρ st.H w s.H v cv w' := by
  obtain ⟨H, e⟩ := st
  unfold eBuiltin at h
  split at h
  · rename_i x hargs
    obtain ⟨p, hp, rfl⟩ := list1 hargs
    have := arr_of_list hp; subst this
    obtain ⟨t, ht, h⟩ := Option.bind_eq_some_iff.1 h
    obtain ⟨v, hv, h⟩ := Option.bind_eq_some_iff.1 h
    obtain ⟨cv, hrun, hr⟩ := len_sound (ty := ty) hrel ht hv (ev_rel hfr p)
    exact ⟨v, _, cv, w, h, by simp [builtin, hrun], .same hrel hr⟩
  · rename_i x y hargs
    obtain ⟨p, q, hp, rfl, rfl⟩ := list2 hargs
    have := arr_of_list hp; subst this
    obtain ⟨⟨v, s⟩, hv, h⟩ := Option.bind_eq_some_iff.1 h
    obtain ⟨cv, w', hrun, ho⟩ := append_sound (ty := ty) hrel hv (ev_rel hfr p) (ev_rel hfr q)
    exact ⟨v, s, cv, w', h, by simp [builtin, hrun], ho⟩
  · rename_i x y hargs
    obtain ⟨p, q, hp, rfl, rfl⟩ := list2 hargs
    have := arr_of_list hp; subst this
    obtain ⟨⟨v, s⟩, hv, h⟩ := Option.bind_eq_some_iff.1 h
    obtain ⟨cv, w', hrun, ho⟩ := copy_sound (ty := ty) hrel hv (ev_rel hfr p) (ev_rel hfr q)
    exact ⟨v, s, cv, w', h, by simp [builtin, hrun], ho⟩
  · rename_i x y hargs
    obtain ⟨p, q, hp, rfl, rfl⟩ := list2 hargs
    have := arr_of_list hp; subst this
    obtain ⟨s, hv, h⟩ := Option.bind_eq_some_iff.1 h
    obtain ⟨w', hrun, h1, h2, h3⟩ := delete_sound (ty := ty) hrel hv (ev_rel hfr p) (ev_rel hfr q)
    exact ⟨_, s, .tuple #[], w', h, by simp [builtin, hrun], .of h1 h2 (.same _ rfl) (by rw [h3]; exact Nat.le_refl _)⟩
  · rename_i x hargs
    obtain ⟨p, hp, rfl⟩ := list1 hargs
    have := arr_of_list hp; subst this
    obtain ⟨s, hv, h⟩ := Option.bind_eq_some_iff.1 h
    obtain ⟨w', hrun, h1, h2, h3⟩ := clear_sound (ty := ty) hrel hv (ev_rel hfr p)
    exact ⟨_, s, .tuple #[], w', h, by simp [builtin, hrun], .of h1 h2 (.same _ rfl) (by rw [h3]; exact Nat.le_refl _)⟩
  · obtain ⟨v, hv, h⟩ := Option.bind_eq_some_iff.1 h
    obtain ⟨cv, hrun, hr⟩ := minmax_sound true hv (evs_rel hfr args.toList)
    have := hrun w argTypes ty
    have e1 : (args.toList.map a.eval).toArray = args.map a.eval := by apply Array.ext'; simp
    rw [e1] at this
    exact ⟨v, _, cv, w, h, by simp at this; simp [builtin, this], .same hrel hr⟩
  · obtain ⟨v, hv, h⟩ := Option.bind_eq_some_iff.1 h
    obtain ⟨cv, hrun, hr⟩ := minmax_sound false hv (evs_rel hfr args.toList)
    have := hrun w argTypes ty
    have e1 : (args.toList.map a.eval).toArray = args.map a.eval := by apply Array.ext'; simp
    rw [e1] at this
    exact ⟨v, _, cv, w, h, by simp at this; simp [builtin, this], .same hrel hr⟩
  · simp at h

theorem wp_of_value {ro : Option Nat} {o : Oper} {a : Act} {w w' : World} {next : Act → World → Prop} {Q : Exit → Act → World → Prop} {cv : Value} (hd : ∀ c, o.op ≠ .defer c) (hrun : (execOp a.eval o).run P w = .ok (.value cv) w') (hn : next (a.put o.dst cv) w') : o.wpIn (Wd ro) 0 P a w next Q :=
  ⟨fun _ _ => trivial, by rw [Oper.semAt_eq _ _ _ hd, hrun]; exact hn⟩

theorem wp_of_skip {ro : Option Nat} {o : Oper} {a : Act} {w w' : World} {next : Act → World → Prop} {Q : Exit → Act → World → Prop} (hd : ∀ c, o.op ≠ .defer c) (hrun : (execOp a.eval o).run P w = .ok .skip w') (hn : next (a.put o.dst undef) w') : o.wpIn (Wd ro) 0 P a w next Q :=
  ⟨fun _ _ => trivial, by rw [Oper.semAt_eq _ _ _ hd, hrun]; exact hn⟩

theorem parts_list {sh : Sh} {fr : List Value} {a : Act} (hfr : LRel P ρ sh fr a.tmps.toList) (parts : Array (Nat × Operand)) :
    (parts.toList.map fun p => (p.1, ev fr p.2)).map (·.1) = (parts.toList.map fun p => (p.1, a.eval p.2)).map (·.1) ∧
    LRel P ρ sh ((parts.toList.map fun p => (p.1, ev fr p.2)).map (·.2)) ((parts.toList.map fun p => (p.1, a.eval p.2)).map (·.2)) := by
  refine ⟨by simp, ?_⟩
  have := evs_rel hfr (parts.toList.map (·.2))
  simpa only [List.map_map, Function.comp_def] using this

theorem eop_sound {ro : Option Nat} {C : Callee} (hC : CSound P C) {o : Oper} {fr : List Value} {st : AS} {a : Act} {k : Value → AS → Option R} {r : R} {next : Act → World → Prop} {Q : Exit → Act → World → Prop}
    (hfr : LRel P ρ w.shape? fr a.tmps.toList) (hrel : Rel P ρ st.H w) (h : eop P C fr st o k = some r)
    (hk : ∀ v s cv w', k v s = some r → Out P st.H.length ρ st.H w s.H v cv w' → next (a.put o.dst cv) w') : o.wpIn (Wd ro) 0 P a w next Q := by
  have hnd : ∀ c, o.op ≠ .defer c := by
    intro c hc
    simp [eop, hc] at h
  obtain ⟨H, e⟩ := st
  simp only at hrel hk
  unfold eop at h
  split at h
  -- move
  · rename_i x hop
    exact wp_of_value hnd (by simp [execOp, hop]) (hk _ _ _ _ h (.same hrel (ev_rel hfr x)))
  · rename_i x hop
    exact wp_of_value hnd (by simp [execOp, hop]) (hk _ _ _ _ h (.same hrel (ev_rel hfr x)))
  -- pick
  · rename_i c x y hop
    have hc := ev_rel hfr c
    obtain ⟨v, hv, h⟩ := Option.bind_eq_some_iff.1 h
    unfold aPick at hv
    split at hv
    · rename_i he; rw [he] at hc; have := hc.bool_inv
      simp at hv; subst hv
      exact wp_of_value hnd (by simp [execOp, hop, this, asBool]) (hk _ _ _ _ h (.same hrel (ev_rel hfr x)))
    · rename_i he; rw [he] at hc; have := hc.bool_inv
      simp at hv; subst hv
      exact wp_of_value hnd (by simp [execOp, hop, this, asBool]) (hk _ _ _ _ h (.same hrel (ev_rel hfr y)))
    · simp at hv
  -- alloc
  · rename_i elem hop
    obtain ⟨z, hz, h⟩ := Option.bind_eq_some_iff.1 h
    rw [ite_some] at h
    obtain ⟨hpl, h⟩ := h
    obtain ⟨⟨v, s⟩, hv, h⟩ := Option.bind_eq_some_iff.1 h
    unfold aBox at hv
    rw [ite_some] at hv
    obtain ⟨hac, hv⟩ := hv
    simp [newPtr, newBlk] at hv; obtain ⟨rfl, rfl⟩ := hv
    have hrow := row_sound (extra := []) (own := true) hrel (e := elem) (LRel.refl_plain hpl) hac
    simp only [List.append_nil, Array.toArray_toList] at hrow
    refine wp_of_value hnd (w' := w.alloc (.cells z.cells elem)) (cv := .pointer (some ⟨w.heap.size, 0, none⟩)) ?_ (hk _ _ _ _ h (.of hrow.1 hrow.2 (.ptr (upd_self _ _ _)) (by simp)))
    simp [execOp, hop, Instr.alloc, run_zeroP hz, newVar, newRow]
  -- box
  · rename_i elem x hop
    obtain ⟨⟨v, s⟩, hv, h⟩ := Option.bind_eq_some_iff.1 h
    obtain ⟨ρ', cpv, hrun, h1, h2, h3, h4⟩ := aBox_sound hrel hv (ev_rel hfr x)
    exact wp_of_value hnd (by simp [execOp, hop, hrun]) (hk _ _ _ _ h (.of h1 h2 h4 h3))
  -- build
  · rename_i t parts hop
    obtain ⟨v, hv, h⟩ := Option.bind_eq_some_iff.1 h
    obtain ⟨cv, hrun, hr⟩ := aBuild_sound (parts_list hfr parts).1 (parts_list hfr parts).2 hv
    refine wp_of_value hnd (cv := cv) (w' := w) ?_ (hk _ _ _ _ h (.same hrel hr))
    have e1 : parts.map (fun x => (x.1, a.eval x.2)) = (parts.toList.map fun p => (p.1, a.eval p.2)).toArray := by apply Array.ext'; simp
    have := hrun w
    rw [← e1] at this
    simp [execOp, hop, this]
  -- buildSlice
  · rename_i t len parts hop
    simp only at h
    have hps : LRel P ρ w.shape? (parts.toList.map fun p => ev fr p.2) (parts.toList.map fun p => a.eval p.2) := by
      have := (parts_list hfr parts).2
      simpa only [List.map_map, Function.comp_def] using this
    obtain ⟨ρ1, fa, hrel1, fs, fL, fn⟩ := frzL_sound (frz_sound 0 8) _ _ ρ H hrel hps
    have fl := frzL_len (f := frz P 0 8) (parts.toList.map fun p => ev fr p.2) H
    generalize hq : frzL (frz P 0 8) (parts.toList.map fun p => ev fr p.2) H = q at h hrel1 fs fL fn fl
    obtain ⟨⟨v, s⟩, hv, h⟩ := Option.bind_eq_some_iff.1 h
    rw [← fn] at hk
    replace hk : ∀ v s cv w', k v s = some r → Out P q.2.length ρ1 q.2 w s.H v cv w' → next (a.put o.dst cv) w' := fun v s cv w' h1 h2 => hk v s cv w' h1 (by
      obtain ⟨⟨ρ2, x1, x2, x3⟩, x4⟩ := h2
      exact ⟨⟨ρ2, x1, (fs.less (by omega)).trans x2, x3⟩, x4⟩)
    have hzm : ∀ (l : List (Nat × Operand)) (l2 : List Value), l2.length = l.length → ((l.map (·.1)).zip l2).map (·.1) = l.map (·.1) ∧ ((l.map (·.1)).zip l2).map (·.2) = l2 := by
      intro l
      induction l with
      | nil => intro l2 h; cases l2 with
        | nil => exact ⟨rfl, rfl⟩
        | cons _ _ => simp at h
      | cons x xs ih => intro l2 h; cases l2 with
        | nil => simp at h
        | cons y ys => have := ih ys (by simpa using h); exact ⟨by simp [this.1], by simp [this.2]⟩
    obtain ⟨hz1, hz2⟩ := hzm parts.toList q.1 (by simpa using fl)
    have hpl : ((parts.toList.map (·.1)).zip q.1).map (·.1) = (parts.toList.map fun p => (p.1, a.eval p.2)).map (·.1) ∧
        LRel P ρ1 w.shape? (((parts.toList.map (·.1)).zip q.1).map (·.2)) ((parts.toList.map fun p => (p.1, a.eval p.2)).map (·.2)) := by
      refine ⟨by rw [hz1]; simp, ?_⟩
      rw [hz2]
      simpa only [List.map_map, Function.comp_def] using fL
    unfold aBuildSlice at hv
    split at hv
    case h_2 => simp at hv
    rename_i elem hu
    split at hv
    case h_2 => simp at hv
    rename_i size zero hsz hz
    rw [ite_some] at hv
    obtain ⟨⟨hle, hpos, hzs, hac, hzac, hzp⟩, hv⟩ := hv
    split at hv
    case h_2 => simp at hv
    rename_i cells hfill
    simp [aRow, newBlk] at hv; obtain ⟨rfl, rfl⟩ := hv
    have hzc : plainL ((Array.range (len * size)).map (zero.cells[· % zero.cells.size]!)).toList = true ∧ allCells ((Array.range (len * size)).map (zero.cells[· % zero.cells.size]!)).toList = true := by
      have key : ∀ (p : Value → Bool), (∀ v ∈ zero.cells.toList, p v = true) → ∀ v ∈ ((Array.range (len * size)).map (zero.cells[· % zero.cells.size]!)).toList, p v = true := by
        intro p hp v hv
        simp only [Array.toList_map, List.mem_map] at hv
        obtain ⟨i, _, rfl⟩ := hv
        have hlt : i % zero.cells.size < zero.cells.size := Nat.mod_lt _ (by omega)
        have e2 : zero.cells[i % zero.cells.size]! = zero.cells[i % zero.cells.size] := getElem!_pos zero.cells _ hlt
        rw [e2]
        exact hp _ (by simp)
      have hpl : ∀ l : List Value, plainL l = true ↔ ∀ v ∈ l, plain v = true := by
        intro l; induction l with
        | nil => simp [plainL]
        | cons x xs ih => simp [plainL, ih]
      exact ⟨(hpl _).2 (key _ ((hpl _).1 hzp)), by unfold allCells at *; rw [List.all_eq_true] at *; exact key _ hzac⟩
    obtain ⟨r', hr', hL⟩ := fill_rel (P := P) (ρ := ρ1) (sh := w.shape?) _ _ _ _ _ cells hpl.1 hpl.2 hac (.refl_plain hzc.1) hfill
    have hcac : allCells cells.toList = true := by
      have : ∀ (place : Nat → Option (Nat × Nat)) (ps : List (Nat × Value)) (cs r : Array Value), (ps.all fun p => allCells p.2.cells.toList) = true → allCells cs.toList = true → Instr.fill place cs ps = some r → allCells r.toList = true := by
        intro place ps
        induction ps with
        | nil => intro cs r _ h1 h2; simp [Instr.fill] at h2; subst h2; exact h1
        | cons p ps ih =>
          obtain ⟨i, v⟩ := p
          intro cs r h1 h2 h3
          simp only [List.all_cons, Bool.and_eq_true] at h1
          simp only [Instr.fill] at h3
          split at h3
          · simp at h3
          · split at h3
            · simp at h3
            · refine ih _ _ h1.2 ?_ h3
              rw [fold_arr]
              have fold : ∀ (l : List Value) (k off : Nat) (cs : Array Value), allCells l = true → allCells cs.toList = true → allCells ((l.zipIdx k).foldl (fun cs x => cs.setIfInBounds (off + x.2) x.1) cs).toList = true := by
                intro l
                induction l with
                | nil => intro k off cs _ h; simpa using h
                | cons x xs ih =>
                  intro k off cs hl hc
                  simp only [allCells, List.all_cons, Bool.and_eq_true] at hl
                  simp only [List.zipIdx_cons, List.foldl_cons]
                  refine ih _ _ _ (by simpa [allCells] using hl.2) ?_
                  unfold allCells at *
                  rw [List.all_eq_true] at *
                  intro y hy
                  rw [Array.toList_setIfInBounds] at hy
                  rcases List.mem_or_eq_of_mem_set hy with hy | rfl
                  · exact hc y hy
                  · exact hl.1
              exact fold _ _ _ _ h1.1 h2
      exact this _ _ _ _ hac hzc.2 hfill
    have hrow := row_sound (extra := []) (own := true) hrel1 (e := elem) hL hcac
    simp only [List.append_nil, Array.toArray_toList] at hrow
    refine wp_of_value hnd (w' := w.alloc (.cells r' elem)) (cv := .slice (some ⟨w.heap.size, 0, none⟩) len len) ?_ (hk _ _ _ _ h (.of hrow.1 hrow.2 ?_ (by simp)))
    · have e1 : (parts.map (fun x => (x.1, a.eval x.2))).toList = parts.toList.map fun p => (p.1, a.eval p.2) := by simp
      have hle' : ¬ (2 ^ 24 < len * size) := by omega
      by_cases h0 : len * size = 0
      · have r0 : Array.range 0 = #[] := by simp
        simp only [execOp, hop, Instr.buildSlice, Sem.run_bind, run_underlying hu, Result.andThen_ok, run_sizeP hsz]
        rw [if_neg (by omega)]
        rw [h0, r0, Array.map_empty] at hr'
        simp only [Sem.run_bind, Sem.run_pure, Result.andThen_ok, h0, if_true, e1, r0, Array.map_empty]
        simp [hr', newRow]
      · simp only [execOp, hop, Instr.buildSlice, Sem.run_bind, run_underlying hu, Result.andThen_ok, run_sizeP hsz]
        rw [if_neg (by omega)]
        simp only [Sem.run_bind, Sem.run_pure, Result.andThen_ok, h0, if_false, run_zeroP hz, e1]
        simp [hr', newRow]
    · refine .slice (base := 0) (o := 0) (upd_self _ _ _) (fun _ => rfl) (Nat.le_refl _) (fun he => ?_)
      exfalso; unfold UNK at he
      have : len ≤ len * size := Nat.le_mul_of_pos_right _ hpos
      omega
  -- load
  · rename_i t x hop
    split at h
    · rename_i g n hg hn
      obtain ⟨v, hv, h⟩ := Option.bind_eq_some_iff.1 h
      obtain ⟨cv, hrun, hr⟩ := aLoad_sound hrel hg hn hv (ev_rel hfr x)
      exact wp_of_value hnd (by simp [execOp, hop, hrun]) (hk _ _ _ _ h (.same hrel hr))
    · simp at h
  -- store
  · rename_i t x y hop
    split at h
    · rename_i n hn
      obtain ⟨s, hv, h⟩ := Option.bind_eq_some_iff.1 h
      obtain ⟨w', hrun, h1, h2, h3⟩ := aStore_sound hrel hn hv (ev_rel hfr x) (ev_rel hfr y)
      exact wp_of_skip hnd (by simp [execOp, hop, hrun]) (hk _ _ _ _ h (.of h1 h2 (.same _ rfl) (by rw [h3]; exact Nat.le_refl _)))
    · simp at h
  -- nilCheck
  · rename_i x hop
    have hx := ev_rel hfr x
    obtain ⟨v, hv, h⟩ := Option.bind_eq_some_iff.1 h
    unfold aNil at hv
    split at hv
    · rename_i ad he
      rw [he] at hx
      simp at hv; subst hv
      obtain ⟨cb, base, _, _, hcx⟩ := hx.ptr_inv
      exact wp_of_value hnd (cv := a.eval x) (w' := w) (by simp [execOp, hop, hcx]) (hk _ _ _ _ h (.same hrel hx))
    · rename_i off row he
      rw [he] at hx
      simp at hv; subst hv
      obtain ⟨cb, base, _, _, hcx, _⟩ := hx.tptr_inv
      exact wp_of_value hnd (cv := a.eval x) (w' := w) (by simp [execOp, hop, hcx]) (hk _ _ _ _ h (.same hrel hx))
    · rename_i f b c he
      rw [he] at hx
      simp at hv; subst hv
      obtain ⟨b', c', hcx, _, _⟩ := hx.func_inv
      exact wp_of_value hnd (cv := a.eval x) (w' := w) (by simp [execOp, hop, hcx]) (hk _ _ _ _ h (.same hrel hx))
    · simp at hv
  -- binOp
  · rename_i op t x y u hop
    obtain ⟨v, hv, h⟩ := Option.bind_eq_some_iff.1 h
    obtain ⟨cv, hrun, hr⟩ := aBin_sound hv (ev_rel hfr x) (ev_rel hfr y)
    refine wp_of_value hnd (cv := cv) (w' := w) ?_ (hk _ _ _ _ h (.same hrel hr))
    have := hrun w
    simp only [execOp, hop, Sem.run_bind] at this ⊢
    rw [this]; rfl
  -- unOp
  · rename_i op t x hop
    obtain ⟨v, hv, h⟩ := Option.bind_eq_some_iff.1 h
    obtain ⟨cv, hrun, hr⟩ := aUn_sound hv (ev_rel hfr x)
    exact wp_of_value hnd (by simp [execOp, hop, hrun w]) (hk _ _ _ _ h (.same hrel hr))
  -- convert
  · rename_i s d x hop
    obtain ⟨⟨v, st'⟩, hv, h⟩ := Option.bind_eq_some_iff.1 h
    obtain ⟨cv, w', hrun, ho⟩ := conv_sound hrel hv (ev_rel hfr x)
    exact wp_of_value hnd (by simp [execOp, hop, hrun]) (hk _ _ _ _ h ho)
  -- makeFunc
  · rename_i fn first captured hop
    split at h
    · rename_i f
      refine wp_of_value hnd (cv := .func (.func f) (first.map a.eval) (captured.map a.eval)) (w' := w) (by simp [execOp, hop, Instr.makeFunc]) (hk _ _ _ _ h (.same hrel ?_))
      have h1 := LRel.arr (a := (first.toList.map (ev fr)).toArray) (a' := first.map a.eval) (by simpa using evs_rel hfr first.toList)
      have h2 := LRel.arr (a := (captured.toList.map (ev fr)).toArray) (a' := captured.map a.eval) (by simpa using evs_rel hfr captured.toList)
      exact .func h1.1 h2.1 h1.2 h2.2
    · simp at h
  -- makeMap
  · rename_i t hop
    have hal := alloc_rel hrel (.map [] 0) (.map #[] 0) ⟨rfl, #[], rfl, rfl, fun i e he => by simp at he⟩
    exact wp_of_value hnd (w' := w.alloc (.map #[] 0)) (cv := .map (some w.heap.size)) (by simp [execOp, hop, Instr.makeMap]) (hk _ _ _ _ h (.of hal.1 hal.2 (.map (upd_self _ _ _)) (by simp [newBlk])))
  -- makeSlice
  · rename_i t l c hop
    obtain ⟨⟨v, st'⟩, hv, h⟩ := Option.bind_eq_some_iff.1 h
    obtain ⟨cv, w', hrun, ho⟩ := makeSlice_sound hrel hv (ev_rel hfr l) (ev_rel hfr c)
    exact wp_of_value hnd (by simp [execOp, hop, hrun]) (hk _ _ _ _ h ho)
  -- slice
  · rename_i t x lo hi mx hop
    obtain ⟨v, hv, h⟩ := Option.bind_eq_some_iff.1 h
    obtain ⟨cv, hrun, hr⟩ := slice_sound hrel hv (ev_rel hfr x) (evo_rel hfr lo) (evo_rel hfr hi) (evo_rel hfr mx)
    exact wp_of_value hnd (by simp [execOp, hop, hrun]) (hk _ _ _ _ h (.same hrel hr))
  -- fieldAddr
  · rename_i s x f hop
    obtain ⟨v, hv, h⟩ := Option.bind_eq_some_iff.1 h
    obtain ⟨cv, hrun, hr⟩ := fieldAddr_sound hv (ev_rel hfr x)
    exact wp_of_value hnd (by simp [execOp, hop, hrun w]) (hk _ _ _ _ h (.same hrel hr))
  -- field
  · rename_i t x f hop
    obtain ⟨v, hv, h⟩ := Option.bind_eq_some_iff.1 h
    obtain ⟨cv, hrun, hr⟩ := field_sound hv (ev_rel hfr x)
    exact wp_of_value hnd (by simp [execOp, hop, hrun w]) (hk _ _ _ _ h (.same hrel hr))
  -- indexAddr
  · rename_i t x ix hop
    obtain ⟨v, hv, h⟩ := Option.bind_eq_some_iff.1 h
    obtain ⟨cv, hrun, hr⟩ := indexAddr_sound hv (ev_rel hfr x) (ev_rel hfr ix)
    exact wp_of_value hnd (by simp [execOp, hop, hrun w]) (hk _ _ _ _ h (.same hrel hr))
  -- index
  · rename_i t x ix hop
    rw [ite_some] at h
    obtain ⟨hp, h⟩ := h
    obtain ⟨v, hv, h⟩ := Option.bind_eq_some_iff.1 h
    obtain ⟨cv, hrun, hr⟩ := index_sound hp hv (ev_rel hfr x) (ev_rel hfr ix)
    exact wp_of_value hnd (by simp [execOp, hop, hrun w]) (hk _ _ _ _ h (.same hrel hr))
  -- lookup
  · rename_i t m ky ok hop
    obtain ⟨v, hv, h⟩ := Option.bind_eq_some_iff.1 h
    obtain ⟨cv, hrun, hr⟩ := lookup_sound hrel hv (ev_rel hfr m) (ev_rel hfr ky)
    exact wp_of_value hnd (by simp [execOp, hop, hrun]) (hk _ _ _ _ h (.same hrel hr))
  -- mapUpdate
  · rename_i t m ky x hop
    obtain ⟨s, hv, h⟩ := Option.bind_eq_some_iff.1 h
    obtain ⟨w', hrun, h1, h2, h3⟩ := mapUpdate_sound hrel hv (ev_rel hfr m) (ev_rel hfr ky) (ev_rel hfr x)
    exact wp_of_skip hnd (by simp [execOp, hop, hrun]) (hk _ _ _ _ h (.of h1 h2 (.same _ rfl) (by rw [h3]; exact Nat.le_refl _)))
  -- insert
  · rename_i t m ky x hop
    obtain ⟨s, hv, h⟩ := Option.bind_eq_some_iff.1 h
    obtain ⟨w', hrun, h1, h2, h3⟩ := mapUpdate_sound hrel hv (ev_rel hfr m) (ev_rel hfr ky) (ev_rel hfr x)
    exact wp_of_skip hnd (by simp [execOp, hop, hrun]) (hk _ _ _ _ h (.of h1 h2 (.same _ rfl) (by rw [h3]; exact Nat.le_refl _)))
  -- sliceToArrayPointer
  · rename_i t x hop
    obtain ⟨v, hv, h⟩ := Option.bind_eq_some_iff.1 h
    obtain ⟨cv, hrun, hr⟩ := arr_sound hv (ev_rel hfr x)
    exact wp_of_value hnd (by simp [execOp, hop, hrun w]) (hk _ _ _ _ h (.same hrel hr))
  -- range
  · rename_i t x hop
    obtain ⟨⟨v, st'⟩, hv, h⟩ := Option.bind_eq_some_iff.1 h
    obtain ⟨cv, w', hrun, ho⟩ := range_sound hrel hv (ev_rel hfr x)
    exact wp_of_value hnd (by simp [execOp, hop, hrun]) (hk _ _ _ _ h ho)
  -- entry
  · rename_i x hop
    obtain ⟨v, hv, h⟩ := Option.bind_eq_some_iff.1 h
    obtain ⟨cv, hrun, hr⟩ := entry_sound hrel hv (ev_rel hfr x)
    exact wp_of_value hnd (by simp [execOp, hop, hrun]) (hk _ _ _ _ h (.same hrel hr))
  -- extract
  · rename_i t ix hop
    obtain ⟨v, hv, h⟩ := Option.bind_eq_some_iff.1 h
    obtain ⟨cv, hrun, hr⟩ := extract_sound hv (ev_rel hfr t)
    exact wp_of_value hnd (by simp [execOp, hop, hrun w]) (hk _ _ _ _ h (.same hrel hr))
  -- call
  · rename_i c hop
    split at h
    · rename_i f hcal
      obtain ⟨⟨g, args⟩, hg, h⟩ := Option.bind_eq_some_iff.1 h
      obtain ⟨⟨v, H', e'⟩, hcall, h9⟩ := Option.bind_eq_some_iff.1 h
      have hf := ev_rel hfr f
      unfold aFn at hg
      split at hg
      · rename_i g' first captured he
        rw [he] at hf
        obtain ⟨first', captured', hcf, hL1, hL2⟩ := hf.func_inv
        split at hg
        · rename_i fn hfn
          rw [ite_some] at hg
          obtain ⟨⟨hbody, hname, hlt⟩, hg⟩ := hg
          simp only [Option.some.injEq, Prod.mk.injEq] at hg
          obtain ⟨rfl, rfl⟩ := hg
          have hargs : LRel P ρ w.shape? (first.toList ++ c.args.toList.map (ev fr) ++ captured.toList) (first' ++ c.args.map a.eval ++ captured').toList := by
            simpa using (hL1.append (evs_rel hfr c.args.toList)).append hL2
          have hcs := hC.fn _ _ _ _ _ _ _ _ _ hlt hcall hrel hargs
          have hbn : fn.body.isNone = false := by cases hb : fn.body <;> simp_all
          have hrun : (execOp a.eval o).run P w = .ok (.enter g' (first' ++ c.args.map a.eval ++ captured')) w := by
            have hname' : ¬ fn.name = "runtime.NumGoroutine" := by simpa using hname
            simp only [execOp, hop, resolve, hcal, hcf, Deferred.ofValue, invoke, callFunc, Sem.run_bind, Sem.run_pure, Result.andThen_ok, run_program, hfn, hname, hbn, Bool.false_eq_true, if_false]
          refine ⟨fun _ _ => trivial, ?_⟩
          rw [Oper.semAt_eq _ _ _ hnd, hrun]
          refine ⟨fun hx => by simp at hx, CallsIn.mono (F := Wd ro) (callsIn_wide.2 hcs) fun en w' hen => ?_⟩
          obtain ⟨cv, rfl, ho⟩ := hen
          exact hk v _ cv w' h9 ho
        · simp at hg
      · rename_i l he
        rw [he] at hf
        obtain ⟨cr, hcr, hcf⟩ := hf.yld_inv
        simp only [Option.some.injEq, Prod.mk.injEq] at hg
        obtain ⟨rfl, rfl⟩ := hg
        have hargs : LRel P ρ w.shape? (c.args.toList.map (ev fr)) (c.args.map a.eval).toList := by
          simpa using evs_rel hfr c.args.toList
        obtain ⟨cl, fn, tm, x, y, h1, h2, h3⟩ := hC.yd _ _ _ _ _ _ _ _ _ hcall hrel hargs
        rw [hcr] at h1
        simp only [Option.some.injEq, Prod.mk.injEq, and_true] at h1
        subst h1
        have hrun : (execOp a.eval o).run P w = .ok (.round cr fn tm x y) w := by
          simp only [execOp, hop, resolve, hcal, hcf, Deferred.ofValue, invoke, Sem.run_bind, Sem.run_pure, Result.andThen_ok]
          simpa using h2
        refine ⟨fun _ _ => trivial, ?_⟩
        rw [Oper.semAt_eq _ _ _ hnd, hrun]
        refine ⟨fun hx => by simp at hx, RoundIn.mono (F := Wd ro) (n := 0) (show RoundIn (Wd ro) 0 P cr fn tm x y w _ from h3) fun en w' hen => ?_⟩
        obtain ⟨cv, rfl, ho⟩ := hen
        exact hk v _ cv w' h9 ho
      · simp at hg
    · rename_i b hcal
      have hex : ∃ consts, (execOp a.eval o).run P w = (builtin b c.argTypes o.type consts (c.args.map a.eval)).run P w :=
        ⟨_, by simp only [execOp, hop, resolve, hcal, invoke, Sem.run_bind, Sem.run_pure, Result.andThen_ok]; rfl⟩
      obtain ⟨consts, hex⟩ := hex
      obtain ⟨v, s, cv, w', h1, hrun, ho⟩ := eBuiltin_sound (ty := o.type) (consts := consts) hfr hrel h
      exact wp_of_value hnd (cv := cv) (w' := w') (by rw [hex, hrun]) (hk _ _ _ _ h1 ho)
    · simp at h
  · simp at h

end
end Go.Am

end
section
namespace Go.Am

section
variable {P : Program} {ρ ρ' : Ren} {H : List Blk} {w : World}

theorem reach_inv (H : List Blk) (n : Nat) : ∀ (fuel : Nat) (work acc : List Nat), acc.Nodup → (∀ r ∈ acc, n ≤ r) → (reach H n fuel work acc).Nodup ∧ ∀ r ∈ reach H n fuel work acc, n ≤ r
  | 0, work, acc, h1, h2 => by simpa [reach] using ⟨h1, h2⟩
  | fuel + 1, [], acc, h1, h2 => by simpa [reach] using ⟨h1, h2⟩
  | fuel + 1, r :: rs, acc, h1, h2 => by
    simp only [reach]
    split
    · exact reach_inv H n fuel rs acc h1 h2
    · split
      · exact reach_inv H n fuel rs acc h1 h2
      · rename_i hr hc
        refine reach_inv H n fuel _ _ ?_ ?_
        · rw [List.nodup_append]
          refine ⟨h1, by simp, fun a ha b hb => ?_⟩
          simp at hb; subst hb
          intro he; subst he
          exact hc (by simpa using ha)
        · intro x hx
          simp at hx
          rcases hx with hx | rfl
          · exact h2 x hx
          · omega

theorem findIx_spec (r : Nat) : ∀ (l : List Nat) (i : Nat), r ∈ l → ∃ j, findIx r l i = some (i + j) ∧ l[j]? = some r
  | [], i, h => by simp at h
  | x :: xs, i, h => by
    simp only [findIx]
    by_cases hx : x = r
    · exact ⟨0, by simp [hx], by simp [hx]⟩
    · simp [Ne.symm hx] at h
      obtain ⟨j, h1, h2⟩ := findIx_spec r xs (i + 1) h
      exact ⟨j + 1, by rw [if_neg hx, h1]; congr 1; omega, by simpa using h2⟩

/-- every block that a live block names is known -/
theorem refs_known (h : Rel P ρ H w) {b : Nat} {k : Blk} (hb : H[b]? = some k) {r : Nat} (hr : r ∈ blkRefs k) : (ρ r).isSome = true := by
  cases k with
  | cells cs e own =>
    obtain ⟨_, _, _, _, _, _, _, _, hL, _⟩ := cells_get h hb
    exact hL.known r hr
  | map es clock =>
    obtain ⟨_, _, _, _, _, h4⟩ := map_get h hb
    simp only [blkRefs, List.mem_flatMap, List.mem_append] at hr
    obtain ⟨e, he, hr⟩ := hr
    obtain ⟨i, hi⟩ := List.mem_iff_getElem?.1 he
    obtain ⟨ce, _, h5, h6, _⟩ := h4 i e hi
    rcases hr with hr | hr
    · exact h5.known r hr
    · exact h6.known r hr
  | iter m a b' c =>
    obtain ⟨cb, base, o, _, _, _, cm, _, h2⟩ := h.blk b _ hb rfl
    rcases h2 with ⟨rfl, _⟩ | ⟨r', cr, rfl, _, h3⟩
    · simp [blkRefs] at hr
    · simp [blkRefs] at hr; subst hr; simp [h3]
  | loop f ps x y fr s =>
    obtain ⟨cb, base, o, _, _, _, rc, _, _, _, _, hL, _⟩ := h.blk b _ hb rfl
    exact hL.known r hr
  | dead => simp [blkRefs] at hr

theorem refs_lt (h : Rel P ρ H w) {b : Nat} {k : Blk} (hb : H[b]? = some k) {r : Nat} (hr : r ∈ blkRefs k) : r < H.length := by
  have := refs_known h hb hr
  by_cases hl : r < H.length
  · exact hl
  · rw [h.dom r (Nat.le_of_not_lt hl)] at this; simp at this

def renRho (n : Nat) (kept : List Nat) (ρ : Ren) : Ren := ⟨fun b => if b < n then ρ b else match kept[b - n]? with | some r => ρ r | none => none, ρ.fz⟩

theorem renRho_renum {n : Nat} {kept : List Nat} {r : Nat} (h : r < n ∨ r ∈ kept) : renRho n kept ρ (renum n kept r) = ρ r := by
  by_cases hr : r < n
  · simp [renum, hr, renRho]
  · have hk : r ∈ kept := h.resolve_left hr
    obtain ⟨j, h1, h2⟩ := findIx_spec r kept 0 hk
    simp only [renum, if_neg hr, h1, Nat.zero_add]
    simp [renRho, h2]
    intro hx; omega

theorem BRel.ren {n : Nat} {kept : List Nat} {k : Blk} {base : Nat} {o : Obj} {sh : Sh} (h : BRel P ρ sh k base o) (hc : ∀ r ∈ blkRefs k, r < n ∨ r ∈ kept) : BRel P (renRho n kept ρ) sh (renBlk (renum n kept) k) base o := by
  cases k with
  | cells cs e own =>
    obtain ⟨carr, fz, h1, h2, h3, h4⟩ := h
    refine ⟨carr, fz, h1, ?_, h3, ?_⟩
    · have := h2.ren (ρ' := renRho n kept ρ) (fun _ _ h => h) (sh' := sh) (σ := renum n kept) (fun b hb => renRho_renum (hc b hb)) (fun _ _ h => h)
      simpa [lren_map] using this
    · rw [lren_map]
      unfold allCells at *
      rw [List.all_eq_true] at *
      intro x hx
      obtain ⟨y, hy, rfl⟩ := List.mem_map.1 hx
      have := h4 y hy
      cases y with
      | pointer a => cases a <;> rfl
      | slice a l c => cases a <;> rfl
      | map r => cases r <;> rfl
      | agg _ => simp [cellV] at this
      | tuple _ => simp [cellV] at this
      | chan r => cases r with
        | none => simp [cellV] at this
        | some r => rfl
      | _ => rfl
  | map es clock =>
    obtain ⟨h0, ces, h1, h2, h3⟩ := h
    refine ⟨h0, ces, h1, by simpa using h2, fun i e he => ?_⟩
    rw [List.getElem?_map] at he
    cases hi : es[i]? with
    | none => simp [hi] at he
    | some e' =>
      simp [hi] at he; subst he
      obtain ⟨ce, hc1, hk, hv, hb⟩ := h3 i e' hi
      have hm : ∀ r, r ∈ vrefs e'.key ∨ r ∈ vrefs e'.val → r < n ∨ r ∈ kept := fun r hr => hc r (by
        simp only [blkRefs, List.mem_flatMap, List.mem_append]; exact ⟨e', List.mem_of_getElem? hi, hr⟩)
      exact ⟨ce, hc1, hk.ren (fun _ _ h => h) (fun b hb => renRho_renum (hm b (.inl hb))) (fun _ _ h => h), hv.ren (fun _ _ h => h) (fun b hb => renRho_renum (hm b (.inr hb))) (fun _ _ h => h), hb⟩
  | iter m a b c =>
    obtain ⟨h0, cm, h1, h2⟩ := h
    refine ⟨h0, cm, h1, ?_⟩
    rcases h2 with ⟨rfl, g⟩ | ⟨r', cr, rfl, g, h3⟩
    · exact .inl ⟨rfl, g⟩
    · exact .inr ⟨_, cr, rfl, g, by rw [renRho_renum (hc r' (by simp [blkRefs])), h3]⟩
  | loop f ps x y fr s =>
    obtain ⟨h0, r, h1, h2, h3, h4, h5, h6⟩ := h
    exact ⟨h0, r, h1, h2, h3, h4, h5.ren (fun _ _ h => h) (fun b hb => renRho_renum (hc b hb)) (fun _ _ h => h), h6⟩
  | dead => trivial

theorem renBlk_owns (σ : Nat → Nat) (k : Blk) : (renBlk σ k).owns = k.owns := by cases k <;> rfl
theorem renBlk_live (σ : Nat → Nat) (k : Blk) : (renBlk σ k).live = k.live := by cases k <;> rfl

theorem closed_spec {n : Nat} {kept l : List Nat} (h : closed n kept l = true) : ∀ r ∈ l, r < n ∨ r ∈ kept := by
  intro r hr
  unfold closed at h
  rw [List.all_eq_true] at h
  have := h r hr
  simpa using this

/-- what is struck is named by nothing that stays -/
theorem gc_sound (h : Rel P ρ H w) {n : Nat} {vs cvs : List Value} {e : Option Nat} (hL : LRel P ρ w.shape? vs cvs) (hn : n ≤ H.length)
    (hold : (∀ m, e = some m → n ≤ m) → ∀ b k r, b < n → H[b]? = some k → r ∈ blkRefs k → r < n) :
    ∃ ρ', Rel P ρ' (gc n vs ⟨H, e⟩).2.H w ∧ LRel P ρ' w.shape? (gc n vs ⟨H, e⟩).1 cvs ∧ Step n ρ H w ρ' (gc n vs ⟨H, e⟩).2.H w ∧ n ≤ (gc n vs ⟨H, e⟩).2.H.length ∧
      (∀ b, b < n → (gc n vs ⟨H, e⟩).2.H[b]? = H[b]?) ∧ ((gc n vs ⟨H, e⟩).2.esc = e ∨ ((gc n vs ⟨H, e⟩).2.esc = none ∧ ∀ m, e = some m → n ≤ m)) ∧ (gc n vs ⟨H, e⟩).1.length = vs.length := by
  unfold gc
  split
  · rename_i he
    have he' : ∀ m, e = some m → n ≤ m := by intro m hm; subst hm; simpa [escOk] using he
    have hold := hold he'
    simp only
    generalize hkept : reach H n (H.length * 64 + 4096) (lrefs vs) [] = kept
    have hinv := reach_inv H n (H.length * 64 + 4096) (lrefs vs) [] List.nodup_nil (fun r hr => by simp at hr)
    rw [hkept] at hinv
    split
    · rename_i hcond
      obtain ⟨hc1, hc2, _⟩ := hcond
      have hc1 := closed_spec hc1
      rw [List.all_eq_true] at hc2
      have hget : ∀ b, b < n → (H.take n ++ (kept.map fun r => H.getD r .dead).map (renBlk (renum n kept)))[b]? = H[b]? := by
        intro b hb
        rw [List.getElem?_append_left (by simp; omega), List.getElem?_take, if_pos hb]
      have hget2 : ∀ i k, (H.take n ++ (kept.map fun r => H.getD r .dead).map (renBlk (renum n kept)))[n + i]? = some k → ∃ r, kept[i]? = some r ∧ k = renBlk (renum n kept) (H.getD r .dead) := by
        intro i k hk
        rw [List.getElem?_append_right (by simp; omega)] at hk
        have : n + i - (H.take n).length = i := by simp; omega
        rw [this] at hk
        cases hi : kept[i]? with
        | none => simp [hi] at hk
        | some r => simp [hi] at hk; exact ⟨r, rfl, by rw [← hk]; simp [List.getD]⟩
      -- a live block behind n
      have hlive : ∀ r, (H.getD r .dead).live = true → H[r]? = some (H.getD r .dead) := by
        intro r hr
        by_cases hlt : r < H.length
        · simp [List.getD, List.getElem?_eq_getElem hlt]
        · simp [List.getD, List.getElem?_eq_none (Nat.le_of_not_lt hlt), Blk.live] at hr
      have hol : ∀ {k : Blk}, k.owns = true → k.live = true := by intro k; cases k <;> simp [Blk.owns, Blk.live]
      -- where a live block of the new list comes from
      have hfrom : ∀ b k, (H.take n ++ (kept.map fun r => H.getD r .dead).map (renBlk (renum n kept)))[b]? = some k → k.live = true →
          ∃ b0 k0, H[b0]? = some k0 ∧ k0.live = true ∧ k0.owns = k.owns ∧ renRho n kept ρ b = ρ b0 ∧ (∀ base o, BRel P ρ w.shape? k0 base o → BRel P (renRho n kept ρ) w.shape? k base o) ∧ ((b < n ∧ b0 = b) ∨ (n ≤ b ∧ n ≤ b0 ∧ kept[b - n]? = some b0)) := by
        intro b k hk hl
        by_cases hb : b < n
        · rw [hget b hb] at hk
          refine ⟨b, k, hk, hl, rfl, by simp [renRho, hb], fun base o hB => ?_, .inl ⟨hb, rfl⟩⟩
          refine BRel.congr_rho hB (fun _ _ h => h) (fun r hr => ?_)
          have := hold b k r hb hk hr
          simp [renRho, this]
        · obtain ⟨i, rfl⟩ : ∃ i, b = n + i := ⟨b - n, by omega⟩
          obtain ⟨r, hr, rfl⟩ := hget2 i k hk
          rw [renBlk_live] at hl
          refine ⟨r, H.getD r .dead, hlive r hl, hl, (renBlk_owns _ _).symm, by simp [renRho, hr]; intro hx; omega, fun base o hB => ?_, .inr ⟨by omega, hinv.2 r (List.mem_of_getElem? hr), by simpa using hr⟩⟩
          exact hB.ren (closed_spec (hc2 _ (by simp only [List.mem_map]; exact ⟨r, List.mem_of_getElem? hr, rfl⟩)))
      have hown : ∀ cb, Owned (renRho n kept ρ) (H.take n ++ (kept.map fun r => H.getD r .dead).map (renBlk (renum n kept))) cb → Owned ρ H cb := by
        intro cb ho
        obtain ⟨b, k, x, hk, hown, hr⟩ := ho
        obtain ⟨b0, k0, h1, _, h3, h4, _, _⟩ := hfrom b k hk (hol hown)
        exact ⟨b0, k0, x, h1, by rw [h3]; exact hown, by rw [← h4]; exact hr⟩
      refine ⟨renRho n kept ρ, ⟨fun b k hk hl => ?_, fun b b' k k' hk hk' ho hl hne cb x y hx hy => ?_, fun b hb => ?_, fun cb c hc => ⟨(h.frozen cb c hc).1, fun ho => (h.frozen cb c hc).2 (hown cb ho)⟩⟩, ?_, ?_, by simp; omega, hget, .inr ⟨by trivial, he'⟩, by simp [lren_map]⟩
      · obtain ⟨b0, k0, h1, h2, _, h4, h5, _⟩ := hfrom b k hk hl
        obtain ⟨cb, base, o, g1, g2, g3⟩ := h.blk b0 k0 h1 h2
        exact ⟨cb, base, o, by rw [h4]; exact g1, g2, h5 _ _ g3⟩
      · obtain ⟨b0, k0, h1, h2, h3, h4, _, h6⟩ := hfrom b k hk (hol ho)
        obtain ⟨b1, k1, g1, g2, g3, g4, _, g6⟩ := hfrom b' k' hk' hl
        have hne' : b0 ≠ b1 := by
          intro he
          subst he
          rcases h6 with ⟨p1, p2⟩ | ⟨p1, p2, p3⟩ <;> rcases g6 with ⟨q1, q2⟩ | ⟨q1, q2, q3⟩
          · exact hne (p2.symm.trans q2)
          · omega
          · omega
          · have := (List.getElem?_inj (lt_of_get p3) hinv.1).1 (p3.trans q3.symm); omega
        rw [h4] at hx; rw [g4] at hy
        exact h.uniq b0 b1 k0 k1 h1 g1 (by rw [h3]; exact ho) g2 hne' cb x y hx hy
      · simp at hb
        have h1 : ¬ b < n := by omega
        have h2 : kept[b - n]? = none := List.getElem?_eq_none (by omega)
        simp [renRho, h1, h2]
      · exact hL.ren (fun _ _ h => h) (fun b hb => renRho_renum (hc1 b hb)) (fun _ _ h => h)
      · refine ⟨fun b hb => by simp [renRho, hb], fun _ _ h => h, Nat.le_refl _, fun _ _ _ => rfl, fun cb hcb ho => hown cb ho, rfl, rfl, fun _ _ h => h, fun cb hcb ho => ho.elim (fun ho => .inl ?_) .inr, fun _ r h => ⟨r, h⟩⟩
        obtain ⟨b, k, x, hk, hlv, hr⟩ := ho
        obtain ⟨b0, k0, h1, h2, _, h4, _, _⟩ := hfrom b k hk hlv
        exact ⟨b0, k0, x, h1, h2, by rw [← h4]; exact hr⟩
    · exact ⟨ρ, h, hL, .refl _, hn, fun _ _ => rfl, .inl rfl, rfl⟩
  · exact ⟨ρ, h, hL, .refl _, hn, fun _ _ => rfl, .inl rfl, rfl⟩
where
  BRel.congr_rho {ρ ρ' : Ren} {k : Blk} {base : Nat} {o : Obj} {sh : Sh} (h : BRel P ρ sh k base o) (hz : ∀ cb c, ρ.fz cb = some c → ρ'.fz cb = some c) (hc : ∀ r ∈ blkRefs k, ρ' r = ρ r) : BRel P ρ' sh k base o := by
    cases k with
    | cells cs e own =>
      obtain ⟨carr, fz, h1, h2, h3, h4⟩ := h
      refine ⟨carr, fz, h1, ⟨h2.1, fun i v hv => ?_⟩, h3, h4⟩
      obtain ⟨y, hy, hr⟩ := h2.2 i v hv
      exact ⟨y, hy, hr.congr hz (fun b hb => hc b (mem_lrefs.2 ⟨v, List.mem_of_getElem? hv, hb⟩))⟩
    | map es clock =>
      obtain ⟨h0, ces, h1, h2, h3⟩ := h
      refine ⟨h0, ces, h1, h2, fun i e he => ?_⟩
      obtain ⟨ce, hc1, hk, hv, hb⟩ := h3 i e he
      have hm : ∀ r, r ∈ vrefs e.key ∨ r ∈ vrefs e.val → ρ' r = ρ r := fun r hr => hc r (by
        simp only [blkRefs, List.mem_flatMap, List.mem_append]; exact ⟨e, List.mem_of_getElem? he, hr⟩)
      exact ⟨ce, hc1, hk.congr hz (fun b hb => hm b (.inl hb)), hv.congr hz (fun b hb => hm b (.inr hb)), hb⟩
    | iter m a b c =>
      obtain ⟨h0, cm, h1, h2⟩ := h
      refine ⟨h0, cm, h1, ?_⟩
      rcases h2 with ⟨rfl, g⟩ | ⟨r', cr, rfl, g, h3⟩
      · exact .inl ⟨rfl, g⟩
      · exact .inr ⟨r', cr, rfl, g, by rw [hc r' (by simp [blkRefs]), h3]⟩
    | loop f ps x y fr s =>
      obtain ⟨h0, r, h1, h2, h3, h4, h5, h6⟩ := h
      exact ⟨h0, r, h1, h2, h3, h4, ⟨h5.1, fun i v hv => let ⟨y, hy, hr⟩ := h5.2 i v hv; ⟨y, hy, hr.congr hz (fun b hb => hc b (mem_lrefs.2 ⟨v, List.mem_of_getElem? hv, hb⟩))⟩⟩, h6⟩
    | dead => trivial
end
end Go.Am

end
section
namespace Go.Am

/-- later blocks that an earlier one names were there before, or are told -/
def Up (H H' : List Blk) (e' : Option Nat) : Prop :=
  ∀ (b : Nat) (k : Blk) (r : Nat), b < H.length → H'[b]? = some k → r ∈ blkRefs k → b < r → (∃ k0, H[b]? = some k0 ∧ r ∈ blkRefs k0) ∨ (∃ m, e' = some m ∧ m ≤ b)

def escLe (e e' : Option Nat) : Prop := ∀ m, e = some m → ∃ m', e' = some m' ∧ m' ≤ m

def UpC (st s : AS) : Prop := Up st.H s.H s.esc ∧ escLe st.esc s.esc ∧ st.H.length ≤ s.H.length

theorem escLe.refl (e : Option Nat) : escLe e e := fun m h => ⟨m, h, Nat.le_refl _⟩
theorem escLe.trans {a b c : Option Nat} (h : escLe a b) (h' : escLe b c) : escLe a c := fun m hm => by
  obtain ⟨m1, h1, h2⟩ := h m hm
  obtain ⟨m2, h3, h4⟩ := h' m1 h1
  exact ⟨m2, h3, Nat.le_trans h4 h2⟩

theorem UpC.refl (st : AS) : UpC st st := ⟨fun b k r _ hk hr _ => .inl ⟨k, hk, hr⟩, .refl _, Nat.le_refl _⟩

theorem Up.step {H H1 H2 : List Blk} {e1 e2 : Option Nat} (h : Up H H1 e1) (hn : H.length ≤ H1.length) (h' : Up H1 H2 e2) (he : escLe e1 e2) : Up H H2 e2 := by
  intro b k r hb hk hr hlt
  rcases h' b k r (Nat.lt_of_lt_of_le hb hn) hk hr hlt with ⟨k1, h1, h2⟩ | h3
  · rcases h b k1 r hb h1 h2 hlt with h4 | ⟨m, h5, h6⟩
    · exact .inl h4
    · obtain ⟨m', h7, h8⟩ := he m h5
      exact .inr ⟨m', h7, Nat.le_trans h8 h6⟩
  · exact .inr h3

theorem UpC.trans {a b c : AS} (h : UpC a b) (h' : UpC b c) : UpC a c := ⟨h.1.step h.2.2 h'.1 h'.2.1, h.2.1.trans h'.2.1, Nat.le_trans h.2.2 h'.2.2⟩

theorem UpC.app {st s : AS} {L : List Blk} (h1 : s.H = st.H ++ L) (h2 : s.esc = st.esc) : UpC st s := by
  refine ⟨fun b k r hb hk hr _ => .inl ?_, by rw [h2]; exact .refl _, by rw [h1]; simp⟩
  rw [h1, List.getElem?_append_left hb] at hk
  exact ⟨k, hk, hr⟩

theorem minO_le (e : Option Nat) (b : Nat) : ∃ m, minO e b = some m ∧ m ≤ b := by
  cases e with
  | none => exact ⟨b, rfl, Nat.le_refl _⟩
  | some a => exact ⟨min a b, rfl, Nat.min_le_right _ _⟩

theorem minO_esc (e : Option Nat) (b : Nat) : escLe e (minO e b) := by
  intro m hm; subst hm; exact ⟨min m b, rfl, Nat.min_le_left _ _⟩

theorem escOf_le (b : Nat) : ∀ (l : List Nat) (e : Option Nat), escLe e (escOf e b l)
  | [], e => .refl _
  | r :: rs, e => by
    simp only [escOf]
    split
    · exact minO_esc e b
    · exact escOf_le b rs e

theorem escOf_mem (b : Nat) : ∀ (l : List Nat) (e : Option Nat) (r : Nat), r ∈ l → b < r → ∃ m, escOf e b l = some m ∧ m ≤ b
  | [], e, r, h, _ => by simp at h
  | x :: xs, e, r, h, hlt => by
    simp only [escOf]
    by_cases hx : b < x
    · rw [if_pos hx]; exact minO_le e b
    · rw [if_neg hx]
      rcases List.mem_cons.1 h with rfl | h
      · exact absurd hlt hx
      · exact escOf_mem b xs _ r h hlt

theorem UpC.set {st s : AS} {b : Nat} {k k' : Blk} {l : List Nat} (hk : st.H[b]? = some k) (h1 : s.H = st.H.set b k') (h2 : s.esc = escOf st.esc b l) (h3 : ∀ r ∈ blkRefs k', r ∈ blkRefs k ∨ r ∈ l) : UpC st s := by
  refine ⟨fun c k1 r hc hk1 hr hlt => ?_, by rw [h2]; exact escOf_le _ _ _, by rw [h1]; simp⟩
  rw [h1] at hk1
  by_cases hcb : b = c
  · subst hcb
    rw [List.getElem?_set_self hc] at hk1; simp at hk1; subst hk1
    rcases h3 r hr with h4 | h4
    · exact .inl ⟨k, hk, h4⟩
    · exact .inr (by rw [h2]; exact escOf_mem _ _ _ r h4 hlt)
  · rw [List.getElem?_set_ne hcb] at hk1
    exact .inl ⟨k1, hk1, hr⟩

theorem UpC.kill {st s : AS} {b : Nat} (h1 : s.H = st.H.set b .dead) (h2 : s.esc = st.esc) : UpC st s := by
  refine ⟨fun c k1 r hc hk1 hr hlt => ?_, by rw [h2]; exact .refl _, by rw [h1]; simp⟩
  rw [h1] at hk1
  by_cases hcb : b = c
  · subst hcb
    rw [List.getElem?_set_self hc] at hk1; simp at hk1; subst hk1; simp [blkRefs] at hr
  · rw [List.getElem?_set_ne hcb] at hk1
    exact .inl ⟨k1, hk1, hr⟩

theorem lrefs_append (a b : List Value) : lrefs (a ++ b) = lrefs a ++ lrefs b := by
  induction a with
  | nil => rfl
  | cons x xs ih => simp [lrefs, ih]

theorem putCells_refs {cs vs : List Value} {off r : Nat} (h : r ∈ lrefs (putCells cs off vs)) : r ∈ lrefs cs ∨ r ∈ lrefs vs := by
  unfold putCells at h
  rw [lrefs_append, lrefs_append] at h
  simp only [List.mem_append] at h
  rcases h with (h | h) | h
  · obtain ⟨v, hv, hr⟩ := mem_lrefs.1 h
    exact .inl (mem_lrefs.2 ⟨v, List.mem_of_mem_take hv, hr⟩)
  · exact .inr h
  · obtain ⟨v, hv, hr⟩ := mem_lrefs.1 h
    exact .inl (mem_lrefs.2 ⟨v, List.mem_of_mem_drop hv, hr⟩)

theorem storeL_up {st s : AS} {b off : Nat} {vs : List Value} (h : storeL st b off vs = some s) : UpC st s := by
  unfold storeL at h
  split at h
  · rename_i cs e hb
    rw [ite_some] at h
    obtain ⟨_, h⟩ := h
    simp at h; subst h
    exact .set hb rfl rfl (fun r hr => putCells_refs hr)
  · simp at h

theorem append_up {P : Program} {argTypes : Array TypeId} {x y v : Value} {st s : AS} (h : aAppend P argTypes x y st = some (v, s)) : UpC st s := by
  unfold aAppend at h
  split at h
  case h_2 => simp at h
  split at h
  case h_2 => simp at h
  split at h
  case h_2 => simp at h
  rw [ite_some] at h
  obtain ⟨_, h⟩ := h
  split at h
  · split at h
    · split at h
      · simp at h; obtain ⟨_, rfl⟩ := h; exact .refl _
      · split at h
        · simp [aRow, newBlk] at h; obtain ⟨_, rfl⟩ := h; exact .app rfl rfl
        · simp at h
    · simp at h
  · split at h
    · simp at h; obtain ⟨_, rfl⟩ := h; exact .refl _
    · split at h
      · split at h
        · split at h
          · simp only [Option.map_eq_some_iff] at h
            obtain ⟨s', h1, h2⟩ := h
            simp at h2; obtain ⟨_, rfl⟩ := h2
            exact storeL_up h1
          · simp only [Option.map_eq_some_iff] at h
            obtain ⟨old, h1, h2⟩ := h
            simp [aRow, newBlk] at h2; obtain ⟨_, rfl⟩ := h2; exact .app rfl rfl
        · split at h
          · rw [ite_some] at h
            obtain ⟨_, h⟩ := h
            simp [aRow, newBlk] at h; obtain ⟨_, rfl⟩ := h
            refine UpC.trans (b := ⟨st.H.set _ .dead, st.esc⟩) ?_ (UpC.app rfl rfl)
            exact .kill rfl rfl
          · simp at h
      · simp at h
  · rw [ite_some] at h
    obtain ⟨_, h⟩ := h
    rw [Option.map_eq_some_iff] at h
    obtain ⟨cs, _, h⟩ := h
    simp [aRow, newBlk] at h; obtain ⟨_, rfl⟩ := h; exact .app rfl rfl
  · simp at h

theorem copy_up {P : Program} {argTypes : Array TypeId} {x y v : Value} {st s : AS} (h : aCopy P argTypes x y st = some (v, s)) : UpC st s := by
  unfold aCopy at h
  split at h
  · simp at h
  · split at h
    · split at h
      · split at h
        · simp at h; obtain ⟨_, rfl⟩ := h; exact .refl _
        · simp only [Option.map_eq_some_iff] at h
          obtain ⟨s', h1, h2⟩ := h
          simp at h2; obtain ⟨_, rfl⟩ := h2
          exact storeL_up h1
      · split at h
        · simp at h; obtain ⟨_, rfl⟩ := h; exact .refl _
        · simp at h
      · simp at h
    · simp at h

theorem range_up {P : Program} {t : TypeId} {x v : Value} {st s : AS} (h : aRange P t x st = some (v, s)) : UpC st s := by
  unfold aRange at h
  split at h
  · simp at h; obtain ⟨_, rfl⟩ := h; exact .app rfl rfl
  · split at h
    · simp at h; obtain ⟨_, rfl⟩ := h; exact .app rfl rfl
    · simp at h
  · simp at h

theorem next_up {x : Value} {st : AS} {q : Nat × (Nat → Value × AS)} (h : aNext x st = some q) : 0 < q.1 ∧ ∀ i, UpC st (q.2 i).2 := by
  unfold aNext at h
  split at h
  · split at h
    · simp at h; subst h; exact ⟨by simp, fun i => .refl _⟩
    · rename_i r a s c hb
      split at h
      · rename_i es clock hm
        rw [ite_some] at h
        obtain ⟨_, h⟩ := h
        split at h
        · simp at h; subst h; exact ⟨by simp, fun i => .refl _⟩
        · simp at h; subst h
          exact ⟨by simp, fun i => UpC.set (l := []) hb rfl rfl (fun r hr => .inl hr)⟩
      · simp at h
    · simp at h
  · simp at h

theorem mapUpdate_up {P : Program} {t : TypeId} {m k v : Value} {st s : AS} (h : aMapUpdate P t m k v st = some s) : UpC st s := by
  unfold aMapUpdate at h
  split at h
  · split at h
    · rename_i es clock hr
      rw [ite_some] at h
      obtain ⟨⟨hpk, _, _⟩, h⟩ := h
      have hkr : vrefs k = [] := VRel.known.plain_refs k hpk
      split at h
      · split at h
        · rename_i i hi en hen
          rw [ite_some] at h
          obtain ⟨_, h⟩ := h
          simp at h; subst h
          refine .set hr rfl rfl (fun r hr => ?_)
          simp only [blkRefs, List.mem_flatMap, List.mem_append] at hr ⊢
          obtain ⟨e', he', hr'⟩ := hr
          rcases List.mem_or_eq_of_mem_set he' with he' | rfl
          · exact .inl ⟨e', he', hr'⟩
          · simp only [hkr] at hr'
            rcases hr' with hr' | hr'
            · simp at hr'
            · exact .inr hr'
        · simp at h
      · simp at h; subst h
        refine .set hr rfl rfl (fun r hr => ?_)
        simp only [blkRefs, List.flatMap_append, List.mem_append, List.flatMap_cons, List.flatMap_nil, hkr, List.nil_append, List.append_nil] at hr ⊢
        exact hr
      · simp at h
    · simp at h
  · simp at h

theorem delete_up {P : Program} {at_ : Array TypeId} {m k : Value} {st s : AS} (h : aDelete P at_ m k st = some s) : UpC st s := by
  unfold aDelete at h
  split at h
  · split at h
    · rename_i es clock hr
      rw [ite_some] at h
      obtain ⟨_, h⟩ := h
      split at h
      · simp at h; subst h
        refine .set (l := []) hr rfl rfl (fun r hr => .inl ?_)
        simp only [blkRefs, List.mem_flatMap] at hr ⊢
        obtain ⟨e', he', hr'⟩ := hr
        exact ⟨e', List.mem_of_mem_eraseIdx he', hr'⟩
      · simp at h; subst h; exact .refl _
      · simp at h
    · simp at h
  · simp at h

theorem clear_up {P : Program} {at_ : Array TypeId} {m : Value} {st s : AS} (h : aClear P at_ m st = some s) : UpC st s := by
  unfold aClear at h
  split at h
  · simp at h; subst h; exact .refl _
  · split at h
    · rename_i es clock hr
      simp at h; subst h
      exact .set (l := []) hr rfl rfl (fun r hr => by simp [blkRefs] at hr)
    · simp at h
  · simp at h

/-- a walk's block, in another state -/
theorem setLoop_up {l : Nat} {st s : AS} {ok : LSt → Bool} {s' : LSt} (h : setLoop l st ok s' = some s) : UpC st s := by
  unfold setLoop at h
  split at h
  · rename_i f ps x y fr s0 hr
    rw [ite_some] at h
    obtain ⟨_, h⟩ := h
    simp at h; subst h
    exact .set (l := []) hr rfl rfl (fun r hr => .inl hr)
  · simp at h

theorem conv_up {P : Program} {a b : TypeId} {x v : Value} {st s : AS} (h : aConv P a b x st = some (v, s)) : UpC st s := by
  unfold aConv at h
  split at h
  · simp at h; obtain ⟨_, rfl⟩ := h; exact .refl _
  · simp at h; obtain ⟨_, rfl⟩ := h; exact .refl _
  · rw [ite_some] at h
    obtain ⟨_, h⟩ := h
    simp [aRow, newBlk] at h; obtain ⟨_, rfl⟩ := h; exact .app rfl rfl
  · rw [ite_some] at h
    obtain ⟨_, h⟩ := h
    simp at h; obtain ⟨_, rfl⟩ := h; exact .refl _
  · rw [ite_some] at h
    obtain ⟨_, h⟩ := h
    simp only [Option.map_eq_some_iff] at h
    obtain ⟨l, _, h⟩ := h
    simp at h; obtain ⟨_, rfl⟩ := h; exact .refl _
  · split at h
    · rw [ite_some] at h
      obtain ⟨_, h⟩ := h
      simp at h; obtain ⟨_, rfl⟩ := h; exact .refl _
    · simp at h
  · rw [ite_some] at h
    obtain ⟨_, h⟩ := h
    simp only [Option.map_eq_some_iff] at h
    obtain ⟨l, _, h⟩ := h
    simp at h; obtain ⟨_, rfl⟩ := h; exact .refl _
  · simp at h

theorem makeSlice_up {P : Program} {t : TypeId} {x y v : Value} {st s : AS} (h : aMakeSlice P t x y st = some (v, s)) : UpC st s := by
  unfold aMakeSlice at h
  split at h
  · split at h
    · rw [ite_some] at h
      obtain ⟨_, h⟩ := h
      simp [aRow, newBlk] at h; obtain ⟨_, rfl⟩ := h; exact .app rfl rfl
    · simp at h
  · simp at h

theorem buildSlice_up {P : Program} {t : TypeId} {n : Nat} {l : List (Nat × Value)} {v : Value} {st s : AS} (h : aBuildSlice P t n l st = some (v, s)) : UpC st s := by
  unfold aBuildSlice at h
  split at h
  · split at h
    · rw [ite_some] at h
      obtain ⟨_, h⟩ := h
      split at h
      · simp [aRow, newBlk] at h; obtain ⟨_, rfl⟩ := h; exact .app rfl rfl
      · simp at h
    · simp at h
  · simp at h

theorem frz_up {P : Program} (n0 k : Nat) (l : List Value) (st : AS) : UpC st ⟨(frzL (frz P n0 k) l st.H).2, st.esc⟩ := by
  obtain ⟨h1, h2⟩ := frzL_kill (frz_kill (P := P) n0 k) l st.H
  refine ⟨fun c k1 r hc hk1 hr hlt => ?_, .refl _, Nat.le_of_eq h1.symm⟩
  rcases h2 c with h | h
  · exact .inl ⟨k1, by rw [← h]; exact hk1, hr⟩
  · rw [h] at hk1; simp at hk1; subst hk1; simp [blkRefs] at hr

theorem box_up {e : TypeId} {x v : Value} {st s : AS} (h : aBox e x st = some (v, s)) : UpC st s := by
  unfold aBox at h
  rw [ite_some] at h
  obtain ⟨_, h⟩ := h
  simp [newBlk] at h; obtain ⟨_, rfl⟩ := h; exact .app rfl rfl

theorem store_up {n : Nat} {p v : Value} {st s : AS} (h : aStore n st p v = some s) : UpC st s := by
  unfold aStore at h
  split at h
  · rw [ite_some] at h
    exact storeL_up h.2
  · simp at h

/-- a callee tells what it let escape -/
def CUp (C : Callee) : Prop := ∀ (f : FuncId) (args : List Value) (H : List Blk) (v : Value) (H' : List Blk) (e : Option Nat), C f args H = some (v, H', e) → Up H H' e ∧ H.length ≤ H'.length

theorem call_up {C : Callee} (hC : CUp C) {f : FuncId} {args : List Value} {v : Value} {st : AS} {H' : List Blk} {e : Option Nat} (h : C f args st.H = some (v, H', e)) : UpC st ⟨H', joinEsc st.esc e⟩ := by
  obtain ⟨h1, h2⟩ := hC _ _ _ _ _ _ h
  refine ⟨fun b k r hb hk hr hlt => ?_, ?_, h2⟩
  · rcases h1 b k r hb hk hr hlt with h3 | ⟨m, h3, h4⟩
    · exact .inl h3
    · subst h3
      obtain ⟨m', h5, h6⟩ := minO_le st.esc m
      exact .inr ⟨m', h5, Nat.le_trans h6 h4⟩
  · cases e with
    | none => exact .refl _
    | some m => exact minO_esc _ _

section
variable {R : Type} {P : Program}
open Classical in
/-- what comes behind an operation may ask for it -/
theorem eop_guard {C : Callee} (hC : CUp C) {o : Oper} {fr : List Value} {st : AS} {k : Value → AS → Option R} {r : R} (h : eop P C fr st o k = some r) :
    eop P C fr st o (fun v s => if UpC st s then k v s else none) = some r := by
  have hr : UpC st st := .refl _
  have pure1 : ∀ (x : Option Value), x.bind (k · st) = some r → x.bind (fun v => if UpC st st then k v st else none) = some r := by
    intro x hx
    cases x with
    | none => simp at hx
    | some v => simpa [hr] using hx
  have two : ∀ (x : Option (Value × AS)), (∀ v s, x = some (v, s) → UpC st s) → (x.bind fun r => k r.1 r.2) = some r → (x.bind fun r => if UpC st r.2 then k r.1 r.2 else none) = some r := by
    intro x hu hx
    cases x with
    | none => simp at hx
    | some v => simpa [hu v.1 v.2 rfl] using hx
  have one : ∀ (x : Option AS) (v : Value), (∀ s, x = some s → UpC st s) → (x.bind fun s => k v s) = some r → (x.bind fun s => if UpC st s then k v s else none) = some r := by
    intro x v hu hx
    cases x with
    | none => simp at hx
    | some s => simpa [hu s rfl] using hx
  cases hop : o.op <;> simp only [eop, hop] at h ⊢
  case move x => rw [if_pos hr]; exact h
  case assign x => rw [if_pos hr]; exact h
  case pick c a b => exact pure1 _ h
  case alloc elem =>
    obtain ⟨z, hz, h⟩ := Option.bind_eq_some_iff.1 h
    rw [hz]; simp only [Option.bind_some]
    rw [ite_some] at h
    rw [if_pos h.1]
    exact two _ (fun v s hs => box_up hs) h.2
  case box elem x => exact two _ (fun v s hs => box_up hs) h
  case build t parts => exact pure1 _ h
  case buildSlice t n parts => exact two _ (fun v s hs => (frz_up 0 8 _ st).trans (buildSlice_up hs)) h
  case load t a =>
    cases h1 : isAggP P t with
    | none => simp [h1] at h
    | some g =>
      cases h2 : sizeP P t with
      | none => simp [h1, h2] at h
      | some n => simp only [h1, h2] at h ⊢; exact pure1 _ h
  case store t a x =>
    cases h2 : sizeP P t with
    | none => simp [h2] at h
    | some n => simp only [h2] at h ⊢; exact one _ _ (fun s hs => store_up hs) h
  case nilCheck x => exact pure1 _ h
  case binOp op t x y u => exact pure1 _ h
  case unOp op t x => exact pure1 _ h
  case convert s d x => exact two _ (fun v s hs => conv_up hs) h
  case makeFunc fn a b => split at h <;> first | (rw [if_pos hr]; exact h) | (simp at h)
  case makeMap t x =>
    cases x with
    | none => simp only at h ⊢; rw [if_pos (.app rfl rfl)]; exact h
    | some x => simp at h
  case makeSlice t l c => exact two _ (fun v s hs => makeSlice_up hs) h
  case slice t x lo hi mx => exact pure1 _ h
  case fieldAddr s x f => exact pure1 _ h
  case field t x f => exact pure1 _ h
  case indexAddr t x ix => exact pure1 _ h
  case index t x ix =>
    rw [ite_some] at h
    rw [if_pos h.1]
    exact pure1 _ h.2
  case lookup t m ky ok => exact pure1 _ h
  case mapUpdate t m ky x => exact one _ _ (fun s hs => mapUpdate_up hs) h
  case insert t m ky x => exact one _ _ (fun s hs => mapUpdate_up hs) h
  case sliceToArrayPointer t x => exact pure1 _ h
  case range t x => exact two _ (fun v s hs => range_up hs) h
  case entry x => exact pure1 _ h
  case extract t ix => exact pure1 _ h
  case call c =>
    cases hcal : c.callee with
    | value f =>
      simp only [hcal] at h ⊢
      obtain ⟨g, hg, h⟩ := Option.bind_eq_some_iff.1 h
      obtain ⟨⟨v, H', e'⟩, hcall, h⟩ := Option.bind_eq_some_iff.1 h
      rw [hg]; simp only [Option.bind_some]
      rw [hcall]; simp only [Option.bind_some]
      rw [if_pos (call_up hC hcall)]; exact h
    | builtin b =>
      simp only [hcal] at h ⊢
      unfold eBuiltin at h ⊢
      split at h
      · obtain ⟨t, ht, h⟩ := Option.bind_eq_some_iff.1 h
        rw [ht]; exact pure1 _ h
      · exact two _ (fun v s hs => append_up hs) h
      · exact two _ (fun v s hs => copy_up hs) h
      · exact one _ _ (fun s hs => delete_up hs) h
      · exact one _ _ (fun s hs => clear_up hs) h
      · exact pure1 _ h
      · exact pure1 _ h
      · simp at h
    | invoke a m => simp [hcal] at h
  all_goals (simp at h)

end
end Go.Am

end
section
namespace Go.Am

section
variable {P : Program}

/-- an activation: what it began with -/
structure Base (P : Program) where
  ρ : Ren
  H : List Blk
  w : World
  rel : Rel P ρ H w
  /-- what was deferred ahead of it -/
  dfr : List Deferred := []

/-- what a function that walked over others' values has still to do at its end: nothing -/
def Marks (n : Nat) (w : World) (ds : List Deferred) : Prop := ds.Nodup ∧ ∀ d ∈ ds, ∃ m, d = { target := .collected m, args := #[] } ∧ n ≤ m ∧ w.heap[m]? = some (.deferred (some []))
theorem Marks.nil (n : Nat) (w : World) : Marks n w [] := ⟨List.nodup_nil, fun d h => by simp at h⟩
theorem Rel.not_deferred {ρ : Ren} {H : List Blk} {w : World} (h : Rel P ρ H w) {m : Nat} {x : Option (List Deferred)} (hm : w.heap[m]? = some (.deferred x)) : ¬ Mapped ρ H m := by
  rintro (⟨b, k, y, h1, h2, h3⟩ | ⟨c, hc⟩)
  · obtain ⟨cb, base, o, g1, g2, g3⟩ := h.blk b k h1 h2
    rw [h3] at g1
    simp only [Option.some.injEq, Prod.mk.injEq] at g1
    obtain ⟨rfl, rfl⟩ := g1
    rw [hm] at g2
    simp only [Option.some.injEq] at g2
    subst g2
    cases k with
    | cells cs e o => obtain ⟨_, _, h, _⟩ := g3; simp at h
    | map es c => obtain ⟨_, _, h, _⟩ := g3; simp at h
    | iter m a b c => obtain ⟨_, _, h, _⟩ := g3; simp at h
    | loop f ps x y fr s => obtain ⟨_, _, h, _⟩ := g3; simp at h
    | dead => simp [Blk.live] at h2
  · obtain ⟨⟨e, fz, g⟩, _⟩ := h.frozen m c hc
    rw [hm] at g
    simp at g
theorem Owned.mapped {ρ : Ren} {H : List Blk} {m : Nat} (h : Owned ρ H m) : Mapped ρ H m := by
  obtain ⟨b, k, x, h1, h2, h3⟩ := h
  refine .inl ⟨b, k, x, h1, ?_, h3⟩
  cases k <;> simp_all [Blk.owns, Blk.live]
theorem Marks.step {n n' : Nat} {ρ ρ' : Ren} {H H' : List Blk} {w w' : World} {ds : List Deferred} (h : Marks n w ds) (hr : Rel P ρ H w) (hs : Step n' ρ H w ρ' H' w') : Marks n w' ds := by
  refine ⟨h.1, fun d hd => ?_⟩
  obtain ⟨m, h1, h2, h3⟩ := h.2 d hd
  exact ⟨m, h1, h2, by rw [hs.keep m (lt_of_getA h3) (fun ho => hr.not_deferred h3 ho.mapped)]; exact h3⟩

/-- what is still to do at the end: marks, and what was to do ahead -/
def MarksB (B : Base P) (w : World) (ds : List Deferred) : Prop := ∃ ms, ds = ms ++ B.dfr ∧ Marks B.w.heap.size w ms
theorem MarksB.step {B : Base P} {n' : Nat} {ρ ρ' : Ren} {H H' : List Blk} {w w' : World} {ds : List Deferred} (h : MarksB B w ds) (hr : Rel P ρ H w) (hs : Step n' ρ H w ρ' H' w') : MarksB B w' ds := by
  obtain ⟨ms, h1, h2⟩ := h
  exact ⟨ms, h1, h2.step hr hs⟩
theorem MarksB.nil (B : Base P) (w : World) : MarksB B w B.dfr := ⟨[], rfl, .nil _ _⟩

/-- the machine's frame and blocks, and the model's -/
def Stt (B : Base P) (nt : Nat) (fr : List Value) (st : AS) (a : Act) (w : World) : Prop :=
  ∃ ρ, Rel P ρ st.H w ∧ LRel P ρ w.shape? fr a.tmps.toList ∧ Step B.H.length B.ρ B.H B.w ρ st.H w ∧ Up B.H st.H st.esc ∧ B.H.length ≤ st.H.length ∧ MarksB B w a.defers ∧ fr.length = nt

theorem rho_mono {ρ ρ' : Ren} {H H' : List Blk} {w w' : World} (h : Rel P ρ H w) (hs : Step H.length ρ H w ρ' H' w') : ∀ b x, ρ b = some x → ρ' b = some x := by
  intro b x hb
  by_cases hlt : b < H.length
  · rw [hs.ext b hlt]; exact hb
  · rw [h.dom b (Nat.le_of_not_lt hlt)] at hb; simp at hb

theorem put_tmps (a : Act) (d : Option Tmp) (v : Value) : (a.put d v).tmps.toList = setD a.tmps.toList d v := by
  cases d <;> simp [Act.put, setD]
theorem put_defers (a : Act) (d : Option Tmp) (v : Value) : (a.put d v).defers = a.defers := by cases d <;> rfl

theorem setD_rel {ρ : Ren} {sh : Sh} {fr fr' : List Value} {d : Option Tmp} {v v' : Value} (h : LRel P ρ sh fr fr') (hv : VRel P ρ sh v v') : LRel P ρ sh (setD fr d v) (setD fr' d v') := by
  cases d with
  | none => exact h
  | some d => exact h.set d hv

theorem setD_length (fr : List Value) (d : Option Tmp) (v : Value) : (setD fr d v).length = fr.length := by cases d <;> simp [setD]

/-- a step taken -/
theorem Stt.step {B : Base P} {nt : Nat} {fr : List Value} {st s : AS} {a : Act} {w w' : World} {ρ : Ren} {v cv : Value} {d : Option Tmp} (hrel : Rel P ρ st.H w) (hfr : LRel P ρ w.shape? fr a.tmps.toList)
    (hst : Step B.H.length B.ρ B.H B.w ρ st.H w) (hup : Up B.H st.H st.esc) (hn : B.H.length ≤ st.H.length) (hd : MarksB B w a.defers) (hl : fr.length = nt) (ho : Out P st.H.length ρ st.H w s.H v cv w') (hu : UpC st s) :
    Stt B nt (setD fr d v) s (a.put d cv) w' := by
  obtain ⟨⟨ρ', h1, h2, h3⟩, h4⟩ := ho
  refine ⟨ρ', h1, ?_, hst.trans (h2.less hn), hup.step hn hu.1 hu.2.1, Nat.le_trans hn h4, by rw [put_defers]; exact hd.step hrel h2, by rw [setD_length]; exact hl⟩
  rw [put_tmps]
  exact setD_rel (hfr.mono h2.fz (rho_mono hrel h2) h2.shape) h3

theorem Stt.same {B : Base P} {nt : Nat} {fr : List Value} {st : AS} {a : Act} {w : World} {v cv : Value} {d : Option Tmp} (h : Stt B nt fr st a w) (hv : plain v = true) (hcv : cv = v) : Stt B nt (setD fr d v) st (a.put d cv) w := by
  obtain ⟨ρ, h1, h2, h3, h4, h5, h6, h7⟩ := h
  subst hcv
  exact ⟨ρ, h1, by rw [put_tmps]; exact setD_rel h2 (.same _ hv), h3, h4, h5, by rw [put_defers]; exact h6, by rw [setD_length]; exact h7⟩

/-- a bool that is known is written where it stands -/
theorem Stt.known {B : Base P} {nt : Nat} {fr : List Value} {st : AS} {a : Act} {w : World} {d : Nat} {b : Bool} (h : Stt B nt fr st a w) (hb : fr.getD d unk = .bool b) : Stt B nt (fr.set d (.bool b)) st a w ∧ a.tmps[d]? = some (.bool b) := by
  obtain ⟨ρ, h1, h2, h3, h4, h5, h6, h7⟩ := h
  have hd : fr[d]? = some (.bool b) := by
    simp only [List.getD] at hb
    cases hx : fr[d]? with
    | none => simp [hx, unk] at hb
    | some v => simp [hx] at hb; rw [hb]
  have e : fr.set d (.bool b) = fr := by
    apply List.ext_getElem?; intro i
    by_cases hi : d = i
    · subst hi; rw [List.getElem?_set_self (lt_of_get hd), hd]
    · rw [List.getElem?_set_ne hi]
  rw [e]
  refine ⟨⟨ρ, h1, h2, h3, h4, h5, h6, h7⟩, ?_⟩
  obtain ⟨y, hy, hr⟩ := h2.2 d _ hd
  rw [hr.bool_inv] at hy
  simpa using hy

variable {R : Type}

/-- one operation, in the midst of others -/
theorem eop_stt {ro : Option Nat} {C : Callee} (hC : CSound P C) (hU : CUp C) {B : Base P} {nt : Nat} {o : Oper} {fr : List Value} {st : AS} {a : Act} {w : World} {k : Value → AS → Option R} {r : R} {next : Act → World → Prop} {Q : Exit → Act → World → Prop}
    (hs : Stt B nt fr st a w) (h : eop P C fr st o k = some r) (hk : ∀ v s a' w', k v s = some r → Stt B nt (setD fr o.dst v) s a' w' → next a' w') : o.wpIn (Wd ro) 0 P a w next Q := by
  obtain ⟨ρ, h1, h2, h3, h4, h5, h6, h7⟩ := hs
  refine eop_sound hC h2 h1 (eop_guard hU h) (fun v s cv w' hv ho => ?_)
  have hu : UpC st s := by
    by_cases hu : UpC st s
    · exact hu
    · rw [if_neg hu] at hv; simp at hv
  rw [if_pos hu] at hv
  exact hk v s _ w' hv (.step h1 h2 h3 h4 h5 h6 h7 ho hu)

theorem bcase_some {v : Value} {x y : Option R} {r : R} (h : bcase v x y = some r) : (v = .bool true ∧ x = some r) ∨ (v = .bool false ∧ y = some r) := by
  unfold bcase at h
  split at h
  · exact .inl ⟨rfl, h⟩
  · exact .inr ⟨rfl, h⟩
  · simp at h

theorem eops_soundJ {ro : Option Nat} {C : Callee} (hC : CSound P C) (hU : CUp C) {B : Base P} {nt : Nat} {ops : Array Oper} {chk : Nat → List Value → AS → Bool} {Q : Exit → Act → World → Prop} {js : List Nat} : ∀ (is sk : List Nat) (fr : List Value) (st : AS) (a : Act) (w : World) (k : List Value → AS → Option R) (r : R),
    Stt B nt fr st a w → eops P C ops chk is sk fr st k = some r → (∀ fr' st' a' w', Stt B nt fr' st' a' w' → k fr' st' = some r → wpOpsIn (Wd ro) 0 P ops Q js a' w') → wpOpsIn (Wd ro) 0 P ops Q (is ++ js) a w
  | [], sk, fr, st, a, w, k, r, hs, h, hk => by simp only [eops] at h; exact hk _ _ _ _ hs h
  | i :: is, sk, fr, st, a, w, k, r, hs, h, hk => by
    simp only [eops] at h
    simp only [List.cons_append, wpOpsIn]
    cases ho : ops[i]? with
    | none => simp [ho] at h
    | some o =>
      simp only [ho] at h ⊢
      cases hg : o.guard with
      | none =>
        simp only [hg] at h
        have hw : Region.wanted o (yielded ops a.tmps) = true := by simp [Region.wanted, hg]
        rw [if_pos hw]
        exact eop_stt hC hU hs h (fun v s a' w' hv hs' => by
          rw [ite_some] at hv
          exact eops_soundJ hC hU is sk _ s a' w' k r hs' hv.2 hk)
      | some g =>
        obtain ⟨j, want⟩ := g
        simp only [hg] at h
        cases hd : (ops[j]?).bind (·.dst) with
        | none => simp [hd] at h
        | some d =>
          simp only [hd] at h
          have skip : ∀ (fr1 : List Value) (sk1 : List Nat), Stt B nt fr1 st a w → Region.wanted o (yielded ops a.tmps) = false → (if chk i (setD fr1 o.dst undef) st = true then eops P C ops chk is sk1 (setD fr1 o.dst undef) st k else none) = some r →
              (if Region.wanted o (yielded ops a.tmps) then o.wpIn (Wd ro) 0 P a w (wpOpsIn (Wd ro) 0 P ops Q (is ++ js)) Q else (∀ f, o.about P w a.eval = some f → (Wd ro).fn f) ∧ wpOpsIn (Wd ro) 0 P ops Q (is ++ js) (a.put o.dst undef) w) := by
            intro fr1 sk1 hs1 hw h1
            rw [hw]
            simp only [Bool.false_eq_true, if_false]
            rw [ite_some] at h1
            exact ⟨fun _ _ => trivial, eops_soundJ hC hU is sk1 _ st _ w k r (hs1.same rfl rfl) h1.2 hk⟩
          have run : ∀ (fr1 : List Value), Stt B nt fr1 st a w → Region.wanted o (yielded ops a.tmps) = true → eop P C fr1 st o (fun v s => if chk i (setD fr1 o.dst v) s = true then eops P C ops chk is sk (setD fr1 o.dst v) s k else none) = some r →
              (if Region.wanted o (yielded ops a.tmps) then o.wpIn (Wd ro) 0 P a w (wpOpsIn (Wd ro) 0 P ops Q (is ++ js)) Q else (∀ f, o.about P w a.eval = some f → (Wd ro).fn f) ∧ wpOpsIn (Wd ro) 0 P ops Q (is ++ js) (a.put o.dst undef) w) := by
            intro fr1 hs1 hw h1
            rw [if_pos hw]
            exact eop_stt hC hU hs1 h1 (fun v s a' w' hv hs' => by
              rw [ite_some] at hv
              exact eops_soundJ hC hU is sk _ s a' w' k r hs' hv.2 hk)
          by_cases hsk : sk.contains j = true
          · rw [if_pos hsk] at h
            split at h
            · rename_i vs hv
              refine skip fr _ hs ?_ h
              obtain ⟨ρ, h1, h2, _⟩ := hs
              have hx := h2.getD d undef
              rw [hv] at hx
              obtain ⟨vs', hv', _⟩ := hx.tuple_inv
              have : yielded ops a.tmps j = none := by
                unfold yielded
                rw [hd]
                simp only [Option.bind_some]
                cases hq : a.tmps[d]? with
                | none => rfl
                | some u =>
                  have : a.tmps.toList.getD d undef = u := by simp [List.getD, hq]
                  rw [this] at hv'; subst hv'; rfl
              simp [Region.wanted, hg, this]
            · simp at h
          · rw [if_neg hsk] at h
            have yb : ∀ b, fr.getD d unk = .bool b → yielded ops a.tmps j = some b := by
              intro b hb
              have := (hs.known hb).2
              unfold yielded; rw [hd]; simp [this]
            rcases bcase_some h with ⟨hb, h⟩ | ⟨hb, h⟩
            · have hy := yb _ hb
              cases want with
              | true => exact run _ (hs.known hb).1 (by simp [Region.wanted, hg, hy]) (by simpa using h)
              | false => exact skip _ _ (hs.known hb).1 (by simp [Region.wanted, hg, hy]) (by simpa using h)
            · have hy := yb _ hb
              cases want with
              | true => exact skip _ _ (hs.known hb).1 (by simp [Region.wanted, hg, hy]) (by simpa using h)
              | false => exact run _ (hs.known hb).1 (by simp [Region.wanted, hg, hy]) (by simpa using h)

theorem eops_sound {ro : Option Nat} {C : Callee} (hC : CSound P C) (hU : CUp C) {B : Base P} {nt : Nat} {ops : Array Oper} {chk : Nat → List Value → AS → Bool} {Q : Exit → Act → World → Prop} (is sk : List Nat) (fr : List Value) (st : AS) (a : Act) (w : World) (k : List Value → AS → Option R) (r : R)
    (hs : Stt B nt fr st a w) (h : eops P C ops chk is sk fr st k = some r) (hk : ∀ fr' st' a' w', Stt B nt fr' st' a' w' → k fr' st' = some r → Q .normal a' w') : wpOpsIn (Wd ro) 0 P ops Q is a w := by
  have := eops_soundJ (ro := ro) hC hU (Q := Q) (js := []) is sk fr st a w k r hs h (fun fr' st' a' w' hs' hk' => hk fr' st' a' w' hs' hk')
  simpa using this

end
end Go.Am

end
