/- A part of the proof: Am13d, Am13e, Am13f. Its conditions: none. -/
import Derived.Test.YtpklhjeccbjalaaAm10
set_option linter.all false
set_option linter.unusedVariables false
set_option linter.unusedSimpArgs false
set_option linter.unnecessarySimpa false
section
namespace Go.Am

/-- a call that was made, and what it came to -/
structure Fact where
  f : FuncId
  args : List Value
  H : List Blk
  r : Value × List Blk × Option Nat

def Fact.of (C : Callee) (x : Fact) : Prop := C x.f x.args x.H = some x.r

section
variable {P : Program}
section
variable {R : Type}

/-- an operation goes on in one way, and hangs on one call at most -/
theorem eop_factor {C : Callee} {o : Oper} {fr : List Value} {st : AS} {k : Value → AS → Option R} {r : R} (h : eop P C fr st o k = some r) :
    ∃ v s, k v s = some r ∧ ∃ q : List Fact, (∀ x ∈ q, x.of C) ∧ ∀ (R' : Type) (C' : Callee) (k' : Value → AS → Option R'), (∀ x ∈ q, x.of C') → eop P C' fr st o k' = k' v s := by
  have two : ∀ (x : Option (Value × AS)), (x.bind fun r => k r.1 r.2) = some r → (∀ (R' : Type) (C' : Callee) (k' : Value → AS → Option R'), eop P C' fr st o k' = (x.bind fun r => k' r.1 r.2)) →
      ∃ v s, k v s = some r ∧ ∃ q : List Fact, (∀ x ∈ q, x.of C) ∧ ∀ (R' : Type) (C' : Callee) (k' : Value → AS → Option R'), (∀ x ∈ q, x.of C') → eop P C' fr st o k' = k' v s := by
    intro x hx he
    obtain ⟨y, hy, hk⟩ := Option.bind_eq_some_iff.1 hx
    exact ⟨_, _, hk, [], fun _ h => by simp at h, fun R' C' k' _ => by rw [he, hy]; rfl⟩
  have one : ∀ (x : Option AS) (v : Value), (x.bind fun s => k v s) = some r → (∀ (R' : Type) (C' : Callee) (k' : Value → AS → Option R'), eop P C' fr st o k' = (x.bind fun s => k' v s)) →
      ∃ v s, k v s = some r ∧ ∃ q : List Fact, (∀ x ∈ q, x.of C) ∧ ∀ (R' : Type) (C' : Callee) (k' : Value → AS → Option R'), (∀ x ∈ q, x.of C') → eop P C' fr st o k' = k' v s := by
    intro x v hx he
    obtain ⟨y, hy, hk⟩ := Option.bind_eq_some_iff.1 hx
    exact ⟨_, _, hk, [], fun _ h => by simp at h, fun R' C' k' _ => by rw [he, hy]; rfl⟩
  have pure1 : ∀ (x : Option Value), x.bind (k · st) = some r → (∀ (R' : Type) (C' : Callee) (k' : Value → AS → Option R'), eop P C' fr st o k' = x.bind (k' · st)) →
      ∃ v s, k v s = some r ∧ ∃ q : List Fact, (∀ x ∈ q, x.of C) ∧ ∀ (R' : Type) (C' : Callee) (k' : Value → AS → Option R'), (∀ x ∈ q, x.of C') → eop P C' fr st o k' = k' v s := by
    intro x hx he
    obtain ⟨y, hy, hk⟩ := Option.bind_eq_some_iff.1 hx
    exact ⟨_, _, hk, [], fun _ h => by simp at h, fun R' C' k' _ => by rw [he, hy]; rfl⟩
  have same : ∀ (v : Value) (s : AS), k v s = some r → (∀ (R' : Type) (C' : Callee) (k' : Value → AS → Option R'), eop P C' fr st o k' = k' v s) →
      ∃ v s, k v s = some r ∧ ∃ q : List Fact, (∀ x ∈ q, x.of C) ∧ ∀ (R' : Type) (C' : Callee) (k' : Value → AS → Option R'), (∀ x ∈ q, x.of C') → eop P C' fr st o k' = k' v s := by
    intro v s hk he
    exact ⟨v, s, hk, [], fun _ h => by simp at h, fun R' C' k' _ => he R' C' k'⟩
  cases hop : o.op <;> simp only [eop, hop] at h
  case move x => exact same _ _ h (fun R' C' k' => by simp only [eop, hop])
  case assign x => exact same _ _ h (fun R' C' k' => by simp only [eop, hop])
  case pick c a b => exact pure1 _ h (fun R' C' k' => by simp only [eop, hop])
  case alloc elem =>
    obtain ⟨z, hz, h⟩ := Option.bind_eq_some_iff.1 h
    rw [ite_some] at h
    exact two _ h.2 (fun R' C' k' => by simp only [eop, hop, hz, Option.bind_some]; rw [if_pos h.1])
  case box elem x => exact two _ h (fun R' C' k' => by simp only [eop, hop])
  case build t parts => exact pure1 _ h (fun R' C' k' => by simp only [eop, hop])
  case buildSlice t n parts => exact two _ h (fun R' C' k' => by simp only [eop, hop])
  case load t a =>
    split at h
    · rename_i g n hg hn; exact pure1 _ h (fun R' C' k' => by simp only [eop, hop, hg, hn])
    · simp at h
  case store t a x =>
    split at h
    · rename_i n hn; exact one _ _ h (fun R' C' k' => by simp only [eop, hop, hn])
    · simp at h
  case nilCheck x => exact pure1 _ h (fun R' C' k' => by simp only [eop, hop])
  case binOp op t x y u => exact pure1 _ h (fun R' C' k' => by simp only [eop, hop])
  case unOp op t x => exact pure1 _ h (fun R' C' k' => by simp only [eop, hop])
  case convert s d x => exact two _ h (fun R' C' k' => by simp only [eop, hop])
  case makeFunc fn a b =>
    split at h
    · exact same _ _ h (fun R' C' k' => by simp only [eop, hop])
    · simp at h
  case makeMap t x =>
    cases x with
    | none => exact same _ _ h (fun R' C' k' => by simp only [eop, hop])
    | some x => simp at h
  case makeSlice t l c => exact two _ h (fun R' C' k' => by simp only [eop, hop])
  case slice t x lo hi mx => exact pure1 _ h (fun R' C' k' => by simp only [eop, hop])
  case fieldAddr s x f => exact pure1 _ h (fun R' C' k' => by simp only [eop, hop])
  case field t x f => exact pure1 _ h (fun R' C' k' => by simp only [eop, hop])
  case indexAddr t x ix => exact pure1 _ h (fun R' C' k' => by simp only [eop, hop])
  case index t x ix =>
    rw [ite_some] at h
    exact pure1 _ h.2 (fun R' C' k' => by simp only [eop, hop]; rw [if_pos h.1])
  case lookup t m ky ok => exact pure1 _ h (fun R' C' k' => by simp only [eop, hop])
  case mapUpdate t m ky x => exact one _ _ h (fun R' C' k' => by simp only [eop, hop])
  case insert t m ky x => exact one _ _ h (fun R' C' k' => by simp only [eop, hop])
  case sliceToArrayPointer t x => exact pure1 _ h (fun R' C' k' => by simp only [eop, hop])
  case range t x => exact two _ h (fun R' C' k' => by simp only [eop, hop])
  case entry x => exact pure1 _ h (fun R' C' k' => by simp only [eop, hop])
  case extract t ix => exact pure1 _ h (fun R' C' k' => by simp only [eop, hop])
  case call c =>
    cases hcal : c.callee with
    | value f =>
      simp only [hcal] at h
      obtain ⟨g, hg, h⟩ := Option.bind_eq_some_iff.1 h
      obtain ⟨y, hy, h⟩ := Option.bind_eq_some_iff.1 h
      refine ⟨_, _, h, [⟨g.1, g.2, st.H, y⟩], fun x hx => by simp at hx; subst hx; exact hy, fun R' C' k' hq => ?_⟩
      have := hq _ (List.mem_singleton.2 rfl)
      simp only [Fact.of] at this
      simp only [eop, hop, hcal, hg, Option.bind_some, this]
    | builtin b =>
      simp only [hcal] at h
      unfold eBuiltin at h
      split at h
      · rename_i x hargs
        obtain ⟨t, ht, h⟩ := Option.bind_eq_some_iff.1 h
        exact pure1 _ h (fun R' C' k' => by simp only [eop, hop, hcal, eBuiltin, hargs, ht, Option.bind_some])
      · rename_i x y hargs; exact two _ h (fun R' C' k' => by simp only [eop, hop, hcal, eBuiltin, hargs])
      · rename_i x y hargs; exact two _ h (fun R' C' k' => by simp only [eop, hop, hcal, eBuiltin, hargs])
      · rename_i x y hargs; exact one _ _ h (fun R' C' k' => by simp only [eop, hop, hcal, eBuiltin, hargs])
      · rename_i x hargs; exact one _ _ h (fun R' C' k' => by simp only [eop, hop, hcal, eBuiltin, hargs])
      · exact pure1 _ h (fun R' C' k' => by simp only [eop, hop, hcal, eBuiltin])
      · exact pure1 _ h (fun R' C' k' => by simp only [eop, hop, hcal, eBuiltin])
      · simp at h
    | invoke a m => simp [hcal] at h
  all_goals (simp at h)

end

mutual
theorem veq_eq : ∀ (a b : Value), veq a b = true → a = b
  | .bool a, b, h => by cases b <;> simp [veq] at h; rw [h]
  | .int j a, b, h => by cases b <;> simp [veq] at h; rw [h.1, h.2]
  | .float j a, b, h => by cases b <;> simp [veq] at h; rw [h.1, h.2]
  | .complex .., b, h => by cases b <;> simp [veq] at h
  | .string a, b, h => by
    cases b <;> simp [veq] at h
    rename_i b
    cases a; cases b; simp at h; rw [h]
  | .pointer none, b, h => by
    cases b <;> try (simp [veq] at h; done)
    rename_i b; cases b <;> simp [veq] at h; rfl
  | .pointer (some a), b, h => by
    cases b <;> try (simp [veq] at h; done)
    rename_i b; cases b <;> simp [veq] at h; rw [h]
  | .slice none l c, b, h => by
    cases b <;> try (simp [veq] at h; done)
    rename_i b m d; cases b <;> simp [veq] at h; rw [h.1, h.2]
  | .slice (some a) l c, b, h => by
    cases b <;> try (simp [veq] at h; done)
    rename_i b m d; cases b <;> simp [veq] at h; rw [h.1.1, h.1.2, h.2]
  | .map none, b, h => by
    cases b <;> try (simp [veq] at h; done)
    rename_i b; cases b <;> simp [veq] at h; rfl
  | .map (some a), b, h => by
    cases b <;> try (simp [veq] at h; done)
    rename_i b; cases b <;> simp [veq] at h; rw [h]
  | .chan .., b, h => by cases b <;> simp [veq] at h
  | .func .., b, h => by cases b <;> simp [veq] at h
  | .nilFunc, b, h => by cases b <;> simp [veq] at h; rfl
  | .iface i a, b, h => by
    cases b <;> try (simp [veq] at h; done)
    rename_i j b
    simp only [veq, Bool.and_eq_true, decide_eq_true_eq] at h
    rw [h.1, veq_eq a b h.2]
  | .nilIface, b, h => by cases b <;> simp [veq] at h
  | .agg ⟨a⟩, b, h => by
    cases b <;> try (simp [veq] at h; done)
    rename_i b; cases b with | mk b => simp only [veq, veqA] at h; rw [veqL_eq a b h]
  | .tuple ⟨a⟩, b, h => by
    cases b <;> try (simp [veq] at h; done)
    rename_i b; cases b with | mk b => simp only [veq, veqA] at h; rw [veqL_eq a b h]
theorem veqL_eq : ∀ (a b : List Value), veqL a b = true → a = b
  | [], [], _ => rfl
  | [], _ :: _, h => by simp [veqL] at h
  | _ :: _, [], h => by simp [veqL] at h
  | x :: xs, y :: ys, h => by
    simp only [veqL, Bool.and_eq_true] at h
    rw [veq_eq x y h.1, veqL_eq xs ys h.2]
end

/-- an operation comes to this, whatever comes behind it -/
def EopR (P : Program) (C : Callee) (fr : List Value) (st : AS) (o : Oper) (v : Value) (s : AS) : Prop := ∀ (R : Type) (k : Value → AS → Option R), eop P C fr st o k = k v s

/-- a quiet operation leaves all as it is -/
theorem quiet_one {R : Type} {C : Callee} {o : Oper} {fr : List Value} {st : AS} {k : Value → AS → Option R} {r : R} (hq : quietB P o = true) (h : eop P C fr st o k = some r) :
    ∃ v, k v st = some r ∧ ∀ C', EopR P C' fr st o v st := by
  have hq : opClass P o < 2 := by simpa [quietB] using hq
  have pure1 : ∀ (x : Option Value), x.bind (k · st) = some r → (∀ (R' : Type) (C' : Callee) (k' : Value → AS → Option R'), eop P C' fr st o k' = x.bind (k' · st)) → ∃ v, k v st = some r ∧ ∀ C', EopR P C' fr st o v st := by
    intro x hx he
    obtain ⟨y, hy, hk⟩ := Option.bind_eq_some_iff.1 hx
    exact ⟨_, hk, fun C' R' k' => by rw [he, hy]; rfl⟩
  have same : ∀ (v : Value), k v st = some r → (∀ (R' : Type) (C' : Callee) (k' : Value → AS → Option R'), eop P C' fr st o k' = k' v st) → ∃ v, k v st = some r ∧ ∀ C', EopR P C' fr st o v st := by
    intro v hk he
    exact ⟨v, hk, fun C' R' k' => he R' C' k'⟩
  cases hop : o.op <;> simp only [eop, hop] at h <;> simp only [opClass, hop] at hq <;> try (simp at hq; done)
  case move x => exact same _ h (fun R' C' k' => by simp only [eop, hop])
  case assign x => exact same _ h (fun R' C' k' => by simp only [eop, hop])
  case pick c a b => exact pure1 _ h (fun R' C' k' => by simp only [eop, hop])
  case build t parts => exact pure1 _ h (fun R' C' k' => by simp only [eop, hop])
  case load t a =>
    split at h
    · rename_i g n hg hn; exact pure1 _ h (fun R' C' k' => by simp only [eop, hop, hg, hn])
    · simp at h
  case nilCheck x => exact pure1 _ h (fun R' C' k' => by simp only [eop, hop])
  case binOp op t x y u => exact pure1 _ h (fun R' C' k' => by simp only [eop, hop])
  case unOp op t x => exact pure1 _ h (fun R' C' k' => by simp only [eop, hop])
  case convert s d x =>
    obtain ⟨⟨v, s'⟩, hv, h9⟩ := Option.bind_eq_some_iff.1 h
    have : s' = st := by
      cases h1 : P.underlying s with
      | none => simp [h1] at hq
      | some d1 =>
        cases h2 : P.underlying d with
        | none => cases d1 <;> simp [h1, h2] at hq
        | some d2 =>
          cases d1 <;> simp [h1, h2] at hq
          cases d2 <;> simp at hq
          cases hx : ev fr x with
          | int kk n => simp [aConv, h1, h2, hx] at hv; exact hv.2.symm
          | _ => simp [aConv, h1, h2, hx] at hv
    subst this
    exact same _ h9 (fun R' C' k' => by simp only [eop, hop, hv]; rfl)
  case makeFunc fn a b =>
    split at h
    · exact same _ h (fun R' C' k' => by simp only [eop, hop])
    · simp at h
  case slice t x lo hi mx => exact pure1 _ h (fun R' C' k' => by simp only [eop, hop])
  case fieldAddr s x f => exact pure1 _ h (fun R' C' k' => by simp only [eop, hop])
  case field t x f => exact pure1 _ h (fun R' C' k' => by simp only [eop, hop])
  case indexAddr t x ix => exact pure1 _ h (fun R' C' k' => by simp only [eop, hop])
  case index t x ix =>
    rw [ite_some] at h
    exact pure1 _ h.2 (fun R' C' k' => by simp only [eop, hop]; rw [if_pos h.1])
  case lookup t m ky ok => exact pure1 _ h (fun R' C' k' => by simp only [eop, hop])
  case extract t ix => exact pure1 _ h (fun R' C' k' => by simp only [eop, hop])
  case call c =>
    cases hcal : c.callee with
    | value f => simp [hcal] at hq
    | builtin b =>
      simp only [hcal] at h
      unfold eBuiltin at h
      split at h
      · rename_i x hargs
        obtain ⟨t, ht, h⟩ := Option.bind_eq_some_iff.1 h
        exact pure1 _ h (fun R' C' k' => by simp only [eop, hop, hcal, eBuiltin, hargs, ht, Option.bind_some])
      · simp [hcal] at hq
      · simp [hcal] at hq
      · simp [hcal] at hq
      · simp [hcal] at hq
      · exact pure1 _ h (fun R' C' k' => by simp only [eop, hop, hcal, eBuiltin])
      · exact pure1 _ h (fun R' C' k' => by simp only [eop, hop, hcal, eBuiltin])
      · simp at h
    | invoke a m => simp [hcal] at h

/-- an operation that hangs on its operands alone answers the same in any state -/
theorem pure_any {C C' : Callee} {o : Oper} {fr : List Value} {st s : AS} {v : Value} (hq : opClass P o = 0) (h : EopR P C fr st o v st) : EopR P C' fr s o v s := by
  -- what an option of a value comes to
  have pure1 : ∀ (x : Option Value), (∀ (R' : Type) (C' : Callee) (s : AS) (k' : Value → AS → Option R'), eop P C' fr s o k' = x.bind (k' · s)) → EopR P C' fr s o v s := by
    intro x he R k
    have := h Value (fun v _ => some v)
    rw [he] at this
    cases x with
    | none => simp at this
    | some y => simp at this; subst this; rw [he]; rfl
  have same : ∀ (u : Value), (∀ (R' : Type) (C' : Callee) (s : AS) (k' : Value → AS → Option R'), eop P C' fr s o k' = k' u s) → EopR P C' fr s o v s := fun u he => pure1 (some u) (fun R' C' s k' => he R' C' s k')
  have no : (∀ (R' : Type) (C' : Callee) (s : AS) (k' : Value → AS → Option R'), eop P C' fr s o k' = none) → EopR P C' fr s o v s := fun he => pure1 none (fun R' C' s k' => by rw [he]; rfl)
  cases hop : o.op <;> simp only [opClass, hop] at hq <;> try (simp at hq; done)
  case move x => exact same (ev fr x) (fun R' C' s k' => by simp only [eop, hop])
  case assign x => exact same (ev fr x) (fun R' C' s k' => by simp only [eop, hop])
  case pick c a b => exact pure1 _ (fun R' C' s k' => by simp only [eop, hop]; rfl)
  case build t parts => exact pure1 _ (fun R' C' s k' => by simp only [eop, hop]; rfl)
  case nilCheck x => exact pure1 _ (fun R' C' s k' => by simp only [eop, hop]; rfl)
  case binOp op t x y u => exact pure1 _ (fun R' C' s k' => by simp only [eop, hop]; rfl)
  case unOp op t x => exact pure1 _ (fun R' C' s k' => by simp only [eop, hop]; rfl)
  case convert sr d x =>
    cases h1 : P.underlying sr with
    | none => simp [h1] at hq
    | some d1 =>
      cases h2 : P.underlying d with
      | none => cases d1 <;> simp [h1, h2] at hq
      | some d2 =>
        cases d1 <;> simp [h1, h2] at hq
        cases d2 <;> simp at hq
        rename_i k1 k2
        cases hx : ev fr x with
        | int kk n => exact same (.int k2 (k2.wrap n)) (fun R' C' s k' => by simp only [eop, hop, aConv, h1, h2, hx]; rfl)
        | _ => exact no (fun R' C' s k' => by simp only [eop, hop, aConv, h1, h2, hx]; rfl)
  case makeFunc fn a b =>
    cases fn with
    | func f => exact same (.func (.func f) (a.toList.map (ev fr)).toArray (b.toList.map (ev fr)).toArray) (fun R' C' s k' => by simp only [eop, hop])
    | _ => exact no (fun R' C' s k' => by simp only [eop, hop])
  case fieldAddr s x f => exact pure1 _ (fun R' C' s k' => by simp only [eop, hop]; rfl)
  case field t x f => exact pure1 _ (fun R' C' s k' => by simp only [eop, hop]; rfl)
  case indexAddr t x ix => exact pure1 _ (fun R' C' s k' => by simp only [eop, hop]; rfl)
  case index t x ix =>
    by_cases hp : plain (ev fr ix) = true
    · exact pure1 _ (fun R' C' s k' => by simp only [eop, hop]; rw [if_pos hp])
    · exact no (fun R' C' s k' => by simp only [eop, hop]; rw [if_neg hp])
  case extract t ix => exact pure1 _ (fun R' C' s k' => by simp only [eop, hop]; rfl)
  case call c =>
    cases hcal : c.callee with
    | value f => simp [hcal] at hq
    | builtin b =>
      cases b <;> simp [hcal] at hq
      · exact pure1 _ (fun R' C' s k' => by simp only [eop, hop, hcal, eBuiltin]; rfl)
      · exact pure1 _ (fun R' C' s k' => by simp only [eop, hop, hcal, eBuiltin]; rfl)
    | invoke a m => simp [hcal] at hq

theorem eop_congr {R : Type} {C : Callee} {o : Oper} {fr fr' : List Value} {st : AS} {k : Value → AS → Option R} (h : ∀ x ∈ o.op.operands, ev fr x = ev fr' x) : eop P C fr st o k = eop P C fr' st o k := by
  have lst : ∀ l : List Operand, (∀ x ∈ l, ev fr x = ev fr' x) → l.map (ev fr) = l.map (ev fr') := fun l hl => List.map_congr_left hl
  have prs : ∀ ps : Array (Nat × Operand), (∀ x ∈ (ps.toList.map (·.2)).toArray, ev fr x = ev fr' x) → (ps.toList.map fun p => (p.1, ev fr p.2)) = (ps.toList.map fun p => (p.1, ev fr' p.2)) := fun ps hp =>
    List.map_congr_left fun p hm => by
      have : p.2 ∈ (ps.toList.map (·.2)).toArray := by simp only [List.mem_toArray, List.mem_map]; exact ⟨p, hm, rfl⟩
      rw [hp p.2 this]
  cases hop : o.op <;> simp only [hop, Op.operands] at h <;> simp only [eop, hop]
  case build t ps => rw [prs ps h]
  case buildSlice t n ps =>
    have := congrArg (List.map Prod.snd) (prs ps h)
    simp only [List.map_map, Function.comp_def] at this
    rw [this]
  case makeFunc fn first captured => rw [lst first.toList (fun x hx => h x (by simp [Array.mem_toList_iff.1 hx])), lst captured.toList (fun x hx => h x (by simp [Array.mem_toList_iff.1 hx]))]
  case call c =>
    simp only [Call.operands] at h
    cases hc : c.callee with
    | value f =>
      simp only [hc] at h ⊢
      rw [h f (by simp), lst c.args.toList (fun x hx => h x (by simp [Array.mem_toList_iff.1 hx]))]
    | builtin b =>
      simp only [hc] at h ⊢
      rw [lst c.args.toList (fun x hx => h x (by simp [Array.mem_toList_iff.1 hx]))]
    | invoke r m => rfl
  case slice t x lo hi mx => cases lo <;> cases hi <;> cases mx <;> simp_all
  case makeMap t r => cases r <;> rfl
  all_goals (first | rfl | (simp_all; done))

theorem ev_setD {fr : List Value} {d : Nat} {v : Value} {x : Operand} (h : x ≠ .tmp d) : ev (fr.set d v) x = ev fr x := by
  cases x with
  | tmp t =>
    have hne : d ≠ t := fun e => h (e ▸ rfl)
    simp [ev, List.getD, List.getElem?_set_ne hne]
  | _ => rfl

theorem eop_setD {R : Type} {C : Callee} {ops : Array Oper} {o : Oper} {fr : List Value} {st : AS} {d : Option Tmp} {v : Value} {k : Value → AS → Option R} (h : ∀ e, d = some e → e ∉ o.looksAt ops) : eop P C (setD fr d v) st o k = eop P C fr st o k := by
  cases d with
  | none => rfl
  | some e =>
    refine eop_congr fun x hx => ev_setD fun he => h e rfl ?_
    subst he
    exact List.mem_append_left _ (List.mem_filterMap.2 ⟨.tmp e, by simpa using hx, rfl⟩)

theorem EopR.setD' {C : Callee} {ops : Array Oper} {o : Oper} {fr : List Value} {st s : AS} {d : Option Tmp} {v u : Value} (h : ∀ e, d = some e → e ∉ o.looksAt ops) : EopR P C (setD fr d v) st o u s ↔ EopR P C fr st o u s := by
  constructor <;> intro hr R k <;> have := hr R k
  · rwa [eop_setD h] at this
  · rwa [eop_setD h]

theorem wantedA_setD {ops : Array Oper} {o : Oper} {fr : List Value} {d : Option Tmp} {v : Value} (h : ∀ e, d = some e → e ∉ o.looksAt ops) : wantedA ops (setD fr d v) o = wantedA ops fr o := by
  cases d with
  | none => rfl
  | some e =>
    unfold wantedA
    cases hg : o.guard with
    | none => rfl
    | some g =>
      obtain ⟨j, want⟩ := g
      dsimp only
      cases hd : (ops[j]?).bind (·.dst) with
      | none => rfl
      | some d =>
        have hne : e ≠ d := fun he => h e rfl (by subst he; simp [Oper.looksAt, hg, hd])
        simp only [setD, List.getD, List.getElem?_set_ne hne]

def ADo (P : Program) (C : Callee) (ops : Array Oper) (fr : List Value) (st : AS) (o : Oper) (v : Value) (s : AS) : Prop :=
  (wantedA ops fr o = some true ∧ EopR P C fr st o v s) ∨ (wantedA ops fr o = some false ∧ v = undef ∧ s = st)

theorem ADo.setD' {C : Callee} {ops : Array Oper} {o : Oper} {fr : List Value} {st s : AS} {d : Option Tmp} {v u : Value} (h : ∀ e, d = some e → e ∉ o.looksAt ops) : ADo P C ops (setD fr d v) st o u s ↔ ADo P C ops fr st o u s := by
  unfold ADo; rw [wantedA_setD h, EopR.setD' h]

theorem wantedA_spec {B : Base P} {nt : Nat} {ops : Array Oper} {o : Oper} {fr : List Value} {st : AS} {a : Act} {w : World} {b : Bool} (hs : Stt B nt fr st a w) (h : wantedA ops fr o = some b) : Region.wanted o (yielded ops a.tmps) = b := by
  unfold wantedA at h
  unfold Region.wanted
  cases hg : o.guard with
  | none => simp only [hg] at h ⊢; simpa using h
  | some g =>
    obtain ⟨j, want⟩ := g
    simp only [hg] at h ⊢
    cases hd : (ops[j]?).bind (·.dst) with
    | none => simp [hd] at h
    | some d =>
      simp only [hd] at h
      split at h
      · rename_i c hc
        have := (hs.known hc).2
        simp at h; subst h
        simp [yielded, hd, this]
      · rename_i vs hv
        simp at h; subst h
        obtain ⟨ρ, h1, h2, _⟩ := hs
        have hx := h2.getD d undef
        rw [hv] at hx
        obtain ⟨vs', hv', _⟩ := hx.tuple_inv
        have : yielded ops a.tmps j = none := by
          unfold yielded
          rw [hd]
          simp only [Option.bind_some]
          cases hq : a.tmps[d]? with
          | none => rfl
          | some u =>
            have : a.tmps.toList.getD d undef = u := by simp [List.getD, hq]
            rw [this] at hv'; subst hv'; rfl
        simp [this]
      · simp at h

theorem ADo.wpOp {ro : Option Nat} {C : Callee} (hC : CSound P C) (hU : CUp C) {B : Base P} {nt : Nat} {ops : Array Oper} {Q : Exit → Act → World → Prop} {i : Nat} {o : Oper} {fr : List Value} {st s : AS} {v : Value} {a : Act} {w : World} {K : Act → World → Prop}
    (hi : ops[i]? = some o) (hs : Stt B nt fr st a w) (h : ADo P C ops fr st o v s) (hk : ∀ a' w', Stt B nt (setD fr o.dst v) s a' w' → K a' w') : Go.wpOpIn (Wd ro) 0 P ops Q i K a w := by
  unfold Go.wpOpIn
  simp only [hi]
  rcases h with ⟨hw, hr⟩ | ⟨hw, rfl, rfl⟩
  · have := wantedA_spec hs hw
    rw [if_pos this]
    classical
    refine eop_stt hC hU hs (k := fun v' s' => if v' = v ∧ s' = s then some () else none) (r := ()) ?_ (fun v' s' a' w' hv hs' => ?_)
    · rw [hr]; simp
    · have : v' = v ∧ s' = s := by
        by_cases hx : v' = v ∧ s' = s
        · exact hx
        · rw [if_neg hx] at hv; simp at hv
      obtain ⟨rfl, rfl⟩ := this
      exact hk a' w' hs'
  · have := wantedA_spec hs hw
    rw [this]
    simp only [Bool.false_eq_true, if_false]
    exact ⟨fun _ _ => trivial, hk _ _ (hs.same rfl rfl)⟩


/-- a read, asked once more, answers what it had -/
def Again (P : Program) (C : Callee) (ops : Array Oper) (j : Nat) (fr : List Value) (s : AS) : Prop :=
  ∃ u d x, ops[j]? = some u ∧ u.dst = some d ∧ fr[d]? = some x ∧ ADo P C ops fr s u x s

/-- whatever comes next: the machine can take it, and in the end 'K' holds -/
def AG (P : Program) (C : Callee) (ops : Array Oper) (K : List Value → AS → Prop) : Nat → Array Bool → List Value → AS → Prop
  | 0, listed, fr, st => Region.ready .any ops listed = [] ∧ K fr st
  | n + 1, listed, fr, st => (Region.ready .any ops listed = [] → K fr st) ∧ ∀ i ∈ Region.ready .any ops listed, ∃ o v s, ops[i]? = some o ∧ ADo P C ops fr st o v s ∧
      (quietB P o = true → s = st) ∧ (∀ j ∈ besides P ops i, listed.getD j false = true → Again P C ops j (setD fr o.dst v) s) ∧ AG P C ops K n (listed.setIfInBounds i true) (setD fr o.dst v) s

theorem AG.sound {ro : Option Nat} {C : Callee} (hC : CSound P C) (hU : CUp C) {B : Base P} {nt : Nat} {ops : Array Oper} {Q : Exit → Act → World → Prop} {K : List Value → AS → Prop} (hk : ∀ fr st a w, Stt B nt fr st a w → K fr st → Q .normal a w) :
    ∀ (n : Nat) (listed : Array Bool) (fr : List Value) (st : AS) (a : Act) (w : World), Stt B nt fr st a w → AG P C ops K n listed fr st → wpAnyIn (Wd ro) 0 P .any ops Q n listed a w
  | 0, listed, fr, st, a, w, hs, h => ⟨h.1, hk _ _ _ _ hs h.2⟩
  | n + 1, listed, fr, st, a, w, hs, h => by
    refine ⟨fun h0 => hk _ _ _ _ hs (h.1 h0), fun i hi => ?_⟩
    obtain ⟨o, v, s, ho, hd, _, _, hr⟩ := h.2 i hi
    exact hd.wpOp hC hU ho hs (fun a' w' hs' => AG.sound hC hU hk n _ _ _ a' w' hs' hr)

/-- what has been done is closed under what must come ahead -/
def Down (ops : Array Oper) (listed : Array Bool) : Prop := ∀ k o, ops[k]? = some o → listed.getD k false = true → ∀ e ∈ o.after, Region.binds .any e = true → listed.getD e.on false = true

theorem getD_tf {listed : Array Bool} {i : Nat} (h : listed.getD i true = false) : listed.getD i false = false := by
  by_cases hi : i < listed.size
  · simpa [Array.getD, hi] using h
  · simp [Array.getD, hi]

theorem listed_ne {listed : Array Bool} {i k : Nat} (h : (listed.setIfInBounds i true).getD k false = true) (hne : k ≠ i) : listed.getD k false = true := by
  rwa [getD_set_ne false (Ne.symm hne)] at h

theorem Down.set {ops : Array Oper} {listed : Array Bool} {i : Nat} (hD : Down ops listed) (hi : i ∈ Region.ready .any ops listed) : Down ops (listed.setIfInBounds i true) := by
  intro k o ho hk e he hb
  by_cases hki : k = i
  · subst hki
    obtain ⟨_, o', ho', hall⟩ := mem_ready.1 hi
    rw [ho] at ho'; simp at ho'; subst ho'
    exact getD_set_true (hall e he hb)
  · exact getD_set_true (hD k o ho (listed_ne hk hki) e he hb)

theorem ancMask_spec (acc : List Nat) (i : Nat) : ∀ (es : List Edge) (m : Nat), (ancMask acc es m).testBit i = true → m.testBit i = true ∨ ∃ e ∈ es, Region.binds .any e = true ∧ (e.on = i ∨ (acc.getD e.on 0).testBit i = true)
  | [], m, h => .inl h
  | e :: es, m, h => by
    simp only [ancMask] at h
    rcases ancMask_spec acc i es _ h with h1 | ⟨e', h1, h2⟩
    · split at h1
      · rename_i hb
        simp only [Nat.testBit_or, Bool.or_eq_true, Nat.one_shiftLeft, Nat.testBit_two_pow, decide_eq_true_eq] at h1
        rcases h1 with (h1 | h1) | h1
        · exact .inl h1
        · exact .inr ⟨e, by simp, hb, .inl h1⟩
        · exact .inr ⟨e, by simp, hb, .inr h1⟩
      · exact .inl h1
    · exact .inr ⟨e', by simp [h1], h2⟩

theorem ancGo_spec (i : Nat) : ∀ (os pre : List Oper) (acc : List Nat), acc.length = pre.length →
    (∀ j, ((acc.getD j 0).testBit i = true) → ∃ o, pre[j]? = some o ∧ ∃ e ∈ o.after.toList, Region.binds .any e = true ∧ (e.on = i ∨ (e.on < j ∧ (acc.getD e.on 0).testBit i = true))) →
    (∀ j, (((ancGo os acc).getD j 0).testBit i = true) → ∃ o, (pre ++ os)[j]? = some o ∧ ∃ e ∈ o.after.toList, Region.binds .any e = true ∧ (e.on = i ∨ (e.on < j ∧ ((ancGo os acc).getD e.on 0).testBit i = true)))
  | [], pre, acc, hl, h, j, hj => by
    simp only [ancGo] at hj ⊢
    simpa using h j hj
  | o :: os, pre, acc, hl, h, j, hj => by
    have := ancGo_spec i os (pre ++ [o]) (acc ++ [ancMask acc o.after.toList 0]) (by simp [hl]) (fun j hj => by
      by_cases hlt : j < acc.length
      · have e1 : (acc ++ [ancMask acc o.after.toList 0]).getD j 0 = acc.getD j 0 := by simp [List.getD, List.getElem?_append_left hlt]
        rw [e1] at hj
        obtain ⟨u, h1, e, h2, h3, h4⟩ := h j hj
        refine ⟨u, by rw [List.getElem?_append_left (by omega)]; exact h1, e, h2, h3, ?_⟩
        rcases h4 with h4 | ⟨h4, h5⟩
        · exact .inl h4
        · refine .inr ⟨h4, ?_⟩
          have : (acc ++ [ancMask acc o.after.toList 0]).getD e.on 0 = acc.getD e.on 0 := by simp [List.getD, List.getElem?_append_left (show e.on < acc.length by omega)]
          rw [this]; exact h5
      · by_cases he : j = acc.length
        · subst he
          have e1 : (acc ++ [ancMask acc o.after.toList 0]).getD acc.length 0 = ancMask acc o.after.toList 0 := by simp [List.getD]
          rw [e1] at hj
          rcases ancMask_spec acc i _ _ hj with h1 | ⟨e, h1, h2, h3⟩
          · simp at h1
          · refine ⟨o, by rw [hl]; simp, e, h1, h2, ?_⟩
            rcases h3 with h3 | h3
            · exact .inl h3
            · have hlt2 : e.on < acc.length := by
                by_cases hx : e.on < acc.length
                · exact hx
                · simp [List.getD, List.getElem?_eq_none (Nat.le_of_not_lt hx)] at h3
              refine .inr ⟨hlt2, ?_⟩
              have : (acc ++ [ancMask acc o.after.toList 0]).getD e.on 0 = acc.getD e.on 0 := by simp [List.getD, List.getElem?_append_left hlt2]
              rw [this]; exact h3
        · have : (acc ++ [ancMask acc o.after.toList 0]).getD j 0 = 0 := by
            simp only [List.getD]
            rw [List.getElem?_eq_none (by simp; omega)]; rfl
          rw [this] at hj; simp at hj) j hj
    simpa [ancGo] using this

/-- what must come ahead of something that is done is done -/
theorem anc_listed {ops : Array Oper} {listed : Array Bool} (hD : Down ops listed) {i : Nat} (n : Nat) : ∀ (j : Nat), anc ops n j i = true → (∀ o, ops[j]? = some o → ∀ e ∈ o.after, Region.binds .any e = true → listed.getD e.on false = true) → listed.getD i false = true := by
  intro j
  induction j using Nat.strongRecOn with
  | _ j ih =>
    intro h hj
    obtain ⟨o, ho, e, he, hb, h2⟩ := ancGo_spec i ops.toList [] [] rfl (fun j hj => by simp at hj) j h
    have ho' : ops[j]? = some o := by simpa using ho
    have he' : e ∈ o.after := by simpa using he
    have hl := hj o ho' e he' hb
    rcases h2 with rfl | ⟨h2, h3⟩
    · exact hl
    · exact ih e.on h2 h3 (fun o' ho' e' he' hb' => hD e.on o' ho' hl e' he' hb')

theorem not_anc {ops : Array Oper} {listed : Array Bool} (hD : Down ops listed) {i j n : Nat} (hi : listed.getD i true = false) (hj : j ∈ Region.ready .any ops listed) : anc ops n j i = false := by
  cases h : anc ops n j i with
  | false => rfl
  | true =>
    obtain ⟨_, o, ho, hall⟩ := mem_ready.1 hj
    have := anc_listed hD n j h (fun o' ho' e he hb => by rw [ho] at ho'; simp at ho'; subst ho'; exact hall e he hb)
    rw [getD_tf hi] at this; simp at this

theorem setD_comm {fr : List Value} {x y : Option Tmp} {v u : Value} (h : ∀ d, x = some d → y ≠ some d) : setD (setD fr x v) y u = setD (setD fr y u) x v := by
  cases x with
  | none => rfl
  | some d =>
    cases y with
    | none => rfl
    | some e =>
      have hne : d ≠ e := fun he => h d rfl (he ▸ rfl)
      simp only [setD]
      exact List.set_comm _ _ hne

theorem getQ_setD_ne {fr : List Value} {x : Option Tmp} {d : Nat} {v : Value} (h : x ≠ some d) : (setD fr x v)[d]? = fr[d]? := by
  cases x with
  | none => rfl
  | some e =>
    have hne : e ≠ d := fun he => h (he ▸ rfl)
    simp [setD, List.getElem?_set_ne hne]

theorem getD_setD_ne {fr : List Value} {x : Option Tmp} {d : Nat} {v : Value} (h : x ≠ some d) : (setD fr x v).getD d unk = fr.getD d unk := by
  cases x with
  | none => rfl
  | some e =>
    have hne : e ≠ d := fun he => h (he ▸ rfl)
    simp [setD, List.getD, List.getElem?_set_ne hne]

theorem readsApart_spec {ops : Array Oper} (h : readsApart P ops = true) {j i : Nat} {u o : Oper} (hj : ops[j]? = some u) (hu : opClass P u = 1) (hi : ops[i]? = some o) (hne : i ≠ j) :
    ∃ d, u.dst = some d ∧ d ∉ u.looksAt ops ∧ o.dst ≠ some d ∧ ((∀ e, o.dst = some e → e ∉ u.looksAt ops) ∨ anc ops ops.size j i = true) := by
  unfold readsApart at h
  rw [List.all_eq_true] at h
  have h1 := h j (by simp [lt_of_getA hj])
  simp only [hj, hu] at h1
  cases hd : u.dst with
  | none => simp [hd] at h1
  | some d =>
    simp only [hd, Bool.and_eq_true, Bool.not_eq_true', bne_self_eq_false, Bool.false_or] at h1
    obtain ⟨h2, h3⟩ := h1
    rw [List.all_eq_true] at h3
    have h4 := h3 i (by simp [lt_of_getA hi])
    simp only [hi, Bool.or_eq_true, beq_iff_eq, hne, false_or, Bool.and_eq_true, bne_iff_ne, ne_eq] at h4
    refine ⟨d, rfl, by simpa using h2, h4.1, ?_⟩
    cases he : o.dst with
    | none => exact .inl (fun e h => by simp at h)
    | some e =>
      rw [he] at h4
      simp only [Bool.or_eq_true, Bool.not_eq_true'] at h4
      rcases h4.2 with h5 | h5
      · exact .inl (fun e' h' => by simp at h'; subst h'; simpa using h5)
      · exact .inr h5

theorem besides_spec {ops : Array Oper} {i j : Nat} (h : j ∈ besides P ops i) : ∃ u, ops[j]? = some u ∧ opClass P u = 1 ∧ anc ops ops.size i j = false ∧ anc ops ops.size j i = false := by
  unfold besides at h
  split at h
  · simp at h
  · split at h
    · simp at h
    · simp only [List.mem_filter, List.mem_range, Bool.and_eq_true, Bool.not_eq_true'] at h
      obtain ⟨hj, ⟨h1, h2⟩, h3⟩ := h
      cases hu : ops[j]? with
      | none => simp [hu] at h1
      | some u => simp [hu] at h1; exact ⟨u, rfl, h1, h2, h3⟩

theorem besides_quiet {ops : Array Oper} {i : Nat} {o : Oper} (hi : ops[i]? = some o) (hq : quietB P o = true) : besides P ops i = [] := by
  unfold besides; rw [hi]; simp [hq]

/-- a quiet operation that can come now may be taken first -/
theorem AG.peel {C : Callee} {ops : Array Oper} {K : List Value → AS → Prop} (hra : readsApart P ops = true) {i : Nat} {o : Oper} (hi : ops[i]? = some o) (hq : quietB P o = true) :
    ∀ (n : Nat) (listed : Array Bool) (fr : List Value) (st : AS) (v : Value), Down ops listed → i ∈ Region.ready .any ops listed → quietOk P ops i o listed = true → ADo P C ops fr st o v st →
      AG P C ops K n (listed.setIfInBounds i true) (setD fr o.dst v) st → AG P C ops K (n + 1) listed fr st := by
  intro n
  induction n with
  | zero =>
    intro listed fr st v hD hr hok hdo H
    refine ⟨fun h => (by rw [h] at hr; cases hr), fun j hj => ?_⟩
    by_cases hji : j = i
    · subst hji
      exact ⟨o, v, st, hi, hdo, fun _ => rfl, fun j hj => by rw [besides_quiet hi hq] at hj; simp at hj, H⟩
    · have := ready_mono hj hji
      rw [H.1] at this; cases this
  | succ n ih =>
    intro listed fr st v hD hr hok hdo H
    refine ⟨fun h => (by rw [h] at hr; cases hr), fun j hj => ?_⟩
    by_cases hji : j = i
    · subst hji
      exact ⟨o, v, st, hi, hdo, fun _ => rfl, fun j hj => by rw [besides_quiet hi hq] at hj; simp at hj, H⟩
    · obtain ⟨u, v', s', hu, hdo', hqs, hag, hrest⟩ := H.2 j (ready_mono hj hji)
      have hun := (mem_ready.1 hr).1
      have hjun := (mem_ready.1 hj).1
      have hna := not_anc (n := ops.size) hD hun hj
      -- what the check says of j
      have hok' := hok
      unfold quietOk at hok'
      rw [List.all_eq_true] at hok'
      have h1 := hok' j (by simp [lt_of_getA hu])
      simp only [hu, hna, hjun, hji, Bool.or_false, Bool.or_eq_true, beq_iff_eq, Bool.and_eq_true, false_or, Bool.false_eq_true] at h1
      obtain ⟨hap, hcl⟩ := h1
      obtain ⟨a1, a2, a3⟩ := Oper.apart_spec hap
      have hdo2 : ADo P C ops fr st u v' s' := (ADo.setD' a1).1 hdo'
      have hcomm : setD (setD fr o.dst v) u.dst v' = setD (setD fr u.dst v') o.dst v := setD_comm a2
      refine ⟨u, v', s', hu, hdo2, hqs, fun k hk hkl => ?_, ?_⟩
      · -- a read that is done already
        obtain ⟨x, d, z, hx, hxd, hxz, hxr⟩ := hag k hk (getD_set_true hkl)
        obtain ⟨x', hx', hx1, _, _⟩ := besides_spec hk
        rw [hx] at hx'; simp at hx'; subst hx'
        have hki : i ≠ k := by
          intro he; subst he
          rw [getD_tf hun] at hkl; simp at hkl
        obtain ⟨d', hd1, hd2, hd3, hd4⟩ := readsApart_spec hra hx hx1 hi hki
        rw [hxd] at hd1; simp at hd1; subst hd1
        have hlook : ∀ e, o.dst = some e → e ∉ x.looksAt ops := by
          rcases hd4 with hd4 | hd4
          · exact hd4
          · have := anc_listed hD ops.size k hd4 (fun o' ho' e he hb => hD k o' ho' hkl e he hb)
            rw [getD_tf hun] at this; simp at this
        rw [hcomm, ADo.setD' hlook] at hxr
        rw [hcomm, getQ_setD_ne hd3] at hxz
        exact ⟨x, d, z, hx, hxd, hxz, hxr⟩
      · have hready : i ∈ Region.ready .any ops (listed.setIfInBounds j true) := ready_mono hr (Ne.symm hji)
        have hok2 : quietOk P ops i o (listed.setIfInBounds j true) = true := by
          unfold quietOk
          rw [List.all_eq_true]
          intro k hk
          have := hok' k hk
          simp only [Bool.or_eq_true] at this ⊢
          rcases this with ((h | h) | h) | h
          · exact .inl (.inl (.inl h))
          · by_cases hkj : j = k
            · subst hkj
              have hlt : j < listed.size := by
                by_cases hlt : j < listed.size
                · exact hlt
                · rw [Array.getD_eq_getD_getElem?, Array.getElem?_eq_none (by omega)] at hjun; simp at hjun
              exact .inl (.inl (.inr (by simp [Array.getD, hlt])))
            · exact .inl (.inl (.inr (by rw [getD_set_ne true hkj]; exact h)))
          · exact .inl (.inr h)
          · exact .inr h
        refine ih (listed.setIfInBounds j true) (setD fr u.dst v') s' v (hD.set hj) hready hok2 ?_ ?_
        · -- the quiet operation answers the same behind j
          have keep : ADo P C ops (setD fr u.dst v') st o v st := (ADo.setD' a3).2 hdo
          rcases hcl with (hcl | hcl) | hcl
          · rcases keep with ⟨k1, k2⟩ | ⟨k1, k2, _⟩
            · exact .inl ⟨k1, pure_any hcl k2⟩
            · exact .inr ⟨k1, k2, rfl⟩
          · rw [hqs hcl]; exact keep
          · have hlt : i < listed.size := by
              by_cases hlt : i < listed.size
              · exact hlt
              · rw [Array.getD_eq_getD_getElem?, Array.getElem?_eq_none (by omega)] at hun; simp at hun
            obtain ⟨x, d, z, hx, hxd, hxz, hxr⟩ := hag i (by simpa using hcl) (by simp [Array.getD, hlt])
            rw [hi] at hx; simp at hx; subst hx
            obtain ⟨y, hy, hc1, _, _⟩ := besides_spec (P := P) (ops := ops) (i := j) (j := i) (by simpa using hcl)
            rw [hi] at hy; simp at hy; subst hy
            obtain ⟨d', hd1, hd2, _, _⟩ := readsApart_spec hra hi hc1 hu hji
            rw [hxd] at hd1; simp at hd1; subst hd1
            have hself : ∀ e, o.dst = some e → e ∉ o.looksAt ops := fun e he => by rw [hxd] at he; simp at he; subst he; exact hd2
            rw [hcomm, ADo.setD' hself] at hxr
            rw [hcomm, hxd] at hxz
            have hz : z = v := by
              simp only [setD] at hxz
              have hlt := lt_of_get hxz
              rw [List.getElem?_set_self (by simpa using hlt)] at hxz
              simpa using hxz.symm
            subst hz
            exact hxr
        · rw [Array.setIfInBounds_comm _ _ hji, ← hcomm]
          exact hrest

theorem besides_guard {ops : Array Oper} {i : Nat} {C : Callee} {fr : List Value} {s : AS} (h : stillSo P ops i fr s = true) : ∀ j ∈ besides P ops i, Again P C ops j fr s := by
  intro j hj
  obtain ⟨u, hu, hu1, _, _⟩ := besides_spec hj
  unfold stillSo at h
  rw [List.all_eq_true] at h
  have h1 := h j hj
  simp only [hu] at h1
  cases hd : u.dst with
  | none => simp [hd] at h1
  | some d =>
    simp only [hd] at h1
    have known : ∀ v, veq v (fr.getD d unk) = true → fr[d]? = some v := by
      intro v hv
      have he := veq_eq _ _ hv
      cases hx : fr[d]? with
      | none =>
        simp only [List.getD, hx, Option.getD_none] at he
        rw [he] at hv
        simp [List.getD, hx, unk, veq] at hv
      | some x =>
        simp only [List.getD, hx, Option.getD_some] at he
        rw [he]
    cases hw : wantedA ops fr u with
    | none => simp [hw] at h1
    | some b =>
      cases b with
      | true =>
        simp only [hw, beq_iff_eq] at h1
        obtain ⟨v, hv, hr⟩ := quiet_one (by simp [quietB, hu1]) h1
        simp only [Option.some.injEq] at hv
        exact ⟨u, d, v, hu, hd, known v hv, .inl ⟨hw, hr C⟩⟩
      | false =>
        simp only [hw] at h1
        exact ⟨u, d, undef, hu, hd, known undef h1, .inr ⟨hw, rfl, rfl⟩⟩

theorem set_known {fr : List Value} {d : Nat} {b : Bool} (hb : fr.getD d unk = .bool b) : fr.set d (.bool b) = fr := by
  have hd : fr[d]? = some (.bool b) := by
    simp only [List.getD] at hb
    cases hx : fr[d]? with
    | none => simp [hx, unk] at hb
    | some v => simp [hx] at hb; rw [hb]
  apply List.ext_getElem?; intro i
  by_cases hi : d = i
  · subst hi; rw [List.getElem?_set_self (lt_of_get hd), hd]
  · rw [List.getElem?_set_ne hi]

theorem ready_of_B {ops : Array Oper} {listed : Array Bool} {i : Nat} : readyB ops listed i = true ↔ i ∈ Region.ready .any ops listed := by
  rw [mem_ready]
  unfold readyB
  simp only [Bool.and_eq_true, Bool.not_eq_true']
  constructor
  · rintro ⟨h1, h2⟩
    refine ⟨h1, ?_⟩
    cases ho : ops[i]? with
    | none => simp [ho] at h2
    | some o =>
      simp only [ho, Option.map_some, Option.getD_some] at h2
      refine ⟨o, rfl, fun e he hb => ?_⟩
      have := Array.all_eq_true'.1 h2 e he
      simpa [hb] using this
  · rintro ⟨h1, o, ho, h2⟩
    refine ⟨h1, ?_⟩
    rw [ho]
    simp only [Option.map_some, Option.getD_some]
    refine Array.all_eq_true'.2 fun e he => ?_
    cases hb : Region.binds .any e with
    | false => simp
    | true => simp [h2 e he hb]

/-- the machine's order stands for every order -/
theorem eops_AG {R : Type} {C : Callee} {ops : Array Oper} (hra : readsApart P ops = true) {k : List Value → AS → Option R} {r : R} : ∀ (is sk : List Nat) (listed : Array Bool) (fr : List Value) (st : AS),
    Down ops listed → drawOk P ops is listed = true → eops P C ops (stillSo P ops) is sk fr st k = some r → AG P C ops (fun fr st => k fr st = some r) is.length listed fr st
  | [], sk, listed, fr, st, hD, hok, h => by
    simp only [eops] at h
    refine ⟨?_, h⟩
    simp only [drawOk, List.all_eq_true] at hok
    refine List.eq_nil_iff_forall_not_mem.2 fun i hi => ?_
    obtain ⟨h1, o, ho, _⟩ := mem_ready.1 hi
    rw [hok i (by simp [lt_of_getA ho])] at h1
    simp at h1
  | i :: is, sk, listed, fr, st, hD, hok, h => by
    simp only [drawOk, Bool.and_eq_true] at hok
    simp only [eops] at h
    cases ho : ops[i]? with
    | none => simp [ho] at h
    | some o =>
      simp only [ho, Bool.and_eq_true] at h hok
      obtain ⟨⟨hr, hok1⟩, hok2⟩ := hok
      have hr := ready_of_B.1 hr
      have hD' := hD.set hr
      -- it is taken, and what follows is served
      have done : ∀ v s, ADo P C ops fr st o v s → (quietB P o = true → s = st) → (∀ j ∈ besides P ops i, Again P C ops j (setD fr o.dst v) s) → AG P C ops (fun fr st => k fr st = some r) is.length (listed.setIfInBounds i true) (setD fr o.dst v) s →
          AG P C ops (fun fr st => k fr st = some r) (is.length + 1) listed fr st := by
        intro v s hdo hqs hag H
        by_cases hq : quietB P o = true
        · rw [if_pos hq] at hok1
          have := hqs hq; subst this
          exact AG.peel hra ho hq _ _ _ _ _ hD hr hok1 hdo H
        · rw [if_neg hq] at hok1
          simp only [List.all_eq_true] at hok1
          refine ⟨fun h => (by rw [h] at hr; cases hr), fun j hj => ?_⟩
          have hji : j = i := by
            obtain ⟨_, u, hu, _⟩ := mem_ready.1 hj
            have := hok1 j (by simp [lt_of_getA hu])
            simp only [Bool.or_eq_true, beq_iff_eq, Bool.not_eq_true'] at this
            rcases this with h | h
            · exact h
            · rw [ready_of_B.2 hj] at h; simp at h
          subst hji
          exact ⟨o, v, s, ho, hdo, hqs, fun k hk _ => hag k hk, H⟩
      have run : wantedA ops fr o = some true → eop P C fr st o (fun v s => if stillSo P ops i (setD fr o.dst v) s = true then eops P C ops (stillSo P ops) is sk (setD fr o.dst v) s k else none) = some r → AG P C ops (fun fr st => k fr st = some r) (is.length + 1) listed fr st := by
        intro hw h
        obtain ⟨v, s, hv, q, hq, he⟩ := eop_factor h
        have hR : EopR P C fr st o v s := fun R' k' => he R' C k' hq
        rw [ite_some] at hv
        refine done v s (.inl ⟨hw, hR⟩) (fun hqt => ?_) (besides_guard hv.1) (eops_AG hra is sk _ _ _ hD' hok2 hv.2)
        have h9 := hR AS (fun _ s => some s)
        obtain ⟨v', h8, _⟩ := quiet_one hqt h9
        simpa using h8.symm
      have skip : ∀ sk', wantedA ops fr o = some false → (if stillSo P ops i (setD fr o.dst undef) st = true then eops P C ops (stillSo P ops) is sk' (setD fr o.dst undef) st k else none) = some r → AG P C ops (fun fr st => k fr st = some r) (is.length + 1) listed fr st := by
        intro sk' hw h
        rw [ite_some] at h
        exact done undef st (.inr ⟨hw, rfl, rfl⟩) (fun _ => rfl) (besides_guard h.1) (eops_AG hra is sk' _ _ _ hD' hok2 h.2)
      cases hg : o.guard with
      | none =>
        simp only [hg] at h
        exact run (by unfold wantedA; rw [hg]) h
      | some g =>
        obtain ⟨j, want⟩ := g
        simp only [hg] at h
        cases hd : (ops[j]?).bind (·.dst) with
        | none => simp [hd] at h
        | some d =>
          simp only [hd] at h
          by_cases hsk : sk.contains j = true
          · rw [if_pos hsk] at h
            split at h
            · rename_i vs hv
              exact skip _ (by unfold wantedA; rw [hg]; simp only [hd, hv]) h
            · simp at h
          · rw [if_neg hsk] at h
            rcases bcase_some h with ⟨hbv, h⟩ | ⟨hbv, h⟩
            · rw [set_known hbv] at h
              by_cases hw : want = true
              · rw [if_pos hw] at h
                exact run (by unfold wantedA; rw [hg]; simp only [hd, hbv, hw]; rfl) h
              · rw [if_neg hw] at h
                exact skip _ (by unfold wantedA; rw [hg]; simp only [hd, hbv]; simp at hw; rw [hw]; rfl) h
            · rw [set_known hbv] at h
              by_cases hw : want = true
              · rw [if_pos hw] at h
                exact skip _ (by unfold wantedA; rw [hg]; simp only [hd, hbv, hw]; rfl) h
              · rw [if_neg hw] at h
                exact run (by unfold wantedA; rw [hg]; simp only [hd, hbv]; simp at hw; rw [hw]; rfl) h

theorem Stt.drew {B : Base P} {nt : Nat} {fr : List Value} {st : AS} {a : Act} {w : World} (h : Stt B nt fr st a w) (n : Nat) : Stt B nt fr st a { w with drawn := n } := by
  obtain ⟨ρ, h1, h2, h3, h4⟩ := h
  exact ⟨ρ, h1.congr rfl, h2, h3.trans (Step.congr _ rfl rfl rfl), h4⟩

theorem drawOrder_length (ops : Array Oper) : ∀ n listed, (drawOrder P ops n listed).length ≤ n
  | 0, _ => by simp [drawOrder]
  | n + 1, listed => by
    simp only [drawOrder]
    split
    · simp
    · simp only [List.length_cons]
      have := drawOrder_length ops n
      rename_i i _ _
      have := this (listed.setIfInBounds i true)
      omega

theorem AG.more {C : Callee} {ops : Array Oper} {K : List Value → AS → Prop} : ∀ (n m : Nat) (listed : Array Bool) (fr : List Value) (st : AS), AG P C ops K n listed fr st → n ≤ m → AG P C ops K m listed fr st
  | 0, 0, _, _, _, h, _ => h
  | 0, m + 1, _, _, _, h, _ => ⟨fun _ => h.2, fun i hi => by rw [h.1] at hi; simp at hi⟩
  | n + 1, 0, _, _, _, _, hm => by omega
  | n + 1, m + 1, listed, fr, st, h, hm => ⟨h.1, fun i hi => by
      obtain ⟨o, v, s, h1, h2, h3, h4, h5⟩ := h.2 i hi
      exact ⟨o, v, s, h1, h2, h3, h4, AG.more n m _ _ _ h5 (by omega)⟩⟩

theorem draw_sound {R : Type} {ro : Option Nat} {C : Callee} (hC : CSound P C) (hU : CUp C) {B : Base P} {nt id : Nat} {ops : Array Oper} {ord : List Nat} {chk : Nat → List Value → AS → Bool} {fr : List Value} {st : AS} {a : Act} {w : World} {k : List Value → AS → Option R} {r : R} {Q : Exit → Act → World → Prop}
    (hp : drawPlan P ops = some (ord, chk)) (hs : Stt B nt fr st a w) (h : eops P C ops chk ord [] fr st k = some r) (hk : ∀ fr' st' a' w', Stt B nt fr' st' a' w' → k fr' st' = some r → Q .normal a' w') :
    (Code.region id ops true).wpIn (Wd ro) 0 P Q a w := by
  unfold drawPlan at hp
  dsimp only at hp
  split at hp
  · rename_i hc
    obtain ⟨hm, hra, hok⟩ := hc
    simp only [Option.some.injEq, Prod.mk.injEq] at hp
    obtain ⟨rfl, rfl⟩ := hp
    refine wpIn_region_any hm ?_
    have hD : Down ops (Array.replicate ops.size false) := by
      intro k o ho hl
      rw [show (Array.replicate ops.size false).getD k false = false by simp [Array.getD]] at hl
      simp at hl
    have := eops_AG hra _ _ _ _ _ hD hok h
    exact AG.sound hC hU (fun fr st a w hs hK => hk fr st a w hs hK) _ _ _ _ _ _ (hs.drew _) (AG.more _ _ _ _ _ this (drawOrder_length _ _ _))
  · simp at hp

end
end Go.Am

end
section
namespace Go.Am

section
variable {P : Program}

/-! ### The block, and the operation that makes it -/

/-- the model's block -/
def objOf : Blk → Obj
  | .cells cs e _ => .cells cs.toArray e
  | .map _ c => .map #[] c
  | .iter _ a _ c => .mapIter none a #[] c
  | .loop .. => .map #[] 0
  | .dead => .map #[] 0

/-- what is known of a block that is made of literals -/
structure LateF (P : Program) (kb : Blk) (mk : Nat → Value) : Prop where
  owns : kb.owns = true
  brel : ∀ ρ sh, BRel P ρ sh kb 0 (objOf kb)
  vrel : ∀ (ρ : Ren) sh n cb, ρ n = some (cb, 0) → VRel P ρ sh (mk n) (mk cb)

theorem frz_lit {n0 k : Nat} {v : Value} {H : List Blk} (h : litV v = true) : frz P n0 k v H = (v, H) := by
  cases k with
  | zero => rfl
  | succ k => cases v <;> simp_all [frz, litV]

theorem frzL_lit {n0 k : Nat} : ∀ (l : List Value) (H : List Blk), l.all litV = true → frzL (frz P n0 k) l H = (l, H)
  | [], _, _ => rfl
  | v :: vs, H, h => by
    simp only [List.all_cons, Bool.and_eq_true] at h
    simp only [frzL, frz_lit h.1, frzL_lit vs H h.2]

theorem litV_plain {v : Value} (h : litV v = true) : plain v = true ∧ allCells v.cells.toList = true := by
  cases v <;> simp_all [litV, plain, allCells, cellV, Value.cells]

theorem litV_plainL {l : List Value} (h : l.all litV = true) : plainL l = true := by
  induction l with
  | nil => rfl
  | cons x xs ih =>
    simp only [List.all_cons, Bool.and_eq_true] at h
    simp [plainL, (litV_plain h.1).1, ih h.2]

theorem aBuildSlice_any {t : TypeId} {len : Nat} {l : List (Nat × Value)} {st s : AS} {v : Value} (h : aBuildSlice P t len l st = some (v, s)) :
    ∃ elem size zero cells, P.underlying t = some (.slice elem) ∧ sizeP P elem = some size ∧ zeroP P elem = some zero ∧ len * size ≤ 16777216 ∧ 0 < size ∧ zero.cells.size = size ∧ (l.all fun p => allCells p.2.cells.toList) = true ∧ allCells zero.cells.toList = true ∧ plainL zero.cells.toList = true ∧
      Instr.fill (fun i => some (i * size, size)) ((Array.range (len * size)).map (zero.cells[· % zero.cells.size]!)) l = some cells ∧
      (∀ st', aBuildSlice P t len l st' = some (.slice (some ⟨st'.H.length, 0, none⟩) len len, newBlk st' (.cells cells.toList elem true))) := by
  unfold aBuildSlice at h
  split at h
  case h_2 => simp at h
  rename_i elem hu
  split at h
  case h_2 => simp at h
  rename_i size zero hsz hz
  rw [ite_some] at h
  obtain ⟨hc, h⟩ := h
  split at h
  case h_2 => simp at h
  rename_i cells hfill
  refine ⟨elem, size, zero, cells, hu, hsz, hz, hc.1, hc.2.1, hc.2.2.1, hc.2.2.2.1, hc.2.2.2.2.1, hc.2.2.2.2.2, hfill, fun st' => ?_⟩
  unfold aBuildSlice
  simp only [hu, hsz, hz]
  rw [if_pos hc, hfill]
  rfl

/-- what the machine makes of it, wherever it is asked -/
theorem lateOk_eop {R : Type} {C : Callee} {o : Oper} {fr : List Value} {st : AS} {k : Value → AS → Option R} {r : R} (hl : lateOk P fr o = true) (h : eop P C fr st o k = some r) :
    ∃ kb mk, lateK P fr o = some (kb, mk) ∧ k (mk st.H.length) (newBlk st kb) = some r := by
  cases hop : o.op <;> simp only [lateOk, hop] at hl <;> simp only [eop, hop] at h <;> try (simp at hl; done)
  case alloc elem =>
    obtain ⟨z, hz, h⟩ := Option.bind_eq_some_iff.1 h
    rw [ite_some] at h
    obtain ⟨hpl, h⟩ := h
    obtain ⟨⟨v, s⟩, hv, h⟩ := Option.bind_eq_some_iff.1 h
    unfold aBox at hv
    rw [ite_some] at hv
    obtain ⟨hac, hv⟩ := hv
    simp [newPtr] at hv; obtain ⟨rfl, rfl⟩ := hv
    refine ⟨.cells z.cells.toList elem true, fun n => .pointer (some ⟨n, 0, none⟩), ?_, h⟩
    simp only [lateK, hop, hz]
    rw [if_pos ⟨hpl, hac⟩]
  case makeMap t x =>
    cases x with
    | none => exact ⟨.map [] 0, fun n => .map (some n), by simp only [lateK, hop], h⟩
    | some x => simp at hl
  case buildSlice t len parts =>
    simp only [Bool.and_eq_true, decide_eq_true_eq] at hl
    rw [frzL_lit _ _ hl.1] at h
    obtain ⟨⟨v, s⟩, hv, h⟩ := Option.bind_eq_some_iff.1 h
    obtain ⟨elem, size, zero, cells, _, _, _, _, _, _, _, _, _, _, hall⟩ := aBuildSlice_any hv
    rw [hall] at hv
    simp only [Option.some.injEq, Prod.mk.injEq] at hv
    obtain ⟨rfl, rfl⟩ := hv
    refine ⟨.cells cells.toList elem true, fun n => .slice (some ⟨n, 0, none⟩) len len, ?_, h⟩
    simp only [lateK, hop]
    rw [if_pos hl, hall]
    rfl

theorem lateK_fine {o : Oper} {fr : List Value} {kb : Blk} {mk : Nat → Value} (h : lateK P fr o = some (kb, mk)) : LateF P kb mk := by
  cases hop : o.op <;> simp only [lateK, hop] at h <;> try (simp at h; done)
  case alloc elem =>
    split at h
    case h_2 => simp at h
    rename_i z hz
    rw [ite_some] at h
    obtain ⟨⟨hpl, hac⟩, h⟩ := h
    simp only [Option.some.injEq, Prod.mk.injEq] at h
    obtain ⟨rfl, rfl⟩ := h
    refine ⟨rfl, fun ρ sh => ⟨_, (0, 0), rfl, ?_, fun _ => .inl rfl, hac⟩, fun ρ sh n cb hr => .ptr (base := 0) (o := 0) hr⟩
    simp only [List.drop_zero]
    rw [List.take_of_length_le (by simp)]
    exact .refl_plain hpl
  case makeMap t x =>
    cases x with
    | none =>
      simp only [Option.some.injEq, Prod.mk.injEq] at h
      obtain ⟨rfl, rfl⟩ := h
      exact ⟨rfl, fun ρ sh => ⟨rfl, #[], rfl, rfl, fun i e he => by simp at he⟩, fun ρ sh n cb hr => .map hr⟩
    | some x => simp at h
  case buildSlice t len parts =>
    rw [ite_some] at h
    obtain ⟨⟨hlit, hlen⟩, h⟩ := h
    split at h
    case h_2 => simp at h
    rename_i v k e hb
    obtain ⟨elem, size, zero, cells, hu, hsz, hz, hle, hpos, hzs, hac, hzac, hzp, hfill, hall⟩ := aBuildSlice_any hb
    rw [hall] at hb
    simp only [Option.some.injEq, Prod.mk.injEq] at hb h
    obtain ⟨_, hb⟩ := hb
    have hk : k = .cells cells.toList elem true := by
      have := congrArg AS.H hb
      simp [newBlk] at this
      exact this.symm
    obtain ⟨rfl, rfl⟩ := h
    subst hk
    refine ⟨rfl, fun ρ sh => ⟨_, (0, 0), rfl, ?_, fun _ => .inl rfl, ?_⟩, fun ρ sh n cb hr => .slice (base := 0) (o := 0) hr (fun _ => rfl) (Nat.le_refl _) (fun he => absurd he (by omega))⟩
    · simp only [List.drop_zero]
      rw [List.take_of_length_le (by simp)]
      have hzc : plainL ((Array.range (len * size)).map (zero.cells[· % zero.cells.size]!)).toList = true := by
        have hpl : ∀ l : List Value, plainL l = true ↔ ∀ v ∈ l, plain v = true := by
          intro l; induction l with
          | nil => simp [plainL]
          | cons x xs ih => simp [plainL, ih]
        refine (hpl _).2 fun v hv => ?_
        simp only [Array.toList_map, List.mem_map] at hv
        obtain ⟨i, _, rfl⟩ := hv
        have hlt : i % zero.cells.size < zero.cells.size := Nat.mod_lt _ (by omega)
        have e2 : zero.cells[i % zero.cells.size]! = zero.cells[i % zero.cells.size] := getElem!_pos zero.cells _ hlt
        rw [e2]
        exact (hpl _).1 hzp _ (by simp)
      have hpv : plainL (((parts.toList.map (·.1)).zip (parts.toList.map fun p => ev fr p.2)).map (·.2)) = true := by
        have : ((parts.toList.map (·.1)).zip (parts.toList.map fun p => ev fr p.2)).map (·.2) = parts.toList.map fun p => ev fr p.2 := by
          rw [List.map_snd_zip]; simp
        rw [this]; exact litV_plainL hlit
      obtain ⟨r', hr', hL⟩ := fill_rel (P := P) (ρ := ρ) (sh := sh) _ _ _ _ _ cells rfl (.refl_plain hpv) hac (.refl_plain hzc) hfill
      rw [hfill] at hr'
      simp at hr'; subst hr'
      simpa using hL
    · have := (rfl : True = True)
      exact fill_cells _ _ _ _ hac (by
        unfold allCells at *
        rw [List.all_eq_true] at *
        intro v hv
        simp only [Array.toList_map, List.mem_map] at hv
        obtain ⟨i, _, rfl⟩ := hv
        have hlt : i % zero.cells.size < zero.cells.size := Nat.mod_lt _ (by omega)
        have e2 : zero.cells[i % zero.cells.size]! = zero.cells[i % zero.cells.size] := getElem!_pos zero.cells _ hlt
        rw [e2]
        exact hzac _ (by simp)) hfill
where
  fill_cells (place : Nat → Option (Nat × Nat)) (ps : List (Nat × Value)) (cs r : Array Value) (h1 : (ps.all fun p => allCells p.2.cells.toList) = true) (h2 : allCells cs.toList = true) (h3 : Instr.fill place cs ps = some r) : allCells r.toList = true := by
    induction ps generalizing cs with
    | nil => simp [Instr.fill] at h3; subst h3; exact h2
    | cons p ps ih =>
      obtain ⟨i, v⟩ := p
      simp only [List.all_cons, Bool.and_eq_true] at h1
      simp only [Instr.fill] at h3
      split at h3
      · simp at h3
      · split at h3
        · simp at h3
        · refine ih _ h1.2 ?_ h3
          rw [fold_arr]
          have fold : ∀ (l : List Value) (k off : Nat) (cs : Array Value), allCells l = true → allCells cs.toList = true → allCells ((l.zipIdx k).foldl (fun cs x => cs.setIfInBounds (off + x.2) x.1) cs).toList = true := by
            intro l
            induction l with
            | nil => intro k off cs _ h; simpa using h
            | cons x xs ih =>
              intro k off cs hl hc
              simp only [allCells, List.all_cons, Bool.and_eq_true] at hl
              simp only [List.zipIdx_cons, List.foldl_cons]
              refine ih _ _ _ (by simpa [allCells] using hl.2) ?_
              unfold allCells at *
              rw [List.all_eq_true] at *
              intro y hy
              rw [Array.toList_setIfInBounds] at hy
              rcases List.mem_or_eq_of_mem_set hy with hy | rfl
              · exact hc y hy
              · exact hl.1
          exact fold _ _ _ _ h1.1 h2

/-- what the model makes of it -/
theorem lateK_run {o : Oper} {fr : List Value} {kb : Blk} {mk : Nat → Value} {ρ : Ren} {sh : Sh} {a : Act} {w : World} (h : lateK P fr o = some (kb, mk)) (hfr : LRel P ρ sh fr a.tmps.toList) :
    (execOp a.eval o).run P w = .ok (.value (mk w.heap.size)) (w.alloc (objOf kb)) := by
  cases hop : o.op <;> simp only [lateK, hop] at h <;> try (simp at h; done)
  case alloc elem =>
    split at h
    case h_2 => simp at h
    rename_i z hz
    rw [ite_some] at h
    obtain ⟨⟨hpl, hac⟩, h⟩ := h
    simp only [Option.some.injEq, Prod.mk.injEq] at h
    obtain ⟨rfl, rfl⟩ := h
    simp [execOp, hop, Instr.alloc, run_zeroP hz, newVar, newRow, objOf]
  case makeMap t x =>
    cases x with
    | none =>
      simp only [Option.some.injEq, Prod.mk.injEq] at h
      obtain ⟨rfl, rfl⟩ := h
      simp [execOp, hop, Instr.makeMap, objOf]
    | some x => simp at h
  case buildSlice t len parts =>
    rw [ite_some] at h
    obtain ⟨⟨hlit, hlen⟩, h⟩ := h
    split at h
    case h_2 => simp at h
    rename_i v k e hb
    obtain ⟨elem, size, zero, cells, hu, hsz, hz, hle, hpos, hzs, hac, hzac, hzp, hfill, hall⟩ := aBuildSlice_any hb
    rw [hall] at hb
    simp only [Option.some.injEq, Prod.mk.injEq] at hb h
    obtain ⟨_, hb⟩ := hb
    have hk : k = .cells cells.toList elem true := by
      have := congrArg AS.H hb
      simp [newBlk] at this
      exact this.symm
    obtain ⟨rfl, rfl⟩ := h
    subst hk
    have hev : ∀ p ∈ parts.toList, a.eval p.2 = ev fr p.2 := by
      intro p hp
      refine ((ev_rel hfr p.2).eq_of_plain (litV_plain ?_).1)
      rw [List.all_eq_true] at hlit
      exact hlit _ (List.mem_map.2 ⟨p, hp, rfl⟩)
    have e0 : (parts.toList.map (·.1)).zip (parts.toList.map fun p => ev fr p.2) = parts.toList.map fun p => (p.1, a.eval p.2) := by
      have : ∀ l : List (Nat × Operand), (∀ p ∈ l, a.eval p.2 = ev fr p.2) → (l.map (·.1)).zip (l.map fun p => ev fr p.2) = l.map fun p => (p.1, a.eval p.2) := by
        intro l
        induction l with
        | nil => intro _; rfl
        | cons x xs ih => intro h; simp only [List.map_cons, List.zip_cons_cons, ih (fun p hp => h p (by simp [hp])), h x (by simp)]
      exact this _ hev
    rw [e0] at hfill
    have e1 : (parts.map (fun x => (x.1, a.eval x.2))).toList = parts.toList.map fun p => (p.1, a.eval p.2) := by simp
    by_cases h0 : len * size = 0
    · have r0 : Array.range 0 = #[] := by simp
      simp only [execOp, hop, Instr.buildSlice, Sem.run_bind, run_underlying hu, Result.andThen_ok, run_sizeP hsz]
      rw [if_neg (by omega)]
      rw [h0, r0, Array.map_empty] at hfill
      simp only [Sem.run_bind, Sem.run_pure, Result.andThen_ok, h0, if_true, e1, r0, Array.map_empty]
      simp [hfill, newRow, objOf]
    · simp only [execOp, hop, Instr.buildSlice, Sem.run_bind, run_underlying hu, Result.andThen_ok, run_sizeP hsz]
      rw [if_neg (by omega)]
      simp only [Sem.run_bind, Sem.run_pure, Result.andThen_ok, h0, if_false, run_zeroP hz, e1]
      simp [hfill, newRow, objOf]

end
end Go.Am

end
section
namespace Go.Am

section
variable {P : Program}

theorem lateK_congr {o : Oper} {fr fr' : List Value} (h : ∀ x ∈ o.op.operands, ev fr x = ev fr' x) : lateK P fr o = lateK P fr' o := by
  cases hop : o.op <;> simp only [hop, Op.operands] at h <;> simp only [lateK, hop]
  case makeMap t r => cases r <;> rfl
  case buildSlice t n ps =>
    have e : (ps.toList.map fun p => ev fr p.2) = (ps.toList.map fun p => ev fr' p.2) := List.map_congr_left fun p hm => by
      have : p.2 ∈ (ps.toList.map (·.2)).toArray := by simp only [List.mem_toArray, List.mem_map]; exact ⟨p, hm, rfl⟩
      exact h p.2 this
    rw [e]

theorem lateK_setD {ops : Array Oper} {o : Oper} {fr : List Value} {d : Option Tmp} {v : Value} (h : ∀ e, d = some e → e ∉ o.looksAt ops) : lateK P (setD fr d v) o = lateK P fr o := by
  cases d with
  | none => rfl
  | some e =>
    refine lateK_congr fun x hx => ev_setD fun he => h e rfl ?_
    subst he
    exact List.mem_append_left _ (List.mem_filterMap.2 ⟨.tmp e, by simpa using hx, rfl⟩)

theorem lateK_same {ops : Array Oper} {o : Oper} {fr fr' : List Value} (h : ∀ e ∈ o.looksAt ops, fr[e]? = fr'[e]?) : lateK P fr o = lateK P fr' o := by
  refine lateK_congr fun x hx => ?_
  cases x with
  | tmp e =>
    have := h e (List.mem_append_left _ (List.mem_filterMap.2 ⟨.tmp e, by simpa using hx, rfl⟩))
    simp [ev, List.getD, this]
  | _ => rfl

/-! ### What is made already, and not yet told -/

/-- a block that the model has made: the operation's number, and the block's -/
def Pend (P : Program) (B : Base P) (ops : Array Oper) (ρ : Ren) (fr : List Value) (H : List Blk) (a : Act) (w : World) (p : Nat × Nat) : Prop :=
  ∃ o kb mk d, ops[p.1]? = some o ∧ lateK P fr o = some (kb, mk) ∧ o.dst = some d ∧ d < a.tmps.size ∧ a.tmps[d]? = some (mk p.2) ∧ w.heap[p.2]? = some (objOf kb) ∧ B.w.heap.size ≤ p.2 ∧ ¬ Mapped ρ H p.2

structure SttL (P : Program) (B : Base P) (nt : Nat) (ops : Array Oper) (fr : List Value) (st : AS) (a : Act) (w : World) (pend : List (Nat × Nat)) : Prop where
  ex : ∃ ρ, (Rel P ρ st.H w ∧ LRel P ρ w.shape? fr a.tmps.toList ∧ Step B.H.length B.ρ B.H B.w ρ st.H w ∧ Up B.H st.H st.esc ∧ B.H.length ≤ st.H.length ∧ MarksB B w a.defers ∧ fr.length = nt) ∧ ∀ p ∈ pend, Pend P B ops ρ fr st.H a w p
  nodup : (pend.map (·.2)).Nodup

theorem SttL.stt {B : Base P} {nt : Nat} {ops : Array Oper} {fr : List Value} {st : AS} {a : Act} {w : World} {pend : List (Nat × Nat)} (h : SttL P B nt ops fr st a w pend) : Stt B nt fr st a w := by
  obtain ⟨⟨ρ, h1, _⟩, _⟩ := h
  exact ⟨ρ, h1⟩

theorem SttL.of {B : Base P} {nt : Nat} {ops : Array Oper} {fr : List Value} {st : AS} {a : Act} {w : World} (h : Stt B nt fr st a w) : SttL P B nt ops fr st a w [] := by
  obtain ⟨ρ, h1⟩ := h
  exact ⟨⟨ρ, h1, fun p hp => by simp at hp⟩, by simp⟩

theorem tmps_put_ne {a : Act} {x : Option Tmp} {v : Value} {d : Nat} (h : x ≠ some d) : (a.put x v).tmps[d]? = a.tmps[d]? ∧ (a.put x v).tmps.size = a.tmps.size := by
  cases x with
  | none => exact ⟨rfl, rfl⟩
  | some e =>
    have hne : e ≠ d := fun he => h (he ▸ rfl)
    simp [Act.put, Array.getElem?_setIfInBounds_ne hne]

/-- what is pending stays so beside another operation -/
theorem Pend.step {B : Base P} {ops : Array Oper} {ρ ρ' : Ren} {fr : List Value} {H H' : List Blk} {a : Act} {w w' : World} {p : Nat × Nat} {o : Oper} {v cv : Value} {n : Nat} (h : Pend P B ops ρ fr H a w p)
    (hap : ∀ u, ops[p.1]? = some u → o.dst ≠ u.dst ∧ ∀ e, o.dst = some e → e ∉ u.looksAt ops) (hs : Step n ρ H w ρ' H' w') : Pend P B ops ρ' (setD fr o.dst v) H' (a.put o.dst cv) w' p := by
  obtain ⟨u, kb, mk, d, h1, h2, h3, h4, h5, h6, h7, h8⟩ := h
  obtain ⟨q1, q2⟩ := hap u h1
  have hne : o.dst ≠ some d := by rw [← h3]; exact q1
  obtain ⟨t1, t2⟩ := tmps_put_ne (a := a) (v := cv) hne
  have hlt := lt_of_getA h6
  refine ⟨u, kb, mk, d, h1, by rw [lateK_setD q2]; exact h2, h3, by rw [t2]; exact h4, by rw [t1]; exact h5, ?_, h7, fun hm => h8 (hs.old _ hlt hm)⟩
  rw [hs.keep _ hlt (fun ho => h8 (.inl ?_))]
  · exact h6
  · obtain ⟨b, k, x, g1, g2, g3⟩ := ho
    exact ⟨b, k, x, g1, by cases k <;> simp_all [Blk.owns, Blk.live], g3⟩

/-- an operation that is not late, in the midst of others -/
theorem ADo.wpOpL {ro : Option Nat} {C : Callee} (hC : CSound P C) (hU : CUp C) {B : Base P} {nt : Nat} {ops : Array Oper} {Q : Exit → Act → World → Prop} {i : Nat} {o : Oper} {fr : List Value} {st s : AS} {v : Value} {a : Act} {w : World} {K : Act → World → Prop} {pend : List (Nat × Nat)}
    (hi : ops[i]? = some o) (hs : SttL P B nt ops fr st a w pend) (h : ADo P C ops fr st o v s) (hap : ∀ p ∈ pend, ∀ u, ops[p.1]? = some u → o.dst ≠ u.dst ∧ ∀ e, o.dst = some e → e ∉ u.looksAt ops)
    (hk : ∀ a' w', SttL P B nt ops (setD fr o.dst v) s a' w' pend → K a' w') : Go.wpOpIn (Wd ro) 0 P ops Q i K a w := by
  obtain ⟨⟨ρ, hst, hp⟩, hnd⟩ := hs
  unfold Go.wpOpIn
  simp only [hi]
  rcases h with ⟨hw, hr⟩ | ⟨hw, rfl, rfl⟩
  · have := wantedA_spec ⟨ρ, hst⟩ hw
    rw [if_pos this]
    obtain ⟨h1, h2, h3, h4, h5, h6, h7⟩ := hst
    classical
    have he : eop P C fr st o (fun v' s' => if v' = v ∧ s' = s then some () else none) = some () := by rw [hr]; simp
    refine eop_sound hC h2 h1 (eop_guard hU he) (fun v' s' cv w' hv ho => ?_)
    have hu : UpC st s' := by
      by_cases hu : UpC st s'
      · exact hu
      · rw [if_neg hu] at hv; simp at hv
    rw [if_pos hu] at hv
    have : v' = v ∧ s' = s := by
      by_cases hx : v' = v ∧ s' = s
      · exact hx
      · rw [if_neg hx] at hv; simp at hv
    obtain ⟨rfl, rfl⟩ := this
    obtain ⟨⟨ρ', g1, g2, g3⟩, g4⟩ := ho
    refine hk _ _ ⟨⟨ρ', ⟨g1, ?_, h3.trans (g2.less h5), h4.step h5 hu.1 hu.2.1, Nat.le_trans h5 g4, by rw [put_defers]; exact h6.step h1 g2, by rw [setD_length]; exact h7⟩, fun p hm => (hp p hm).step (hap p hm) g2⟩, hnd⟩
    rw [put_tmps]
    exact setD_rel (h2.mono g2.fz (rho_mono h1 g2) g2.shape) g3
  · have := wantedA_spec ⟨ρ, hst⟩ hw
    rw [this]
    simp only [Bool.false_eq_true, if_false]
    obtain ⟨h1, h2, h3, h4, h5, h6, h7⟩ := hst
    refine ⟨fun _ _ => trivial, hk _ _ ⟨⟨ρ, ⟨h1, by rw [put_tmps]; exact setD_rel h2 (.same _ rfl), h3, h4, h5, by rw [put_defers]; exact h6, by rw [setD_length]; exact h7⟩, fun p hm => (hp p hm).step (hap p hm) (.refl 0)⟩, hnd⟩⟩

theorem Rel.alloc_bare {ρ : Ren} {H : List Blk} {w : World} (h : Rel P ρ H w) (o : Obj) : Rel P ρ H (w.alloc o) ∧ Step H.length ρ H w ρ H (w.alloc o) :=
  ⟨⟨fun b k hb hl => by
      obtain ⟨cb, base, o', h1, h2, h3⟩ := h.blk b k hb hl
      exact ⟨cb, base, o', h1, by rw [heap_alloc_old _ _ (lt_of_getA h2)]; exact h2, h3.mono (fun _ _ h => h) (fun _ _ h => h) (shape_alloc w o)⟩,
    h.uniq, h.dom, fun cb c hc => by
      obtain ⟨⟨e, fz, h1⟩, h2⟩ := h.frozen cb c hc
      exact ⟨⟨e, fz, by rw [heap_alloc_old _ _ (lt_of_getA h1)]; exact h1⟩, h2⟩⟩,
   ⟨fun _ _ => rfl, shape_alloc w o, by rw [World.size_alloc]; omega, fun cb hc _ => heap_alloc_old w o hc, fun _ _ h => h, rfl, rfl, fun _ _ h => h, fun _ _ h => h, fun _ r h => ⟨r, by rw [heap_alloc_old w o (lt_of_getA h)]; exact h⟩⟩⟩

/-- one more is pending -/
theorem late_wpOp {ro : Option Nat} {B : Base P} {nt : Nat} {ops : Array Oper} {Q : Exit → Act → World → Prop} {i d : Nat} {o : Oper} {fr : List Value} {st : AS} {kb : Blk} {mk : Nat → Value} {a : Act} {w : World} {K : Act → World → Prop} {pend : List (Nat × Nat)}
    (hi : ops[i]? = some o) (hg : o.guard = none) (hd : o.dst = some d) (hself : d ∉ o.looksAt ops) (hs : SttL P B nt ops fr st a w pend) (hl : lateK P fr o = some (kb, mk)) (hdl : d < nt)
    (hap : ∀ p ∈ pend, ∀ u, ops[p.1]? = some u → o.dst ≠ u.dst ∧ ∀ e, o.dst = some e → e ∉ u.looksAt ops)
    (hk : ∀ a' w', SttL P B nt ops (setD fr o.dst unk) st a' w' ((i, w.heap.size) :: pend) → K a' w') : Go.wpOpIn (Wd ro) 0 P ops Q i K a w := by
  obtain ⟨⟨ρ, ⟨h1, h2, h3, h4, h5, h6, h7⟩, hp⟩, hnd⟩ := hs
  unfold Go.wpOpIn
  simp only [hi]
  have hw : Region.wanted o (yielded ops a.tmps) = true := by simp [Region.wanted, hg]
  rw [if_pos hw]
  have hF := lateK_fine hl
  obtain ⟨r1, r2⟩ := h1.alloc_bare (objOf kb)
  have hsz : d < a.tmps.size := by have := h2.1; simp at this; omega
  refine (wp_of_value (fun c hc => by simp [lateK, hc] at hl) (lateK_run hl h2) (hk _ _ ⟨⟨ρ, ⟨r1, ?_, h3.trans (r2.less h5), h4, h5, by rw [put_defers]; exact h6.step h1 r2, by rw [setD_length]; exact h7⟩, fun p hm => ?_⟩, ?_⟩))
  · rw [put_tmps]
    exact setD_rel (h2.mono r2.fz (fun _ _ h => h) r2.shape) (.any _)
  · rcases List.mem_cons.1 hm with rfl | hm
    · refine ⟨o, kb, mk, d, hi, ?_, hd, ?_, ?_, heap_alloc_new _ _, h3.size, fun hmap => ?_⟩
      · rw [lateK_setD (ops := ops) (fun e he => by rw [hd] at he; simp at he; subst he; exact hself)]; exact hl
      · simp [Act.put, hd, hsz]
      · simp [Act.put, hd, hsz]
      · rcases hmap with ⟨b, k, x, g1, g2, g3⟩ | ⟨c, hc⟩
        · obtain ⟨cb, base, o', e1, e2, _⟩ := h1.blk b k g1 g2
          rw [g3] at e1
          simp at e1
          have := lt_of_getA e2
          omega
        · obtain ⟨⟨e, fz, e1⟩, _⟩ := h1.frozen _ c hc
          have := lt_of_getA e1
          omega
    · exact (hp p hm).step (hap p hm) r2
  · simp only [List.map_cons, List.nodup_cons]
    refine ⟨fun hm => ?_, hnd⟩
    obtain ⟨p, hpm, hpe⟩ := List.mem_map.1 hm
    obtain ⟨_, _, _, _, _, _, _, _, _, g6, _, _⟩ := hp p hpm
    have := lt_of_getA g6
    omega

/-! ### They are told -/

/-- what stands of late operations, one to another -/
def LApart (ops : Array Oper) (l : List Nat) : Prop := ∀ i ∈ l, ∀ j ∈ l, ∀ u o, ops[i]? = some u → ops[j]? = some o → (i ≠ j → o.dst ≠ u.dst) ∧ ∀ e, o.dst = some e → e ∉ u.looksAt ops

theorem tell_one {B : Base P} {nt : Nat} {ops : Array Oper} {fr : List Value} {st : AS} {a : Act} {w : World} {pend : List (Nat × Nat)} {i cb : Nat} {o : Oper} {kb : Blk} {mk : Nat → Value}
    (hs : SttL P B nt ops fr st a w ((i, cb) :: pend)) (ho : ops[i]? = some o) (hl : lateK P fr o = some (kb, mk))
    (hap : ∀ p ∈ pend, ∀ u, ops[p.1]? = some u → o.dst ≠ u.dst ∧ ∀ e, o.dst = some e → e ∉ u.looksAt ops) (hu : UpC st (newBlk st kb)) :
    SttL P B nt ops (setD fr o.dst (mk st.H.length)) (newBlk st kb) a w pend := by
  obtain ⟨⟨ρ, ⟨h1, h2, h3, h4, h5, h6, h7⟩, hp⟩, hnd⟩ := hs
  obtain ⟨o', kb', mk', d, g1, g2, g3, g4, g5, g6, g7, g8⟩ := hp (i, cb) (by simp)
  rw [ho] at g1; simp at g1; subst g1
  rw [hl] at g2; simp at g2; obtain ⟨rfl, rfl⟩ := g2
  have hF := lateK_fine hl
  have hd0 : ρ st.H.length = none := h1.dom _ (Nat.le_refl _)
  have hlive : kb.live = true := by have := hF.owns; cases kb <;> simp_all [Blk.owns, Blk.live]
  have hold : ∀ {b : Nat} {k' : Blk}, (st.H ++ [kb])[b]? = some k' → b ≠ st.H.length → st.H[b]? = some k' ∧ upd ρ st.H.length (cb, 0) b = ρ b := by
    intro b k' hk hne
    have hlt : b < st.H.length := by have := lt_of_get hk; simp at this; omega
    rw [List.getElem?_append_left hlt] at hk
    exact ⟨hk, by simp [upd, hne]⟩
  have hnew : ∀ {k' : Blk}, (st.H ++ [kb])[st.H.length]? = some k' → k' = kb := by
    intro k' hk; rw [List.getElem?_append_right (Nat.le_refl _)] at hk; simp at hk; exact hk.symm
  have hol : ∀ {k : Blk}, k.owns = true → k.live = true := by intro k; cases k <;> simp [Blk.owns, Blk.live]
  have hr1 : Rel P (upd ρ st.H.length (cb, 0)) (st.H ++ [kb]) w := by
    refine ⟨fun b k hb hlv => ?_, fun b b' k k' hk hk' ho1 hlv hne x y z hx hy => ?_, fun b hb => ?_, fun x c hc => ?_⟩
    · by_cases hbe : b = st.H.length
      · subst hbe
        have := hnew hb; subst this
        exact ⟨cb, 0, objOf k, upd_self _ _ _, g6, hF.brel _ _⟩
      · obtain ⟨e1, e2⟩ := hold hb hbe
        obtain ⟨x, base, o', q1, q2, q3⟩ := h1.blk b k e1 hlv
        exact ⟨x, base, o', by rw [e2]; exact q1, q2, q3.mono (fun _ _ h => h) (upd_mono hd0) (fun _ _ h => h)⟩
    · by_cases hbe : b = st.H.length
      · subst hbe
        by_cases hbe' : b' = st.H.length
        · exact hne hbe'.symm
        · obtain ⟨e1, e2⟩ := hold hk' hbe'
          rw [upd_self] at hx; simp at hx
          rw [e2] at hy
          obtain ⟨hx1, _⟩ := hx
          subst hx1
          exact g8 (.inl ⟨b', k', _, e1, hlv, hy⟩)
      · obtain ⟨e1, e2⟩ := hold hk hbe
        rw [e2] at hx
        by_cases hbe' : b' = st.H.length
        · subst hbe'
          rw [upd_self] at hy; simp at hy
          obtain ⟨hy1, _⟩ := hy
          subst hy1
          exact g8 (.inl ⟨b, k, _, e1, hol ho1, hx⟩)
        · obtain ⟨e3, e4⟩ := hold hk' hbe'
          rw [e4] at hy
          exact h1.uniq b b' k k' e1 e3 ho1 hlv hne x y z hx hy
    · have hbe : b ≠ st.H.length := by simp at hb; omega
      simp [upd, hbe]; exact h1.dom b (by simp at hb; omega)
    · obtain ⟨e1, e2⟩ := h1.frozen x c hc
      refine ⟨e1, fun hown => ?_⟩
      obtain ⟨b, k, y, q1, q2, q3⟩ := hown
      by_cases hbe : b = st.H.length
      · subst hbe
        rw [upd_self] at q3; simp at q3
        obtain ⟨rfl, _⟩ := q3
        exact g8 (.inr ⟨c, hc⟩)
      · obtain ⟨q4, q5⟩ := hold q1 hbe
        exact e2 ⟨b, k, y, q4, q2, by rw [← q5]; exact q3⟩
  have hmap : ∀ x, Mapped (upd ρ st.H.length (cb, 0)) (st.H ++ [kb]) x → x = cb ∨ Mapped ρ st.H x := by
    intro x hx
    rcases hx with ⟨b, k, y, q1, q2, q3⟩ | ⟨c, hc⟩
    · by_cases hbe : b = st.H.length
      · subst hbe
        rw [upd_self] at q3; simp at q3
        exact .inl q3.1.symm
      · obtain ⟨q4, q5⟩ := hold q1 hbe
        exact .inr (.inl ⟨b, k, y, q4, q2, by rw [← q5]; exact q3⟩)
    · exact .inr (.inr ⟨c, hc⟩)
  have hs1 : Step B.H.length B.ρ B.H B.w (upd ρ st.H.length (cb, 0)) (st.H ++ [kb]) w := by
    refine ⟨fun b hb => ?_, h3.shape, h3.size, h3.keep, fun x hx ho => ?_, h3.os, h3.output, h3.fz, fun x hx hm => ?_, h3.loops⟩
    · have : b ≠ st.H.length := by omega
      simp [upd, this]; exact h3.ext b hb
    · refine h3.own x hx ?_
      obtain ⟨b, k, y, q1, q2, q3⟩ := ho
      by_cases hbe : b = st.H.length
      · subst hbe
        rw [upd_self] at q3; simp at q3
        omega
      · obtain ⟨q4, q5⟩ := hold q1 hbe
        exact ⟨b, k, y, q4, q2, by rw [← q5]; exact q3⟩
    · rcases hmap x hm with rfl | hm
      · omega
      · exact h3.old x hx hm
  have hmono : LRel P (upd ρ st.H.length (cb, 0)) w.shape? fr a.tmps.toList := h2.mono (fun _ _ h => h) (upd_mono hd0) (fun _ _ h => h)
  refine ⟨⟨upd ρ st.H.length (cb, 0), ⟨hr1, ?_, hs1, h4.step h5 hu.1 hu.2.1, Nat.le_trans h5 hu.2.2, h6, by rw [setD_length]; exact h7⟩, fun p hm => ?_⟩, ?_⟩
  · rw [g3]
    refine ⟨by simpa [setD] using hmono.1, fun j v hv => ?_⟩
    by_cases hj : d = j
    · subst hj
      simp only [setD] at hv
      have hlt := lt_of_get hv
      rw [List.getElem?_set_self (by simpa using hlt)] at hv
      simp at hv; subst hv
      exact ⟨mk cb, by simpa using g5, hF.vrel _ _ _ _ (upd_self _ _ _)⟩
    · simp only [setD, List.getElem?_set_ne hj] at hv
      exact hmono.2 j v hv
  · obtain ⟨u, kb', mk', d', q1, q2, q3, q4, q5, q6, q7, q8⟩ := hp p (by simp [hm])
    obtain ⟨_, x2⟩ := hap p hm u q1
    refine ⟨u, kb', mk', d', q1, by rw [lateK_setD x2]; exact q2, q3, q4, q5, q6, q7, fun hmm => ?_⟩
    rcases hmap _ hmm with he | hmm
    · simp only [List.map_cons, List.nodup_cons] at hnd
      exact hnd.1 (List.mem_map.2 ⟨p, hm, he⟩)
    · exact q8 hmm
  · simp only [List.map_cons, List.nodup_cons] at hnd
    exact hnd.2

theorem SttL.perm {B : Base P} {nt : Nat} {ops : Array Oper} {fr : List Value} {st : AS} {a : Act} {w : World} {p q : List (Nat × Nat)} (h : SttL P B nt ops fr st a w p) (hp : p.Perm q) : SttL P B nt ops fr st a w q := by
  obtain ⟨⟨ρ, h1, h2⟩, h3⟩ := h
  exact ⟨⟨ρ, h1, fun x hx => h2 x (hp.mem_iff.2 hx)⟩, (hp.map _).nodup_iff.1 h3⟩

/-- all that is pending is told -/
theorem tell_all {R : Type} {C : Callee} (hU : CUp C) {B : Base P} {nt : Nat} {ops : Array Oper} : ∀ (l : List Nat) (fr : List Value) (st : AS) (a : Act) (w : World) (pend : List (Nat × Nat)) (k : List Value → AS → Option R) (r : R),
    LApart ops l → l.Nodup → (pend.map (·.1)).Perm l → SttL P B nt ops fr st a w pend → eopsLate P C ops l fr st k = some r → ∃ fr' st', Stt B nt fr' st' a w ∧ k fr' st' = some r
  | [], fr, st, a, w, pend, k, r, _, _, hp, hs, h => ⟨fr, st, hs.stt, h⟩
  | i :: is, fr, st, a, w, pend, k, r, ha, hnd, hp, hs, h => by
    simp only [eopsLate] at h
    cases ho : ops[i]? with
    | none => simp [ho] at h
    | some o =>
      simp only [ho] at h
      rw [ite_some] at h
      obtain ⟨hok, h⟩ := h
      obtain ⟨kb, mk, hl, h9⟩ := lateOk_eop hok h
      have hu : UpC st (newBlk st kb) := by
        have := eop_guard hU h
        obtain ⟨kb', mk', hl', h'⟩ := lateOk_eop hok this
        rw [hl] at hl'; simp at hl'; obtain ⟨rfl, rfl⟩ := hl'
        by_cases hu : UpC st (newBlk st kb)
        · exact hu
        · rw [if_neg hu] at h'; simp at h'
      have hm : i ∈ pend.map (·.1) := hp.mem_iff.2 (by simp)
      obtain ⟨⟨j, cb⟩, hpm, hpe⟩ := List.mem_map.1 hm
      simp only at hpe; subst hpe
      have hperm := List.perm_cons_erase hpm
      have hpp : ((pend.erase (j, cb)).map (·.1)).Perm is := by
        have h1 := (hperm.map (·.1)).symm.trans hp
        simpa using h1
      have hs' := hs.perm hperm
      have hin : ∀ p ∈ pend.erase (j, cb), p.1 ∈ is := fun p hp => hpp.mem_iff.1 (List.mem_map.2 ⟨p, hp, rfl⟩)
      simp only [List.nodup_cons] at hnd
      have := tell_one hs' ho hl (fun p hp u hu => by
        have h1 := hin p hp
        obtain ⟨x1, x2⟩ := ha p.1 (by simp [h1]) j (by simp) u o hu ho
        exact ⟨x1 (fun he => hnd.1 (he ▸ h1)), x2⟩) hu
      exact tell_all hU is _ _ a w _ k r (fun i' hi' j' hj' => ha i' (by simp [hi']) j' (by simp [hj'])) hnd.2 hpp this h9

/-! ### All orders -/

theorem listedBy_get {n : Nat} {p : Nat → Bool} {i : Nat} (d : Bool) : (listedBy n p).getD i d = if i < n then p i else d := by
  unfold listedBy
  by_cases h : i < n
  · simp [Array.getD, h]
  · simp [Array.getD, h]

theorem holdOps_size (ops : Array Oper) (l : List Nat) : (holdOps ops l).size = ops.size := by simp [holdOps]

theorem holdOps_get {ops : Array Oper} {l : List Nat} {i : Nat} {o : Oper} (h : ops[i]? = some o) : (holdOps ops l)[i]? = some (if l.contains i = true then { o with op := .move (.global 0) } else if restB ops l i = true then { o with op := .move (.global 0), dst := none, after := #[], guard := none } else o) := by
  have hlt := lt_of_getA h
  have ho : ops[i] = o := by rw [Array.getElem?_eq_getElem hlt] at h; simpa using h
  subst ho
  unfold holdOps
  simp [hlt]

theorem holdOps_none {ops : Array Oper} {l : List Nat} {i : Nat} (h : ops[i]? = none) : (holdOps ops l)[i]? = none := by
  rw [Array.getElem?_eq_none_iff] at h ⊢
  rw [holdOps_size]; exact h

/-- what an order lists is all listed when nothing is ready -/
theorem ready_nil_all {ops : Array Oper} : ∀ (ord : List Nat) (l0 listed : Array Bool), drawOk P ops ord l0 = true → l0.size = ops.size → listed.size = ops.size → (∀ k, l0.getD k false = true → listed.getD k false = true) → Region.ready .any ops listed = [] → ∀ i, i < ops.size → listed.getD i true = true
  | [], l0, listed, h, hz0, hsz, hle, hr, i, hi => by
    simp only [drawOk, List.all_eq_true] at h
    have h1 := h i (by simpa using hi)
    by_cases hl : listed.getD i true = true
    · exact hl
    · have : listed.getD i true = false := by simpa using hl
      have h2 := getD_tf this
      have h3 : l0.getD i false = true := by
        have h4 : i < l0.size := by omega
        simpa [Array.getD, h4] using h1
      rw [hle i h3] at h2; simp at h2
  | j :: js, l0, listed, h, hz0, hsz, hle, hr, i, hi => by
    simp only [drawOk, Bool.and_eq_true] at h
    obtain ⟨h1, h2⟩ := h
    cases ho : ops[j]? with
    | none => simp [ho] at h1
    | some o =>
      simp only [ho, Bool.and_eq_true] at h1
      have hrd := ready_of_B.1 h1.1
      obtain ⟨q1, o', q2, q3⟩ := mem_ready.1 hrd
      have hjl : listed.getD j true = true := by
        by_cases hl : listed.getD j true = true
        · exact hl
        · have hx : j ∈ Region.ready .any ops listed := mem_ready.2 ⟨by simpa using hl, o', q2, fun e he hb => hle _ (q3 e he hb)⟩
          rw [hr] at hx; simp at hx
      refine ready_nil_all js (l0.setIfInBounds j true) listed h2 (by simpa using hz0) hsz (fun k hk => ?_) hr i hi
      by_cases hkj : k = j
      · subst hkj
        have hlt := lt_of_getA ho
        have : k < listed.size := by omega
        simpa [Array.getD, this] using hjl
      · exact hle k (listed_ne hk hkj)

/-- from anywhere some way leads to the end, and leaves the slots that nothing writes any more -/
theorem AG.path {C : Callee} {ops : Array Oper} {K : List Value → AS → Prop} : ∀ (n : Nat) (listed : Array Bool) (fr : List Value) (st : AS), AG P C ops K n listed fr st →
    ∃ fr' st', K fr' st' ∧ ∀ d, (∀ j o, ops[j]? = some o → listed.getD j true = false → o.dst ≠ some d) → fr'[d]? = fr[d]?
  | 0, listed, fr, st, h => ⟨fr, st, h.2, fun _ _ => rfl⟩
  | n + 1, listed, fr, st, h => by
    cases hr : Region.ready .any ops listed with
    | nil => exact ⟨fr, st, h.1 hr, fun _ _ => rfl⟩
    | cons i is =>
      have hi : i ∈ Region.ready .any ops listed := by rw [hr]; simp
      obtain ⟨o, v, s, ho, _, _, _, hn⟩ := h.2 i hi
      obtain ⟨fr', st', h1, h2⟩ := AG.path n _ _ _ hn
      refine ⟨fr', st', h1, fun d hd => ?_⟩
      rw [h2 d (fun j u hu hl => hd j u hu ?_), getQ_setD_ne (hd i o ho (mem_ready.1 hi).1)]
      by_cases hji : i = j
      · subst hji
        exact (mem_ready.1 hi).1
      · rwa [getD_set_ne true hji] at hl

/-- what a late plan has been asked for -/
structure LateOkP (P : Program) (ops : Array Oper) (l : List Nat) : Prop where
  late : ∀ i ∈ l, ∃ o d, ops[i]? = some o ∧ o.guard = none ∧ o.dst = some d ∧ ∀ j, j < ops.size → restB ops l j = false → ∀ u, ops[j]? = some u → (j ≠ i → u.dst ≠ some d) ∧ (anc ops ops.size i j = true ∨ ∀ e, u.dst = some e → e ∉ o.looksAt ops)
  rest : ∀ j i, j < ops.size → i < ops.size → restB ops l j = true → restB ops l i = false → anc ops ops.size j i = true
  apart : ∀ i ∈ l, ∀ j ∈ l, anc ops ops.size i j = false
  down : ∀ j o, restB ops l j = false → ops[j]? = some o → ∀ e ∈ o.after, Region.binds .any e = true → e.on < ops.size ∧ restB ops l e.on = false

theorem lateFine_spec {ops : Array Oper} {l : List Nat} (h : lateFine P ops l = true) : LateOkP P ops l := by
  unfold lateFine at h
  simp only [Bool.and_eq_true, List.all_eq_true, List.mem_range] at h
  obtain ⟨⟨⟨h1, h2⟩, h0⟩, h3⟩ := h
  refine ⟨fun i hi => ?_, fun j i hj hi hr hn => ?_, fun i hi j hj => by simpa using h0 i hi j hj, fun j o hn ho e he hb => ?_⟩
  · have := h1 i hi
    split at this
    · rename_i o ho
      simp only [Bool.and_eq_true, Option.isNone_iff_eq_none] at this
      obtain ⟨hg, this⟩ := this
      split at this
      · rename_i d hd
        refine ⟨o, d, ho, hg, hd, fun j hj hn u hu => ?_⟩
        rw [List.all_eq_true] at this
        have := this j (by simpa using hj)
        simp only [hn, hu, Bool.false_or, Bool.and_eq_true, Bool.or_eq_true, bne_iff_ne, ne_eq, beq_iff_eq] at this
        refine ⟨fun hne => this.1.resolve_right hne, ?_⟩
        rcases this.2 with h5 | h5
        · exact .inl h5
        · refine .inr fun e he => ?_
          rw [he] at h5
          simpa using h5
      · simp at this
    · simp at this
  · have := h2 j hj i hi
    simpa [hr, hn] using this
  · have := h3 j (lt_of_getA ho)
    simp only [hn, ho, Bool.false_or] at this
    have := Array.all_eq_true'.1 this e he
    simpa [hb] using this

/-- the abstract play and the model's, till all has come that waits for no late one -/
theorem late_link {ro : Option Nat} {C : Callee} (hC : CSound P C) (hU : CUp C) {B : Base P} {nt : Nat} {ops : Array Oper} {l : List Nat} (hL : LateOkP P ops l) (hnd : l.Nodup) (hnr : ∀ i ∈ l, restB ops l i = false) {ord1 : List Nat} {Q : Exit → Act → World → Prop} {K1 : List Value → AS → Prop} {m : Nat}
    (hord : drawOk P (holdOps ops l) ord1 (listedBy ops.size (restB ops l)) = true)
    (hdst : ∀ i ∈ l, ∀ o d, ops[i]? = some o → o.dst = some d → d < nt)
    (hKl : ∀ fr st, K1 fr st → ∀ i ∈ l, ∀ o, ops[i]? = some o → ∃ kb mk, lateK P fr o = some (kb, mk))
    (hK : ∀ n fr st a w pend, SttL P B nt ops fr st a w pend → (pend.map (·.1)).Perm l → K1 fr st → m ≤ n → wpAnyIn (Wd ro) 0 P .any ops Q n (listedBy ops.size fun i => !restB ops l i) a w) :
    ∀ (n : Nat) (listedA listedC : Array Bool) (fr : List Value) (st : AS) (a : Act) (w : World) (pend : List (Nat × Nat)),
      listedA.size = ops.size → listedC.size = ops.size → (∀ i, i < ops.size → listedA.getD i false = (listedC.getD i false || restB ops l i)) → (∀ i, restB ops l i = true → listedC.getD i false = false) → Down ops listedC →
      SttL P B nt ops fr st a w pend → (pend.map (·.1)).Nodup → (∀ i, i ∈ pend.map (·.1) ↔ i ∈ l ∧ listedC.getD i false = true) → AG P C (holdOps ops l) K1 n listedA fr st → wpAnyIn (Wd ro) 0 P .any ops Q (n + m) listedC a w := by
  have hCs := hC
  have hlt : ∀ {i : Nat}, i ∈ l → i < ops.size := fun hi => by
    obtain ⟨o, d, ho, _⟩ := hL.late _ hi
    exact lt_of_getA ho
  -- when nothing more is ready
  have switch : ∀ (listedA listedC : Array Bool) (fr : List Value) (st : AS) (a : Act) (w : World) (pend : List (Nat × Nat)) (n : Nat), listedA.size = ops.size → listedC.size = ops.size → (∀ i, i < ops.size → listedA.getD i false = (listedC.getD i false || restB ops l i)) → (∀ i, restB ops l i = true → listedC.getD i false = false) →
      SttL P B nt ops fr st a w pend → (pend.map (·.1)).Nodup → (∀ i, i ∈ pend.map (·.1) ↔ i ∈ l ∧ listedC.getD i false = true) → Region.ready .any (holdOps ops l) listedA = [] → K1 fr st → m ≤ n → wpAnyIn (Wd ro) 0 P .any ops Q n listedC a w := by
    intro listedA listedC fr st a w pend n hA hC hAC hR hs hpn hpm hr hk hmn
    have hall := ready_nil_all ord1 _ listedA hord (by simp [listedBy, holdOps_size]) (by rw [holdOps_size]; exact hA) (fun k hk => by
      rw [listedBy_get] at hk
      split at hk
      · rename_i hlt; rw [hAC k hlt, hk]; simp
      · simp at hk) hr
    rw [holdOps_size] at hall
    have hCt : ∀ i, i < ops.size → restB ops l i = false → listedC.getD i false = true := by
      intro i hi hn
      have h1 := hall i hi
      have h2 : listedA.getD i false = true := by
        have : i < listedA.size := by omega
        simpa [Array.getD, this] using h1
      rw [hAC i hi, hn] at h2
      simpa using h2
    have he : listedC = listedBy ops.size fun i => !restB ops l i := by
      apply Array.ext_getElem?
      intro i
      by_cases hi : i < ops.size
      · have h1 : listedC[i]? = some (listedC.getD i false) := by
          have : i < listedC.size := by omega
          simp [Array.getD, this]
        have h2 : (listedBy ops.size fun i => !restB ops l i)[i]? = some (!restB ops l i) := by simp [listedBy, hi]
        rw [h1, h2]
        cases hn : restB ops l i with
        | false => rw [hCt i hi hn]; rfl
        | true => rw [hR i hn]; rfl
      · rw [Array.getElem?_eq_none (by omega), Array.getElem?_eq_none (by simp [listedBy]; omega)]
    rw [he]
    refine hK n fr st a w pend hs ?_ hk hmn
    rw [List.perm_ext_iff_of_nodup hpn hnd]
    intro i
    rw [hpm i]
    exact ⟨fun h => h.1, fun h => ⟨h, hCt i (hlt h) (hnr i h)⟩⟩
  intro n
  induction n with
  | zero =>
    intro listedA listedC fr st a w pend hA hC hAC hR hD hs hpn hpm h
    exact switch listedA listedC fr st a w pend (0 + m) hA hC hAC hR hs hpn hpm h.1 h.2 (by omega)
  | succ n ih =>
    intro listedA listedC fr st a w pend hA hC hAC hR hD hs hpn hpm h
    by_cases hr : Region.ready .any (holdOps ops l) listedA = []
    · exact switch listedA listedC fr st a w pend (n + 1 + m) hA hC hAC hR hs hpn hpm hr (h.1 hr) (by omega)
    -- what the abstract play says of those that can come
    have unA : ∀ {i : Nat}, listedA.getD i true = false → i < ops.size ∧ listedC.getD i false = false ∧ restB ops l i = false := by
      intro i hi
      have hlt : i < ops.size := by
        by_cases hx : i < ops.size
        · exact hx
        · have : ¬ i < listedA.size := by omega
          simp [Array.getD, this] at hi
      have h2 := getD_tf hi
      rw [hAC i hlt] at h2
      simp only [Bool.or_eq_false_iff] at h2
      exact ⟨hlt, h2.1, h2.2⟩
    have tfC : ∀ {i : Nat}, i < ops.size → listedC.getD i false = false → listedC.getD i true = false := by
      intro i hi h
      have : i < listedC.size := by omega
      simpa [Array.getD, this] using h
    have aft : ∀ {i : Nat} {o : Oper}, ops[i]? = some o → restB ops l i = false → ∃ o', (holdOps ops l)[i]? = some o' ∧ o'.after = o.after := by
      intro i o ho hn
      refine ⟨_, holdOps_get ho, ?_⟩
      rw [hn]
      by_cases hc : l.contains i = true
      · rw [if_pos hc]
      · rw [if_neg hc]; rfl
    have toC : ∀ {i : Nat}, i ∈ Region.ready .any (holdOps ops l) listedA → i ∈ Region.ready .any ops listedC := by
      intro i hi
      obtain ⟨h1, o', h2, h3⟩ := mem_ready.1 hi
      obtain ⟨q1, q2, q3⟩ := unA h1
      obtain ⟨o, ho⟩ : ∃ o, ops[i]? = some o := ⟨ops[i], Array.getElem?_eq_getElem q1⟩
      obtain ⟨o2, ho2, ha⟩ := aft ho q3
      rw [h2] at ho2; simp at ho2; subst ho2
      refine mem_ready.2 ⟨tfC q1 q2, o, ho, fun e he hb => ?_⟩
      obtain ⟨x1, x2⟩ := hL.down i o q3 ho e he hb
      have := h3 e (by rw [ha]; exact he) hb
      rw [hAC _ x1, x2] at this
      simpa using this
    obtain ⟨i0, hi0⟩ := List.exists_mem_of_ne_nil _ hr
    have toA : ∀ {i : Nat}, i ∈ Region.ready .any ops listedC → i ∈ Region.ready .any (holdOps ops l) listedA := by
      intro i hi
      obtain ⟨h1, o, ho, h3⟩ := mem_ready.1 hi
      have hil := lt_of_getA ho
      have hn : restB ops l i = false := by
        cases hn : restB ops l i with
        | false => rfl
        | true =>
          obtain ⟨q1, q2, q3⟩ := unA (mem_ready.1 hi0).1
          have h4 := not_anc (n := ops.size) hD (tfC q1 q2) hi
          rw [hL.rest i i0 hil q1 hn q3] at h4; simp at h4
      obtain ⟨o', ho', ha⟩ := aft ho hn
      refine mem_ready.2 ⟨?_, o', ho', fun e he hb => ?_⟩
      · have h4 := getD_tf h1
        have : listedA.getD i false = false := by rw [hAC i hil, hn, h4]; rfl
        have hx : i < listedA.size := by omega
        simpa [Array.getD, hx] using this
      · rw [ha] at he
        have h4 := h3 e he hb
        obtain ⟨x1, x2⟩ := hL.down i o hn ho e he hb
        rw [hAC _ x1, h4]; rfl
    rw [show n + 1 + m = (n + m) + 1 by omega]
    refine ⟨fun h0 => ?_, fun i hi => ?_⟩
    · have := toC hi0
      rw [h0] at this; simp at this
    have hiA := toA hi
    obtain ⟨hu1, o, ho, hu3⟩ := mem_ready.1 hi
    obtain ⟨q1, q2, q3⟩ := unA (mem_ready.1 hiA).1
    obtain ⟨o', v, s, ho', hdo, _, _, hag⟩ := h.2 i hiA
    -- nothing that is pending is touched
    have hap : ∀ p ∈ pend, ∀ u, ops[p.1]? = some u → o.dst ≠ u.dst ∧ ∀ e, o.dst = some e → e ∉ u.looksAt ops := by
      intro p hp u hu
      obtain ⟨hpl, hpc⟩ := (hpm p.1).1 (List.mem_map.2 ⟨p, hp, rfl⟩)
      obtain ⟨u', d, g1, g2, g3, g4⟩ := hL.late p.1 hpl
      rw [hu] at g1; simp at g1; subst g1
      obtain ⟨g5, g6⟩ := g4 i q1 q3 o ho
      have hne : i ≠ p.1 := fun he => by rw [he, hpc] at q2; simp at q2
      refine ⟨by rw [g3]; exact g5 hne, ?_⟩
      rcases g6 with g6 | g6
      · have := anc_listed hD ops.size p.1 g6 (fun o2 ho2 e he hb => hD p.1 o2 ho2 hpc e he hb)
        rw [this] at q2; simp at q2
      · exact g6
    -- behind it
    have next : ∀ (fr' : List Value) (st' : AS) (a' : Act) (w' : World) (pend' : List (Nat × Nat)), SttL P B nt ops fr' st' a' w' pend' → (pend'.map (·.1)).Nodup → (∀ j, j ∈ pend'.map (·.1) ↔ j ∈ l ∧ (listedC.setIfInBounds i true).getD j false = true) → AG P C (holdOps ops l) K1 n (listedA.setIfInBounds i true) fr' st' →
        wpAnyIn (Wd ro) 0 P .any ops Q (n + m) (listedC.setIfInBounds i true) a' w' := by
      intro fr' st' a' w' pend' hs' hn' hm' hag'
      refine ih _ _ fr' st' a' w' pend' (by simpa using hA) (by simpa using hC) (fun j hj => ?_) (fun j hj => ?_) (hD.set hi) hs' hn' hm' hag'
      · by_cases hji : j = i
        · subst hji
          have h1 : j < listedA.size := by omega
          have h2 : j < listedC.size := by omega
          simp [Array.getD, h1, h2]
        · rw [getD_set_ne false (Ne.symm hji), getD_set_ne false (Ne.symm hji)]
          exact hAC j hj
      · have hji : i ≠ j := fun he => by subst he; rw [q3] at hj; simp at hj
        rw [getD_set_ne false hji]; exact hR j hj
    have hset : (listedC.setIfInBounds i true).getD i false = true := by
      have : i < listedC.size := by omega
      simp [Array.getD, this]
    by_cases hil : i ∈ l
    · -- a late one
      obtain ⟨o2, d, g1, g2, g3, g4⟩ := hL.late i hil
      rw [ho] at g1; simp at g1; subst g1
      have ho2 := holdOps_get (l := l) ho
      rw [if_pos (by simpa using hil)] at ho2
      rw [ho'] at ho2; simp at ho2
      have hself : d ∉ o.looksAt ops := by
        rcases (g4 i q1 q3 o ho).2 with h5 | h5
        · have := not_anc (n := ops.size) hD hu1 hi
          rw [h5] at this; simp at this
        · exact h5 d g3
      obtain ⟨frE, stE, hkE, hsame⟩ := AG.path (n + 1) listedA fr st h
      obtain ⟨kb, mk, hlk⟩ := hKl frE stE hkE i hil o ho
      rw [lateK_same (ops := ops) (fr' := fr) (fun e he => hsame e (fun j u hu hl hue => by
        obtain ⟨z1, z2, z3⟩ := unA hl
        obtain ⟨u0, hu0⟩ : ∃ u0, ops[j]? = some u0 := ⟨ops[j], Array.getElem?_eq_getElem z1⟩
        have hx := holdOps_get (l := l) hu0
        rw [hu] at hx
        have hud : u0.dst = some e := by
          rw [z3] at hx
          by_cases hc : l.contains j = true
          · rw [if_pos hc] at hx; simp at hx; rw [hx] at hue; exact hue
          · rw [if_neg hc] at hx; simp at hx; rw [← hx]; exact hue
        rcases (g4 j z1 z3 u0 hu0).2 with h5 | h5
        · have := not_anc (n := ops.size) hD (tfC z1 z2) hi
          rw [h5] at this; simp at this
        · exact h5 e hud he))] at hlk
      have hvs : v = unk ∧ s = st := by
        rcases hdo with ⟨_, hr1⟩ | ⟨hw, _⟩
        · have := hr1 (Value × AS) (fun v s => some (v, s))
          rw [ho2] at this
          simp only [eop, ev, Option.some.injEq, Prod.mk.injEq] at this
          exact ⟨this.1.symm, this.2.symm⟩
        · rw [ho2] at hw
          simp [wantedA, g2] at hw
      obtain ⟨rfl, rfl⟩ := hvs
      have hdd : o'.dst = o.dst := by rw [ho2]
      rw [hdd] at hag
      refine late_wpOp ho g2 g3 hself hs hlk (hdst i hil o d ho g3) hap (fun a' w' hs' => next _ _ _ _ _ hs' ?_ ?_ hag)
      · simp only [List.map_cons, List.nodup_cons]
        refine ⟨fun hm => ?_, hpn⟩
        have := ((hpm i).1 hm).2
        rw [this] at q2; simp at q2
      · intro j
        simp only [List.map_cons, List.mem_cons, hpm j]
        by_cases hji : j = i
        · subst hji
          simp [hil, hset]
        · rw [getD_set_ne false (Ne.symm hji)]
          simp [hji]
    · -- any other
      have ho2 := holdOps_get (l := l) ho
      rw [if_neg (by simpa using hil), q3] at ho2
      simp at ho2
      rw [ho'] at ho2; simp at ho2; subst ho2
      have hdo' : ADo P C ops fr st o' v s := by
        have hw : ∀ b, wantedA (holdOps ops l) fr o' = some b → wantedA ops fr o' = some b := by
          intro b hb
          unfold wantedA at hb ⊢
          cases hg : o'.guard with
          | none => simpa [hg] using hb
          | some g =>
            obtain ⟨j, want⟩ := g
            simp only [hg] at hb ⊢
            cases hoj : ops[j]? with
            | none => rw [holdOps_none hoj] at hb; simp at hb
            | some u =>
              rw [holdOps_get hoj] at hb
              by_cases hc : l.contains j = true
              · rw [if_pos hc] at hb; simpa using hb
              · rw [if_neg hc] at hb
                cases hrj : restB ops l j with
                | true => rw [hrj] at hb; simp at hb
                | false => rw [hrj] at hb; simpa using hb
        rcases hdo with ⟨h1, h2⟩ | ⟨h1, h2⟩
        · exact .inl ⟨hw _ h1, h2⟩
        · exact .inr ⟨hw _ h1, h2⟩
      refine hdo'.wpOpL hCs hU ho hs hap (fun a' w' hs' => next _ _ _ _ _ hs' hpn ?_ hag)
      intro j
      rw [hpm j]
      by_cases hji : j = i
      · subst hji
        simp [hil]
      · rw [getD_set_ne false (Ne.symm hji)]

theorem eopsLate_ok {R : Type} {C : Callee} {ops : Array Oper} : ∀ (l : List Nat) (fr : List Value) (st : AS) (k : List Value → AS → Option R) (r : R), LApart ops l → l.Nodup → eopsLate P C ops l fr st k = some r →
    ∀ i ∈ l, ∀ o, ops[i]? = some o → ∃ kb mk, lateK P fr o = some (kb, mk)
  | [], fr, st, k, r, _, _, h, i, hi, _, _ => by simp at hi
  | j :: js, fr, st, k, r, ha, hnd, h, i, hi, o, ho => by
    simp only [eopsLate] at h
    cases hoj : ops[j]? with
    | none => simp [hoj] at h
    | some u =>
      simp only [hoj] at h
      rw [ite_some] at h
      obtain ⟨hok, h⟩ := h
      obtain ⟨kb, mk, hl, h9⟩ := lateOk_eop hok h
      rcases List.mem_cons.1 hi with rfl | hi
      · rw [ho] at hoj; simp at hoj; subst hoj
        exact ⟨kb, mk, hl⟩
      · have := eopsLate_ok js _ _ k r (fun i' hi' j' hj' => ha i' (by simp [hi']) j' (by simp [hj'])) (List.nodup_cons.1 hnd).2 h9 i hi o ho
        rw [lateK_setD (ops := ops)] at this
        · exact this
        · exact (ha i (by simp [hi]) j (by simp) o u ho hoj).2

theorem late_sound {R : Type} {ro : Option Nat} {C : Callee} (hC : CSound P C) (hU : CUp C) {B : Base P} {nt id : Nat} {ops opsL : Array Oper} {ord1 l ord2 : List Nat} {fr : List Value} {st : AS} {a : Act} {w : World} {k : List Value → AS → Option R} {r : R} {Q : Exit → Act → World → Prop}
    (hp : latePlan P nt ops = some (opsL, ord1, l, ord2)) (hs : Stt B nt fr st a w) (h : eops P C opsL (stillSo P opsL) ord1 [] fr st (fun fr st => eopsLate P C ops l fr st fun fr st => eops P C ops (stillSo P ops) ord2 [] fr st k) = some r)
    (hk : ∀ fr' st' a' w', Stt B nt fr' st' a' w' → k fr' st' = some r → Q .normal a' w') :
    (Code.region id ops true).wpIn (Wd ro) 0 P Q a w := by
  unfold latePlan at hp
  dsimp only at hp
  split at hp
  case isFalse => simp at hp
  rename_i hc
  obtain ⟨hm, hra1, hok1, hra2, hok2, hfine, hlen, hnt⟩ := hc
  simp only [Option.some.injEq, Prod.mk.injEq] at hp
  obtain ⟨rfl, rfl, rfl, rfl⟩ := hp
  have hL := lateFine_spec (P := P) hfine
  have hnd : (lates P ops).Nodup := by unfold lates; exact List.Pairwise.filter _ List.nodup_range
  have hnr : ∀ i ∈ lates P ops, restB ops (lates P ops) i = false := fun i hi => by simp [restB, hi]
  have hlt : ∀ i ∈ lates P ops, i < ops.size := fun i hi => by
    obtain ⟨o, d, ho, _⟩ := hL.late i hi
    exact lt_of_getA ho
  have hD0 : Down (holdOps ops (lates P ops)) (listedBy ops.size (restB ops (lates P ops))) := by
    intro k o ho hk e he hb
    rw [listedBy_get] at hk
    split at hk
    · rename_i hkl
      obtain ⟨u, hu⟩ : ∃ u, ops[k]? = some u := ⟨ops[k], Array.getElem?_eq_getElem hkl⟩
      have := holdOps_get (l := lates P ops) hu
      have hnl : ¬ (lates P ops).contains k = true := by
        intro hc
        have := hnr k (by simpa using hc)
        rw [this] at hk; simp at hk
      rw [if_neg hnl, if_pos hk, ho] at this
      simp at this; subst this
      simp at he
    · simp at hk
  have hD1 : Down ops (listedBy ops.size fun i => !restB ops (lates P ops) i) := by
    intro k o ho hk e he hb
    rw [listedBy_get] at hk ⊢
    split at hk
    · obtain ⟨x1, x2⟩ := hL.down k o (by simpa using hk) ho e he hb
      rw [if_pos x1, x2]; rfl
    · simp at hk
  have hapart : LApart ops (lates P ops) := by
    intro i hi j hj u o hu ho
    obtain ⟨u', d, g1, g2, g3, g4⟩ := hL.late i hi
    rw [hu] at g1; simp at g1; subst g1
    obtain ⟨g5, g6⟩ := g4 j (hlt j hj) (hnr j hj) o ho
    refine ⟨fun hne => by rw [g3]; exact g5 (Ne.symm hne), ?_⟩
    rcases g6 with g6 | g6
    · rw [hL.apart i hi j hj] at g6; simp at g6
    · exact g6
  refine wpIn_region_any hm ?_
  have hAG := eops_AG hra1 _ _ _ _ _ hD0 hok1 h
  have := late_link (ro := ro) (C := C) hC hU (B := B) (nt := nt) hL hnd hnr (Q := Q) (K1 := fun fr st => eopsLate P C ops (lates P ops) fr st (fun fr st => eops P C ops (stillSo P ops) (drawOrder P ops ops.size (listedBy ops.size fun i => !restB ops (lates P ops) i)) [] fr st k) = some r) (m := ops.size - (drawOrder P (holdOps ops (lates P ops)) ops.size (listedBy ops.size (restB ops (lates P ops)))).length) hok1
    (fun i hi o d ho hd => by
      rw [List.all_eq_true] at hnt
      have := hnt i hi
      rw [ho] at this
      simpa [hd] using this)
    (fun fr st hk1 i hi o ho => eopsLate_ok _ _ _ _ _ hapart hnd hk1 i hi o ho)
    (fun n fr st a w pend hs hpm hk1 hmn => by
      obtain ⟨fr', st', hs', hk'⟩ := tell_all hU _ _ _ _ _ _ _ _ hapart hnd hpm hs hk1
      have hAG2 := eops_AG hra2 _ _ _ _ _ hD1 hok2 hk'
      exact AG.sound hC hU (fun fr st a w hs hK => hk fr st a w hs hK) _ _ _ _ _ _ hs' (AG.more _ _ _ _ _ hAG2 (by omega)))
    _ _ (Array.replicate ops.size false) fr st a { w with drawn := w.drawn + 1 } [] (by simp [listedBy]) (by simp) (fun i hi => by rw [listedBy_get, if_pos hi]; simp [Array.getD, hi]) (fun i hi => by
      simp only [Array.getD]
      split <;> simp) (fun k o ho hl => by
      rw [show (Array.replicate ops.size false).getD k false = false by simp [Array.getD]] at hl
      simp at hl) (.of (hs.drew _)) (by simp) (fun i => by
      have : (Array.replicate ops.size false).getD i false = false := by simp [Array.getD]
      simp [this]) hAG
  rw [Nat.add_sub_cancel' (by omega)] at this
  exact this

end
end Go.Am
end
