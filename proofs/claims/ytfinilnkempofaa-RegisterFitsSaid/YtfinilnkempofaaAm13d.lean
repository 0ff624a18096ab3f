/- Regions whose order is open. -/
import Derived.Test.YtfinilnkempofaaAm13
set_option linter.all false
set_option linter.unusedVariables false
set_option linter.unusedSimpArgs false
set_option linter.unnecessarySimpa false
namespace Go.Am

/-- a call that was made, and what it came to -/
structure Fact where
  f : FuncId
  args : List Value
  H : List Blk
  r : Value × List Blk × Option Nat

def Fact.of (C : Callee) (x : Fact) : Prop := C x.f x.args x.H = some x.r

section
variable {P : Program}
section
variable {R : Type}

/-- an operation goes on in one way, and hangs on one call at most -/
theorem eop_factor {C : Callee} {o : Oper} {fr : List Value} {st : AS} {k : Value → AS → Option R} {r : R} (h : eop P C fr st o k = some r) :
    ∃ v s, k v s = some r ∧ ∃ q : List Fact, (∀ x ∈ q, x.of C) ∧ ∀ (R' : Type) (C' : Callee) (k' : Value → AS → Option R'), (∀ x ∈ q, x.of C') → eop P C' fr st o k' = k' v s := by
  have two : ∀ (x : Option (Value × AS)), (x.bind fun r => k r.1 r.2) = some r → (∀ (R' : Type) (C' : Callee) (k' : Value → AS → Option R'), eop P C' fr st o k' = (x.bind fun r => k' r.1 r.2)) →
      ∃ v s, k v s = some r ∧ ∃ q : List Fact, (∀ x ∈ q, x.of C) ∧ ∀ (R' : Type) (C' : Callee) (k' : Value → AS → Option R'), (∀ x ∈ q, x.of C') → eop P C' fr st o k' = k' v s := by
    intro x hx he
    obtain ⟨y, hy, hk⟩ := Option.bind_eq_some_iff.1 hx
    exact ⟨_, _, hk, [], fun _ h => by simp at h, fun R' C' k' _ => by rw [he, hy]; rfl⟩
  have one : ∀ (x : Option AS) (v : Value), (x.bind fun s => k v s) = some r → (∀ (R' : Type) (C' : Callee) (k' : Value → AS → Option R'), eop P C' fr st o k' = (x.bind fun s => k' v s)) →
      ∃ v s, k v s = some r ∧ ∃ q : List Fact, (∀ x ∈ q, x.of C) ∧ ∀ (R' : Type) (C' : Callee) (k' : Value → AS → Option R'), (∀ x ∈ q, x.of C') → eop P C' fr st o k' = k' v s := by
    intro x v hx he
    obtain ⟨y, hy, hk⟩ := Option.bind_eq_some_iff.1 hx
    exact ⟨_, _, hk, [], fun _ h => by simp at h, fun R' C' k' _ => by rw [he, hy]; rfl⟩
  have pure1 : ∀ (x : Option Value), x.bind (k · st) = some r → (∀ (R' : Type) (C' : Callee) (k' : Value → AS → Option R'), eop P C' fr st o k' = x.bind (k' · st)) →
      ∃ v s, k v s = some r ∧ ∃ q : List Fact, (∀ x ∈ q, x.of C) ∧ ∀ (R' : Type) (C' : Callee) (k' : Value → AS → Option R'), (∀ x ∈ q, x.of C') → eop P C' fr st o k' = k' v s := by
    intro x hx he
    obtain ⟨y, hy, hk⟩ := Option.bind_eq_some_iff.1 hx
    exact ⟨_, _, hk, [], fun _ h => by simp at h, fun R' C' k' _ => by rw [he, hy]; rfl⟩
  have same : ∀ (v : Value) (s : AS), k v s = some r → (∀ (R' : Type) (C' : Callee) (k' : Value → AS → Option R'), eop P C' fr st o k' = k' v s) →
      ∃ v s, k v s = some r ∧ ∃ q : List Fact, (∀ x ∈ q, x.of C) ∧ ∀ (R' : Type) (C' : Callee) (k' : Value → AS → Option R'), (∀ x ∈ q, x.of C') → eop P C' fr st o k' = k' v s := by
    intro v s hk he
    exact ⟨v, s, hk, [], fun _ h => by simp at h, fun R' C' k' _ => he R' C' k'⟩
  cases hop : o.op <;> simp only [eop, hop] at h
  case move x => exact same _ _ h (fun R' C' k' => by simp only [eop, hop])
  case assign x => exact same _ _ h (fun R' C' k' => by simp only [eop, hop])
  case pick c a b => exact pure1 _ h (fun R' C' k' => by simp only [eop, hop])
  case alloc elem =>
    obtain ⟨z, hz, h⟩ := Option.bind_eq_some_iff.1 h
    rw [ite_some] at h
    exact two _ h.2 (fun R' C' k' => by simp only [eop, hop, hz, Option.bind_some]; rw [if_pos h.1])
  case box elem x => exact two _ h (fun R' C' k' => by simp only [eop, hop])
  case build t parts => exact pure1 _ h (fun R' C' k' => by simp only [eop, hop])
  case buildSlice t n parts => exact two _ h (fun R' C' k' => by simp only [eop, hop])
  case load t a =>
    split at h
    · rename_i g n hg hn; exact pure1 _ h (fun R' C' k' => by simp only [eop, hop, hg, hn])
    · simp at h
  case store t a x =>
    split at h
    · rename_i n hn; exact one _ _ h (fun R' C' k' => by simp only [eop, hop, hn])
    · simp at h
  case nilCheck x => exact pure1 _ h (fun R' C' k' => by simp only [eop, hop])
  case binOp op t x y u => exact pure1 _ h (fun R' C' k' => by simp only [eop, hop])
  case unOp op t x => exact pure1 _ h (fun R' C' k' => by simp only [eop, hop])
  case convert s d x => exact two _ h (fun R' C' k' => by simp only [eop, hop])
  case makeFunc fn a b =>
    split at h
    · exact same _ _ h (fun R' C' k' => by simp only [eop, hop])
    · simp at h
  case makeMap t x =>
    cases x with
    | none => exact same _ _ h (fun R' C' k' => by simp only [eop, hop])
    | some x => simp at h
  case makeSlice t l c => exact two _ h (fun R' C' k' => by simp only [eop, hop])
  case slice t x lo hi mx => exact pure1 _ h (fun R' C' k' => by simp only [eop, hop])
  case fieldAddr s x f => exact pure1 _ h (fun R' C' k' => by simp only [eop, hop])
  case field t x f => exact pure1 _ h (fun R' C' k' => by simp only [eop, hop])
  case indexAddr t x ix => exact pure1 _ h (fun R' C' k' => by simp only [eop, hop])
  case index t x ix =>
    rw [ite_some] at h
    exact pure1 _ h.2 (fun R' C' k' => by simp only [eop, hop]; rw [if_pos h.1])
  case lookup t m ky ok => exact pure1 _ h (fun R' C' k' => by simp only [eop, hop])
  case mapUpdate t m ky x => exact one _ _ h (fun R' C' k' => by simp only [eop, hop])
  case insert t m ky x => exact one _ _ h (fun R' C' k' => by simp only [eop, hop])
  case sliceToArrayPointer t x => exact pure1 _ h (fun R' C' k' => by simp only [eop, hop])
  case range t x => exact two _ h (fun R' C' k' => by simp only [eop, hop])
  case entry x => exact pure1 _ h (fun R' C' k' => by simp only [eop, hop])
  case extract t ix => exact pure1 _ h (fun R' C' k' => by simp only [eop, hop])
  case call c =>
    cases hcal : c.callee with
    | value f =>
      simp only [hcal] at h
      obtain ⟨g, hg, h⟩ := Option.bind_eq_some_iff.1 h
      obtain ⟨y, hy, h⟩ := Option.bind_eq_some_iff.1 h
      refine ⟨_, _, h, [⟨g.1, g.2, st.H, y⟩], fun x hx => by simp at hx; subst hx; exact hy, fun R' C' k' hq => ?_⟩
      have := hq _ (List.mem_singleton.2 rfl)
      simp only [Fact.of] at this
      simp only [eop, hop, hcal, hg, Option.bind_some, this]
    | builtin b =>
      simp only [hcal] at h
      unfold eBuiltin at h
      split at h
      · rename_i x hargs
        obtain ⟨t, ht, h⟩ := Option.bind_eq_some_iff.1 h
        exact pure1 _ h (fun R' C' k' => by simp only [eop, hop, hcal, eBuiltin, hargs, ht, Option.bind_some])
      · rename_i x y hargs; exact two _ h (fun R' C' k' => by simp only [eop, hop, hcal, eBuiltin, hargs])
      · rename_i x y hargs; exact two _ h (fun R' C' k' => by simp only [eop, hop, hcal, eBuiltin, hargs])
      · rename_i x y hargs; exact one _ _ h (fun R' C' k' => by simp only [eop, hop, hcal, eBuiltin, hargs])
      · exact pure1 _ h (fun R' C' k' => by simp only [eop, hop, hcal, eBuiltin])
      · exact pure1 _ h (fun R' C' k' => by simp only [eop, hop, hcal, eBuiltin])
      · simp at h
    | invoke a m => simp [hcal] at h
  all_goals (simp at h)

end

mutual
theorem veq_eq : ∀ (a b : Value), veq a b = true → a = b
  | .bool a, b, h => by cases b <;> simp [veq] at h; rw [h]
  | .int j a, b, h => by cases b <;> simp [veq] at h; rw [h.1, h.2]
  | .float j a, b, h => by cases b <;> simp [veq] at h; rw [h.1, h.2]
  | .complex .., b, h => by cases b <;> simp [veq] at h
  | .string a, b, h => by
    cases b <;> simp [veq] at h
    rename_i b
    cases a; cases b; simp at h; rw [h]
  | .pointer none, b, h => by
    cases b <;> try (simp [veq] at h; done)
    rename_i b; cases b <;> simp [veq] at h; rfl
  | .pointer (some a), b, h => by
    cases b <;> try (simp [veq] at h; done)
    rename_i b; cases b <;> simp [veq] at h; rw [h]
  | .slice none l c, b, h => by
    cases b <;> try (simp [veq] at h; done)
    rename_i b m d; cases b <;> simp [veq] at h; rw [h.1, h.2]
  | .slice (some a) l c, b, h => by
    cases b <;> try (simp [veq] at h; done)
    rename_i b m d; cases b <;> simp [veq] at h; rw [h.1.1, h.1.2, h.2]
  | .map none, b, h => by
    cases b <;> try (simp [veq] at h; done)
    rename_i b; cases b <;> simp [veq] at h; rfl
  | .map (some a), b, h => by
    cases b <;> try (simp [veq] at h; done)
    rename_i b; cases b <;> simp [veq] at h; rw [h]
  | .chan .., b, h => by cases b <;> simp [veq] at h
  | .func .., b, h => by cases b <;> simp [veq] at h
  | .nilFunc, b, h => by cases b <;> simp [veq] at h; rfl
  | .iface .., b, h => by cases b <;> simp [veq] at h
  | .nilIface, b, h => by cases b <;> simp [veq] at h
  | .agg ⟨a⟩, b, h => by
    cases b <;> try (simp [veq] at h; done)
    rename_i b; cases b with | mk b => simp only [veq, veqA] at h; rw [veqL_eq a b h]
  | .tuple ⟨a⟩, b, h => by
    cases b <;> try (simp [veq] at h; done)
    rename_i b; cases b with | mk b => simp only [veq, veqA] at h; rw [veqL_eq a b h]
theorem veqL_eq : ∀ (a b : List Value), veqL a b = true → a = b
  | [], [], _ => rfl
  | [], _ :: _, h => by simp [veqL] at h
  | _ :: _, [], h => by simp [veqL] at h
  | x :: xs, y :: ys, h => by
    simp only [veqL, Bool.and_eq_true] at h
    rw [veq_eq x y h.1, veqL_eq xs ys h.2]
end

/-- an operation comes to this, whatever comes behind it -/
def EopR (P : Program) (C : Callee) (fr : List Value) (st : AS) (o : Oper) (v : Value) (s : AS) : Prop := ∀ (R : Type) (k : Value → AS → Option R), eop P C fr st o k = k v s

/-- a quiet operation leaves all as it is -/
theorem quiet_one {R : Type} {C : Callee} {o : Oper} {fr : List Value} {st : AS} {k : Value → AS → Option R} {r : R} (hq : quietB P o = true) (h : eop P C fr st o k = some r) :
    ∃ v, k v st = some r ∧ ∀ C', EopR P C' fr st o v st := by
  have hq : opClass P o < 2 := by simpa [quietB] using hq
  have pure1 : ∀ (x : Option Value), x.bind (k · st) = some r → (∀ (R' : Type) (C' : Callee) (k' : Value → AS → Option R'), eop P C' fr st o k' = x.bind (k' · st)) → ∃ v, k v st = some r ∧ ∀ C', EopR P C' fr st o v st := by
    intro x hx he
    obtain ⟨y, hy, hk⟩ := Option.bind_eq_some_iff.1 hx
    exact ⟨_, hk, fun C' R' k' => by rw [he, hy]; rfl⟩
  have same : ∀ (v : Value), k v st = some r → (∀ (R' : Type) (C' : Callee) (k' : Value → AS → Option R'), eop P C' fr st o k' = k' v st) → ∃ v, k v st = some r ∧ ∀ C', EopR P C' fr st o v st := by
    intro v hk he
    exact ⟨v, hk, fun C' R' k' => he R' C' k'⟩
  cases hop : o.op <;> simp only [eop, hop] at h <;> simp only [opClass, hop] at hq <;> try (simp at hq; done)
  case move x => exact same _ h (fun R' C' k' => by simp only [eop, hop])
  case assign x => exact same _ h (fun R' C' k' => by simp only [eop, hop])
  case pick c a b => exact pure1 _ h (fun R' C' k' => by simp only [eop, hop])
  case build t parts => exact pure1 _ h (fun R' C' k' => by simp only [eop, hop])
  case load t a =>
    split at h
    · rename_i g n hg hn; exact pure1 _ h (fun R' C' k' => by simp only [eop, hop, hg, hn])
    · simp at h
  case nilCheck x => exact pure1 _ h (fun R' C' k' => by simp only [eop, hop])
  case binOp op t x y u => exact pure1 _ h (fun R' C' k' => by simp only [eop, hop])
  case unOp op t x => exact pure1 _ h (fun R' C' k' => by simp only [eop, hop])
  case convert s d x =>
    obtain ⟨⟨v, s'⟩, hv, h9⟩ := Option.bind_eq_some_iff.1 h
    have : s' = st := by
      cases h1 : P.underlying s with
      | none => simp [h1] at hq
      | some d1 =>
        cases h2 : P.underlying d with
        | none => cases d1 <;> simp [h1, h2] at hq
        | some d2 =>
          cases d1 <;> simp [h1, h2] at hq
          cases d2 <;> simp at hq
          cases hx : ev fr x with
          | int kk n => simp [aConv, h1, h2, hx] at hv; exact hv.2.symm
          | _ => simp [aConv, h1, h2, hx] at hv
    subst this
    exact same _ h9 (fun R' C' k' => by simp only [eop, hop, hv]; rfl)
  case makeFunc fn a b =>
    split at h
    · exact same _ h (fun R' C' k' => by simp only [eop, hop])
    · simp at h
  case slice t x lo hi mx => exact pure1 _ h (fun R' C' k' => by simp only [eop, hop])
  case fieldAddr s x f => exact pure1 _ h (fun R' C' k' => by simp only [eop, hop])
  case field t x f => exact pure1 _ h (fun R' C' k' => by simp only [eop, hop])
  case indexAddr t x ix => exact pure1 _ h (fun R' C' k' => by simp only [eop, hop])
  case index t x ix =>
    rw [ite_some] at h
    exact pure1 _ h.2 (fun R' C' k' => by simp only [eop, hop]; rw [if_pos h.1])
  case lookup t m ky ok => exact pure1 _ h (fun R' C' k' => by simp only [eop, hop])
  case extract t ix => exact pure1 _ h (fun R' C' k' => by simp only [eop, hop])
  case call c =>
    cases hcal : c.callee with
    | value f => simp [hcal] at hq
    | builtin b =>
      simp only [hcal] at h
      unfold eBuiltin at h
      split at h
      · rename_i x hargs
        obtain ⟨t, ht, h⟩ := Option.bind_eq_some_iff.1 h
        exact pure1 _ h (fun R' C' k' => by simp only [eop, hop, hcal, eBuiltin, hargs, ht, Option.bind_some])
      · simp [hcal] at hq
      · simp [hcal] at hq
      · simp [hcal] at hq
      · exact pure1 _ h (fun R' C' k' => by simp only [eop, hop, hcal, eBuiltin])
      · exact pure1 _ h (fun R' C' k' => by simp only [eop, hop, hcal, eBuiltin])
      · simp at h
    | invoke a m => simp [hcal] at h

/-- an operation that hangs on its operands alone answers the same in any state -/
theorem pure_any {C C' : Callee} {o : Oper} {fr : List Value} {st s : AS} {v : Value} (hq : opClass P o = 0) (h : EopR P C fr st o v st) : EopR P C' fr s o v s := by
  -- what an option of a value comes to
  have pure1 : ∀ (x : Option Value), (∀ (R' : Type) (C' : Callee) (s : AS) (k' : Value → AS → Option R'), eop P C' fr s o k' = x.bind (k' · s)) → EopR P C' fr s o v s := by
    intro x he R k
    have := h Value (fun v _ => some v)
    rw [he] at this
    cases x with
    | none => simp at this
    | some y => simp at this; subst this; rw [he]; rfl
  have same : ∀ (u : Value), (∀ (R' : Type) (C' : Callee) (s : AS) (k' : Value → AS → Option R'), eop P C' fr s o k' = k' u s) → EopR P C' fr s o v s := fun u he => pure1 (some u) (fun R' C' s k' => he R' C' s k')
  have no : (∀ (R' : Type) (C' : Callee) (s : AS) (k' : Value → AS → Option R'), eop P C' fr s o k' = none) → EopR P C' fr s o v s := fun he => pure1 none (fun R' C' s k' => by rw [he]; rfl)
  cases hop : o.op <;> simp only [opClass, hop] at hq <;> try (simp at hq; done)
  case move x => exact same (ev fr x) (fun R' C' s k' => by simp only [eop, hop])
  case assign x => exact same (ev fr x) (fun R' C' s k' => by simp only [eop, hop])
  case pick c a b => exact pure1 _ (fun R' C' s k' => by simp only [eop, hop]; rfl)
  case build t parts => exact pure1 _ (fun R' C' s k' => by simp only [eop, hop]; rfl)
  case nilCheck x => exact pure1 _ (fun R' C' s k' => by simp only [eop, hop]; rfl)
  case binOp op t x y u => exact pure1 _ (fun R' C' s k' => by simp only [eop, hop]; rfl)
  case unOp op t x => exact pure1 _ (fun R' C' s k' => by simp only [eop, hop]; rfl)
  case convert sr d x =>
    cases h1 : P.underlying sr with
    | none => simp [h1] at hq
    | some d1 =>
      cases h2 : P.underlying d with
      | none => cases d1 <;> simp [h1, h2] at hq
      | some d2 =>
        cases d1 <;> simp [h1, h2] at hq
        cases d2 <;> simp at hq
        rename_i k1 k2
        cases hx : ev fr x with
        | int kk n => exact same (.int k2 (k2.wrap n)) (fun R' C' s k' => by simp only [eop, hop, aConv, h1, h2, hx]; rfl)
        | _ => exact no (fun R' C' s k' => by simp only [eop, hop, aConv, h1, h2, hx]; rfl)
  case makeFunc fn a b =>
    cases fn with
    | func f => exact same (.func (.func f) (a.toList.map (ev fr)).toArray (b.toList.map (ev fr)).toArray) (fun R' C' s k' => by simp only [eop, hop])
    | _ => exact no (fun R' C' s k' => by simp only [eop, hop])
  case fieldAddr s x f => exact pure1 _ (fun R' C' s k' => by simp only [eop, hop]; rfl)
  case field t x f => exact pure1 _ (fun R' C' s k' => by simp only [eop, hop]; rfl)
  case indexAddr t x ix => exact pure1 _ (fun R' C' s k' => by simp only [eop, hop]; rfl)
  case index t x ix =>
    by_cases hp : plain (ev fr ix) = true
    · exact pure1 _ (fun R' C' s k' => by simp only [eop, hop]; rw [if_pos hp])
    · exact no (fun R' C' s k' => by simp only [eop, hop]; rw [if_neg hp])
  case extract t ix => exact pure1 _ (fun R' C' s k' => by simp only [eop, hop]; rfl)
  case call c =>
    cases hcal : c.callee with
    | value f => simp [hcal] at hq
    | builtin b =>
      cases b <;> simp [hcal] at hq
      · exact pure1 _ (fun R' C' s k' => by simp only [eop, hop, hcal, eBuiltin]; rfl)
      · exact pure1 _ (fun R' C' s k' => by simp only [eop, hop, hcal, eBuiltin]; rfl)
    | invoke a m => simp [hcal] at hq

theorem eop_congr {R : Type} {C : Callee} {o : Oper} {fr fr' : List Value} {st : AS} {k : Value → AS → Option R} (h : ∀ x ∈ o.op.operands, ev fr x = ev fr' x) : eop P C fr st o k = eop P C fr' st o k := by
  have lst : ∀ l : List Operand, (∀ x ∈ l, ev fr x = ev fr' x) → l.map (ev fr) = l.map (ev fr') := fun l hl => List.map_congr_left hl
  have prs : ∀ ps : Array (Nat × Operand), (∀ x ∈ (ps.toList.map (·.2)).toArray, ev fr x = ev fr' x) → (ps.toList.map fun p => (p.1, ev fr p.2)) = (ps.toList.map fun p => (p.1, ev fr' p.2)) := fun ps hp =>
    List.map_congr_left fun p hm => by
      have : p.2 ∈ (ps.toList.map (·.2)).toArray := by simp only [List.mem_toArray, List.mem_map]; exact ⟨p, hm, rfl⟩
      rw [hp p.2 this]
  cases hop : o.op <;> simp only [hop, Op.operands] at h <;> simp only [eop, hop]
  case build t ps => rw [prs ps h]
  case buildSlice t n ps =>
    have := congrArg (List.map Prod.snd) (prs ps h)
    simp only [List.map_map, Function.comp_def] at this
    rw [this]
  case makeFunc fn first captured => rw [lst first.toList (fun x hx => h x (by simp [Array.mem_toList_iff.1 hx])), lst captured.toList (fun x hx => h x (by simp [Array.mem_toList_iff.1 hx]))]
  case call c =>
    simp only [Call.operands] at h
    cases hc : c.callee with
    | value f =>
      simp only [hc] at h ⊢
      rw [h f (by simp), lst c.args.toList (fun x hx => h x (by simp [Array.mem_toList_iff.1 hx]))]
    | builtin b =>
      simp only [hc] at h ⊢
      rw [lst c.args.toList (fun x hx => h x (by simp [Array.mem_toList_iff.1 hx]))]
    | invoke r m => rfl
  case slice t x lo hi mx => cases lo <;> cases hi <;> cases mx <;> simp_all
  case makeMap t r => cases r <;> rfl
  all_goals (first | rfl | (simp_all; done))

theorem ev_setD {fr : List Value} {d : Nat} {v : Value} {x : Operand} (h : x ≠ .tmp d) : ev (fr.set d v) x = ev fr x := by
  cases x with
  | tmp t =>
    have hne : d ≠ t := fun e => h (e ▸ rfl)
    simp [ev, List.getD, List.getElem?_set_ne hne]
  | _ => rfl

theorem eop_setD {R : Type} {C : Callee} {ops : Array Oper} {o : Oper} {fr : List Value} {st : AS} {d : Option Tmp} {v : Value} {k : Value → AS → Option R} (h : ∀ e, d = some e → e ∉ o.looksAt ops) : eop P C (setD fr d v) st o k = eop P C fr st o k := by
  cases d with
  | none => rfl
  | some e =>
    refine eop_congr fun x hx => ev_setD fun he => h e rfl ?_
    subst he
    exact List.mem_append_left _ (List.mem_filterMap.2 ⟨.tmp e, by simpa using hx, rfl⟩)

theorem EopR.setD' {C : Callee} {ops : Array Oper} {o : Oper} {fr : List Value} {st s : AS} {d : Option Tmp} {v u : Value} (h : ∀ e, d = some e → e ∉ o.looksAt ops) : EopR P C (setD fr d v) st o u s ↔ EopR P C fr st o u s := by
  constructor <;> intro hr R k <;> have := hr R k
  · rwa [eop_setD h] at this
  · rwa [eop_setD h]

/-- is an operation wanted, as far as the machine knows? -/
def wantedA (ops : Array Oper) (fr : List Value) (o : Oper) : Option Bool :=
  match o.guard with
  | none => some true
  | some (j, want) => match (ops[j]?).bind (·.dst) with
    | none => none
    | some d => match fr.getD d unk with
      | .bool b => some (b == want)
      | .tuple _ => some false
      | _ => none

theorem wantedA_setD {ops : Array Oper} {o : Oper} {fr : List Value} {d : Option Tmp} {v : Value} (h : ∀ e, d = some e → e ∉ o.looksAt ops) : wantedA ops (setD fr d v) o = wantedA ops fr o := by
  cases d with
  | none => rfl
  | some e =>
    unfold wantedA
    cases hg : o.guard with
    | none => rfl
    | some g =>
      obtain ⟨j, want⟩ := g
      dsimp only
      cases hd : (ops[j]?).bind (·.dst) with
      | none => rfl
      | some d =>
        have hne : e ≠ d := fun he => h e rfl (by subst he; simp [Oper.looksAt, hg, hd])
        simp only [setD, List.getD, List.getElem?_set_ne hne]

def ADo (P : Program) (C : Callee) (ops : Array Oper) (fr : List Value) (st : AS) (o : Oper) (v : Value) (s : AS) : Prop :=
  (wantedA ops fr o = some true ∧ EopR P C fr st o v s) ∨ (wantedA ops fr o = some false ∧ v = undef ∧ s = st)

theorem ADo.setD' {C : Callee} {ops : Array Oper} {o : Oper} {fr : List Value} {st s : AS} {d : Option Tmp} {v u : Value} (h : ∀ e, d = some e → e ∉ o.looksAt ops) : ADo P C ops (setD fr d v) st o u s ↔ ADo P C ops fr st o u s := by
  unfold ADo; rw [wantedA_setD h, EopR.setD' h]

theorem wantedA_spec {B : Base P} {nt : Nat} {ops : Array Oper} {o : Oper} {fr : List Value} {st : AS} {a : Act} {w : World} {b : Bool} (hs : Stt B nt fr st a w) (h : wantedA ops fr o = some b) : Region.wanted o (yielded ops a.tmps) = b := by
  unfold wantedA at h
  unfold Region.wanted
  cases hg : o.guard with
  | none => simp only [hg] at h ⊢; simpa using h
  | some g =>
    obtain ⟨j, want⟩ := g
    simp only [hg] at h ⊢
    cases hd : (ops[j]?).bind (·.dst) with
    | none => simp [hd] at h
    | some d =>
      simp only [hd] at h
      split at h
      · rename_i c hc
        have := (hs.known hc).2
        simp at h; subst h
        simp [yielded, hd, this]
      · rename_i vs hv
        simp at h; subst h
        obtain ⟨ρ, h1, h2, _⟩ := hs
        have hx := h2.getD d undef
        rw [hv] at hx
        obtain ⟨vs', hv', _⟩ := hx.tuple_inv
        have : yielded ops a.tmps j = none := by
          unfold yielded
          rw [hd]
          simp only [Option.bind_some]
          cases hq : a.tmps[d]? with
          | none => rfl
          | some u =>
            have : a.tmps.toList.getD d undef = u := by simp [List.getD, hq]
            rw [this] at hv'; subst hv'; rfl
        simp [this]
      · simp at h

theorem ADo.wpOp {C : Callee} (hC : CSound P C) (hU : CUp C) {B : Base P} {nt : Nat} {ops : Array Oper} {Q : Exit → Act → World → Prop} {i : Nat} {o : Oper} {fr : List Value} {st s : AS} {v : Value} {a : Act} {w : World} {K : Act → World → Prop}
    (hi : ops[i]? = some o) (hs : Stt B nt fr st a w) (h : ADo P C ops fr st o v s) (hk : ∀ a' w', Stt B nt (setD fr o.dst v) s a' w' → K a' w') : Go.wpOp P ops Q i K a w := by
  unfold Go.wpOp
  simp only [hi]
  rcases h with ⟨hw, hr⟩ | ⟨hw, rfl, rfl⟩
  · have := wantedA_spec hs hw
    rw [if_pos this]
    classical
    refine .inl (eop_stt hC hU hs (k := fun v' s' => if v' = v ∧ s' = s then some () else none) (r := ()) ?_ (fun v' s' a' w' hv hs' => ?_))
    · rw [hr]; simp
    · have : v' = v ∧ s' = s := by
        by_cases hx : v' = v ∧ s' = s
        · exact hx
        · rw [if_neg hx] at hv; simp at hv
      obtain ⟨rfl, rfl⟩ := this
      exact hk a' w' hs'
  · have := wantedA_spec hs hw
    rw [this]
    simp only [Bool.false_eq_true, if_false]
    exact hk _ _ (hs.same rfl rfl)


/-- a read, asked once more, answers what it had -/
def Again (P : Program) (C : Callee) (ops : Array Oper) (j : Nat) (fr : List Value) (s : AS) : Prop :=
  ∃ u d x, ops[j]? = some u ∧ u.guard = none ∧ u.dst = some d ∧ fr[d]? = some x ∧ EopR P C fr s u x s

/-- whatever comes next: the machine can take it, and in the end 'K' holds -/
def AG (P : Program) (C : Callee) (ops : Array Oper) (K : List Value → AS → Prop) : Nat → Array Bool → List Value → AS → Prop
  | 0, listed, fr, st => Region.ready .any ops listed = [] ∧ K fr st
  | n + 1, listed, fr, st => (Region.ready .any ops listed = [] → K fr st) ∧ ∀ i ∈ Region.ready .any ops listed, ∃ o v s, ops[i]? = some o ∧ ADo P C ops fr st o v s ∧
      (quietB P o = true → s = st) ∧ (∀ j ∈ besides P ops i, listed.getD j false = true → Again P C ops j (setD fr o.dst v) s) ∧ AG P C ops K n (listed.setIfInBounds i true) (setD fr o.dst v) s

theorem AG.sound {C : Callee} (hC : CSound P C) (hU : CUp C) {B : Base P} {nt : Nat} {ops : Array Oper} {Q : Exit → Act → World → Prop} {K : List Value → AS → Prop} (hk : ∀ fr st a w, Stt B nt fr st a w → K fr st → Q .normal a w) :
    ∀ (n : Nat) (listed : Array Bool) (fr : List Value) (st : AS) (a : Act) (w : World), Stt B nt fr st a w → AG P C ops K n listed fr st → wpAny P .any ops Q n listed a w
  | 0, listed, fr, st, a, w, hs, h => ⟨h.1, hk _ _ _ _ hs h.2⟩
  | n + 1, listed, fr, st, a, w, hs, h => by
    refine ⟨fun h0 => hk _ _ _ _ hs (h.1 h0), fun i hi => ?_⟩
    obtain ⟨o, v, s, ho, hd, _, _, hr⟩ := h.2 i hi
    exact hd.wpOp hC hU ho hs (fun a' w' hs' => AG.sound hC hU hk n _ _ _ a' w' hs' hr)

/-- what has been done is closed under what must come ahead -/
def Down (ops : Array Oper) (listed : Array Bool) : Prop := ∀ k o, ops[k]? = some o → listed.getD k false = true → ∀ e ∈ o.after, Region.binds .any e = true → listed.getD e.on false = true

theorem getD_tf {listed : Array Bool} {i : Nat} (h : listed.getD i true = false) : listed.getD i false = false := by
  by_cases hi : i < listed.size
  · simpa [Array.getD, hi] using h
  · simp [Array.getD, hi]

theorem listed_ne {listed : Array Bool} {i k : Nat} (h : (listed.setIfInBounds i true).getD k false = true) (hne : k ≠ i) : listed.getD k false = true := by
  rwa [getD_set_ne false (Ne.symm hne)] at h

theorem Down.set {ops : Array Oper} {listed : Array Bool} {i : Nat} (hD : Down ops listed) (hi : i ∈ Region.ready .any ops listed) : Down ops (listed.setIfInBounds i true) := by
  intro k o ho hk e he hb
  by_cases hki : k = i
  · subst hki
    obtain ⟨_, o', ho', hall⟩ := mem_ready.1 hi
    rw [ho] at ho'; simp at ho'; subst ho'
    exact getD_set_true (hall e he hb)
  · exact getD_set_true (hD k o ho (listed_ne hk hki) e he hb)

theorem ancMask_spec (acc : List Nat) (i : Nat) : ∀ (es : List Edge) (m : Nat), (ancMask acc es m).testBit i = true → m.testBit i = true ∨ ∃ e ∈ es, Region.binds .any e = true ∧ (e.on = i ∨ (acc.getD e.on 0).testBit i = true)
  | [], m, h => .inl h
  | e :: es, m, h => by
    simp only [ancMask] at h
    rcases ancMask_spec acc i es _ h with h1 | ⟨e', h1, h2⟩
    · split at h1
      · rename_i hb
        simp only [Nat.testBit_or, Bool.or_eq_true, Nat.one_shiftLeft, Nat.testBit_two_pow, decide_eq_true_eq] at h1
        rcases h1 with (h1 | h1) | h1
        · exact .inl h1
        · exact .inr ⟨e, by simp, hb, .inl h1⟩
        · exact .inr ⟨e, by simp, hb, .inr h1⟩
      · exact .inl h1
    · exact .inr ⟨e', by simp [h1], h2⟩

theorem ancGo_spec (i : Nat) : ∀ (os pre : List Oper) (acc : List Nat), acc.length = pre.length →
    (∀ j, ((acc.getD j 0).testBit i = true) → ∃ o, pre[j]? = some o ∧ ∃ e ∈ o.after.toList, Region.binds .any e = true ∧ (e.on = i ∨ (e.on < j ∧ (acc.getD e.on 0).testBit i = true))) →
    (∀ j, (((ancGo os acc).getD j 0).testBit i = true) → ∃ o, (pre ++ os)[j]? = some o ∧ ∃ e ∈ o.after.toList, Region.binds .any e = true ∧ (e.on = i ∨ (e.on < j ∧ ((ancGo os acc).getD e.on 0).testBit i = true)))
  | [], pre, acc, hl, h, j, hj => by
    simp only [ancGo] at hj ⊢
    simpa using h j hj
  | o :: os, pre, acc, hl, h, j, hj => by
    have := ancGo_spec i os (pre ++ [o]) (acc ++ [ancMask acc o.after.toList 0]) (by simp [hl]) (fun j hj => by
      by_cases hlt : j < acc.length
      · have e1 : (acc ++ [ancMask acc o.after.toList 0]).getD j 0 = acc.getD j 0 := by simp [List.getD, List.getElem?_append_left hlt]
        rw [e1] at hj
        obtain ⟨u, h1, e, h2, h3, h4⟩ := h j hj
        refine ⟨u, by rw [List.getElem?_append_left (by omega)]; exact h1, e, h2, h3, ?_⟩
        rcases h4 with h4 | ⟨h4, h5⟩
        · exact .inl h4
        · refine .inr ⟨h4, ?_⟩
          have : (acc ++ [ancMask acc o.after.toList 0]).getD e.on 0 = acc.getD e.on 0 := by simp [List.getD, List.getElem?_append_left (show e.on < acc.length by omega)]
          rw [this]; exact h5
      · by_cases he : j = acc.length
        · subst he
          have e1 : (acc ++ [ancMask acc o.after.toList 0]).getD acc.length 0 = ancMask acc o.after.toList 0 := by simp [List.getD]
          rw [e1] at hj
          rcases ancMask_spec acc i _ _ hj with h1 | ⟨e, h1, h2, h3⟩
          · simp at h1
          · refine ⟨o, by rw [hl]; simp, e, h1, h2, ?_⟩
            rcases h3 with h3 | h3
            · exact .inl h3
            · have hlt2 : e.on < acc.length := by
                by_cases hx : e.on < acc.length
                · exact hx
                · simp [List.getD, List.getElem?_eq_none (Nat.le_of_not_lt hx)] at h3
              refine .inr ⟨hlt2, ?_⟩
              have : (acc ++ [ancMask acc o.after.toList 0]).getD e.on 0 = acc.getD e.on 0 := by simp [List.getD, List.getElem?_append_left hlt2]
              rw [this]; exact h3
        · have : (acc ++ [ancMask acc o.after.toList 0]).getD j 0 = 0 := by
            simp only [List.getD]
            rw [List.getElem?_eq_none (by simp; omega)]; rfl
          rw [this] at hj; simp at hj) j hj
    simpa [ancGo] using this

/-- what must come ahead of something that is done is done -/
theorem anc_listed {ops : Array Oper} {listed : Array Bool} (hD : Down ops listed) {i : Nat} (n : Nat) : ∀ (j : Nat), anc ops n j i = true → (∀ o, ops[j]? = some o → ∀ e ∈ o.after, Region.binds .any e = true → listed.getD e.on false = true) → listed.getD i false = true := by
  intro j
  induction j using Nat.strongRecOn with
  | _ j ih =>
    intro h hj
    obtain ⟨o, ho, e, he, hb, h2⟩ := ancGo_spec i ops.toList [] [] rfl (fun j hj => by simp at hj) j h
    have ho' : ops[j]? = some o := by simpa using ho
    have he' : e ∈ o.after := by simpa using he
    have hl := hj o ho' e he' hb
    rcases h2 with rfl | ⟨h2, h3⟩
    · exact hl
    · exact ih e.on h2 h3 (fun o' ho' e' he' hb' => hD e.on o' ho' hl e' he' hb')

theorem not_anc {ops : Array Oper} {listed : Array Bool} (hD : Down ops listed) {i j n : Nat} (hi : listed.getD i true = false) (hj : j ∈ Region.ready .any ops listed) : anc ops n j i = false := by
  cases h : anc ops n j i with
  | false => rfl
  | true =>
    obtain ⟨_, o, ho, hall⟩ := mem_ready.1 hj
    have := anc_listed hD n j h (fun o' ho' e he hb => by rw [ho] at ho'; simp at ho'; subst ho'; exact hall e he hb)
    rw [getD_tf hi] at this; simp at this

theorem setD_comm {fr : List Value} {x y : Option Tmp} {v u : Value} (h : ∀ d, x = some d → y ≠ some d) : setD (setD fr x v) y u = setD (setD fr y u) x v := by
  cases x with
  | none => rfl
  | some d =>
    cases y with
    | none => rfl
    | some e =>
      have hne : d ≠ e := fun he => h d rfl (he ▸ rfl)
      simp only [setD]
      exact List.set_comm _ _ hne

theorem getQ_setD_ne {fr : List Value} {x : Option Tmp} {d : Nat} {v : Value} (h : x ≠ some d) : (setD fr x v)[d]? = fr[d]? := by
  cases x with
  | none => rfl
  | some e =>
    have hne : e ≠ d := fun he => h (he ▸ rfl)
    simp [setD, List.getElem?_set_ne hne]

theorem getD_setD_ne {fr : List Value} {x : Option Tmp} {d : Nat} {v : Value} (h : x ≠ some d) : (setD fr x v).getD d unk = fr.getD d unk := by
  cases x with
  | none => rfl
  | some e =>
    have hne : e ≠ d := fun he => h (he ▸ rfl)
    simp [setD, List.getD, List.getElem?_set_ne hne]

theorem readsApart_spec {ops : Array Oper} (h : readsApart P ops = true) {j i : Nat} {u o : Oper} (hj : ops[j]? = some u) (hu : opClass P u = 1) (hi : ops[i]? = some o) (hne : i ≠ j) :
    ∃ d, u.dst = some d ∧ d ∉ u.looksAt ops ∧ o.dst ≠ some d ∧ ((∀ e, o.dst = some e → e ∉ u.looksAt ops) ∨ anc ops ops.size j i = true) := by
  unfold readsApart at h
  rw [List.all_eq_true] at h
  have h1 := h j (by simp [lt_of_getA hj])
  simp only [hj, hu] at h1
  cases hd : u.dst with
  | none => simp [hd] at h1
  | some d =>
    simp only [hd, Bool.and_eq_true, Bool.not_eq_true', bne_self_eq_false, Bool.false_or] at h1
    obtain ⟨h2, h3⟩ := h1
    rw [List.all_eq_true] at h3
    have h4 := h3 i (by simp [lt_of_getA hi])
    simp only [hi, Bool.or_eq_true, beq_iff_eq, hne, false_or, Bool.and_eq_true, bne_iff_ne, ne_eq] at h4
    refine ⟨d, rfl, by simpa using h2, h4.1, ?_⟩
    cases he : o.dst with
    | none => exact .inl (fun e h => by simp at h)
    | some e =>
      rw [he] at h4
      simp only [Bool.or_eq_true, Bool.not_eq_true'] at h4
      rcases h4.2 with h5 | h5
      · exact .inl (fun e' h' => by simp at h'; subst h'; simpa using h5)
      · exact .inr h5

theorem besides_spec {ops : Array Oper} {i j : Nat} (h : j ∈ besides P ops i) : ∃ u, ops[j]? = some u ∧ opClass P u = 1 ∧ anc ops ops.size i j = false ∧ anc ops ops.size j i = false := by
  unfold besides at h
  split at h
  · simp at h
  · split at h
    · simp at h
    · simp only [List.mem_filter, List.mem_range, Bool.and_eq_true, Bool.not_eq_true'] at h
      obtain ⟨hj, ⟨h1, h2⟩, h3⟩ := h
      cases hu : ops[j]? with
      | none => simp [hu] at h1
      | some u => simp [hu] at h1; exact ⟨u, rfl, h1, h2, h3⟩

theorem besides_quiet {ops : Array Oper} {i : Nat} {o : Oper} (hi : ops[i]? = some o) (hq : quietB P o = true) : besides P ops i = [] := by
  unfold besides; rw [hi]; simp [hq]

/-- a quiet operation that can come now may be taken first -/
theorem AG.peel {C : Callee} {ops : Array Oper} {K : List Value → AS → Prop} (hra : readsApart P ops = true) {i : Nat} {o : Oper} (hi : ops[i]? = some o) (hq : quietB P o = true) :
    ∀ (n : Nat) (listed : Array Bool) (fr : List Value) (st : AS) (v : Value), Down ops listed → i ∈ Region.ready .any ops listed → quietOk P ops i o listed = true → ADo P C ops fr st o v st →
      AG P C ops K n (listed.setIfInBounds i true) (setD fr o.dst v) st → AG P C ops K (n + 1) listed fr st := by
  intro n
  induction n with
  | zero =>
    intro listed fr st v hD hr hok hdo H
    refine ⟨fun h => (by rw [h] at hr; cases hr), fun j hj => ?_⟩
    by_cases hji : j = i
    · subst hji
      exact ⟨o, v, st, hi, hdo, fun _ => rfl, fun j hj => by rw [besides_quiet hi hq] at hj; simp at hj, H⟩
    · have := ready_mono hj hji
      rw [H.1] at this; cases this
  | succ n ih =>
    intro listed fr st v hD hr hok hdo H
    refine ⟨fun h => (by rw [h] at hr; cases hr), fun j hj => ?_⟩
    by_cases hji : j = i
    · subst hji
      exact ⟨o, v, st, hi, hdo, fun _ => rfl, fun j hj => by rw [besides_quiet hi hq] at hj; simp at hj, H⟩
    · obtain ⟨u, v', s', hu, hdo', hqs, hag, hrest⟩ := H.2 j (ready_mono hj hji)
      have hun := (mem_ready.1 hr).1
      have hjun := (mem_ready.1 hj).1
      have hna := not_anc (n := ops.size) hD hun hj
      -- what the check says of j
      have hok' := hok
      unfold quietOk at hok'
      rw [List.all_eq_true] at hok'
      have h1 := hok' j (by simp [lt_of_getA hu])
      simp only [hu, hna, hjun, hji, Bool.or_false, Bool.or_eq_true, beq_iff_eq, Bool.and_eq_true, false_or, Bool.false_eq_true] at h1
      obtain ⟨hap, hcl⟩ := h1
      obtain ⟨a1, a2, a3⟩ := Oper.apart_spec hap
      have hdo2 : ADo P C ops fr st u v' s' := (ADo.setD' a1).1 hdo'
      have hcomm : setD (setD fr o.dst v) u.dst v' = setD (setD fr u.dst v') o.dst v := setD_comm a2
      refine ⟨u, v', s', hu, hdo2, hqs, fun k hk hkl => ?_, ?_⟩
      · -- a read that is done already
        obtain ⟨x, d, z, hx, hxg, hxd, hxz, hxr⟩ := hag k hk (getD_set_true hkl)
        obtain ⟨x', hx', hx1, _, _⟩ := besides_spec hk
        rw [hx] at hx'; simp at hx'; subst hx'
        have hki : i ≠ k := by
          intro he; subst he
          rw [getD_tf hun] at hkl; simp at hkl
        obtain ⟨d', hd1, hd2, hd3, hd4⟩ := readsApart_spec hra hx hx1 hi hki
        rw [hxd] at hd1; simp at hd1; subst hd1
        have hlook : ∀ e, o.dst = some e → e ∉ x.looksAt ops := by
          rcases hd4 with hd4 | hd4
          · exact hd4
          · have := anc_listed hD ops.size k hd4 (fun o' ho' e he hb => hD k o' ho' hkl e he hb)
            rw [getD_tf hun] at this; simp at this
        rw [hcomm, EopR.setD' hlook] at hxr
        rw [hcomm, getQ_setD_ne hd3] at hxz
        exact ⟨x, d, z, hx, hxg, hxd, hxz, hxr⟩
      · have hready : i ∈ Region.ready .any ops (listed.setIfInBounds j true) := ready_mono hr (Ne.symm hji)
        have hok2 : quietOk P ops i o (listed.setIfInBounds j true) = true := by
          unfold quietOk
          rw [List.all_eq_true]
          intro k hk
          have := hok' k hk
          simp only [Bool.or_eq_true] at this ⊢
          rcases this with ((h | h) | h) | h
          · exact .inl (.inl (.inl h))
          · by_cases hkj : j = k
            · subst hkj
              have hlt : j < listed.size := by
                by_cases hlt : j < listed.size
                · exact hlt
                · rw [Array.getD_eq_getD_getElem?, Array.getElem?_eq_none (by omega)] at hjun; simp at hjun
              exact .inl (.inl (.inr (by simp [Array.getD, hlt])))
            · exact .inl (.inl (.inr (by rw [getD_set_ne true hkj]; exact h)))
          · exact .inl (.inr h)
          · exact .inr h
        refine ih (listed.setIfInBounds j true) (setD fr u.dst v') s' v (hD.set hj) hready hok2 ?_ ?_
        · -- the quiet operation answers the same behind j
          have keep : ADo P C ops (setD fr u.dst v') st o v st := (ADo.setD' a3).2 hdo
          rcases hcl with (hcl | hcl) | hcl
          · rcases keep with ⟨k1, k2⟩ | ⟨k1, k2, _⟩
            · exact .inl ⟨k1, pure_any hcl k2⟩
            · exact .inr ⟨k1, k2, rfl⟩
          · rw [hqs hcl]; exact keep
          · have hlt : i < listed.size := by
              by_cases hlt : i < listed.size
              · exact hlt
              · rw [Array.getD_eq_getD_getElem?, Array.getElem?_eq_none (by omega)] at hun; simp at hun
            obtain ⟨x, d, z, hx, hxg, hxd, hxz, hxr⟩ := hag i (by simpa using hcl) (by simp [Array.getD, hlt])
            rw [hi] at hx; simp at hx; subst hx
            obtain ⟨y, hy, hc1, _, _⟩ := besides_spec (P := P) (ops := ops) (i := j) (j := i) (by simpa using hcl)
            rw [hi] at hy; simp at hy; subst hy
            obtain ⟨d', hd1, hd2, _, _⟩ := readsApart_spec hra hi hc1 hu hji
            rw [hxd] at hd1; simp at hd1; subst hd1
            have hself : ∀ e, o.dst = some e → e ∉ o.looksAt ops := fun e he => by rw [hxd] at he; simp at he; subst he; exact hd2
            rw [hcomm, EopR.setD' hself] at hxr
            rw [hcomm, hxd] at hxz
            have hz : z = v := by
              simp only [setD] at hxz
              have hlt := lt_of_get hxz
              rw [List.getElem?_set_self (by simpa using hlt)] at hxz
              simpa using hxz.symm
            subst hz
            exact .inl ⟨by unfold wantedA; rw [hxg], hxr⟩
        · rw [Array.setIfInBounds_comm _ _ hji, ← hcomm]
          exact hrest

theorem besides_guard {ops : Array Oper} {i : Nat} {C : Callee} {fr : List Value} {s : AS} (h : stillSo P ops i fr s = true) : ∀ j ∈ besides P ops i, Again P C ops j fr s := by
  intro j hj
  obtain ⟨u, hu, hu1, _, _⟩ := besides_spec hj
  unfold stillSo at h
  rw [List.all_eq_true] at h
  have h1 := h j hj
  simp only [hu, Bool.and_eq_true, Option.isNone_iff_eq_none] at h1
  obtain ⟨hg, h1⟩ := h1
  cases hd : u.dst with
  | none => simp [hd] at h1
  | some d =>
    simp only [hd, beq_iff_eq] at h1
    obtain ⟨v, hv, hr⟩ := quiet_one (by simp [quietB, hu1]) h1
    simp only [Option.some.injEq] at hv
    have he := veq_eq _ _ hv
    refine ⟨u, d, v, hu, hg, hd, ?_, hr C⟩
    cases hx : fr[d]? with
    | none =>
      simp only [List.getD, hx, Option.getD_none] at he
      rw [he] at hv
      simp [List.getD, hx, unk, veq] at hv
    | some x =>
      simp only [List.getD, hx, Option.getD_some] at he
      rw [he]

theorem set_known {fr : List Value} {d : Nat} {b : Bool} (hb : fr.getD d unk = .bool b) : fr.set d (.bool b) = fr := by
  have hd : fr[d]? = some (.bool b) := by
    simp only [List.getD] at hb
    cases hx : fr[d]? with
    | none => simp [hx, unk] at hb
    | some v => simp [hx] at hb; rw [hb]
  apply List.ext_getElem?; intro i
  by_cases hi : d = i
  · subst hi; rw [List.getElem?_set_self (lt_of_get hd), hd]
  · rw [List.getElem?_set_ne hi]

theorem ready_of_B {ops : Array Oper} {listed : Array Bool} {i : Nat} : readyB ops listed i = true ↔ i ∈ Region.ready .any ops listed := by
  rw [mem_ready]
  unfold readyB
  simp only [Bool.and_eq_true, Bool.not_eq_true']
  constructor
  · rintro ⟨h1, h2⟩
    refine ⟨h1, ?_⟩
    cases ho : ops[i]? with
    | none => simp [ho] at h2
    | some o =>
      simp only [ho, Option.map_some, Option.getD_some] at h2
      refine ⟨o, rfl, fun e he hb => ?_⟩
      have := Array.all_eq_true'.1 h2 e he
      simpa [hb] using this
  · rintro ⟨h1, o, ho, h2⟩
    refine ⟨h1, ?_⟩
    rw [ho]
    simp only [Option.map_some, Option.getD_some]
    refine Array.all_eq_true'.2 fun e he => ?_
    cases hb : Region.binds .any e with
    | false => simp
    | true => simp [h2 e he hb]

/-- the machine's order stands for every order -/
theorem eops_AG {R : Type} {C : Callee} {ops : Array Oper} (hra : readsApart P ops = true) {k : List Value → AS → Option R} {r : R} : ∀ (is sk : List Nat) (listed : Array Bool) (fr : List Value) (st : AS),
    Down ops listed → drawOk P ops is listed = true → eops P C ops (stillSo P ops) is sk fr st k = some r → AG P C ops (fun fr st => k fr st = some r) is.length listed fr st
  | [], sk, listed, fr, st, hD, hok, h => by
    simp only [eops] at h
    refine ⟨?_, h⟩
    simp only [drawOk, List.all_eq_true] at hok
    refine List.eq_nil_iff_forall_not_mem.2 fun i hi => ?_
    obtain ⟨h1, o, ho, _⟩ := mem_ready.1 hi
    rw [hok i (by simp [lt_of_getA ho])] at h1
    simp at h1
  | i :: is, sk, listed, fr, st, hD, hok, h => by
    simp only [drawOk, Bool.and_eq_true] at hok
    simp only [eops] at h
    cases ho : ops[i]? with
    | none => simp [ho] at h
    | some o =>
      simp only [ho, Bool.and_eq_true] at h hok
      obtain ⟨⟨hr, hok1⟩, hok2⟩ := hok
      have hr := ready_of_B.1 hr
      have hD' := hD.set hr
      -- it is taken, and what follows is served
      have done : ∀ v s, ADo P C ops fr st o v s → (quietB P o = true → s = st) → (∀ j ∈ besides P ops i, Again P C ops j (setD fr o.dst v) s) → AG P C ops (fun fr st => k fr st = some r) is.length (listed.setIfInBounds i true) (setD fr o.dst v) s →
          AG P C ops (fun fr st => k fr st = some r) (is.length + 1) listed fr st := by
        intro v s hdo hqs hag H
        by_cases hq : quietB P o = true
        · rw [if_pos hq] at hok1
          have := hqs hq; subst this
          exact AG.peel hra ho hq _ _ _ _ _ hD hr hok1 hdo H
        · rw [if_neg hq] at hok1
          simp only [Bool.and_eq_true, List.all_eq_true] at hok1
          refine ⟨fun h => (by rw [h] at hr; cases hr), fun j hj => ?_⟩
          have hji : j = i := by
            obtain ⟨_, u, hu, _⟩ := mem_ready.1 hj
            have := hok1.2 j (by simp [lt_of_getA hu])
            simp only [Bool.or_eq_true, beq_iff_eq, Bool.not_eq_true'] at this
            rcases this with h | h
            · exact h
            · rw [ready_of_B.2 hj] at h; simp at h
          subst hji
          exact ⟨o, v, s, ho, hdo, hqs, fun k hk _ => hag k hk, H⟩
      have run : wantedA ops fr o = some true → eop P C fr st o (fun v s => if stillSo P ops i (setD fr o.dst v) s = true then eops P C ops (stillSo P ops) is sk (setD fr o.dst v) s k else none) = some r → AG P C ops (fun fr st => k fr st = some r) (is.length + 1) listed fr st := by
        intro hw h
        obtain ⟨v, s, hv, q, hq, he⟩ := eop_factor h
        have hR : EopR P C fr st o v s := fun R' k' => he R' C k' hq
        rw [ite_some] at hv
        refine done v s (.inl ⟨hw, hR⟩) (fun hqt => ?_) (besides_guard hv.1) (eops_AG hra is sk _ _ _ hD' hok2 hv.2)
        have h9 := hR AS (fun _ s => some s)
        obtain ⟨v', h8, _⟩ := quiet_one hqt h9
        simpa using h8.symm
      have skip : ∀ sk', wantedA ops fr o = some false → (∀ j, j ∉ besides P ops i) → eops P C ops (stillSo P ops) is sk' (setD fr o.dst undef) st k = some r → AG P C ops (fun fr st => k fr st = some r) (is.length + 1) listed fr st := by
        intro sk' hw hb h
        exact done undef st (.inr ⟨hw, rfl, rfl⟩) (fun _ => rfl) (fun j hj => absurd hj (hb j)) (eops_AG hra is sk' _ _ _ hD' hok2 h)
      cases hg : o.guard with
      | none =>
        simp only [hg] at h
        exact run (by unfold wantedA; rw [hg]) h
      | some g =>
        obtain ⟨j, want⟩ := g
        simp only [hg] at h
        have hb : ∀ j, j ∉ besides P ops i := by
          intro j hj
          by_cases hq : quietB P o = true
          · rw [besides_quiet ho hq] at hj; simp at hj
          · rw [if_neg hq] at hok1
            simp only [Bool.and_eq_true, hg, Option.isNone_some, Bool.false_or, List.isEmpty_iff] at hok1
            rw [hok1.1] at hj; simp at hj
        cases hd : (ops[j]?).bind (·.dst) with
        | none => simp [hd] at h
        | some d =>
          simp only [hd] at h
          by_cases hsk : sk.contains j = true
          · rw [if_pos hsk] at h
            split at h
            · rename_i vs hv
              exact skip _ (by unfold wantedA; rw [hg]; simp only [hd, hv]) hb h
            · simp at h
          · rw [if_neg hsk] at h
            rcases bcase_some h with ⟨hbv, h⟩ | ⟨hbv, h⟩
            · rw [set_known hbv] at h
              by_cases hw : want = true
              · rw [if_pos hw] at h
                exact run (by unfold wantedA; rw [hg]; simp only [hd, hbv, hw]; rfl) h
              · rw [if_neg hw] at h
                exact skip _ (by unfold wantedA; rw [hg]; simp only [hd, hbv]; simp at hw; rw [hw]; rfl) hb h
            · rw [set_known hbv] at h
              by_cases hw : want = true
              · rw [if_pos hw] at h
                exact skip _ (by unfold wantedA; rw [hg]; simp only [hd, hbv, hw]; rfl) hb h
              · rw [if_neg hw] at h
                exact run (by unfold wantedA; rw [hg]; simp only [hd, hbv]; simp at hw; rw [hw]; rfl) h

theorem Stt.drew {B : Base P} {nt : Nat} {fr : List Value} {st : AS} {a : Act} {w : World} (h : Stt B nt fr st a w) (n : Nat) : Stt B nt fr st a { w with drawn := n } := by
  obtain ⟨ρ, h1, h2, h3, h4⟩ := h
  exact ⟨ρ, h1.congr rfl, h2, h3.trans (Step.congr _ rfl rfl rfl), h4⟩

theorem drawOrder_length (ops : Array Oper) : ∀ n listed, (drawOrder P ops n listed).length ≤ n
  | 0, _ => by simp [drawOrder]
  | n + 1, listed => by
    simp only [drawOrder]
    split
    · simp
    · simp only [List.length_cons]
      have := drawOrder_length ops n
      rename_i i _ _
      have := this (listed.setIfInBounds i true)
      omega

theorem AG.more {C : Callee} {ops : Array Oper} {K : List Value → AS → Prop} : ∀ (n m : Nat) (listed : Array Bool) (fr : List Value) (st : AS), AG P C ops K n listed fr st → n ≤ m → AG P C ops K m listed fr st
  | 0, 0, _, _, _, h, _ => h
  | 0, m + 1, _, _, _, h, _ => ⟨fun _ => h.2, fun i hi => by rw [h.1] at hi; simp at hi⟩
  | n + 1, 0, _, _, _, _, hm => by omega
  | n + 1, m + 1, listed, fr, st, h, hm => ⟨h.1, fun i hi => by
      obtain ⟨o, v, s, h1, h2, h3, h4, h5⟩ := h.2 i hi
      exact ⟨o, v, s, h1, h2, h3, h4, AG.more n m _ _ _ h5 (by omega)⟩⟩

theorem draw_sound {R : Type} {C : Callee} (hC : CSound P C) (hU : CUp C) {B : Base P} {nt id : Nat} {ops : Array Oper} {ord : List Nat} {chk : Nat → List Value → AS → Bool} {fr : List Value} {st : AS} {a : Act} {w : World} {k : List Value → AS → Option R} {r : R} {Q : Exit → Act → World → Prop}
    (hp : drawPlan P ops = some (ord, chk)) (hs : Stt B nt fr st a w) (h : eops P C ops chk ord [] fr st k = some r) (hk : ∀ fr' st' a' w', Stt B nt fr' st' a' w' → k fr' st' = some r → Q .normal a' w') :
    (Code.region id ops true).wp P Q a w := by
  unfold drawPlan at hp
  dsimp only at hp
  split at hp
  · rename_i hc
    obtain ⟨hm, hra, hok⟩ := hc
    simp only [Option.some.injEq, Prod.mk.injEq] at hp
    obtain ⟨rfl, rfl⟩ := hp
    refine wp_region_any hm ?_
    have hD : Down ops (Array.replicate ops.size false) := by
      intro k o ho hl
      rw [show (Array.replicate ops.size false).getD k false = false by simp [Array.getD]] at hl
      simp at hl
    have := eops_AG hra _ _ _ _ _ hD hok h
    exact AG.sound hC hU (fun fr st a w hs hK => hk fr st a w hs hK) _ _ _ _ _ _ (hs.drew _) (AG.more _ _ _ _ _ this (drawOrder_length _ _ _))
  · simp at hp

end
end Go.Am
