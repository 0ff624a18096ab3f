/- The machine's calls, unfolded. -/
import Derived.Test.YtfinilnkempofaaAm14
set_option linter.all false
set_option linter.unusedVariables false
set_option linter.unusedSimpArgs false
set_option linter.unnecessarySimpa false
namespace Go.Am

section
variable {P : Program} {R : Type}

theorem eopsLate_factor {C : Callee} {ops : Array Oper} : ∀ (l : List Nat) (fr : List Value) (st : AS) (k : List Value → AS → Option R) (r : R), eopsLate P C ops l fr st k = some r →
    ∃ fr' st', k fr' st' = some r ∧ ∃ q : List Fact, (∀ x ∈ q, x.of C) ∧ ∀ (R' : Type) (C' : Callee) (k' : List Value → AS → Option R'), (∀ x ∈ q, x.of C') → eopsLate P C' ops l fr st k' = k' fr' st'
  | [], fr, st, k, r, h => ⟨fr, st, h, [], fun _ h => by simp at h, fun _ _ _ _ => rfl⟩
  | i :: is, fr, st, k, r, h => by
    simp only [eopsLate] at h
    cases ho : ops[i]? with
    | none => simp [ho] at h
    | some o =>
      simp only [ho] at h
      rw [ite_some] at h
      obtain ⟨v, s, hv, q, hq, hall⟩ := eop_factor h.2
      obtain ⟨fr', st', hk, q', hq', hall'⟩ := eopsLate_factor is _ s k r hv
      refine ⟨fr', st', hk, q ++ q', fun x hx => (List.mem_append.1 hx).elim (hq x) (hq' x), fun R' C' k' hx => ?_⟩
      simp only [eopsLate, ho]
      rw [if_pos h.1, hall R' C' _ (fun x h => hx x (List.mem_append_left _ h)), hall' R' C' k' (fun x h => hx x (List.mem_append_right _ h))]

theorem eops_factor {C : Callee} {ops : Array Oper} {chk : Nat → List Value → AS → Bool} : ∀ (is sk : List Nat) (fr : List Value) (st : AS) (k : List Value → AS → Option R) (r : R), eops P C ops chk is sk fr st k = some r →
    ∃ fr' st', k fr' st' = some r ∧ ∃ q : List Fact, (∀ x ∈ q, x.of C) ∧ ∀ (R' : Type) (C' : Callee) (k' : List Value → AS → Option R'), (∀ x ∈ q, x.of C') → eops P C' ops chk is sk fr st k' = k' fr' st'
  | [], sk, fr, st, k, r, h => ⟨fr, st, by simpa [eops] using h, [], fun _ h => by simp at h, fun _ _ _ _ => by simp [eops]⟩
  | i :: is, sk, fr, st, k, r, h => by
    simp only [eops] at h
    have run : ∀ (fr1 : List Value) (o : Oper), eop P C fr1 st o (fun v s => if chk i (setD fr1 o.dst v) s = true then eops P C ops chk is sk (setD fr1 o.dst v) s k else none) = some r →
        (∀ (R' : Type) (C' : Callee) (k' : List Value → AS → Option R'), eops P C' ops chk (i :: is) sk fr st k' = eop P C' fr1 st o (fun v s => if chk i (setD fr1 o.dst v) s = true then eops P C' ops chk is sk (setD fr1 o.dst v) s k' else none)) →
        ∃ fr' st', k fr' st' = some r ∧ ∃ q : List Fact, (∀ x ∈ q, x.of C) ∧ ∀ (R' : Type) (C' : Callee) (k' : List Value → AS → Option R'), (∀ x ∈ q, x.of C') → eops P C' ops chk (i :: is) sk fr st k' = k' fr' st' := by
      intro fr1 o h1 he
      obtain ⟨v, s, hv, q, hq, hall⟩ := eop_factor h1
      rw [ite_some] at hv
      obtain ⟨hchk, hv⟩ := hv
      obtain ⟨fr', st', hk, q', hq', hall'⟩ := eops_factor is sk _ s k r hv
      refine ⟨fr', st', hk, q ++ q', fun x hx => (List.mem_append.1 hx).elim (hq x) (hq' x), fun R' C' k' hx => ?_⟩
      rw [he, hall R' C' _ (fun x h => hx x (List.mem_append_left _ h)), if_pos hchk, hall' R' C' k' (fun x h => hx x (List.mem_append_right _ h))]
    have skip : ∀ (fr1 : List Value) (sk1 : List Nat), eops P C ops chk is sk1 fr1 st k = some r → (∀ (R' : Type) (C' : Callee) (k' : List Value → AS → Option R'), eops P C' ops chk (i :: is) sk fr st k' = eops P C' ops chk is sk1 fr1 st k') →
        ∃ fr' st', k fr' st' = some r ∧ ∃ q : List Fact, (∀ x ∈ q, x.of C) ∧ ∀ (R' : Type) (C' : Callee) (k' : List Value → AS → Option R'), (∀ x ∈ q, x.of C') → eops P C' ops chk (i :: is) sk fr st k' = k' fr' st' := by
      intro fr1 sk1 h1 he
      obtain ⟨fr', st', hk, q', hq', hall'⟩ := eops_factor is sk1 fr1 st k r h1
      exact ⟨fr', st', hk, q', hq', fun R' C' k' hx => by rw [he, hall' R' C' k' hx]⟩
    cases ho : ops[i]? with
    | none => simp [ho] at h
    | some o =>
      simp only [ho] at h
      cases hg : o.guard with
      | none => simp only [hg] at h; exact run fr o h (fun R' C' k' => by simp only [eops, ho, hg])
      | some g =>
        obtain ⟨j, want⟩ := g
        simp only [hg] at h
        cases hd : (ops[j]?).bind (·.dst) with
        | none => simp [hd] at h
        | some d =>
          simp only [hd] at h
          by_cases hsk : sk.contains j = true
          · rw [if_pos hsk] at h
            split at h
            · rename_i vs hv
              exact skip _ _ h (fun R' C' k' => by simp only [eops, ho, hg, hd]; rw [if_pos hsk]; simp only [hv])
            · simp at h
          · rw [if_neg hsk] at h
            rcases bcase_some h with ⟨hb, h⟩ | ⟨hb, h⟩ <;> cases want <;> simp at h
            · exact skip _ _ h (fun R' C' k' => by simp only [eops, ho, hg, hd]; rw [if_neg hsk]; simp only [hb, bcase]; simp)
            · exact run _ o h (fun R' C' k' => by simp only [eops, ho, hg, hd]; rw [if_neg hsk]; simp only [hb, bcase]; simp)
            · exact run _ o h (fun R' C' k' => by simp only [eops, ho, hg, hd]; rw [if_neg hsk]; simp only [hb, bcase]; simp)
            · exact skip _ _ h (fun R' C' k' => by simp only [eops, ho, hg, hd]; rw [if_neg hsk]; simp only [hb, bcase]; simp)

theorem rounds_le {σ ρ : Type} {step : σ → Option (σ ⊕ ρ)} : ∀ {n m : Nat} {s : σ} {r : ρ}, rounds step n s = some r → n ≤ m → rounds step m s = some r
  | 0, m, s, r, h, _ => by simp [rounds] at h
  | n + 1, 0, s, r, h, hm => by omega
  | n + 1, m + 1, s, r, h, hm => by
    simp only [rounds] at h ⊢
    split at h
    · simp at h
    · exact h
    · exact rounds_le h (by omega)

theorem loopW_all {σ ρ : Type} (step : σ → Option (σ ⊕ ρ)) (n : Nat) (s : σ) (r : ρ) (h : rounds step n s = some r) : loopW step s = some r := by
  unfold loopW
  have hex : ∃ n r, rounds step n s = some r := ⟨n, r, h⟩
  rw [dif_pos hex]
  have := Classical.choose_spec (Classical.choose_spec hex)
  have h1 := rounds_le h (Nat.le_max_left n (Classical.choose hex))
  have h2 := rounds_le this (Nat.le_max_right n (Classical.choose hex))
  rw [h1] at h2
  exact h2.symm

theorem allW_full {R : Type} {n : Nat} {f : Nat → Option R} {r : R} (h0 : 0 < n) (h : ∀ i, i < n → f i = some r) : allW n f = some r := by
  unfold allW
  have hx : 0 < n ∧ ∃ r, ∀ i, i < n → f i = some r := ⟨h0, r, h⟩
  rw [dif_pos hx]
  have h1 := Classical.choose_spec hx.2 0 h0
  rw [h 0 h0] at h1
  exact h1.symm

theorem anyW_full {R : Type} {n0 : Nat} {step : ((List Value × AS) ⊕ (AEx × List Value × AS) → Option R) → List Value × AS → Option R} {s : List Value × AS} {k : AEx × List Value × AS → Option R} {r : R} {n : Nat}
    (h : ∀ m, n ≤ m → roundsK n0 step k m s = some r) : anyW n0 step s k = some r := by
  unfold anyW
  have hx : ∃ r n, ∀ m, n ≤ m → roundsK n0 step k m s = some r := ⟨r, n, h⟩
  rw [dif_pos hx]
  obtain ⟨n', h'⟩ := Classical.choose_spec hx
  have h1 := h (max n n') (Nat.le_max_left _ _)
  have h2 := h' (max n n') (Nat.le_max_right _ _)
  rw [h1] at h2
  exact h2.symm

/-- a run's ends, and the calls on which it hangs -/
def Fac (C : Callee) (k : AEx → List Value → AS → Option R) (r : R) (F : (R' : Type) → Callee → (AEx → List Value → AS → Option R') → R' → Prop) : Prop :=
  ∃ ends : List (AEx × List Value × AS), ends ≠ [] ∧ (∀ x ∈ ends, k x.1 x.2.1 x.2.2 = some r) ∧ ∃ q : List Fact, (∀ x ∈ q, x.of C) ∧
    ∀ (R' : Type) (C' : Callee) (k' : AEx → List Value → AS → Option R') (r' : R'), (∀ x ∈ q, x.of C') → (∀ x ∈ ends, k' x.1 x.2.1 x.2.2 = some r') → F R' C' k' r'

section
variable {C : Callee} {k k1 : AEx → List Value → AS → Option R} {r : R} {F F1 : (R' : Type) → Callee → (AEx → List Value → AS → Option R') → R' → Prop}

theorem Fac.one {e : AEx} {fr : List Value} {st : AS} {q : List Fact} (h : k e fr st = some r) (hq : ∀ x ∈ q, x.of C)
    (hall : ∀ (R' : Type) (C' : Callee) (k' : AEx → List Value → AS → Option R') (r' : R'), (∀ x ∈ q, x.of C') → k' e fr st = some r' → F R' C' k' r') : Fac C k r F :=
  ⟨[(e, fr, st)], by simp, fun x hx => by rw [List.mem_singleton.1 hx]; exact h, q, hq, fun R' C' k' r' hx he => hall R' C' k' r' hx (he _ (List.mem_singleton.2 rfl))⟩

theorem Fac.many {X : Type} {G : X → (R' : Type) → Callee → (AEx → List Value → AS → Option R') → R' → Prop} : ∀ (xs : List X), (∀ x ∈ xs, Fac C k r (G x)) →
    ∃ ends : List (AEx × List Value × AS), (xs ≠ [] → ends ≠ []) ∧ (∀ x ∈ ends, k x.1 x.2.1 x.2.2 = some r) ∧ ∃ q : List Fact, (∀ x ∈ q, x.of C) ∧
      ∀ x ∈ xs, ∀ (R' : Type) (C' : Callee) (k' : AEx → List Value → AS → Option R') (r' : R'), (∀ x ∈ q, x.of C') → (∀ x ∈ ends, k' x.1 x.2.1 x.2.2 = some r') → G x R' C' k' r'
  | [], _ => ⟨[], fun h => absurd rfl h, fun x h => by simp at h, [], fun x h => by simp at h, fun x h => by simp at h⟩
  | x :: xs, h => by
    obtain ⟨e1, h1, h2, q1, h3, h4⟩ := h x (List.mem_cons_self ..)
    obtain ⟨e2, g1, g2, q2, g3, g4⟩ := Fac.many xs (fun y hy => h y (List.mem_cons_of_mem _ hy))
    refine ⟨e1 ++ e2, fun _ hn => h1 (List.append_eq_nil_iff.1 hn).1, fun y hy => (List.mem_append.1 hy).elim (h2 y) (g2 y), q1 ++ q2, fun y hy => (List.mem_append.1 hy).elim (h3 y) (g3 y), fun y hy R' C' k' r' hq he => ?_⟩
    rcases List.mem_cons.1 hy with rfl | hy
    · exact h4 R' C' k' r' (fun y hy => hq y (List.mem_append_left _ hy)) (fun y hy => he y (List.mem_append_left _ hy))
    · exact g4 y hy R' C' k' r' (fun y hy => hq y (List.mem_append_right _ hy)) (fun y hy => he y (List.mem_append_right _ hy))

theorem Fac.all {X : Type} {G : X → (R' : Type) → Callee → (AEx → List Value → AS → Option R') → R' → Prop} {xs : List X} (hne : xs ≠ []) (h : ∀ x ∈ xs, Fac C k r (G x))
    (hF : ∀ (R' : Type) (C' : Callee) (k' : AEx → List Value → AS → Option R') (r' : R'), (∀ x ∈ xs, G x R' C' k' r') → F R' C' k' r') : Fac C k r F := by
  obtain ⟨e, h1, h2, q, h3, h4⟩ := Fac.many xs h
  exact ⟨e, h1 hne, h2, q, h3, fun R' C' k' r' hq he => hF R' C' k' r' (fun x hx => h4 x hx R' C' k' r' hq he)⟩

theorem Fac.bind {G : AEx → List Value → AS → (R' : Type) → Callee → (AEx → List Value → AS → Option R') → Option R'} (h1 : Fac C k1 r F1) (h2 : ∀ e fr st, k1 e fr st = some r → Fac C k r (fun R' C' k' r' => G e fr st R' C' k' = some r'))
    (hF : ∀ (R' : Type) (C' : Callee) (k' : AEx → List Value → AS → Option R') (r' : R'), F1 R' C' (fun e fr st => G e fr st R' C' k') r' → F R' C' k' r') : Fac C k r F := by
  obtain ⟨e1, a1, a2, q1, a3, a4⟩ := h1
  obtain ⟨e2, b1, b2, q2, b3, b4⟩ := Fac.many (G := fun x R' C' k' r' => G x.1 x.2.1 x.2.2 R' C' k' = some r') e1 (fun x hx => h2 _ _ _ (a2 x hx))
  refine ⟨e2, b1 a1, b2, q1 ++ q2, fun y hy => (List.mem_append.1 hy).elim (a3 y) (b3 y), fun R' C' k' r' hq he => hF R' C' k' r' ?_⟩
  exact a4 R' C' _ r' (fun y hy => hq y (List.mem_append_left _ hy)) (fun x hx => b4 x hx R' C' k' r' (fun y hy => hq y (List.mem_append_right _ hy)) he)

theorem Fac.same (h : Fac C k r F) : ∃ q : List Fact, (∀ x ∈ q, x.of C) ∧ ∀ C', (∀ x ∈ q, x.of C') → F R C' k r := by
  obtain ⟨e, _, a2, q, a3, a4⟩ := h
  exact ⟨q, a3, fun C' hq => a4 R C' k r hq a2⟩

theorem Fac.more {q : List Fact} (hq : ∀ x ∈ q, x.of C) (h : Fac C k r F1) (hF : ∀ (R' : Type) (C' : Callee) (k' : AEx → List Value → AS → Option R') (r' : R'), (∀ x ∈ q, x.of C') → F1 R' C' k' r' → F R' C' k' r') : Fac C k r F := by
  obtain ⟨e, a1, a2, q1, a3, a4⟩ := h
  exact ⟨e, a1, a2, q ++ q1, fun y hy => (List.mem_append.1 hy).elim (hq y) (a3 y), fun R' C' k' r' hx he => hF R' C' k' r' (fun y hy => hx y (List.mem_append_left _ hy)) (a4 R' C' k' r' (fun y hy => hx y (List.mem_append_right _ hy)) he)⟩

theorem Fac.imp (h : Fac C k r F1) (hF : ∀ (R' : Type) (C' : Callee) (k' : AEx → List Value → AS → Option R') (r' : R'), F1 R' C' k' r' → F R' C' k' r') : Fac C k r F :=
  Fac.more (q := []) (fun x hx => by simp at hx) h (fun R' C' k' r' _ hx => hF R' C' k' r' hx)
end

theorem ecode_factor {C : Callee} {L : Loops} (hL : LSound L) {n0 : Nat} {T : Tab} {nt : Nat} : ∀ (c : Code) {R : Type} (fr : List Value) (st : AS) (k : AEx → List Value → AS → Option R) (r : R), ecode P T nt n0 C L c fr st k = some r →
    Fac C k r (fun R' C' k' r' => ecode P T nt n0 C' loopG c fr st k' = some r')
  | .skip, R, fr, st, k, r, h => .one (e := .normal) (fr := fr) (st := st) (q := []) (by simpa [ecode] using h) (fun _ h => by simp at h) (fun _ _ _ _ _ he => by simpa [ecode] using he)
  | .label _, R, fr, st, k, r, h => .one (e := .normal) (fr := fr) (st := st) (q := []) (by simpa [ecode] using h) (fun _ h => by simp at h) (fun _ _ _ _ _ he => by simpa [ecode] using he)
  | .exit id, R, fr, st, k, r, h => .one (e := .exit id) (fr := fr) (st := st) (q := []) (by simpa [ecode] using h) (fun _ h => by simp at h) (fun _ _ _ _ _ he => by simpa [ecode] using he)
  | .ret, R, fr, st, k, r, h => .one (e := .ret) (fr := fr) (st := st) (q := []) (by simpa [ecode] using h) (fun _ h => by simp at h) (fun _ _ _ _ _ he => by simpa [ecode] using he)
  | .region id ops draw, R, fr, st, k, r, h => by
    simp only [ecode] at h
    cases draw with
    | true =>
      simp only [if_true] at h
      split at h
      · rename_i hplan0
        split at h
        · simp at h
        · rename_i opsL ord1 l ord2 hplan
          obtain ⟨fr1, st1, h1, q1, hq1, hall1⟩ := eops_factor _ _ _ _ _ _ h
          obtain ⟨fr2, st2, h2, q2, hq2, hall2⟩ := eopsLate_factor _ _ _ _ _ h1
          obtain ⟨fr', st', h3, q3, hq3, hall3⟩ := eops_factor _ _ _ _ _ _ h2
          refine .one (e := .normal) (q := q1 ++ q2 ++ q3) h3 (fun x hx => ?_) (fun R' C' k' r' hx he => ?_)
          · simp only [List.mem_append] at hx
            rcases hx with (hx | hx) | hx
            · exact hq1 x hx
            · exact hq2 x hx
            · exact hq3 x hx
          · simp only [ecode, if_true, hplan0, hplan]
            rw [hall1 R' C' _ (fun x h => hx x (by simp [h])), hall2 R' C' _ (fun x h => hx x (by simp [h])), hall3 R' C' _ (fun x h => hx x (by simp [h]))]
            exact he
      · rename_i ord chk hplan
        obtain ⟨fr', st', h1, q, hq, hall⟩ := eops_factor _ _ _ _ _ _ h
        exact .one (e := .normal) h1 hq (fun R' C' k' r' hx he => by simp only [ecode, if_true, hplan]; rw [hall R' C' _ hx]; exact he)
    | false =>
      simp only [Bool.false_eq_true, if_false] at h
      split at h
      · rename_i hn
        obtain ⟨fr', st', h1, q, hq, hall⟩ := eops_factor _ _ _ _ _ _ h
        exact .one (e := .normal) h1 hq (fun R' C' k' r' hx he => by simp only [ecode, Bool.false_eq_true, if_false, hn]; rw [hall R' C' _ hx]; exact he)
      · rename_i x d hn
        obtain ⟨q, hq, h⟩ := Option.bind_eq_some_iff.1 h
        obtain ⟨h0, hall⟩ := hL.all _ _ _ h
        refine Fac.all (X := Nat) (xs := List.range q.1) (G := fun i R' C' k' r' => eops P C' ops noChk (List.range ops.size).tail [] (setD (keep nt (T.at_ id) fr) d (q.2 i).1) (q.2 i).2 (fun fr st => k' .normal fr st) = some r')
          (by intro hx; have := congrArg List.length hx; simp at this; omega) (fun i hi => ?_) (fun R' C' k' r' hG => ?_)
        · obtain ⟨fr', st', h1, q', hq', hall'⟩ := eops_factor _ _ _ _ _ _ (hall i (List.mem_range.1 hi))
          exact .one (e := .normal) h1 hq' (fun R' C' k' r' hx he => by rw [hall' R' C' _ hx]; exact he)
        · simp only [ecode, Bool.false_eq_true, if_false, hn, hq, Option.bind_some]
          exact allW_full h0 (fun i hi => hG i (List.mem_range.2 hi))
  | .seq x y, R, fr, st, k, r, h => by
    simp only [ecode] at h
    cases hj : (firstRegion y).bind T.jn with
    | none =>
      simp only [hj] at h
      refine Fac.bind (ecode_factor hL x fr st _ r h) (G := fun e fr st R' C' k' => match e with
        | .normal => ecode P T nt n0 C' loopG y fr st k'
        | .exit i => k' (.exit i) fr st
        | .ret => k' .ret fr st) (fun e fr' st' he => ?_) (fun R' C' k' r' hF => ?_)
      · cases e with
        | normal => exact ecode_factor hL y fr' st' k r he
        | exit i => exact .one (q := []) he (fun _ h => by simp at h) (fun _ _ _ _ _ he => he)
        | ret => exact .one (q := []) he (fun _ h => by simp at h) (fun _ _ _ _ _ he => he)
      · simp only [ecode, hj]
        exact hF
    | some l =>
      simp only [hj] at h
      obtain ⟨⟨e0, fr0, st0⟩, h0, h1⟩ := Option.bind_eq_some_iff.1 h
      obtain ⟨q, hq, hall⟩ := (ecode_factor hL x fr st _ _ h0).same
      cases e0 with
      | normal =>
        exact Fac.more hq (ecode_factor hL y _ _ k r h1) (fun R' C' k' r' hx hy => by simp only [ecode, hj, hall C' hx, Option.bind_some]; exact hy)
      | exit i => exact .one h1 hq (fun R' C' k' r' hx hy => by simp only [ecode, hj, hall C' hx, Option.bind_some]; exact hy)
      | ret => exact .one h1 hq (fun R' C' k' r' hx hy => by simp only [ecode, hj, hall C' hx, Option.bind_some]; exact hy)
  | .cond c x y, R, fr, st, k, r, h => by
    simp only [ecode] at h
    rcases bcase_some h with ⟨hb, h⟩ | ⟨hb, h⟩
    · exact (ecode_factor hL x fr st k r h).imp (fun R' C' k' r' hx => by simp only [ecode, hb, bcase]; exact hx)
    · exact (ecode_factor hL y fr st k r h).imp (fun R' C' k' r' hx => by simp only [ecode, hb, bcase]; exact hx)
  | .block id x, R, fr, st, k, r, h => by
    simp only [ecode] at h
    refine Fac.bind (ecode_factor hL x fr st _ r h) (G := fun e fr st R' C' k' => match e with
      | .normal => k' .normal fr st
      | .exit i => if i = id then k' .normal fr st else k' (.exit i) fr st
      | .ret => k' .ret fr st) (fun e fr' st' he => ?_) (fun R' C' k' r' hF => ?_)
    · cases e with
      | normal => exact .one (q := []) he (fun _ h => by simp at h) (fun _ _ _ _ _ he => he)
      | exit i =>
        by_cases hi : i = id
        · simp only [hi, if_true] at he ⊢; exact .one (q := []) he (fun _ h => by simp at h) (fun _ _ _ _ _ he => he)
        · simp only [hi, if_false] at he ⊢; exact .one (q := []) he (fun _ h => by simp at h) (fun _ _ _ _ _ he => he)
      | ret => exact .one (q := []) he (fun _ h => by simp at h) (fun _ _ _ _ _ he => he)
    · simp only [ecode]
      exact hF
  | .loop x, R, fr, st, k, r, h => by
    simp only [ecode] at h
    by_cases hni : nextIn x = true
    · rw [if_pos hni] at h
      obtain ⟨n, hn⟩ := hL.any _ _ _ _ _ h
      clear h
      suffices hs : Fac C k r (fun R' C' k' r' => ∀ m, n ≤ m → roundsK n0 (fun k2 s => ecode P T nt n0 C' loopG x (unpackF nt ((firstRegion x).bind T.at_) s.1) s.2 fun e fr st => (loopEnd ((firstRegion x).bind T.at_) ((firstRegion x).bind T.out) e fr st).bind k2)
          (fun r => k' r.1 (unpackF nt ((firstRegion x).bind T.out) (gc n0 r.2.1 r.2.2).1) (gc n0 r.2.1 r.2.2).2) m (packF ((firstRegion x).bind T.at_) fr, st) = some r') by
        refine hs.imp (fun R' C' k' r' hx => ?_)
        simp only [ecode]
        rw [if_pos hni]
        exact anyW_full hx
      generalize packF ((firstRegion x).bind T.at_) fr = vs at hn ⊢
      revert vs st
      induction n with
      | zero => intro st vs hn; simp [roundsK] at hn
      | succ n ih =>
        intro st vs hn
        simp only [roundsK] at hn
        have hb := ecode_factor hL x _ _ _ r hn
        obtain ⟨e1, a1, a2, q1, a3, a4⟩ := hb
        have hG : ∀ y ∈ e1, Fac C k r (fun R' C' k' r' => ∀ m, n ≤ m → (loopEnd ((firstRegion x).bind T.at_) ((firstRegion x).bind T.out) y.1 y.2.1 y.2.2).bind (fun z => match z with
            | .inl s' => roundsK n0 (fun k2 s => ecode P T nt n0 C' loopG x (unpackF nt ((firstRegion x).bind T.at_) s.1) s.2 fun e fr st => (loopEnd ((firstRegion x).bind T.at_) ((firstRegion x).bind T.out) e fr st).bind k2)
              (fun r => k' r.1 (unpackF nt ((firstRegion x).bind T.out) (gc n0 r.2.1 r.2.2).1) (gc n0 r.2.1 r.2.2).2) m s'
            | .inr r => k' r.1 (unpackF nt ((firstRegion x).bind T.out) (gc n0 r.2.1 r.2.2).1) (gc n0 r.2.1 r.2.2).2) = some r') := by
          intro y hy
          have h2 := a2 y hy
          obtain ⟨e2, fr2, st2⟩ := y
          cases e2 with
          | normal => exact ih _ _ h2
          | exit i => exact .one (q := []) h2 (fun _ h => by simp at h) (fun _ _ _ _ _ he _ _ => he)
          | ret => exact .one (q := []) h2 (fun _ h => by simp at h) (fun _ _ _ _ _ he _ _ => he)
        obtain ⟨e2, b1, b2, q2, b3, b4⟩ := Fac.many e1 hG
        refine ⟨e2, b1 a1, b2, q1 ++ q2, fun y hy => (List.mem_append.1 hy).elim (a3 y) (b3 y), fun R' C' k' r' hq he m hm => ?_⟩
        obtain ⟨m, rfl⟩ : ∃ m', m = m' + 1 := ⟨m - 1, by omega⟩
        simp only [roundsK]
        exact a4 R' C' _ r' (fun y hy => hq y (List.mem_append_left _ hy)) (fun y hy => b4 y hy R' C' k' r' (fun y hy => hq y (List.mem_append_right _ hy)) he m (by omega))
    rw [if_neg hni] at h
    obtain ⟨⟨e, fr', st'⟩, hloop, hk'⟩ := Option.bind_eq_some_iff.1 h
    obtain ⟨n, hn⟩ := hL.run _ _ _ _ hloop
    clear hloop h
    suffices hs : ∃ q : List Fact, (∀ x ∈ q, x.of C) ∧ ∀ (C' : Callee), (∀ x ∈ q, x.of C') → rounds (headed n0 (fun s =>
        ecode P T nt n0 C' loopG x (unpackF nt ((firstRegion x).bind T.at_) s.1) s.2 (loopEnd ((firstRegion x).bind T.at_) ((firstRegion x).bind T.out)))) n (packF ((firstRegion x).bind T.at_) fr, st) = some (e, fr', st') by
      obtain ⟨q, hq, hall⟩ := hs
      refine .one hk' hq (fun R' C' k' r' hx he => ?_)
      simp only [ecode]
      rw [if_neg hni]
      have : loopG.run n0 _ _ = _ := loopW_all _ n _ _ (hall C' hx)
      rw [this]; exact he
    clear hk'
    generalize packF ((firstRegion x).bind T.at_) fr = vs at hn ⊢
    revert vs st
    induction n with
    | zero => intro st vs hn; simp [rounds] at hn
    | succ n ih =>
      intro st vs hn
      simp only [rounds, headed] at hn
      split at hn
      · simp at hn
      · rename_i res hstep
        simp at hn; subst hn
        obtain ⟨q, hq, hall⟩ := (ecode_factor hL x _ _ _ (Sum.inr (e, fr', st')) hstep).same
        refine ⟨q, hq, fun C' hx => ?_⟩
        simp only [rounds, headed]
        rw [hall C' hx]
      · rename_i s' hstep
        obtain ⟨q, hq, hall⟩ := (ecode_factor hL x _ _ _ (Sum.inl s') hstep).same
        obtain ⟨q2, hq2, hall2⟩ := ih _ _ hn
        refine ⟨q ++ q2, fun x hx => (List.mem_append.1 hx).elim (hq x) (hq2 x), fun C' hx => ?_⟩
        simp only [rounds, headed]
        rw [hall C' (fun x h => hx x (List.mem_append_left _ h))]
        exact hall2 C' (fun x h => hx x (List.mem_append_right _ h))
  | .rangeFunc .., R, fr, st, k, r, h => by simp [ecode] at h
  | .scope x, R, fr, st, k, r, h => by
    simp only [ecode] at h
    exact (ecode_factor hL x fr st k r h).imp (fun R' C' k' r' hx => by simp only [ecode]; exact hx)
  | .goto .., R, fr, st, k, r, h => by simp [ecode] at h
  | .refuse .., R, fr, st, k, r, h => by simp [ecode] at h

theorem ebody_factor {T : FuncId → Tab} {C : Callee} {L : Loops} (hL : LSound L) {f : FuncId} {args : List Value} {H : List Blk} {r : Value × List Blk × Option Nat} (h : ebody P T C L f args H = some r) :
    ∃ q : List Fact, (∀ x ∈ q, x.of C) ∧ ∀ (C' : Callee), (∀ x ∈ q, x.of C') → ebody P T C' loopG f args H = some r := by
  unfold ebody at h
  cases hlv : (T f).lives with
  | true => 
    simp only [hlv] at h
    exact ⟨[], fun _ h => by simp at h, fun C' _ => by unfold ebody; simp only [hlv]; exact h⟩
  | false =>
  simp only [hlv] at h
  cases hf : P.funcs[f]? with
  | none => simp [hf] at h
  | some fn =>
    simp only [hf] at h
    cases hb : fn.body with
    | none => simp [hb] at h
    | some c =>
      simp only [hb] at h
      rw [ite_some] at h
      obtain ⟨hle, h⟩ := h
      obtain ⟨q, hq, hall⟩ := (ecode_factor hL c _ _ _ r h).same
      refine ⟨q, hq, fun C' hx => ?_⟩
      unfold ebody
      simp only [hlv, hf, hb]
      rw [if_pos hle, hall C' hx]

variable {T : FuncId → Tab}

theorem callN_succ (n : Nat) : ∀ (f : FuncId) (args : List Value) (H : List Blk) r, callN P T n f args H = some r → callN P T (n + 1) f args H = some r := by
  induction n with
  | zero => intro f args H r h; simp [callN] at h
  | succ n ih =>
    intro f args H r h
    obtain ⟨q, hq, hall⟩ := ebody_factor loopW_sound h
    exact hall _ (fun x hx => ih _ _ _ _ (hq x hx))

theorem callN_le {n m : Nat} (hm : n ≤ m) {f : FuncId} {args : List Value} {H : List Blk} {r} (h : callN P T n f args H = some r) : callN P T m f args H = some r := by
  induction m with
  | zero => have : n = 0 := by omega
            subst this; exact h
  | succ m ih =>
    by_cases he : n = m + 1
    · subst he; exact h
    · exact callN_succ m _ _ _ _ (ih (by omega))

theorem acall_of {n : Nat} {f : FuncId} {args : List Value} {H : List Blk} {r} (h : callN P T n f args H = some r) : acall P T f args H = some r := by
  unfold acall
  have hex : ∃ n r, callN P T n f args H = some r := ⟨n, r, h⟩
  rw [dif_pos hex]
  have := Classical.choose_spec (Classical.choose_spec hex)
  have h1 := callN_le (Nat.le_max_left n (Classical.choose hex)) h
  have h2 := callN_le (Nat.le_max_right n (Classical.choose hex)) this
  rw [h1] at h2
  exact h2.symm

theorem facts_bound : ∀ (q : List Fact), (∀ x ∈ q, x.of (acall P T)) → ∃ n, ∀ x ∈ q, x.of (callN P T n)
  | [], _ => ⟨0, fun x h => by simp at h⟩
  | y :: q, h => by
    obtain ⟨n, hn⟩ := facts_bound q (fun x hx => h x (List.mem_cons_of_mem _ hx))
    obtain ⟨m, hm⟩ := acall_spec (h y (List.mem_cons_self ..))
    refine ⟨max n m, fun x hx => ?_⟩
    rcases List.mem_cons.1 hx with rfl | hx
    · exact callN_le (Nat.le_max_right n m) hm
    · exact callN_le (Nat.le_max_left n m) (hn x hx)

/-- A CALL IS ITS BODY. -/
theorem acall_eq (f : FuncId) (args : List Value) (H : List Blk) : acall P T f args H = ebody P T (acall P T) loopG f args H := by
  cases h : ebody P T (acall P T) loopG f args H with
  | some r =>
    obtain ⟨q, hq, hall⟩ := ebody_factor loopW_sound h
    obtain ⟨n, hn⟩ := facts_bound q hq
    exact acall_of (n := n + 1) (hall _ hn)
  | none =>
    cases h2 : acall P T f args H with
    | none => rfl
    | some r =>
      exfalso
      obtain ⟨n, hn⟩ := acall_spec h2
      cases n with
      | zero => simp [callN] at hn
      | succ n =>
        obtain ⟨q, hq, hall⟩ := ebody_factor loopW_sound hn
        have := hall (acall P T) (fun x hx => acall_of (hq x hx))
        rw [h] at this; simp at this

/-- what the kernel reckons holds -/
theorem acall_of_callF : ∀ (n : Nat) {f : FuncId} {args : List Value} {H : List Blk} {r}, callF P T n f args H = some r → acall P T f args H = some r
  | 0, f, args, H, r, h => by simp [callF] at h
  | n + 1, f, args, H, r, h => by
    rw [acall_eq]
    obtain ⟨q, hq, hall⟩ := ebody_factor (rounds_sound _) h
    exact hall _ (fun x hx => acall_of_callF n (hq x hx))

end
end Go.Am
