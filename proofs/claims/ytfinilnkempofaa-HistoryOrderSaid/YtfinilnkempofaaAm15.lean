/- The machine's calls, unfolded. -/
import Derived.Test.YtfinilnkempofaaAm14
set_option linter.all false
set_option linter.unusedVariables false
set_option linter.unusedSimpArgs false
set_option linter.unnecessarySimpa false
namespace Go.Am

section
variable {P : Program} {R : Type}

theorem eopsLate_factor {C : Callee} {ops : Array Oper} : ∀ (l : List Nat) (fr : List Value) (st : AS) (k : List Value → AS → Option R) (r : R), eopsLate P C ops l fr st k = some r →
    ∃ fr' st', k fr' st' = some r ∧ ∃ q : List Fact, (∀ x ∈ q, x.of C) ∧ ∀ (R' : Type) (C' : Callee) (k' : List Value → AS → Option R'), (∀ x ∈ q, x.of C') → eopsLate P C' ops l fr st k' = k' fr' st'
  | [], fr, st, k, r, h => ⟨fr, st, h, [], fun _ h => by simp at h, fun _ _ _ _ => rfl⟩
  | i :: is, fr, st, k, r, h => by
    simp only [eopsLate] at h
    cases ho : ops[i]? with
    | none => simp [ho] at h
    | some o =>
      simp only [ho] at h
      rw [ite_some] at h
      obtain ⟨v, s, hv, q, hq, hall⟩ := eop_factor h.2
      obtain ⟨fr', st', hk, q', hq', hall'⟩ := eopsLate_factor is _ s k r hv
      refine ⟨fr', st', hk, q ++ q', fun x hx => (List.mem_append.1 hx).elim (hq x) (hq' x), fun R' C' k' hx => ?_⟩
      simp only [eopsLate, ho]
      rw [if_pos h.1, hall R' C' _ (fun x h => hx x (List.mem_append_left _ h)), hall' R' C' k' (fun x h => hx x (List.mem_append_right _ h))]

theorem eops_factor {C : Callee} {ops : Array Oper} {chk : Nat → List Value → AS → Bool} : ∀ (is sk : List Nat) (fr : List Value) (st : AS) (k : List Value → AS → Option R) (r : R), eops P C ops chk is sk fr st k = some r →
    ∃ fr' st', k fr' st' = some r ∧ ∃ q : List Fact, (∀ x ∈ q, x.of C) ∧ ∀ (R' : Type) (C' : Callee) (k' : List Value → AS → Option R'), (∀ x ∈ q, x.of C') → eops P C' ops chk is sk fr st k' = k' fr' st'
  | [], sk, fr, st, k, r, h => ⟨fr, st, by simpa [eops] using h, [], fun _ h => by simp at h, fun _ _ _ _ => by simp [eops]⟩
  | i :: is, sk, fr, st, k, r, h => by
    simp only [eops] at h
    have run : ∀ (fr1 : List Value) (o : Oper), eop P C fr1 st o (fun v s => if chk i (setD fr1 o.dst v) s = true then eops P C ops chk is sk (setD fr1 o.dst v) s k else none) = some r →
        (∀ (R' : Type) (C' : Callee) (k' : List Value → AS → Option R'), eops P C' ops chk (i :: is) sk fr st k' = eop P C' fr1 st o (fun v s => if chk i (setD fr1 o.dst v) s = true then eops P C' ops chk is sk (setD fr1 o.dst v) s k' else none)) →
        ∃ fr' st', k fr' st' = some r ∧ ∃ q : List Fact, (∀ x ∈ q, x.of C) ∧ ∀ (R' : Type) (C' : Callee) (k' : List Value → AS → Option R'), (∀ x ∈ q, x.of C') → eops P C' ops chk (i :: is) sk fr st k' = k' fr' st' := by
      intro fr1 o h1 he
      obtain ⟨v, s, hv, q, hq, hall⟩ := eop_factor h1
      rw [ite_some] at hv
      obtain ⟨hchk, hv⟩ := hv
      obtain ⟨fr', st', hk, q', hq', hall'⟩ := eops_factor is sk _ s k r hv
      refine ⟨fr', st', hk, q ++ q', fun x hx => (List.mem_append.1 hx).elim (hq x) (hq' x), fun R' C' k' hx => ?_⟩
      rw [he, hall R' C' _ (fun x h => hx x (List.mem_append_left _ h)), if_pos hchk, hall' R' C' k' (fun x h => hx x (List.mem_append_right _ h))]
    have skip : ∀ (fr1 : List Value) (sk1 : List Nat), eops P C ops chk is sk1 fr1 st k = some r → (∀ (R' : Type) (C' : Callee) (k' : List Value → AS → Option R'), eops P C' ops chk (i :: is) sk fr st k' = eops P C' ops chk is sk1 fr1 st k') →
        ∃ fr' st', k fr' st' = some r ∧ ∃ q : List Fact, (∀ x ∈ q, x.of C) ∧ ∀ (R' : Type) (C' : Callee) (k' : List Value → AS → Option R'), (∀ x ∈ q, x.of C') → eops P C' ops chk (i :: is) sk fr st k' = k' fr' st' := by
      intro fr1 sk1 h1 he
      obtain ⟨fr', st', hk, q', hq', hall'⟩ := eops_factor is sk1 fr1 st k r h1
      exact ⟨fr', st', hk, q', hq', fun R' C' k' hx => by rw [he, hall' R' C' k' hx]⟩
    cases ho : ops[i]? with
    | none => simp [ho] at h
    | some o =>
      simp only [ho] at h
      cases hg : o.guard with
      | none => simp only [hg] at h; exact run fr o h (fun R' C' k' => by simp only [eops, ho, hg])
      | some g =>
        obtain ⟨j, want⟩ := g
        simp only [hg] at h
        cases hd : (ops[j]?).bind (·.dst) with
        | none => simp [hd] at h
        | some d =>
          simp only [hd] at h
          by_cases hsk : sk.contains j = true
          · rw [if_pos hsk] at h
            split at h
            · rename_i vs hv
              exact skip _ _ h (fun R' C' k' => by simp only [eops, ho, hg, hd]; rw [if_pos hsk]; simp only [hv])
            · simp at h
          · rw [if_neg hsk] at h
            rcases bcase_some h with ⟨hb, h⟩ | ⟨hb, h⟩ <;> cases want <;> simp at h
            · exact skip _ _ h (fun R' C' k' => by simp only [eops, ho, hg, hd]; rw [if_neg hsk]; simp only [hb, bcase]; simp)
            · exact run _ o h (fun R' C' k' => by simp only [eops, ho, hg, hd]; rw [if_neg hsk]; simp only [hb, bcase]; simp)
            · exact run _ o h (fun R' C' k' => by simp only [eops, ho, hg, hd]; rw [if_neg hsk]; simp only [hb, bcase]; simp)
            · exact skip _ _ h (fun R' C' k' => by simp only [eops, ho, hg, hd]; rw [if_neg hsk]; simp only [hb, bcase]; simp)

/-- a way to do rounds that serves any number -/
def LFull (L : Loops) : Prop := ∀ n0 step n s r, rounds (headed n0 step) n s = some r → L n0 step s = some r

theorem rounds_le {σ ρ : Type} {step : σ → Option (σ ⊕ ρ)} : ∀ {n m : Nat} {s : σ} {r : ρ}, rounds step n s = some r → n ≤ m → rounds step m s = some r
  | 0, m, s, r, h, _ => by simp [rounds] at h
  | n + 1, 0, s, r, h, hm => by omega
  | n + 1, m + 1, s, r, h, hm => by
    simp only [rounds] at h ⊢
    split at h
    · simp at h
    · exact h
    · exact rounds_le h (by omega)

theorem loopW_all {σ ρ : Type} (step : σ → Option (σ ⊕ ρ)) (n : Nat) (s : σ) (r : ρ) (h : rounds step n s = some r) : loopW step s = some r := by
  unfold loopW
  have hex : ∃ n r, rounds step n s = some r := ⟨n, r, h⟩
  rw [dif_pos hex]
  have := Classical.choose_spec (Classical.choose_spec hex)
  have h1 := rounds_le h (Nat.le_max_left n (Classical.choose hex))
  have h2 := rounds_le this (Nat.le_max_right n (Classical.choose hex))
  rw [h1] at h2
  exact h2.symm

theorem loopW_full : LFull loopG := fun _ _ _ _ _ h => loopW_all _ _ _ _ h

theorem ecode_factor {C : Callee} {L : Loops} (hL : LSound L) {n0 : Nat} {T : Tab} {nt : Nat} : ∀ (c : Code) {R : Type} (fr : List Value) (st : AS) (k : AEx → List Value → AS → Option R) (r : R), ecode P T nt n0 C L c fr st k = some r →
    ∃ e fr' st', k e fr' st' = some r ∧ ∃ q : List Fact, (∀ x ∈ q, x.of C) ∧ ∀ (R' : Type) (C' : Callee) (L' : Loops) (k' : AEx → List Value → AS → Option R'), LFull L' → (∀ x ∈ q, x.of C') → ecode P T nt n0 C' L' c fr st k' = k' e fr' st'
  | .skip, R, fr, st, k, r, h => ⟨.normal, fr, st, by simpa [ecode] using h, [], fun _ h => by simp at h, fun _ _ _ _ _ _ => by simp [ecode]⟩
  | .label _, R, fr, st, k, r, h => ⟨.normal, fr, st, by simpa [ecode] using h, [], fun _ h => by simp at h, fun _ _ _ _ _ _ => by simp [ecode]⟩
  | .exit id, R, fr, st, k, r, h => ⟨.exit id, fr, st, by simpa [ecode] using h, [], fun _ h => by simp at h, fun _ _ _ _ _ _ => by simp [ecode]⟩
  | .ret, R, fr, st, k, r, h => ⟨.ret, fr, st, by simpa [ecode] using h, [], fun _ h => by simp at h, fun _ _ _ _ _ _ => by simp [ecode]⟩
  | .region id ops draw, R, fr, st, k, r, h => by
    simp only [ecode] at h
    cases draw with
    | true =>
      simp only [if_true] at h
      split at h
      · rename_i hplan0
        split at h
        · simp at h
        · rename_i opsL ord1 l ord2 hplan
          obtain ⟨fr1, st1, h1, q1, hq1, hall1⟩ := eops_factor _ _ _ _ _ _ h
          obtain ⟨fr2, st2, h2, q2, hq2, hall2⟩ := eopsLate_factor _ _ _ _ _ h1
          obtain ⟨fr', st', h3, q3, hq3, hall3⟩ := eops_factor _ _ _ _ _ _ h2
          refine ⟨.normal, fr', st', h3, q1 ++ q2 ++ q3, fun x hx => ?_, fun R' C' L' k' _ hx => ?_⟩
          · simp only [List.mem_append] at hx
            rcases hx with (hx | hx) | hx
            · exact hq1 x hx
            · exact hq2 x hx
            · exact hq3 x hx
          · simp only [ecode, if_true, hplan0, hplan]
            rw [hall1 R' C' _ (fun x h => hx x (by simp [h])), hall2 R' C' _ (fun x h => hx x (by simp [h])), hall3 R' C' _ (fun x h => hx x (by simp [h]))]
      · rename_i ord chk hplan
        obtain ⟨fr', st', h1, q, hq, hall⟩ := eops_factor _ _ _ _ _ _ h
        exact ⟨.normal, fr', st', h1, q, hq, fun R' C' L' k' _ hx => by simp only [ecode, if_true, hplan]; exact hall R' C' _ hx⟩
    | false =>
      simp only [Bool.false_eq_true, if_false] at h
      obtain ⟨fr', st', h1, q, hq, hall⟩ := eops_factor _ _ _ _ _ _ h
      exact ⟨.normal, fr', st', h1, q, hq, fun R' C' L' k' _ hx => by simp only [ecode, Bool.false_eq_true, if_false]; exact hall R' C' _ hx⟩
  | .seq x y, R, fr, st, k, r, h => by
    simp only [ecode] at h
    cases hj : (firstRegion y).bind T.jn with
    | none =>
      simp only [hj] at h
      obtain ⟨e, fr', st', h1, q, hq, hall⟩ := ecode_factor hL x fr st _ r h
      cases e with
      | normal =>
        obtain ⟨e2, fr2, st2, h2, q2, hq2, hall2⟩ := ecode_factor hL y fr' st' k r h1
        refine ⟨e2, fr2, st2, h2, q ++ q2, fun x hx => (List.mem_append.1 hx).elim (hq x) (hq2 x), fun R' C' L' k' hL' hx => ?_⟩
        simp only [ecode, hj]
        rw [hall R' C' L' _ hL' (fun x h => hx x (List.mem_append_left _ h))]
        exact hall2 R' C' L' k' hL' (fun x h => hx x (List.mem_append_right _ h))
      | exit i => exact ⟨.exit i, fr', st', h1, q, hq, fun R' C' L' k' hL' hx => by simp only [ecode, hj]; rw [hall R' C' L' _ hL' hx]⟩
      | ret => exact ⟨.ret, fr', st', h1, q, hq, fun R' C' L' k' hL' hx => by simp only [ecode, hj]; rw [hall R' C' L' _ hL' hx]⟩
    | some l =>
      simp only [hj] at h
      obtain ⟨⟨e0, fr0, st0⟩, h0, h1⟩ := Option.bind_eq_some_iff.1 h
      obtain ⟨e, fr', st', h2, q, hq, hall⟩ := ecode_factor hL x fr st _ _ h0
      simp only [Option.some.injEq, Prod.mk.injEq] at h2
      obtain ⟨rfl, rfl, rfl⟩ := h2
      cases e with
      | normal =>
        obtain ⟨e2, fr2, st2, h3, q2, hq2, hall2⟩ := ecode_factor hL y _ _ k r h1
        refine ⟨e2, fr2, st2, h3, q ++ q2, fun x hx => (List.mem_append.1 hx).elim (hq x) (hq2 x), fun R' C' L' k' hL' hx => ?_⟩
        simp only [ecode, hj]
        rw [hall _ C' L' _ hL' (fun x h => hx x (List.mem_append_left _ h))]
        exact hall2 R' C' L' k' hL' (fun x h => hx x (List.mem_append_right _ h))
      | exit i => exact ⟨.exit i, _, _, h1, q, hq, fun R' C' L' k' hL' hx => by simp only [ecode, hj]; rw [hall _ C' L' _ hL' hx]; rfl⟩
      | ret => exact ⟨.ret, _, _, h1, q, hq, fun R' C' L' k' hL' hx => by simp only [ecode, hj]; rw [hall _ C' L' _ hL' hx]; rfl⟩
  | .cond c x y, R, fr, st, k, r, h => by
    simp only [ecode] at h
    rcases bcase_some h with ⟨hb, h⟩ | ⟨hb, h⟩
    · obtain ⟨e, fr', st', h1, q, hq, hall⟩ := ecode_factor hL x fr st k r h
      exact ⟨e, fr', st', h1, q, hq, fun R' C' L' k' hL' hx => by simp only [ecode, hb, bcase]; exact hall R' C' L' k' hL' hx⟩
    · obtain ⟨e, fr', st', h1, q, hq, hall⟩ := ecode_factor hL y fr st k r h
      exact ⟨e, fr', st', h1, q, hq, fun R' C' L' k' hL' hx => by simp only [ecode, hb, bcase]; exact hall R' C' L' k' hL' hx⟩
  | .block id x, R, fr, st, k, r, h => by
    simp only [ecode] at h
    obtain ⟨e, fr', st', h1, q, hq, hall⟩ := ecode_factor hL x fr st _ r h
    cases e with
    | normal => exact ⟨.normal, fr', st', h1, q, hq, fun R' C' L' k' hL' hx => by simp only [ecode]; rw [hall R' C' L' _ hL' hx]⟩
    | exit i =>
      by_cases hi : i = id
      · simp only [hi, if_true] at h1
        exact ⟨.normal, fr', st', h1, q, hq, fun R' C' L' k' hL' hx => by simp only [ecode]; rw [hall R' C' L' _ hL' hx]; simp only [hi, if_true]⟩
      · simp only [hi, if_false] at h1
        exact ⟨.exit i, fr', st', h1, q, hq, fun R' C' L' k' hL' hx => by simp only [ecode]; rw [hall R' C' L' _ hL' hx]; simp only [hi, if_false]⟩
    | ret => exact ⟨.ret, fr', st', h1, q, hq, fun R' C' L' k' hL' hx => by simp only [ecode]; rw [hall R' C' L' _ hL' hx]⟩
  | .loop x, R, fr, st, k, r, h => by
    simp only [ecode] at h
    obtain ⟨⟨e, fr', st'⟩, hloop, hk'⟩ := Option.bind_eq_some_iff.1 h
    obtain ⟨n, hn⟩ := hL _ _ _ _ hloop
    clear hloop h
    suffices hs : ∃ q : List Fact, (∀ x ∈ q, x.of C) ∧ ∀ (C' : Callee) (L' : Loops), LFull L' → (∀ x ∈ q, x.of C') → rounds (headed n0 (fun s =>
        ecode P T nt n0 C' L' x (unpackF nt ((firstRegion x).bind T.at_) s.1) s.2 (loopEnd ((firstRegion x).bind T.at_) ((firstRegion x).bind T.out)))) n (packF ((firstRegion x).bind T.at_) fr, st) = some (e, fr', st') by
      obtain ⟨q, hq, hall⟩ := hs
      refine ⟨e, _, st', hk', q, hq, fun R' C' L' k' hL' hx => ?_⟩
      simp only [ecode]
      rw [hL' _ _ n _ _ (hall C' L' hL' hx)]; rfl
    clear hk'
    generalize packF ((firstRegion x).bind T.at_) fr = vs at hn ⊢
    revert vs st
    induction n with
    | zero => intro st vs hn; simp [rounds] at hn
    | succ n ih =>
      intro st vs hn
      simp only [rounds, headed] at hn
      split at hn
      · simp at hn
      · rename_i res hstep
        simp at hn; subst hn
        obtain ⟨e2, fr2, st2, h1, q, hq, hall⟩ := ecode_factor hL x _ _ _ (Sum.inr (e, fr', st')) hstep
        refine ⟨q, hq, fun C' L' hL' hx => ?_⟩
        simp only [rounds, headed]
        rw [hall _ C' L' _ hL' hx]
        cases e2 with
        | normal => simp [loopEnd] at h1
        | exit i => simp [loopEnd] at h1; obtain ⟨rfl, rfl, rfl⟩ := h1; rfl
        | ret => simp [loopEnd] at h1; obtain ⟨rfl, rfl, rfl⟩ := h1; rfl
      · rename_i s' hstep
        obtain ⟨e2, fr2, st2, h1, q, hq, hall⟩ := ecode_factor hL x _ _ _ (Sum.inl s') hstep
        cases e2 with
        | normal =>
          simp [loopEnd] at h1; subst h1
          obtain ⟨q2, hq2, hall2⟩ := ih _ _ hn
          refine ⟨q ++ q2, fun x hx => (List.mem_append.1 hx).elim (hq x) (hq2 x), fun C' L' hL' hx => ?_⟩
          simp only [rounds, headed]
          rw [hall _ C' L' _ hL' (fun x h => hx x (List.mem_append_left _ h))]
          exact hall2 C' L' hL' (fun x h => hx x (List.mem_append_right _ h))
        | exit i => simp [loopEnd] at h1
        | ret => simp [loopEnd] at h1
  | .rangeFunc .., R, fr, st, k, r, h => by simp [ecode] at h
  | .scope x, R, fr, st, k, r, h => by
    simp only [ecode] at h
    obtain ⟨e, fr', st', h1, q, hq, hall⟩ := ecode_factor hL x fr st k r h
    exact ⟨e, fr', st', h1, q, hq, fun R' C' L' k' hL' hx => by simp only [ecode]; exact hall R' C' L' k' hL' hx⟩
  | .goto .., R, fr, st, k, r, h => by simp [ecode] at h
  | .refuse .., R, fr, st, k, r, h => by simp [ecode] at h

theorem ebody_factor {T : FuncId → Tab} {C : Callee} {L : Loops} (hL : LSound L) {f : FuncId} {args : List Value} {H : List Blk} {r : Value × List Blk × Option Nat} (h : ebody P T C L f args H = some r) :
    ∃ q : List Fact, (∀ x ∈ q, x.of C) ∧ ∀ (C' : Callee) (L' : Loops), LFull L' → (∀ x ∈ q, x.of C') → ebody P T C' L' f args H = some r := by
  unfold ebody at h
  cases hlv : (T f).lives with
  | true => 
    simp only [hlv] at h
    exact ⟨[], fun _ h => by simp at h, fun C' L' _ _ => by unfold ebody; simp only [hlv]; exact h⟩
  | false =>
  simp only [hlv] at h
  cases hf : P.funcs[f]? with
  | none => simp [hf] at h
  | some fn =>
    simp only [hf] at h
    cases hb : fn.body with
    | none => simp [hb] at h
    | some c =>
      simp only [hb] at h
      rw [ite_some] at h
      obtain ⟨hle, h⟩ := h
      obtain ⟨e, fr', st', h1, q, hq, hall⟩ := ecode_factor hL c _ _ _ r h
      refine ⟨q, hq, fun C' L' hL' hx => ?_⟩
      unfold ebody
      simp only [hlv, hf, hb]
      rw [if_pos hle, hall _ C' L' _ hL' hx]
      exact h1

variable {T : FuncId → Tab}

theorem callN_succ (n : Nat) : ∀ (f : FuncId) (args : List Value) (H : List Blk) r, callN P T n f args H = some r → callN P T (n + 1) f args H = some r := by
  induction n with
  | zero => intro f args H r h; simp [callN] at h
  | succ n ih =>
    intro f args H r h
    obtain ⟨q, hq, hall⟩ := ebody_factor loopW_sound h
    exact hall _ _ loopW_full (fun x hx => ih _ _ _ _ (hq x hx))

theorem callN_le {n m : Nat} (hm : n ≤ m) {f : FuncId} {args : List Value} {H : List Blk} {r} (h : callN P T n f args H = some r) : callN P T m f args H = some r := by
  induction m with
  | zero => have : n = 0 := by omega
            subst this; exact h
  | succ m ih =>
    by_cases he : n = m + 1
    · subst he; exact h
    · exact callN_succ m _ _ _ _ (ih (by omega))

theorem acall_of {n : Nat} {f : FuncId} {args : List Value} {H : List Blk} {r} (h : callN P T n f args H = some r) : acall P T f args H = some r := by
  unfold acall
  have hex : ∃ n r, callN P T n f args H = some r := ⟨n, r, h⟩
  rw [dif_pos hex]
  have := Classical.choose_spec (Classical.choose_spec hex)
  have h1 := callN_le (Nat.le_max_left n (Classical.choose hex)) h
  have h2 := callN_le (Nat.le_max_right n (Classical.choose hex)) this
  rw [h1] at h2
  exact h2.symm

theorem facts_bound : ∀ (q : List Fact), (∀ x ∈ q, x.of (acall P T)) → ∃ n, ∀ x ∈ q, x.of (callN P T n)
  | [], _ => ⟨0, fun x h => by simp at h⟩
  | y :: q, h => by
    obtain ⟨n, hn⟩ := facts_bound q (fun x hx => h x (List.mem_cons_of_mem _ hx))
    obtain ⟨m, hm⟩ := acall_spec (h y (List.mem_cons_self ..))
    refine ⟨max n m, fun x hx => ?_⟩
    rcases List.mem_cons.1 hx with rfl | hx
    · exact callN_le (Nat.le_max_right n m) hm
    · exact callN_le (Nat.le_max_left n m) (hn x hx)

/-- A CALL IS ITS BODY. -/
theorem acall_eq (f : FuncId) (args : List Value) (H : List Blk) : acall P T f args H = ebody P T (acall P T) loopG f args H := by
  cases h : ebody P T (acall P T) loopG f args H with
  | some r =>
    obtain ⟨q, hq, hall⟩ := ebody_factor loopW_sound h
    obtain ⟨n, hn⟩ := facts_bound q hq
    exact acall_of (n := n + 1) (hall _ _ loopW_full hn)
  | none =>
    cases h2 : acall P T f args H with
    | none => rfl
    | some r =>
      exfalso
      obtain ⟨n, hn⟩ := acall_spec h2
      cases n with
      | zero => simp [callN] at hn
      | succ n =>
        obtain ⟨q, hq, hall⟩ := ebody_factor loopW_sound hn
        have := hall (acall P T) loopG loopW_full (fun x hx => acall_of (hq x hx))
        rw [h] at this; simp at this

/-- what the kernel reckons holds -/
theorem acall_of_callF : ∀ (n : Nat) {f : FuncId} {args : List Value} {H : List Blk} {r}, callF P T n f args H = some r → acall P T f args H = some r
  | 0, f, args, H, r, h => by simp [callF] at h
  | n + 1, f, args, H, r, h => by
    rw [acall_eq]
    obtain ⟨q, hq, hall⟩ := ebody_factor (rounds_sound _) h
    exact hall _ _ loopW_full (fun x hx => acall_of_callF n (hq x hx))

end
end Go.Am
