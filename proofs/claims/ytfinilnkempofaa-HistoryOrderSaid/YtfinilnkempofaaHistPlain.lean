/- The pairs say what the document says. -/
import Derived.Test.YtfinilnkempofaaHistConv2
set_option linter.all false
set_option linter.unusedVariables false
set_option linter.unusedSimpArgs false
set_option linter.unnecessarySimpa false
namespace Go.Proofs.Ytfinilnkempofaa
open Go Go.Am

def askP (w t : Int) (x : Ev) : Bool := decide (x.kind = 0) && decide (x.who = w) && decide (x.ticket = t)
def askO (l : List Ev) (n : Nat) (w t : Int) : Option Nat := (l.take n).findIdx? (askP w t)

theorem askO_succ {l : List Ev} {n : Nat} {x : Ev} (hx : l[n]? = some x) (w t : Int) : askO l (n + 1) w t = match askO l n w t with | some i => some i | none => if askP w t x = true then some n else none := by
  unfold askO
  rw [take_snoc hx, List.findIdx?_append]
  have hlen : (l.take n).length = n := by have := lt_of_get hx; simp; omega
  cases (l.take n).findIdx? (askP w t) with
  | some i => rfl
  | none =>
    cases hp : askP w t x with
    | true => simp [List.findIdx?_cons, hp, hlen]
    | false => simp [List.findIdx?_cons, hp]

theorem askedI_eq {l : List Ev} {n : Nat} {y : Ev} (hy : l[n]? = some y) : askedI l n = match askO l n y.who y.ticket with | some i => (i : Int) | none => -1 := by
  unfold askedI
  rw [hy]
  rfl

theorem askO_lt {l : List Ev} {n : Nat} {w t : Int} {i : Nat} (h : askO l n w t = some i) : i < n := by
  unfold askO at h
  have := (List.findIdx?_eq_some_iff_findIdx_eq.1 h).1
  simp at this
  omega

theorem lookA_snoc (A : List ((Int × Int) × Nat)) (w t : Int) (n : Nat) (w' t' : Int) : lookA (A ++ [((w, t), n)]) w' t' = match lookA A w' t' with | some i => some i | none => if (w, t) = (w', t') then some n else none := by
  unfold lookA
  rw [List.find?_append]
  cases hf : A.find? fun p => decide (p.1 = (w', t')) with
  | some p => simp
  | none =>
    by_cases h : (w, t) = (w', t') <;> simp [h]

theorem lookE_snoc (E : List (Nat × Nat)) (m n i : Nat) : lookE (E ++ [(m, n)]) i = match lookE E i with | some k => some k | none => if m = i then some n else none := by
  unfold lookE
  rw [List.find?_append]
  cases hf : E.find? fun p => decide (p.1 = i) with
  | some p => simp
  | none =>
    by_cases h : m = i <;> simp [h]

/-- what the pairs know, so far -/
structure Knows (l : List Ev) (n : Nat) (s : PS) : Prop where
  a : ∀ w t, lookA s.A w t = askO l n w t
  e : ∀ i, (∀ k, lookE s.E i = some k → k < n ∧ endsB l i k = true ∧ ∀ j, j < k → endsB l i j = false) ∧ (lookE s.E i = none → ∀ j, j < n → endsB l i j = false)
  o : s.odd = anyN (oddB l) n

theorem endedI_first {l : List Ev} {i k : Nat} (hk : k < l.length) (h1 : endsB l i k = true) (h2 : ∀ j, j < k → endsB l i j = false) : endedI l i = (k : Int) := by
  have hik : i < k := by
    unfold endsB at h1
    split at h1
    · rename_i x hx
      simp only [Bool.and_eq_true, decide_eq_true_eq] at h1
      have h3 := h1.2
      rw [askedI_eq hx] at h3
      split at h3
      · rename_i j hj
        have := askO_lt hj
        omega
      · omega
    · simp at h1
  exact firstN_hit _ _ _ (fun j _ hj => h2 j hj) h1 (by omega) (by omega)

theorem endedI_none {l : List Ev} {i : Nat} (h : ∀ j, j < l.length → endsB l i j = false) : endedI l i = -1 :=
  firstN_none _ _ (fun j h1 h2 => by
    by_cases hj : j < l.length
    · exact h j hj
    · unfold endsB
      rw [List.getElem?_eq_none (by omega)])

theorem knows {l : List Ev} : ∀ n, n ≤ l.length → Knows l n (pairS l n)
  | 0, _ => ⟨fun w t => rfl, fun i => ⟨fun k h => by simp [pairS, lookE] at h, fun _ j hj => by omega⟩, rfl⟩
  | n + 1, hn => by
    have ih := knows (l := l) n (by omega)
    obtain ⟨x, hx⟩ : ∃ x, l[n]? = some x := ⟨_, List.getElem?_eq_getElem (by omega)⟩
    have hs : pairS l (n + 1) = pstep (pairS l n) n x := by simp [pairS, hx]
    rw [hs]
    generalize pairS l n = s at ih
    have hak : askedI l n = match lookA s.A x.who x.ticket with | some i => (i : Int) | none => -1 := by rw [askedI_eq hx, ih.a]
    have hob : oddB l n = (if x.kind = 0 then decide (0 ≤ askedI l n) else if x.kind = 1 then decide (askedI l n < 0) || !decide (endedI l (askedI l n).toNat = (n : Int)) else false) := by simp [oddB, hx]
    have hany : anyN (oddB l) (n + 1) = (anyN (oddB l) n || oddB l n) := rfl
    -- what ends with this event
    have hen : ∀ i, endsB l i n = (decide (x.kind = 1) && decide (askedI l n = (i : Int))) := fun i => by simp [endsB, hx]
    have keepE : (∀ i, endsB l i n = false) → ∀ i, (∀ k, lookE s.E i = some k → k < n + 1 ∧ endsB l i k = true ∧ ∀ j, j < k → endsB l i j = false) ∧ (lookE s.E i = none → ∀ j, j < n + 1 → endsB l i j = false) := fun hno i => by
      refine ⟨fun k hk => ?_, fun h j hj => ?_⟩
      · have := (ih.e i).1 k hk
        exact ⟨by omega, this.2⟩
      · by_cases hjn : j = n
        · subst hjn; exact hno i
        · exact (ih.e i).2 h j (by omega)
    have keepA : x.kind ≠ 0 → ∀ w t, lookA s.A w t = askO l (n + 1) w t := fun hk w t => by
      rw [ih.a, askO_succ hx]
      have : askP w t x = false := by simp [askP, hk]
      rw [this]
      cases askO l n w t <;> rfl
    by_cases k0 : x.kind = 0
    · have hno : ∀ i, endsB l i n = false := fun i => by rw [hen]; simp [k0]
      cases hf : lookA s.A x.who x.ticket with
      | some m =>
        have hp : pstep s n x = ⟨s.A, s.E, true⟩ := by simp [pstep, k0, hf]
        rw [hp]
        rw [hf] at hak
        refine ⟨fun w t => ?_, keepE hno, ?_⟩
        · simp only
          rw [ih.a, askO_succ hx]
          cases hq : askO l n w t with
          | some i => rfl
          | none =>
            have : askP w t x = false := by
              cases hh : askP w t x with
              | false => rfl
              | true =>
                simp only [askP, Bool.and_eq_true, decide_eq_true_eq] at hh
                obtain ⟨⟨_, h1⟩, h2⟩ := hh
                subst h1 h2
                rw [← ih.a, hf] at hq; simp at hq
            rw [this]; rfl
        · simp only
          rw [hany, hob, hak]
          simp [k0]
      | none =>
        have hp : pstep s n x = ⟨s.A ++ [((x.who, x.ticket), n)], s.E, s.odd⟩ := by simp [pstep, k0, hf]
        rw [hp]
        rw [hf] at hak
        refine ⟨fun w t => ?_, keepE hno, ?_⟩
        · simp only
          rw [lookA_snoc, ih.a, askO_succ hx]
          cases hq : askO l n w t with
          | some i => rfl
          | none =>
            by_cases hwt : (x.who, x.ticket) = (w, t)
            · simp only [Prod.mk.injEq] at hwt
              simp [hwt.1, hwt.2, askP, k0]
            · have : askP w t x = false := by
                simp only [Prod.mk.injEq] at hwt
                cases hh : askP w t x with
                | false => rfl
                | true =>
                  simp only [askP, Bool.and_eq_true, decide_eq_true_eq] at hh
                  exact absurd ⟨hh.1.2, hh.2⟩ hwt
              rw [this]
              simp only [hwt, if_false, Bool.false_eq_true]
        · simp only
          rw [hany, hob, hak, ih.o]
          simp [k0]
    · by_cases k1 : x.kind = 1
      · cases hf : lookA s.A x.who x.ticket with
        | none =>
          have hp : pstep s n x = ⟨s.A, s.E, true⟩ := by simp [pstep, k0, k1, hf]
          rw [hp]
          rw [hf] at hak
          refine ⟨keepA k0, keepE (fun i => by
            have : ¬ ((-1 : Int) = (i : Int)) := by omega
            rw [hen, hak]; simp [this]), ?_⟩
          simp only
          rw [hany, hob, hak]
          simp [k1]
        | some m =>
          rw [hf] at hak
          have hmn : m < n := by
            have := ih.a x.who x.ticket
            rw [hf] at this
            exact askO_lt this.symm
          have hen' : ∀ i, endsB l i n = decide (m = i) := fun i => by
            rw [hen, hak]; simp [k1]; omega
          have htn : (askedI l n).toNat = m := by rw [hak]; simp
          have hneg : ¬ askedI l n < 0 := by rw [hak]; simp only; omega
          cases hg : lookE s.E m with
          | some q =>
            have hp : pstep s n x = ⟨s.A, s.E, true⟩ := by simp [pstep, k0, k1, hf, hg]
            rw [hp]
            obtain ⟨hq1, hq2, hq3⟩ := (ih.e m).1 q hg
            refine ⟨keepA k0, fun i => ⟨fun k hk => ?_, fun h j hj => ?_⟩, ?_⟩
            · have := (ih.e i).1 k hk
              exact ⟨by omega, this.2⟩
            · simp only at h
              by_cases hjn : j = n
              · subst hjn
                rw [hen']
                by_cases hmi : m = i
                · subst hmi; rw [hg] at h; simp at h
                · simp [hmi]
              · exact (ih.e i).2 h j (by omega)
            · simp only
              rw [hany, hob, htn, endedI_first (by omega) hq2 hq3]
              have h9 : ¬ ((q : Int) = (n : Int)) := by omega
              simp [k1, h9]
          | none =>
            have hp : pstep s n x = ⟨s.A, s.E ++ [(m, n)], s.odd⟩ := by simp [pstep, k0, k1, hf, hg]
            rw [hp]
            have hfirst := (ih.e m).2 hg
            refine ⟨keepA k0, fun i => ⟨fun k hk => ?_, fun h j hj => ?_⟩, ?_⟩
            · simp only at hk
              rw [lookE_snoc] at hk
              cases hq : lookE s.E i with
              | some k' =>
                rw [hq] at hk
                simp at hk; subst hk
                have := (ih.e i).1 k' hq
                exact ⟨by omega, this.2⟩
              | none =>
                rw [hq] at hk
                by_cases hmi : m = i
                · subst hmi
                  simp at hk; subst hk
                  exact ⟨by omega, by rw [hen']; simp, hfirst⟩
                · simp [hmi] at hk
            · simp only at h
              rw [lookE_snoc] at h
              cases hq : lookE s.E i with
              | some k' => rw [hq] at h; simp at h
              | none =>
                rw [hq] at h
                by_cases hmi : m = i
                · simp [hmi] at h
                · by_cases hjn : j = n
                  · subst hjn; rw [hen']; simp [hmi]
                  · exact (ih.e i).2 hq j (by omega)
            · simp only
              rw [hany, hob, htn, endedI_first (by omega) (by rw [hen']; simp) hfirst, ih.o]
              simp [k1, hneg]
      · have hp : pstep s n x = s := by simp [pstep, k0, k1]
        rw [hp]
        refine ⟨keepA k0, keepE (fun i => by rw [hen]; simp [k1]), ?_⟩
        rw [hany, hob, ih.o]
        simp [k0, k1]

theorem toI_ended (l : List Ev) (i : Nat) : toI (pairS l l.length) i = endedI l i := by
  have h := (knows (l := l) l.length (Nat.le_refl _)).e i
  unfold toI
  cases hk : lookE (pairS l l.length).E i with
  | some k =>
    obtain ⟨h1, h2, h3⟩ := h.1 k hk
    rw [endedI_first h1 h2 h3]
  | none => rw [endedI_none (h.2 hk)]

theorem odd_eq (l : List Ev) : (pairS l l.length).odd = anyN (oddB l) l.length := (knows (l := l) l.length (Nat.le_refl _)).o

theorem open_eq {l : List Ev} (hm : l.length < 1000000) : pOpenB l = rOpenB l := by
  funext n
  unfold pOpenB rOpenB
  cases hx : l[n]? with
  | none => rfl
  | some x =>
    simp only
    rw [toI_ended]
    have := endedI_isI (l := l) hm n
    congr 1
    rw [decide_eq_decide]
    omega

theorem ops_eq (l : List Ev) (at_ : Int) (n : Nat) : opsL (toI (pairS l l.length)) l at_ n = opsL (endedI l) l at_ n := by
  have : toI (pairS l l.length) = endedI l := funext (toI_ended l)
  rw [this]

end Go.Proofs.Ytfinilnkempofaa
