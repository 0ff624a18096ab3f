/- Flat values: what == says of them. -/
import Derived.Test.YtfinilnkempofaaAm19
set_option linter.all false
set_option linter.unusedVariables false
set_option linter.unusedSimpArgs false
set_option linter.unnecessarySimpa false
namespace Go.Am

/-- a type whose values are bools, numbers and strings, side by side -/
def flatT (P : Program) : Nat → TypeId → Bool
  | 0, _ => false
  | n + 1, t => match P.underlying t with
    | some .bool | some (.int _) | some .string => P.cellsOf t == 1
    | some (.struct fs) => !P.stoodInHeld t && contig P fs.toList 0 == some (P.cellsOf t) && fs.toList.all fun f => f.name != "_" && flatT P n f.type
    | some (.array k e) => decide (P.cellsOf t = k * P.cellsOf e) && flatT P n e
    | _ => false

section
variable {P : Program}

theorem TOks.get {ts : List TypeId} {ps : List (List Value)} (h : TOks P ts ps) : ps.length = ts.length ∧ ∀ (i : Nat) (t : TypeId) (p : List Value), ts[i]? = some t → ps[i]? = some p → TOk P t p := by
  induction ts generalizing ps with
  | nil => cases ps with
    | nil => exact ⟨rfl, fun i t p h => by simp at h⟩
    | cons _ _ => exact h.elim
  | cons t ts ih => cases ps with
    | nil => exact h.elim
    | cons p ps =>
      obtain ⟨h1, h2⟩ := ih h.2
      refine ⟨by simp [h1], fun i u q hu hq => ?_⟩
      cases i with
      | zero => simp at hu hq; subst hu; subst hq; exact h.1
      | succ i => simp at hu hq; exact h2 i u q hu hq

theorem contig_len : ∀ (fl : List Field) (ql : List (List Value)) (a m : Nat), contig P fl a = some m → ql.length = fl.length → (∀ (i : Nat) (f : Field) (p : List Value), fl[i]? = some f → ql[i]? = some p → p.length = P.cellsOf f.type) → a + ql.flatten.length = m := by
  intro fl
  induction fl with
  | nil => intro ql a m h1 h2 h3; simp [contig] at h1; cases ql <;> simp_all
  | cons f fl ih =>
    intro ql a m h1 h2 h3
    simp only [contig] at h1
    split at h1
    · cases ql with
      | nil => simp at h2
      | cons q ql =>
        have := ih ql _ m h1 (by simpa using h2) (fun i g p hg hp => h3 (i + 1) g p (by simpa using hg) (by simpa using hp))
        have h0 := h3 0 f q (by simp) (by simp)
        simp only [List.flatten_cons, List.length_append]
        omega
    · simp at h1

/-- the parts of a struct's cells -/
theorem contig_part : ∀ (fl : List Field) (ql : List (List Value)) (a m : Nat), contig P fl a = some m → ql.length = fl.length → (∀ (i : Nat) (f : Field) (p : List Value), fl[i]? = some f → ql[i]? = some p → p.length = P.cellsOf f.type) →
    ∀ (i : Nat) (f : Field) (p : List Value), fl[i]? = some f → ql[i]? = some p → a ≤ f.offset ∧ (ql.flatten.drop (f.offset - a)).take (P.cellsOf f.type) = p := by
  intro fl
  induction fl with
  | nil => intro ql a m _ _ _ i f p h; simp at h
  | cons g fl ih =>
    intro ql a m h1 h2 h3 i f p hf hp
    simp only [contig] at h1
    split at h1
    · rename_i ho
      cases ql with
      | nil => simp at h2
      | cons q ql =>
        have h0 := h3 0 g q (by simp) (by simp)
        cases i with
        | zero =>
          simp at hf hp; subst hf; subst hp
          refine ⟨by omega, ?_⟩
          rw [ho, Nat.sub_self, List.drop_zero, List.flatten_cons, ← h0, List.take_left']
          rfl
        | succ i =>
          have := ih ql _ m h1 (by simpa using h2) (fun i g p hg hp => h3 (i + 1) g p (by simpa using hg) (by simpa using hp)) i f p (by simpa using hf) (by simpa using hp)
          refine ⟨by omega, ?_⟩
          rw [← this.2, List.flatten_cons]
          congr 1
          rw [show f.offset - a = q.length + (f.offset - (a + P.cellsOf g.type)) by omega, ← List.drop_drop, List.drop_left']
          rfl
    · simp at h1

theorem flat_len : ∀ (n : Nat) (t : TypeId) (l : List Value), flatT P n t = true → TOk P t l → l.length = P.cellsOf t
  | 0, _, _, h, _ => by simp [flatT] at h
  | n + 1, t, l, h, hl => by
    simp only [flatT] at h
    cases hl with
    | bool b ht => simp only [ht, beq_iff_eq] at h; simp [h]
    | int m ht hw => simp only [ht, beq_iff_eq] at h; simp [h]
    | str s ht hs => simp only [ht, beq_iff_eq] at h; simp [h]
    | slice rows ht hm ho => simp [ht] at h
    | @struct _ fs ps ht hpl ho =>
      simp only [ht, Bool.and_eq_true, beq_iff_eq, List.all_eq_true] at h
      obtain ⟨⟨_, hc⟩, hf⟩ := h
      have := contig_len fs.toList ps 0 _ hc (by simpa using hpl) (fun i f p hi hp => flat_len n f.type p (hf f (List.mem_of_getElem? hi)).2 (ho i f p (by simpa using hi) hp))
      omega
    | @array _ k e ps ht hpl ho =>
      simp only [ht, Bool.and_eq_true, decide_eq_true_eq] at h
      obtain ⟨hc, hf⟩ := h
      rw [hc, ← hpl]
      clear hpl
      induction ps with
      | nil => simp
      | cons p ps ih =>
        have := ih (fun q hq => ho q (by simp [hq]))
        have h0 := flat_len n e p hf (ho p (by simp))
        simp only [List.flatten_cons, List.length_append, List.length_cons, this, h0, Nat.succ_mul]
        omega

theorem pr_pure {α : Type} (a : α) : pureRun P (pure a : Sem α) = some a := rfl

theorem pr_underlying {t : TypeId} {d : TypeDesc} (h : P.underlying t = some d) : pureRun P (underlying t) = some d := by
  unfold underlying
  rw [pureRun_bind]
  show (pureRun P (match P.underlying t with | some d => pure d | none => stuck "no such type") : Option TypeDesc) = _
  rw [h]; rfl

theorem cellsOf_info {t : TypeId} (h : 0 < P.cellsOf t) : ∃ i, P.info? t = some i ∧ i.size = P.cellsOf t := by
  unfold Program.cellsOf at h ⊢
  cases hi : P.info? t with
  | none => simp [hi] at h
  | some i => exact ⟨i, rfl, by simp⟩

theorem pr_sizeOf {t : TypeId} {d : TypeDesc} (h : P.underlying t = some d) : pureRun P (sizeOf t) = some (P.cellsOf t) := by
  obtain ⟨i, hi⟩ := info_of_underlying h
  unfold sizeOf typeInfo
  rw [pureRun_bind, pureRun_bind]
  show ((pureRun P (match P.info? t with | some i => pure i | none => stuck "no such type") : Option TypeInfo).bind _) = _
  rw [hi]
  simp [Program.cellsOf, hi, pr_pure]

theorem pr_part {t : TypeId} {n : Nat} {cs : Array Value} {off : Nat} {p : List Value} (hf : flatT P n t = true) (hp : TOk P t p) (hc : (cs.toList.drop off).take (P.cellsOf t) = p) : pureRun P (part t cs off) = some (argV P t p) := by
  have hlen := flat_len n t p hf hp
  cases n with
  | zero => simp [flatT] at hf
  | succ n =>
  simp only [flatT] at hf
  have hsub : (cs.extract off (off + P.cellsOf t)) = p.toArray := by
    apply Array.ext'
    rw [Array.toList_extract]
    simpa [List.extract] using hc
  have hget : P.cellsOf t = 1 → ∀ v, p = [v] → cs[off]? = some v := by
    intro h1 v hv
    rw [h1, hv] at hc
    have := congrArg (·[0]?) hc
    simpa [List.getElem?_take, List.getElem?_drop] using this
  cases hp with
  | bool b ht =>
    simp only [ht, beq_iff_eq] at hf
    unfold part isAgg
    rw [pureRun_bind, pureRun_bind, pr_underlying ht]
    simp only [Option.bind_some, pr_pure, argV, ht]
    rw [hget hf _ rfl]; rfl
  | int m ht hw =>
    simp only [ht, beq_iff_eq] at hf
    unfold part isAgg
    rw [pureRun_bind, pureRun_bind, pr_underlying ht]
    simp only [Option.bind_some, pr_pure, argV, ht]
    rw [hget hf _ rfl]; rfl
  | str s ht hs =>
    simp only [ht, beq_iff_eq] at hf
    unfold part isAgg
    rw [pureRun_bind, pureRun_bind, pr_underlying ht]
    simp only [Option.bind_some, pr_pure, argV, ht]
    rw [hget hf _ rfl]; rfl
  | slice rows ht hm ho => simp [ht] at hf
  | @struct _ fs ps ht hpl ho =>
    unfold part isAgg
    rw [pureRun_bind, pureRun_bind, pr_underlying ht]
    simp only [Option.bind_some, pr_pure, argV, ht, if_true]
    rw [pureRun_bind, pr_sizeOf ht]
    simp only [Option.bind_some, pr_pure, hsub]
  | @array _ k e ps ht hpl ho =>
    unfold part isAgg
    rw [pureRun_bind, pureRun_bind, pr_underlying ht]
    simp only [Option.bind_some, pr_pure, argV, ht, if_true]
    rw [pureRun_bind, pr_sizeOf ht]
    simp only [Option.bind_some, pr_pure, hsub]

theorem beq_bytes (a b : ByteArray) : (a == b) = true ↔ a = b := by
  obtain ⟨⟨x⟩⟩ := a
  obtain ⟨⟨y⟩⟩ := b
  show ((⟨x⟩ : Array UInt8) == ⟨y⟩) = true ↔ _
  simp

theorem argV_inj {n : Nat} {t : TypeId} {p q : List Value} (hf : flatT P n t = true) (hp : TOk P t p) (hq : TOk P t q) : argV P t p = argV P t q ↔ p = q := by
  refine ⟨fun h => ?_, fun h => by rw [h]⟩
  cases n with
  | zero => simp [flatT] at hf
  | succ n =>
  simp only [flatT] at hf
  cases hp with
  | bool b ht => cases hq <;> simp_all [argV]
  | int m ht hw => cases hq <;> simp_all [argV]
  | str m ht hs => cases hq <;> simp_all [argV]
  | slice rows ht hm ho => simp [ht] at hf
  | @struct _ fs ps ht hpl ho => simp only [argV, ht, Value.agg.injEq] at h; simpa using h
  | @array _ k e ps ht hpl ho => simp only [argV, ht, Value.agg.injEq] at h; simpa using h

theorem flatten_inj : ∀ (ps qs : List (List Value)), ps.length = qs.length → (∀ (i : Nat) (p q : List Value), ps[i]? = some p → qs[i]? = some q → p.length = q.length) → (ps.flatten = qs.flatten ↔ ps = qs)
  | [], [], _, _ => by simp
  | [], _ :: _, h, _ => by simp at h
  | _ :: _, [], h, _ => by simp at h
  | p :: ps, q :: qs, h, hl => by
    have h0 := hl 0 p q (by simp) (by simp)
    have ih := flatten_inj ps qs (by simpa using h) (fun i p q hp hq => hl (i + 1) p q (by simpa using hp) (by simpa using hq))
    simp only [List.flatten_cons, List.cons.injEq]
    rw [← ih]
    exact ⟨fun e => List.append_inj e h0, fun ⟨e1, e2⟩ => by rw [e1, e2]⟩

open Classical in
/-- == of flat values -/
theorem eq_flat : ∀ (n d : Nat) (t : TypeId) (p q : List Value), flatT P n t = true → n ≤ d → TOk P t p → TOk P t q → pureRun P (Op.equalIn d t (argV P t p) (argV P t q)) = some (decide (p = q))
  | 0, _, _, _, _, h, _, _, _ => by simp [flatT] at h
  | n + 1, 0, _, _, _, _, h, _, _ => by omega
  | n + 1, d + 1, t, p, q, hf, hd, hp, hq => by
    have hf0 := hf
    have hinj := argV_inj hf hp hq
    have hlp := flat_len _ _ _ hf hp
    have hlq := flat_len _ _ _ hf hq
    simp only [flatT] at hf
    unfold Op.equalIn
    cases hp with
    | bool b ht =>
      cases hq with
      | bool c _ =>
        rw [pureRun_bind, pr_underlying ht]
        simp only [Option.bind_some, argV, ht, List.headD_cons, pr_pure]
        congr 1
        rw [Bool.eq_iff_iff]; simp
      | _ => simp_all
    | @int _ k m ht hw =>
      cases hq with
      | @int _ k' c ht' _ =>
        rw [ht] at ht'; simp at ht'; subst ht'
        rw [pureRun_bind, pr_underlying ht]
        simp only [Option.bind_some, argV, ht, List.headD_cons, if_true, pr_pure]
        congr 1
        rw [Bool.eq_iff_iff]; simp
      | _ => simp_all
    | str s ht hs =>
      cases hq with
      | str c _ _ =>
        rw [pureRun_bind, pr_underlying ht]
        simp only [Option.bind_some, argV, ht, List.headD_cons, pr_pure]
        congr 1
        rw [Bool.eq_iff_iff, beq_bytes]; simp
      | _ => simp_all
    | slice rows ht hm ho => simp [ht] at hf
    | @struct _ fs ps ht hpl ho =>
      cases hq with
      | @struct _ fs' qs ht' hql hoq =>
        rw [ht] at ht'; simp at ht'; subst ht'
        simp only [ht, Bool.and_eq_true, beq_iff_eq, List.all_eq_true, Bool.not_eq_true', bne_iff_ne, ne_eq] at hf
        obtain ⟨⟨hst, hc⟩, hfs⟩ := hf
        have okp := fun i f r (hi : fs.toList[i]? = some f) hr => ho i f r (by simpa using hi) hr
        have okq := fun i f r (hi : fs.toList[i]? = some f) hr => hoq i f r (by simpa using hi) hr
        have lp := fun i f r (hi : fs.toList[i]? = some f) hr => flat_len n f.type r (hfs f (List.mem_of_getElem? hi)).2 (okp i f r hi hr)
        have lq := fun i f r (hi : fs.toList[i]? = some f) hr => flat_len n f.type r (hfs f (List.mem_of_getElem? hi)).2 (okq i f r hi hr)
        have pp := contig_part fs.toList ps 0 _ hc (by simpa using hpl) lp
        have pq := contig_part fs.toList qs 0 _ hc (by simpa using hql) lq
        rw [pureRun_bind, pr_underlying ht]
        simp only [Option.bind_some, argV, ht]
        rw [pureRun_bind]
        show (Option.bind (some P) fun p => pureRun P (if p.stoodInHeld t = true then _ else _)) = _
        simp only [Option.bind_some, hst, Bool.false_eq_true, if_false]
        rw [← Array.forIn_toList]
        have key : ∀ (k : Nat) (fl : List Field) (pl ql : List (List Value)), pl.length = fl.length → ql.length = fl.length → fl = fs.toList.drop k → pl = ps.drop k → ql = qs.drop k →
            pureRun P (do
              let r ← forIn fl ((none, ()) : Option Bool × Unit) (fun f (_ : Option Bool × Unit) =>
                if f.name ≠ "_" then do
                  let a ← part f.type ps.flatten.toArray f.offset
                  let b ← part f.type qs.flatten.toArray f.offset
                  let r ← Op.equalIn d f.type a b
                  if (!r) = true then pure (ForInStep.done (some false, ())) else pure (ForInStep.yield (none, ()))
                else pure (ForInStep.yield (none, ())))
              match r.fst with
              | some b => pure b
              | none => pure true) = some (decide (pl = ql)) := by
          intro k fl
          induction fl generalizing k with
          | nil =>
            intro pl ql h1 h2 _ _ _
            have e1 : pl = [] := List.eq_nil_of_length_eq_zero (by simpa using h1)
            have e2 : ql = [] := List.eq_nil_of_length_eq_zero (by simpa using h2)
            subst e1; subst e2
            rfl
          | cons f fl ih =>
            intro pl ql h1 h2 e1 e2 e3
            cases pl with
            | nil => simp at h1
            | cons a pl =>
            cases ql with
            | nil => simp at h2
            | cons b ql =>
            have hfk : fs.toList[k]? = some f := by
              have := congrArg (·[0]?) e1; simpa using this.symm
            have hpk : ps[k]? = some a := by
              have := congrArg (·[0]?) e2; simpa using this.symm
            have hqk : qs[k]? = some b := by
              have := congrArg (·[0]?) e3; simpa using this.symm
            obtain ⟨hname, hft⟩ := hfs f (List.mem_of_getElem? hfk)
            have ih := ih (k + 1) pl ql (by simpa using h1) (by simpa using h2) (by rw [← List.drop_drop, ← e1]; simp) (by rw [← List.drop_drop, ← e2]; simp) (by rw [← List.drop_drop, ← e3]; simp)
            have g1 := pr_part (cs := ps.flatten.toArray) (off := f.offset) hft (okp k f a hfk hpk) (by simpa using (pp k f a hfk hpk).2)
            have g2 := pr_part (cs := qs.flatten.toArray) (off := f.offset) hft (okq k f b hfk hqk) (by simpa using (pq k f b hfk hqk).2)
            have g3 := eq_flat n d f.type a b hft (by omega) (okp k f a hfk hpk) (okq k f b hfk hqk)
            rw [List.forIn_cons]
            simp only [hname, not_false_eq_true, ne_eq, if_true, pureRun_bind, g1, g2, g3, Option.bind_some]
            by_cases hab : a = b
            · subst hab
              simp only [decide_true, Bool.not_true, Bool.false_eq_true, if_false, pr_pure, Option.bind_some]
              rw [pureRun_bind] at ih
              simp only [List.cons.injEq, true_and]
              exact ih
            · simp only [hab, decide_false, Bool.not_false, if_true, pr_pure, Option.bind_some, List.cons.injEq, false_and]
        have := key 0 fs.toList ps qs (by simpa using hpl) (by simpa using hql) rfl rfl rfl
        have hfi := flatten_inj ps qs (by omega) (fun i r u hr hu => by
          have hi : i < fs.toList.length := by have := lt_of_get hr; simp only [Array.length_toList]; omega
          rw [lp i _ r (List.getElem?_eq_getElem hi) hr, lq i _ u (List.getElem?_eq_getElem hi) hu])
        simp only [hfi]
        refine Eq.trans ?_ this
        congr 1
        congr 1
        funext r
        rcases r with ⟨_ | _, _⟩ <;> rfl
      | _ => simp_all
    | @array _ k e ps ht hpl ho =>
      cases hq with
      | @array _ k' e' qs ht' hql hoq =>
        rw [ht] at ht'; simp at ht'; obtain ⟨rfl, rfl⟩ := ht'
        simp only [ht, Bool.and_eq_true, decide_eq_true_eq] at hf
        obtain ⟨hc, hft⟩ := hf
        have lp := fun i r (hr : ps[i]? = some r) => flat_len n e r hft (ho r (List.mem_of_getElem? hr))
        have lq := fun i r (hr : qs[i]? = some r) => flat_len n e r hft (hoq r (List.mem_of_getElem? hr))
        have chunk : ∀ (l : List (List Value)) (c : Nat), (∀ (i : Nat) (r : List Value), l[i]? = some r → r.length = c) → ∀ (i : Nat) (r : List Value), l[i]? = some r → (l.flatten.drop (i * c)).take c = r := by
          intro l c
          induction l with
          | nil => intro _ i r h; simp at h
          | cons x xs ih =>
            intro hl i r hr
            have h0 := hl 0 x (by simp)
            cases i with
            | zero => simp at hr; subst hr; rw [Nat.zero_mul, List.drop_zero, List.flatten_cons, ← h0, List.take_left']; rfl
            | succ i =>
              have := ih (fun i r h => hl (i + 1) r (by simpa using h)) i r (by simpa using hr)
              rw [← this, List.flatten_cons, show (i + 1) * c = x.length + i * c by rw [Nat.succ_mul, h0]; omega, ← List.drop_drop, List.drop_left']
              rfl
        rw [pureRun_bind, pr_underlying ht]
        simp only [Option.bind_some, argV, ht]
        rw [pureRun_bind]
        have hse : k = 0 ∨ pureRun P (sizeOf e) = some (P.cellsOf e) := by
          cases n with
          | zero => simp [flatT] at hft
          | succ n =>
            cases hu : P.underlying e with
            | none => simp [flatT, hu] at hft
            | some dd => exact .inr (pr_sizeOf hu)
        have hse : pureRun P (sizeOf e) = some (P.cellsOf e) := by
          cases n with
          | zero => simp [flatT] at hft
          | succ n =>
            cases hu : P.underlying e with
            | none => simp [flatT, hu] at hft
            | some dd => exact pr_sizeOf hu
        rw [hse]
        simp only [Option.bind_some]
        rw [Std.Legacy.Range.forIn_eq_forIn_range']
        have key : ∀ (m j : Nat) (pl ql : List (List Value)), pl.length = m → ql.length = m → pl = ps.drop j → ql = qs.drop j →
            pureRun P (do
              let r ← forIn (List.range' j m) ((none, ()) : Option Bool × Unit) (fun i (_ : Option Bool × Unit) => do
                  let a ← part e ps.flatten.toArray (i * P.cellsOf e)
                  let b ← part e qs.flatten.toArray (i * P.cellsOf e)
                  let r ← Op.equalIn d e a b
                  if (!r) = true then pure (ForInStep.done (some false, ())) else pure (ForInStep.yield (none, ())))
              match r.fst with
              | some b => pure b
              | none => pure true) = some (decide (pl = ql)) := by
          intro m
          induction m with
          | zero =>
            intro j pl ql h1 h2 _ _
            have e1 : pl = [] := List.eq_nil_of_length_eq_zero (by simpa using h1)
            have e2 : ql = [] := List.eq_nil_of_length_eq_zero (by simpa using h2)
            subst e1; subst e2
            rfl
          | succ m ih =>
            intro j pl ql h1 h2 e2 e3
            cases pl with
            | nil => simp at h1
            | cons a pl =>
            cases ql with
            | nil => simp at h2
            | cons b ql =>
            have hpk : ps[j]? = some a := by
              have := congrArg (·[0]?) e2; simpa using this.symm
            have hqk : qs[j]? = some b := by
              have := congrArg (·[0]?) e3; simpa using this.symm
            have ih := ih (j + 1) pl ql (by simpa using h1) (by simpa using h2) (by rw [← List.drop_drop, ← e2]; simp) (by rw [← List.drop_drop, ← e3]; simp)
            have g1 := pr_part (cs := ps.flatten.toArray) (off := j * P.cellsOf e) hft (ho a (List.mem_of_getElem? hpk)) (by simpa using chunk ps _ lp j a hpk)
            have g2 := pr_part (cs := qs.flatten.toArray) (off := j * P.cellsOf e) hft (hoq b (List.mem_of_getElem? hqk)) (by simpa using chunk qs _ lq j b hqk)
            have g3 := eq_flat n d e a b hft (by omega) (ho a (List.mem_of_getElem? hpk)) (hoq b (List.mem_of_getElem? hqk))
            rw [List.range'_succ, List.forIn_cons]
            simp only [pureRun_bind, g1, g2, g3, Option.bind_some]
            by_cases hab : a = b
            · subst hab
              simp only [decide_true, Bool.not_true, Bool.false_eq_true, if_false, pr_pure, Option.bind_some]
              rw [pureRun_bind] at ih
              simp only [List.cons.injEq, true_and]
              exact ih
            · simp only [hab, decide_false, Bool.not_false, if_true, pr_pure, Option.bind_some, List.cons.injEq, false_and]
        have := key k 0 ps qs hpl hql rfl rfl
        have hfi := flatten_inj ps qs (by omega) (fun i r u hr hu => by rw [lp i _ hr, lq i _ hu])
        simp only [hfi]
        have hsz : (({ start := 0, stop := k, step := 1, step_pos := by omega } : Std.Legacy.Range)).size = k := by simp [Std.Legacy.Range.size]
        refine Eq.trans ?_ this
        rw [hsz]
        congr 1
        congr 1
        funext r
        rcases r with ⟨_ | _, _⟩ <;> rfl
      | _ => simp_all

end
end Go.Am
