/- A part of the proof: Am19, Am20, Am21, Am22. Its conditions: none. -/
import Derived.Test.YtpklhjeccbjalaaAm13c
import Derived.Laws.BitsLemmas
import Derived.Laws.Bits64
set_option linter.all false
set_option linter.unusedVariables false
set_option linter.unusedSimpArgs false
set_option linter.unnecessarySimpa false
section
namespace Go.Am

section
variable {P : Program}

/-! ### Loops -/

theorem rounds_unique {σ ρ : Type} {step : σ → Option (σ ⊕ ρ)} {n m : Nat} {s : σ} {a b : ρ} (h : rounds step n s = some a) (h' : rounds step m s = some b) : a = b := by
  rcases Nat.le_total n m with hl | hl
  · have := rounds_le h hl; rw [this] at h'; simpa using h'
  · have := rounds_le h' hl; rw [this] at h; simpa using h.symm

theorem loopW_eq {σ ρ : Type} (step : σ → Option (σ ⊕ ρ)) (s : σ) : loopW step s = (step s).bind fun x => match x with | .inl s' => loopW step s' | .inr r => some r := by
  cases hs : step s with
  | none =>
    unfold loopW
    rw [dif_neg]
    · rfl
    · rintro ⟨n, r, h⟩
      cases n with
      | zero => simp [rounds] at h
      | succ n => simp [rounds, hs] at h
  | some x =>
    cases x with
    | inr r => exact loopW_all step 1 s r (by simp [rounds, hs])
    | inl s' =>
      simp only [Option.bind_some]
      by_cases h : ∃ n r, rounds step n s' = some r
      · obtain ⟨n, r, h⟩ := h
        rw [loopW_all step n s' r h]
        exact loopW_all step (n + 1) s r (by simp [rounds, hs, h])
      · have h2 : ¬ ∃ n r, rounds step n s = some r := by
          rintro ⟨n, r, h3⟩
          cases n with
          | zero => simp [rounds] at h3
          | succ n => simp [rounds, hs] at h3; exact h ⟨n, r, h3⟩
        unfold loopW
        rw [dif_neg h, dif_neg h2]

/-- one round of a loop -/
theorem loopG_eq (n0 : Nat) (step : List Value × AS → Option ((List Value × AS) ⊕ (AEx × List Value × AS))) (vs : List Value) (st : AS) :
    loopG n0 step (vs, st) = (step (gc n0 vs st)).bind fun x => match x with | .inl s' => loopG n0 step s' | .inr r => some r := by
  show loopW (headed n0 step) (vs, st) = _
  rw [loopW_eq]
  show (step (gc n0 vs st)).bind _ = _
  congr 1
  funext x
  cases x <;> rfl

/-! ### What is struck -/

mutual
theorem vren_same {σ : Nat → Nat} : ∀ (v : Value), (∀ b ∈ vrefs v, σ b = b) → vren σ v = v
  | .bool _, _ | .int _ _, _ | .float _ _, _ | .string _, _ | .pointer none, _ | .slice none _ _, _ | .map none, _ | .nilFunc, _ | .nilIface, _ | .complex _ _ _, _ | .chan none, _ => rfl
  | .chan (some r), h => by simp [vren, h r (by simp [vrefs])]
  | .pointer (some a), h => by simp [vren, h a.block (by simp [vrefs])]
  | .slice (some a) l c, h => by simp [vren, h a.block (by simp [vrefs])]
  | .map (some r), h => by simp [vren, h r (by simp [vrefs])]
  | .func f ⟨a⟩ ⟨b⟩, h => by
    simp only [vren, aren]
    rw [lren_same a (fun x hx => h x (by simp [vrefs, arefs, hx])), lren_same b (fun x hx => h x (by simp [vrefs, arefs, hx]))]
  | .iface t v, h => by simp only [vren]; rw [vren_same v (fun b hb => h b (by simpa [vrefs] using hb))]
  | .agg ⟨l⟩, h => by simp only [vren, aren]; rw [lren_same l (fun b hb => h b (by simpa [vrefs, arefs] using hb))]
  | .tuple ⟨l⟩, h => by simp only [vren, aren]; rw [lren_same l (fun b hb => h b (by simpa [vrefs, arefs] using hb))]
theorem lren_same {σ : Nat → Nat} : ∀ (l : List Value), (∀ b ∈ lrefs l, σ b = b) → lren σ l = l
  | [], _ => rfl
  | v :: vs, h => by
    simp only [lren]
    rw [vren_same v (fun b hb => h b (by simp [lrefs, hb])), lren_same vs (fun b hb => h b (by simp [lrefs, hb]))]
end

theorem reach_low (H : List Blk) (n : Nat) : ∀ (fuel : Nat) (l acc : List Nat), (∀ r ∈ l, r < n) → reach H n fuel l acc = acc
  | 0, _, _, _ => rfl
  | _ + 1, [], _, _ => rfl
  | fuel + 1, r :: rs, acc, h => by
    simp only [reach, h r (by simp), if_true]
    exact reach_low H n fuel rs acc (fun x hx => h x (by simp [hx]))

/-- nothing new is led to: all new blocks are struck -/
theorem gc_low {n : Nat} {vs : List Value} {H : List Blk} (hl : ∀ r ∈ lrefs vs, r < n) (hn : n ≤ H.length) : gc n vs ⟨H, none⟩ = (vs, ⟨H.take n, none⟩) := by
  unfold gc
  simp only [escOk, if_true]
  rw [reach_low H n _ _ _ hl]
  have h1 : closed n [] (lrefs vs) = true := by
    unfold closed
    rw [List.all_eq_true]
    intro r hr
    simp [hl r hr]
  simp only [h1, List.map_nil, List.all_nil, true_and, hn, if_true, List.append_nil]
  rw [lren_same vs (fun b hb => by simp [renum, hl b hb])]

/-- the same, where the blocks stand behind older ones -/
theorem gc_none {vs : List Value} {H l : List Blk} (hl : lrefs vs = []) : gc H.length vs ⟨H ++ l, none⟩ = (vs, ⟨H, none⟩) := by
  rw [gc_low (by simp [hl]) (by simp)]
  simp

theorem gc_nil {vs : List Value} {H : List Blk} (hl : lrefs vs = []) : gc H.length vs ⟨H, none⟩ = (vs, ⟨H, none⟩) := by
  rw [gc_low (by simp [hl]) (by simp)]
  simp

theorem gc_old {vs : List Value} {H l : List Blk} (hl : ∀ r ∈ lrefs vs, r < H.length) : gc H.length vs ⟨H ++ l, none⟩ = (vs, ⟨H, none⟩) := by
  rw [gc_low hl (by simp)]
  simp

/-! ### References -/

@[simp] theorem lrefs_nil : lrefs [] = [] := rfl
@[simp] theorem lrefs_cons (v : Value) (l : List Value) : lrefs (v :: l) = vrefs v ++ lrefs l := rfl
@[simp] theorem lrefs_app (a b : List Value) : lrefs (a ++ b) = lrefs a ++ lrefs b := by
  induction a with
  | nil => rfl
  | cons x xs ih => simp [ih]
@[simp] theorem vrefs_bool (b : Bool) : vrefs (.bool b) = [] := rfl
@[simp] theorem vrefs_int (k : IntKind) (n : Int) : vrefs (.int k n) = [] := rfl
@[simp] theorem vrefs_string (b : ByteArray) : vrefs (.string b) = [] := rfl
@[simp] theorem vrefs_ptr (a : Addr) : vrefs (.pointer (some a)) = [a.block] := rfl
@[simp] theorem vrefs_ptr0 : vrefs (.pointer none) = [] := rfl
@[simp] theorem vrefs_slice (a : Addr) (n c : Nat) : vrefs (.slice (some a) n c) = [a.block] := rfl
@[simp] theorem vrefs_slice0 (n c : Nat) : vrefs (.slice none n c) = [] := rfl
@[simp] theorem vrefs_map (r : Nat) : vrefs (.map (some r)) = [r] := rfl
@[simp] theorem vrefs_agg (l : List Value) : vrefs (.agg l.toArray) = lrefs l := rfl
@[simp] theorem vrefs_tuple (l : List Value) : vrefs (.tuple l.toArray) = lrefs l := rfl
@[simp] theorem vrefs_tSl (n : Nat) (l : List Value) : vrefs (tSl n l) = lrefs l := rfl
@[simp] theorem vrefs_tPtr (n : Nat) (l : List Value) : vrefs (tPtr n l.toArray) = lrefs l := rfl
@[simp] theorem vrefs_unk : vrefs unk = [] := rfl
@[simp] theorem vrefs_undef : vrefs undef = [] := rfl
@[simp] theorem vrefs_func (f : Fn) (a b : List Value) : vrefs (.func f a.toArray b.toArray) = lrefs a ++ lrefs b := rfl

end
end Go.Am

end
section
namespace Go.Am

/-- a type whose values are bools, numbers and strings, side by side -/
def flatT (P : Program) : Nat → TypeId → Bool
  | 0, _ => false
  | n + 1, t => match P.underlying t with
    | some .bool | some (.int _) | some .string => P.cellsOf t == 1
    | some (.struct fs) => !P.stoodInHeld t && contig P fs.toList 0 == some (P.cellsOf t) && fs.toList.all fun f => f.name != "_" && flatT P n f.type
    | some (.array k e) => decide (P.cellsOf t = k * P.cellsOf e) && flatT P n e
    | _ => false

section
variable {P : Program}

theorem TOks.get {ts : List TypeId} {ps : List (List Value)} (h : TOks P ts ps) : ps.length = ts.length ∧ ∀ (i : Nat) (t : TypeId) (p : List Value), ts[i]? = some t → ps[i]? = some p → TOk P t p := by
  induction ts generalizing ps with
  | nil => cases ps with
    | nil => exact ⟨rfl, fun i t p h => by simp at h⟩
    | cons _ _ => exact h.elim
  | cons t ts ih => cases ps with
    | nil => exact h.elim
    | cons p ps =>
      obtain ⟨h1, h2⟩ := ih h.2
      refine ⟨by simp [h1], fun i u q hu hq => ?_⟩
      cases i with
      | zero => simp at hu hq; subst hu; subst hq; exact h.1
      | succ i => simp at hu hq; exact h2 i u q hu hq

theorem contig_len : ∀ (fl : List Field) (ql : List (List Value)) (a m : Nat), contig P fl a = some m → ql.length = fl.length → (∀ (i : Nat) (f : Field) (p : List Value), fl[i]? = some f → ql[i]? = some p → p.length = P.cellsOf f.type) → a + ql.flatten.length = m := by
  intro fl
  induction fl with
  | nil => intro ql a m h1 h2 h3; simp [contig] at h1; cases ql <;> simp_all
  | cons f fl ih =>
    intro ql a m h1 h2 h3
    simp only [contig] at h1
    split at h1
    · cases ql with
      | nil => simp at h2
      | cons q ql =>
        have := ih ql _ m h1 (by simpa using h2) (fun i g p hg hp => h3 (i + 1) g p (by simpa using hg) (by simpa using hp))
        have h0 := h3 0 f q (by simp) (by simp)
        simp only [List.flatten_cons, List.length_append]
        omega
    · simp at h1

/-- the parts of a struct's cells -/
theorem contig_part : ∀ (fl : List Field) (ql : List (List Value)) (a m : Nat), contig P fl a = some m → ql.length = fl.length → (∀ (i : Nat) (f : Field) (p : List Value), fl[i]? = some f → ql[i]? = some p → p.length = P.cellsOf f.type) →
    ∀ (i : Nat) (f : Field) (p : List Value), fl[i]? = some f → ql[i]? = some p → a ≤ f.offset ∧ (ql.flatten.drop (f.offset - a)).take (P.cellsOf f.type) = p := by
  intro fl
  induction fl with
  | nil => intro ql a m _ _ _ i f p h; simp at h
  | cons g fl ih =>
    intro ql a m h1 h2 h3 i f p hf hp
    simp only [contig] at h1
    split at h1
    · rename_i ho
      cases ql with
      | nil => simp at h2
      | cons q ql =>
        have h0 := h3 0 g q (by simp) (by simp)
        cases i with
        | zero =>
          simp at hf hp; subst hf; subst hp
          refine ⟨by omega, ?_⟩
          rw [ho, Nat.sub_self, List.drop_zero, List.flatten_cons, ← h0, List.take_left']
          rfl
        | succ i =>
          have := ih ql _ m h1 (by simpa using h2) (fun i g p hg hp => h3 (i + 1) g p (by simpa using hg) (by simpa using hp)) i f p (by simpa using hf) (by simpa using hp)
          refine ⟨by omega, ?_⟩
          rw [← this.2, List.flatten_cons]
          congr 1
          rw [show f.offset - a = q.length + (f.offset - (a + P.cellsOf g.type)) by omega, ← List.drop_drop, List.drop_left']
          rfl
    · simp at h1

theorem flat_len : ∀ (n : Nat) (t : TypeId) (l : List Value), flatT P n t = true → TOk P t l → l.length = P.cellsOf t
  | 0, _, _, h, _ => by simp [flatT] at h
  | n + 1, t, l, h, hl => by
    simp only [flatT] at h
    cases hl with
    | bool b ht => simp only [ht, beq_iff_eq] at h; simp [h]
    | int m ht hw => simp only [ht, beq_iff_eq] at h; simp [h]
    | str s ht hs => simp only [ht, beq_iff_eq] at h; simp [h]
    | slice rows ht hm ho => simp [ht] at h
    | @struct _ fs ps ht hpl ho =>
      simp only [ht, Bool.and_eq_true, beq_iff_eq, List.all_eq_true] at h
      obtain ⟨⟨_, hc⟩, hf⟩ := h
      have := contig_len fs.toList ps 0 _ hc (by simpa using hpl) (fun i f p hi hp => flat_len n f.type p (hf f (List.mem_of_getElem? hi)).2 (ho i f p (by simpa using hi) hp))
      omega
    | @array _ k e ps ht hpl ho =>
      simp only [ht, Bool.and_eq_true, decide_eq_true_eq] at h
      obtain ⟨hc, hf⟩ := h
      rw [hc, ← hpl]
      clear hpl
      induction ps with
      | nil => simp
      | cons p ps ih =>
        have := ih (fun q hq => ho q (by simp [hq]))
        have h0 := flat_len n e p hf (ho p (by simp))
        simp only [List.flatten_cons, List.length_append, List.length_cons, this, h0, Nat.succ_mul]
        omega

theorem pr_pure {α : Type} (a : α) : pureRun P (pure a : Sem α) = some a := rfl

theorem pr_underlying {t : TypeId} {d : TypeDesc} (h : P.underlying t = some d) : pureRun P (underlying t) = some d := by
  unfold underlying
  rw [pureRun_bind]
  show (pureRun P (match P.underlying t with | some d => pure d | none => stuck "no such type") : Option TypeDesc) = _
  rw [h]; rfl

theorem cellsOf_info {t : TypeId} (h : 0 < P.cellsOf t) : ∃ i, P.info? t = some i ∧ i.size = P.cellsOf t := by
  unfold Program.cellsOf at h ⊢
  cases hi : P.info? t with
  | none => simp [hi] at h
  | some i => exact ⟨i, rfl, by simp⟩

theorem pr_sizeOf {t : TypeId} {d : TypeDesc} (h : P.underlying t = some d) : pureRun P (sizeOf t) = some (P.cellsOf t) := by
  obtain ⟨i, hi⟩ := info_of_underlying h
  unfold sizeOf typeInfo
  rw [pureRun_bind, pureRun_bind]
  show ((pureRun P (match P.info? t with | some i => pure i | none => stuck "no such type") : Option TypeInfo).bind _) = _
  rw [hi]
  simp [Program.cellsOf, hi, pr_pure]

theorem pr_part {t : TypeId} {n : Nat} {cs : Array Value} {off : Nat} {p : List Value} (hf : flatT P n t = true) (hp : TOk P t p) (hc : (cs.toList.drop off).take (P.cellsOf t) = p) : pureRun P (part t cs off) = some (argV P t p) := by
  have hlen := flat_len n t p hf hp
  cases n with
  | zero => simp [flatT] at hf
  | succ n =>
  simp only [flatT] at hf
  have hsub : (cs.extract off (off + P.cellsOf t)) = p.toArray := by
    apply Array.ext'
    rw [Array.toList_extract]
    simpa [List.extract] using hc
  have hget : P.cellsOf t = 1 → ∀ v, p = [v] → cs[off]? = some v := by
    intro h1 v hv
    rw [h1, hv] at hc
    have := congrArg (·[0]?) hc
    simpa [List.getElem?_take, List.getElem?_drop] using this
  cases hp with
  | bool b ht =>
    simp only [ht, beq_iff_eq] at hf
    unfold part isAgg
    rw [pureRun_bind, pureRun_bind, pr_underlying ht]
    simp only [Option.bind_some, pr_pure, argV, ht]
    rw [hget hf _ rfl]; rfl
  | int m ht hw =>
    simp only [ht, beq_iff_eq] at hf
    unfold part isAgg
    rw [pureRun_bind, pureRun_bind, pr_underlying ht]
    simp only [Option.bind_some, pr_pure, argV, ht]
    rw [hget hf _ rfl]; rfl
  | str s ht hs =>
    simp only [ht, beq_iff_eq] at hf
    unfold part isAgg
    rw [pureRun_bind, pureRun_bind, pr_underlying ht]
    simp only [Option.bind_some, pr_pure, argV, ht]
    rw [hget hf _ rfl]; rfl
  | slice rows ht hm ho => simp [ht] at hf
  | @struct _ fs ps ht hpl ho =>
    unfold part isAgg
    rw [pureRun_bind, pureRun_bind, pr_underlying ht]
    simp only [Option.bind_some, pr_pure, argV, ht, if_true]
    rw [pureRun_bind, pr_sizeOf ht]
    simp only [Option.bind_some, pr_pure, hsub]
  | @array _ k e ps ht hpl ho =>
    unfold part isAgg
    rw [pureRun_bind, pureRun_bind, pr_underlying ht]
    simp only [Option.bind_some, pr_pure, argV, ht, if_true]
    rw [pureRun_bind, pr_sizeOf ht]
    simp only [Option.bind_some, pr_pure, hsub]

theorem beq_bytes (a b : ByteArray) : (a == b) = true ↔ a = b := by
  obtain ⟨⟨x⟩⟩ := a
  obtain ⟨⟨y⟩⟩ := b
  show ((⟨x⟩ : Array UInt8) == ⟨y⟩) = true ↔ _
  simp

theorem argV_inj {n : Nat} {t : TypeId} {p q : List Value} (hf : flatT P n t = true) (hp : TOk P t p) (hq : TOk P t q) : argV P t p = argV P t q ↔ p = q := by
  refine ⟨fun h => ?_, fun h => by rw [h]⟩
  cases n with
  | zero => simp [flatT] at hf
  | succ n =>
  simp only [flatT] at hf
  cases hp with
  | bool b ht => cases hq <;> simp_all [argV]
  | int m ht hw => cases hq <;> simp_all [argV]
  | str m ht hs => cases hq <;> simp_all [argV]
  | slice rows ht hm ho => simp [ht] at hf
  | @struct _ fs ps ht hpl ho => simp only [argV, ht, Value.agg.injEq] at h; simpa using h
  | @array _ k e ps ht hpl ho => simp only [argV, ht, Value.agg.injEq] at h; simpa using h

theorem flatten_inj : ∀ (ps qs : List (List Value)), ps.length = qs.length → (∀ (i : Nat) (p q : List Value), ps[i]? = some p → qs[i]? = some q → p.length = q.length) → (ps.flatten = qs.flatten ↔ ps = qs)
  | [], [], _, _ => by simp
  | [], _ :: _, h, _ => by simp at h
  | _ :: _, [], h, _ => by simp at h
  | p :: ps, q :: qs, h, hl => by
    have h0 := hl 0 p q (by simp) (by simp)
    have ih := flatten_inj ps qs (by simpa using h) (fun i p q hp hq => hl (i + 1) p q (by simpa using hp) (by simpa using hq))
    simp only [List.flatten_cons, List.cons.injEq]
    rw [← ih]
    exact ⟨fun e => List.append_inj e h0, fun ⟨e1, e2⟩ => by rw [e1, e2]⟩

open Classical in
/-- == of flat values -/
theorem eq_flat : ∀ (n d : Nat) (t : TypeId) (p q : List Value), flatT P n t = true → n ≤ d → TOk P t p → TOk P t q → pureRun P (Op.equalIn d t (argV P t p) (argV P t q)) = some (decide (p = q))
  | 0, _, _, _, _, h, _, _, _ => by simp [flatT] at h
  | n + 1, 0, _, _, _, _, h, _, _ => by omega
  | n + 1, d + 1, t, p, q, hf, hd, hp, hq => by
    have hf0 := hf
    have hinj := argV_inj hf hp hq
    have hlp := flat_len _ _ _ hf hp
    have hlq := flat_len _ _ _ hf hq
    simp only [flatT] at hf
    unfold Op.equalIn
    cases hp with
    | bool b ht =>
      cases hq with
      | bool c _ =>
        rw [pureRun_bind, pr_underlying ht]
        simp only [Option.bind_some, argV, ht, List.headD_cons, pr_pure]
        congr 1
        rw [Bool.eq_iff_iff]; simp
      | _ => simp_all
    | @int _ k m ht hw =>
      cases hq with
      | @int _ k' c ht' _ =>
        rw [ht] at ht'; simp at ht'; subst ht'
        rw [pureRun_bind, pr_underlying ht]
        simp only [Option.bind_some, argV, ht, List.headD_cons, if_true, pr_pure]
        congr 1
        rw [Bool.eq_iff_iff]; simp
      | _ => simp_all
    | str s ht hs =>
      cases hq with
      | str c _ _ =>
        rw [pureRun_bind, pr_underlying ht]
        simp only [Option.bind_some, argV, ht, List.headD_cons, pr_pure]
        congr 1
        rw [Bool.eq_iff_iff, beq_bytes]; simp
      | _ => simp_all
    | slice rows ht hm ho => simp [ht] at hf
    | @struct _ fs ps ht hpl ho =>
      cases hq with
      | @struct _ fs' qs ht' hql hoq =>
        rw [ht] at ht'; simp at ht'; subst ht'
        simp only [ht, Bool.and_eq_true, beq_iff_eq, List.all_eq_true, Bool.not_eq_true', bne_iff_ne, ne_eq] at hf
        obtain ⟨⟨hst, hc⟩, hfs⟩ := hf
        have okp := fun i f r (hi : fs.toList[i]? = some f) hr => ho i f r (by simpa using hi) hr
        have okq := fun i f r (hi : fs.toList[i]? = some f) hr => hoq i f r (by simpa using hi) hr
        have lp := fun i f r (hi : fs.toList[i]? = some f) hr => flat_len n f.type r (hfs f (List.mem_of_getElem? hi)).2 (okp i f r hi hr)
        have lq := fun i f r (hi : fs.toList[i]? = some f) hr => flat_len n f.type r (hfs f (List.mem_of_getElem? hi)).2 (okq i f r hi hr)
        have pp := contig_part fs.toList ps 0 _ hc (by simpa using hpl) lp
        have pq := contig_part fs.toList qs 0 _ hc (by simpa using hql) lq
        rw [pureRun_bind, pr_underlying ht]
        simp only [Option.bind_some, argV, ht]
        rw [pureRun_bind]
        show (Option.bind (some P) fun p => pureRun P (if p.stoodInHeld t = true then _ else _)) = _
        simp only [Option.bind_some, hst, Bool.false_eq_true, if_false]
        rw [← Array.forIn_toList]
        have key : ∀ (k : Nat) (fl : List Field) (pl ql : List (List Value)), pl.length = fl.length → ql.length = fl.length → fl = fs.toList.drop k → pl = ps.drop k → ql = qs.drop k →
            pureRun P (do
              let r ← forIn fl ((none, ()) : Option Bool × Unit) (fun f (_ : Option Bool × Unit) =>
                if f.name ≠ "_" then do
                  let a ← part f.type ps.flatten.toArray f.offset
                  let b ← part f.type qs.flatten.toArray f.offset
                  let r ← Op.equalIn d f.type a b
                  if (!r) = true then pure (ForInStep.done (some false, ())) else pure (ForInStep.yield (none, ()))
                else pure (ForInStep.yield (none, ())))
              match r.fst with
              | some b => pure b
              | none => pure true) = some (decide (pl = ql)) := by
          intro k fl
          induction fl generalizing k with
          | nil =>
            intro pl ql h1 h2 _ _ _
            have e1 : pl = [] := List.eq_nil_of_length_eq_zero (by simpa using h1)
            have e2 : ql = [] := List.eq_nil_of_length_eq_zero (by simpa using h2)
            subst e1; subst e2
            rfl
          | cons f fl ih =>
            intro pl ql h1 h2 e1 e2 e3
            cases pl with
            | nil => simp at h1
            | cons a pl =>
            cases ql with
            | nil => simp at h2
            | cons b ql =>
            have hfk : fs.toList[k]? = some f := by
              have := congrArg (·[0]?) e1; simpa using this.symm
            have hpk : ps[k]? = some a := by
              have := congrArg (·[0]?) e2; simpa using this.symm
            have hqk : qs[k]? = some b := by
              have := congrArg (·[0]?) e3; simpa using this.symm
            obtain ⟨hname, hft⟩ := hfs f (List.mem_of_getElem? hfk)
            have ih := ih (k + 1) pl ql (by simpa using h1) (by simpa using h2) (by rw [← List.drop_drop, ← e1]; simp) (by rw [← List.drop_drop, ← e2]; simp) (by rw [← List.drop_drop, ← e3]; simp)
            have g1 := pr_part (cs := ps.flatten.toArray) (off := f.offset) hft (okp k f a hfk hpk) (by simpa using (pp k f a hfk hpk).2)
            have g2 := pr_part (cs := qs.flatten.toArray) (off := f.offset) hft (okq k f b hfk hqk) (by simpa using (pq k f b hfk hqk).2)
            have g3 := eq_flat n d f.type a b hft (by omega) (okp k f a hfk hpk) (okq k f b hfk hqk)
            rw [List.forIn_cons]
            simp only [hname, not_false_eq_true, ne_eq, if_true, pureRun_bind, g1, g2, g3, Option.bind_some]
            by_cases hab : a = b
            · subst hab
              simp only [decide_true, Bool.not_true, Bool.false_eq_true, if_false, pr_pure, Option.bind_some]
              rw [pureRun_bind] at ih
              simp only [List.cons.injEq, true_and]
              exact ih
            · simp only [hab, decide_false, Bool.not_false, if_true, pr_pure, Option.bind_some, List.cons.injEq, false_and]
        have := key 0 fs.toList ps qs (by simpa using hpl) (by simpa using hql) rfl rfl rfl
        have hfi := flatten_inj ps qs (by omega) (fun i r u hr hu => by
          have hi : i < fs.toList.length := by have := lt_of_get hr; simp only [Array.length_toList]; omega
          rw [lp i _ r (List.getElem?_eq_getElem hi) hr, lq i _ u (List.getElem?_eq_getElem hi) hu])
        simp only [hfi]
        refine Eq.trans ?_ this
        congr 1
        congr 1
        funext r
        rcases r with ⟨_ | _, _⟩ <;> rfl
      | _ => simp_all
    | @array _ k e ps ht hpl ho =>
      cases hq with
      | @array _ k' e' qs ht' hql hoq =>
        rw [ht] at ht'; simp at ht'; obtain ⟨rfl, rfl⟩ := ht'
        simp only [ht, Bool.and_eq_true, decide_eq_true_eq] at hf
        obtain ⟨hc, hft⟩ := hf
        have lp := fun i r (hr : ps[i]? = some r) => flat_len n e r hft (ho r (List.mem_of_getElem? hr))
        have lq := fun i r (hr : qs[i]? = some r) => flat_len n e r hft (hoq r (List.mem_of_getElem? hr))
        have chunk : ∀ (l : List (List Value)) (c : Nat), (∀ (i : Nat) (r : List Value), l[i]? = some r → r.length = c) → ∀ (i : Nat) (r : List Value), l[i]? = some r → (l.flatten.drop (i * c)).take c = r := by
          intro l c
          induction l with
          | nil => intro _ i r h; simp at h
          | cons x xs ih =>
            intro hl i r hr
            have h0 := hl 0 x (by simp)
            cases i with
            | zero => simp at hr; subst hr; rw [Nat.zero_mul, List.drop_zero, List.flatten_cons, ← h0, List.take_left']; rfl
            | succ i =>
              have := ih (fun i r h => hl (i + 1) r (by simpa using h)) i r (by simpa using hr)
              rw [← this, List.flatten_cons, show (i + 1) * c = x.length + i * c by rw [Nat.succ_mul, h0]; omega, ← List.drop_drop, List.drop_left']
              rfl
        rw [pureRun_bind, pr_underlying ht]
        simp only [Option.bind_some, argV, ht]
        rw [pureRun_bind]
        have hse : k = 0 ∨ pureRun P (sizeOf e) = some (P.cellsOf e) := by
          cases n with
          | zero => simp [flatT] at hft
          | succ n =>
            cases hu : P.underlying e with
            | none => simp [flatT, hu] at hft
            | some dd => exact .inr (pr_sizeOf hu)
        have hse : pureRun P (sizeOf e) = some (P.cellsOf e) := by
          cases n with
          | zero => simp [flatT] at hft
          | succ n =>
            cases hu : P.underlying e with
            | none => simp [flatT, hu] at hft
            | some dd => exact pr_sizeOf hu
        rw [hse]
        simp only [Option.bind_some]
        rw [Std.Legacy.Range.forIn_eq_forIn_range']
        have key : ∀ (m j : Nat) (pl ql : List (List Value)), pl.length = m → ql.length = m → pl = ps.drop j → ql = qs.drop j →
            pureRun P (do
              let r ← forIn (List.range' j m) ((none, ()) : Option Bool × Unit) (fun i (_ : Option Bool × Unit) => do
                  let a ← part e ps.flatten.toArray (i * P.cellsOf e)
                  let b ← part e qs.flatten.toArray (i * P.cellsOf e)
                  let r ← Op.equalIn d e a b
                  if (!r) = true then pure (ForInStep.done (some false, ())) else pure (ForInStep.yield (none, ())))
              match r.fst with
              | some b => pure b
              | none => pure true) = some (decide (pl = ql)) := by
          intro m
          induction m with
          | zero =>
            intro j pl ql h1 h2 _ _
            have e1 : pl = [] := List.eq_nil_of_length_eq_zero (by simpa using h1)
            have e2 : ql = [] := List.eq_nil_of_length_eq_zero (by simpa using h2)
            subst e1; subst e2
            rfl
          | succ m ih =>
            intro j pl ql h1 h2 e2 e3
            cases pl with
            | nil => simp at h1
            | cons a pl =>
            cases ql with
            | nil => simp at h2
            | cons b ql =>
            have hpk : ps[j]? = some a := by
              have := congrArg (·[0]?) e2; simpa using this.symm
            have hqk : qs[j]? = some b := by
              have := congrArg (·[0]?) e3; simpa using this.symm
            have ih := ih (j + 1) pl ql (by simpa using h1) (by simpa using h2) (by rw [← List.drop_drop, ← e2]; simp) (by rw [← List.drop_drop, ← e3]; simp)
            have g1 := pr_part (cs := ps.flatten.toArray) (off := j * P.cellsOf e) hft (ho a (List.mem_of_getElem? hpk)) (by simpa using chunk ps _ lp j a hpk)
            have g2 := pr_part (cs := qs.flatten.toArray) (off := j * P.cellsOf e) hft (hoq b (List.mem_of_getElem? hqk)) (by simpa using chunk qs _ lq j b hqk)
            have g3 := eq_flat n d e a b hft (by omega) (ho a (List.mem_of_getElem? hpk)) (hoq b (List.mem_of_getElem? hqk))
            rw [List.range'_succ, List.forIn_cons]
            simp only [pureRun_bind, g1, g2, g3, Option.bind_some]
            by_cases hab : a = b
            · subst hab
              simp only [decide_true, Bool.not_true, Bool.false_eq_true, if_false, pr_pure, Option.bind_some]
              rw [pureRun_bind] at ih
              simp only [List.cons.injEq, true_and]
              exact ih
            · simp only [hab, decide_false, Bool.not_false, if_true, pr_pure, Option.bind_some, List.cons.injEq, false_and]
        have := key k 0 ps qs hpl hql rfl rfl
        have hfi := flatten_inj ps qs (by omega) (fun i r u hr hu => by rw [lp i _ hr, lq i _ hu])
        simp only [hfi]
        have hsz : (({ start := 0, stop := k, step := 1, step_pos := by omega } : Std.Legacy.Range)).size = k := by simp [Std.Legacy.Range.size]
        refine Eq.trans ?_ this
        rw [hsz]
        congr 1
        congr 1
        funext r
        rcases r with ⟨_ | _, _⟩ <;> rfl
      | _ => simp_all

end
end Go.Am

end
section
namespace Go.Am

section
variable {P : Program} {t : TypeId} {ox oy : Operand} {k : IntKind} {a b : Int}

theorem bcase_true {R : Type} {x y : Option R} : bcase (.bool true) x y = x := rfl
theorem bcase_false {R : Type} {x y : Option R} : bcase (.bool false) x y = y := rfl
theorem bcase_if {R : Type} {x y : Option R} (c : Bool) : bcase (.bool c) x y = if c = true then x else y := by cases c <;> rfl

theorem bin_run {op : BinOp} {x y v : Value} (hx : plain x = true) (hy : plain y = true) (hg : pureRun P (eqGuard op t ox oy x y) = some ()) (hb : pureRun P (binOp op t x y) = some v) (hv : plain v = true) :
    aBin P op t ox oy x y = some v := by
  unfold aBin
  rw [if_pos ⟨hx, hy⟩, pureRun_bind, hg]
  simp only [Option.bind_some, hb, hv, if_true]

theorem guard_int {op : BinOp} {j : IntKind} {c : Int} : pureRun P (eqGuard op t ox oy (.int k a) (.int j c)) = some () := by
  unfold eqGuard; cases op <;> rfl

theorem bin_add : aBin P .add t ox oy (.int k a) (.int k b) = some (.int k (k.wrap (a + b))) := bin_run rfl rfl guard_int (by simp [binOp, Op.intArith, pr_pure]) rfl
theorem bin_sub : aBin P .sub t ox oy (.int k a) (.int k b) = some (.int k (k.wrap (a - b))) := bin_run rfl rfl guard_int (by simp [binOp, Op.intArith, pr_pure]) rfl
theorem bin_mul : aBin P .mul t ox oy (.int k a) (.int k b) = some (.int k (k.wrap (a * b))) := bin_run rfl rfl guard_int (by simp [binOp, Op.intArith, pr_pure]) rfl
theorem bin_quo (h : b ≠ 0) : aBin P .quo t ox oy (.int k a) (.int k b) = some (.int k (k.wrap (a.tdiv b))) := bin_run rfl rfl guard_int (by simp [binOp, Op.intDiv, h, pr_pure]) rfl
theorem bin_rem (h : b ≠ 0) : aBin P .rem t ox oy (.int k a) (.int k b) = some (.int k (a.tmod b)) := bin_run rfl rfl guard_int (by simp [binOp, Op.intDiv, h, pr_pure]) rfl
theorem bin_eql : aBin P .eql t ox oy (.int k a) (.int k b) = some (.bool (decide (a = b))) := bin_run rfl rfl guard_int (by simp [binOp, Op.intCmp, pr_pure]; rfl) rfl
theorem bin_neq : aBin P .neq t ox oy (.int k a) (.int k b) = some (.bool (!decide (a = b))) := bin_run rfl rfl guard_int (by simp [binOp, Op.intCmp, pr_pure]; rfl) rfl
theorem bin_lss : aBin P .lss t ox oy (.int k a) (.int k b) = some (.bool (decide (a < b))) := bin_run rfl rfl guard_int (by simp [binOp, Op.intCmp, pr_pure]) rfl
theorem bin_leq : aBin P .leq t ox oy (.int k a) (.int k b) = some (.bool (decide (a ≤ b))) := bin_run rfl rfl guard_int (by simp [binOp, Op.intCmp, pr_pure]) rfl
theorem bin_gtr : aBin P .gtr t ox oy (.int k a) (.int k b) = some (.bool (decide (b < a))) := bin_run rfl rfl guard_int (by simp [binOp, Op.intCmp, pr_pure]) rfl
theorem bin_geq : aBin P .geq t ox oy (.int k a) (.int k b) = some (.bool (decide (b ≤ a))) := bin_run rfl rfl guard_int (by simp [binOp, Op.intCmp, pr_pure]) rfl

theorem un_not {c : Bool} : aUn P .not (.bool c) = some (.bool (!c)) := by
  unfold aUn; rfl

theorem pick_bool {c : Bool} {x y : Value} : aPick (.bool c) x y = some (if c = true then x else y) := by cases c <;> rfl

/-! ### Sets of bits -/

theorem bin_or {x y : Nat} (hx : x < 2 ^ 64) (hy : y < 2 ^ 64) : aBin P .or t ox oy (.int .u64 x) (.int .u64 y) = some (.int .u64 ((x ||| y : Nat) : Int)) := by
  refine bin_run rfl rfl guard_int ?_ rfl
  show some (Value.int .u64 (IntKind.u64.wrap ((BitVec.ofInt 64 (x : Int) ||| BitVec.ofInt 64 (y : Int)).toNat : Int))) = _
  rw [IntKind.wrap_u64, BitVec.toNat_or, BitVec.toNat_ofInt, BitVec.toNat_ofInt]
  have h1 : ((x : Int) % ((2 ^ 64 : Nat) : Int)).toNat = x := by omega
  have h2 : ((y : Int) % ((2 ^ 64 : Nat) : Int)).toNat = y := by omega
  rw [h1, h2]
  have := Nat.or_lt_two_pow hx hy
  congr 2
  omega

theorem bin_and {x y : Nat} (hx : x < 2 ^ 64) (hy : y < 2 ^ 64) : aBin P .and t ox oy (.int .u64 x) (.int .u64 y) = some (.int .u64 ((x &&& y : Nat) : Int)) := by
  refine bin_run rfl rfl guard_int ?_ rfl
  show some (Value.int .u64 (IntKind.u64.wrap ((BitVec.ofInt 64 (x : Int) &&& BitVec.ofInt 64 (y : Int)).toNat : Int))) = _
  rw [IntKind.wrap_u64, BitVec.toNat_and, BitVec.toNat_ofInt, BitVec.toNat_ofInt]
  have h1 : ((x : Int) % ((2 ^ 64 : Nat) : Int)).toNat = x := by omega
  have h2 : ((y : Int) % ((2 ^ 64 : Nat) : Int)).toNat = y := by omega
  rw [h1, h2]
  have : x &&& y ≤ x := Nat.and_le_left
  congr 2
  omega

/-- what is in x and not in y -/
def lessBits (x y : Nat) : Nat := x &&& (2 ^ 64 - 1 - y)

theorem bin_andNot {x y : Nat} (hx : x < 2 ^ 64) (hy : y < 2 ^ 64) : aBin P .andNot t ox oy (.int .u64 x) (.int .u64 y) = some (.int .u64 ((lessBits x y : Nat) : Int)) := by
  refine bin_run rfl rfl guard_int ?_ rfl
  show some (Value.int .u64 (IntKind.u64.wrap ((BitVec.ofInt 64 (x : Int) &&& ~~~BitVec.ofInt 64 (y : Int)).toNat : Int))) = _
  rw [IntKind.wrap_u64, BitVec.toNat_and, BitVec.toNat_not, BitVec.toNat_ofInt, BitVec.toNat_ofInt]
  have h1 : ((x : Int) % ((2 ^ 64 : Nat) : Int)).toNat = x := by omega
  have h2 : ((y : Int) % ((2 ^ 64 : Nat) : Int)).toNat = y := by omega
  rw [h1, h2]
  have : x &&& (2 ^ 64 - 1 - y) ≤ x := Nat.and_le_left
  unfold lessBits
  congr 2
  omega

theorem lessBits_lt {x y : Nat} (hx : x < 2 ^ 64) : lessBits x y < 2 ^ 64 := Nat.lt_of_le_of_lt Nat.and_le_left hx

theorem lessBits_bit {x y : Nat} (hx : x < 2 ^ 64) (hy : y < 2 ^ 64) (i : Nat) : (lessBits x y).testBit i = (x.testBit i && !y.testBit i) := by
  unfold lessBits
  rw [Nat.testBit_and]
  by_cases hi : i < 64
  · have : (2 ^ 64 - 1 - y) = 2 ^ 64 - (y + 1) := by omega
    rw [this, Nat.testBit_two_pow_sub_succ hy]
    simp [hi]
  · have : x.testBit i = false := Nat.testBit_lt_two_pow (Nat.lt_of_lt_of_le hx (Nat.pow_le_pow_right (by decide) (by omega)))
    simp [this]

theorem lessBits_zero {x y : Nat} (hx : x < 2 ^ 64) (hy : y < 2 ^ 64) : lessBits x y = 0 ↔ ∀ i, x.testBit i = true → y.testBit i = true := by
  constructor
  · intro h i hi
    have := lessBits_bit hx hy i
    rw [h, hi] at this
    simpa using this
  · intro h
    apply Nat.eq_of_testBit_eq
    intro i
    rw [lessBits_bit hx hy i]
    cases hxi : x.testBit i with
    | false => simp
    | true => simp [h i hxi]

theorem bin_bit {i : Nat} {j : IntKind} (hi : i < 64) : aBin P .shl t ox oy (.int .u64 1) (.int j (i : Int)) = some (.int .u64 ((2 ^ i : Nat) : Int)) := by
  refine bin_run rfl rfl guard_int ?_ rfl
  have h0 : ¬ ((i : Int) < 0) := by omega
  have hb : IntKind.u64.bits = 64 := rfl
  simp only [binOp, Op.shift, h0, if_false, pr_pure]
  rw [IntKind.wrap_u64, Int.toNat_natCast, hb, Nat.min_eq_left (by omega)]
  have h1 : (2 : Nat) ^ i < 2 ^ 64 := Nat.pow_lt_pow_right (by decide) hi
  have h2 : (2 : Int) ^ i = ((2 ^ i : Nat) : Int) := by simp
  rw [h2, Int.one_mul]
  generalize 2 ^ i = m at h1
  congr 2
  omega

theorem bin_shr {x i : Nat} {j : IntKind} (hi : i < 64) : aBin P .shr t ox oy (.int .u64 x) (.int j (i : Int)) = some (.int .u64 ((x >>> i : Nat) : Int)) := by
  refine bin_run rfl rfl guard_int ?_ rfl
  have h0 : ¬ ((i : Int) < 0) := by omega
  have hb : IntKind.u64.bits = 64 := rfl
  simp only [binOp, Op.shift, h0, if_false, pr_pure]
  rw [Int.toNat_natCast, hb, Nat.min_eq_left (by omega), Nat.shiftRight_eq_div_pow]
  have h2 : (2 : Int) ^ i = ((2 ^ i : Nat) : Int) := by simp
  rw [h2, Int.fdiv_eq_ediv_of_nonneg _ (Int.natCast_nonneg _), Int.natCast_ediv]

/-! ### Flat values -/

theorem flat_plain : ∀ (n : Nat) (t : TypeId) (l : List Value), flatT P n t = true → TOk P t l → plainL l = true
  | 0, _, _, h, _ => by simp [flatT] at h
  | n + 1, t, l, h, hl => by
    have flat : ∀ ps : List (List Value), (∀ p ∈ ps, plainL p = true) → plainL ps.flatten = true := by
      intro ps
      have app : ∀ a b : List Value, plainL a = true → plainL b = true → plainL (a ++ b) = true := by
        intro a b ha hb
        induction a with
        | nil => exact hb
        | cons x xs ih =>
          simp only [plainL, Bool.and_eq_true] at ha
          simp only [List.cons_append, plainL, ha.1, ih ha.2, Bool.and_self]
      induction ps with
      | nil => intro _; rfl
      | cons p ps ih => intro hp; exact app p ps.flatten (hp p (by simp)) (ih (fun q hq => hp q (by simp [hq])))
    simp only [flatT] at h
    cases hl with
    | bool b ht => rfl
    | int m ht hw => rfl
    | str s ht hs => rfl
    | slice rows ht hm ho => simp [ht] at h
    | @struct _ fs ps ht hpl ho =>
      simp only [ht, Bool.and_eq_true, beq_iff_eq, List.all_eq_true] at h
      refine flat ps (fun p hp => ?_)
      obtain ⟨i, hi⟩ := List.getElem?_of_mem hp
      have hlt : i < fs.toList.length := by have := lt_of_get hi; simp only [Array.length_toList]; omega
      exact flat_plain n fs.toList[i].type p (h.2 _ (List.getElem_mem hlt)).2 (ho i _ p (by rw [← Array.getElem?_toList]; exact List.getElem?_eq_getElem hlt) hi)
    | @array _ c e ps ht hpl ho =>
      simp only [ht, Bool.and_eq_true, decide_eq_true_eq] at h
      exact flat ps (fun p hp => flat_plain n e p h.2 (ho p hp))

/-- a flat struct or array, with what == asks of its type -/
structure FlatAgg (P : Program) (t : TypeId) : Prop where
  flat : flatT P 12 t = true
  guard : P.eqGuardType P.depth t = false
  agg : (match P.underlying t with | some (.struct _) | some (.array _ _) => true | _ => false) = true

theorem FlatAgg.argV (h : FlatAgg P t) (l : List Value) : argV P t l = .agg l.toArray := by
  have := h.agg
  unfold Am.argV
  split at this <;> simp_all

theorem guard_agg {op : BinOp} {x y : Array Value} (h : P.eqGuardType P.depth t = false) : pureRun P (eqGuard op t ox oy (.agg x) (.agg y)) = some () := by
  have key : pureRun P (do
      if !(← program).eqGuardType (← program).depth t then return
      if ← Op.eqGuardIn Op.maxDepth t (.agg x) (.agg y) then unsupported (.noEntry "binop/eql: two nil values of an interface type with methods, in a part of a struct or an array")) = some () := by
    rw [pureRun_bind]
    show (Option.bind (some P) _) = _
    simp only [Option.bind_some]
    rw [pureRun_bind]
    show (Option.bind (some P) _) = _
    simp only [Option.bind_some, h, Bool.not_false, if_true]
    rfl
  unfold eqGuard
  cases op <;> first | rfl | exact key

open Classical in
theorem bin_eql_flat (h : FlatAgg P t) {p q : List Value} (hp : TOk P t p) (hq : TOk P t q) : aBin P .eql t ox oy (.agg p.toArray) (.agg q.toArray) = some (.bool (decide (p = q))) := by
  have he := eq_flat 12 10000 t p q h.flat (by decide) hp hq
  rw [h.argV, h.argV] at he
  refine bin_run (by show plainA _ = true; exact flat_plain 12 t p h.flat hp) (by show plainA _ = true; exact flat_plain 12 t q h.flat hq) (guard_agg h.guard) ?_ rfl
  show pureRun P (do pure (Value.bool (← Op.equal t (.agg p.toArray) (.agg q.toArray)))) = _
  rw [pureRun_bind]
  show (pureRun P (Op.equalIn 10000 t _ _)).bind _ = _
  rw [he]; rfl

open Classical in
theorem bin_neq_flat (h : FlatAgg P t) {p q : List Value} (hp : TOk P t p) (hq : TOk P t q) : aBin P .neq t ox oy (.agg p.toArray) (.agg q.toArray) = some (.bool (!decide (p = q))) := by
  have he := eq_flat 12 10000 t p q h.flat (by decide) hp hq
  rw [h.argV, h.argV] at he
  refine bin_run (by show plainA _ = true; exact flat_plain 12 t p h.flat hp) (by show plainA _ = true; exact flat_plain 12 t q h.flat hq) (guard_agg h.guard) ?_ rfl
  show pureRun P (do pure (Value.bool (!(← Op.equal t (.agg p.toArray) (.agg q.toArray))))) = _
  rw [pureRun_bind]
  show (pureRun P (Op.equalIn 10000 t _ _)).bind _ = _
  rw [he]; rfl

end
end Go.Am

end
section
namespace Go.Am

section
variable {P : Program} {H l : List Blk} {e : Option Nat}

theorem get_app (k : Nat) : (H ++ l)[H.length + k]? = l[k]? := by
  rw [List.getElem?_append_right (by omega)]; congr 1; omega
theorem get_app0 : (H ++ l)[H.length]? = l[0]? := by simpa using get_app (H := H) (l := l) 0
theorem set_app (k : Nat) (x : Blk) : (H ++ l).set (H.length + k) x = H ++ l.set k x := by
  rw [List.set_append_right _ _ (by omega)]; congr 2; omega
theorem set_app0 (x : Blk) : (H ++ l).set H.length x = H ++ l.set 0 x := by simpa using set_app (H := H) (l := l) 0 x
theorem cellAt_app (k off : Nat) : cellAt (H ++ l) (H.length + k) off = cellAt l k off := by simp only [cellAt, get_app]
theorem cellAt_app0 (off : Nat) : cellAt (H ++ l) H.length off = cellAt l 0 off := by simp only [cellAt, get_app0]
theorem cellsAt_app (k off n : Nat) : cellsAt (H ++ l) (H.length + k) off n = cellsAt l k off n := by simp only [cellsAt, get_app]
theorem cellsAt_app0 (off n : Nat) : cellsAt (H ++ l) H.length off n = cellsAt l 0 off n := by simp only [cellsAt, get_app0]

theorem storeL_app (k off : Nat) (vs : List Value) : storeL ⟨H ++ l, e⟩ (H.length + k) off vs = (storeL ⟨l, none⟩ k off vs).map fun s => ⟨H ++ s.H, escOf e (H.length + k) (lrefs vs)⟩ := by
  unfold storeL
  simp only [get_app]
  split
  · split
    · simp only [Option.map_some, set_app]
    · rfl
  · rfl
theorem storeL_app0 (off : Nat) (vs : List Value) : storeL ⟨H ++ l, e⟩ H.length off vs = (storeL ⟨l, none⟩ 0 off vs).map fun s => ⟨H ++ s.H, escOf e H.length (lrefs vs)⟩ := by
  simpa using storeL_app (H := H) (l := l) (e := e) 0 off vs

theorem newBlk_app (k : Blk) : newBlk ⟨H ++ l, e⟩ k = ⟨H ++ (l ++ [k]), e⟩ := by simp [newBlk]
theorem newBlk_bare (k : Blk) : newBlk ⟨H, e⟩ k = ⟨H ++ [k], e⟩ := rfl
theorem newPtr_def (st : AS) : newPtr st = .pointer (some ⟨st.H.length, 0, none⟩) := rfl

/-- neither a slice nor a struct -/
def noSl : Value → Bool
  | .slice _ _ _ | .agg _ => false
  | _ => true

theorem frz_noSl (n0 k : Nat) (v : Value) (H : List Blk) (h : noSl v = true) : frz P n0 k v H = (v, H) := by
  cases k with
  | zero => rfl
  | succ k => cases v <;> simp_all [frz, noSl]

theorem frzL_noSl (n0 k : Nat) : ∀ (l : List Value) (H : List Blk), l.all noSl = true → frzL (frz P n0 k) l H = (l, H)
  | [], _, _ => rfl
  | v :: vs, H, h => by
    simp only [List.all_cons, Bool.and_eq_true] at h
    simp only [frzL, frz_noSl n0 k v H h.1, frzL_noSl n0 k vs H h.2]

theorem frz_agg (n0 k : Nat) (l : List Value) (H : List Blk) (h : l.all noSl = true) : frz P n0 (k + 1) (.agg l.toArray) H = (.agg l.toArray, H) := by
  simp only [frz, frzL_noSl n0 k l H h]

/-- flat: no slice, or a struct without one -/
def flatV : Value → Bool
  | .agg cs => cs.toList.all noSl
  | .slice _ _ _ => false
  | _ => true

theorem frz_flatV (n0 k : Nat) (v : Value) (H : List Blk) (h : flatV v = true) : frz P n0 k v H = (v, H) := by
  cases k with
  | zero => rfl
  | succ k =>
    cases v with
    | agg cs =>
      have := frz_agg (P := P) n0 k cs.toList H h
      simpa using this
    | slice _ _ _ => simp [flatV] at h
    | _ => simp [frz]

theorem frzL_flatV (n0 k : Nat) : ∀ (l : List Value) (H : List Blk), l.all flatV = true → frzL (frz P n0 k) l H = (l, H)
  | [], _, _ => rfl
  | v :: vs, H, h => by
    simp only [List.all_cons, Bool.and_eq_true] at h
    simp only [frzL, frz_flatV n0 k v H h.1, frzL_flatV n0 k vs H h.2]

/-- the end of a call that leaves nothing behind -/
theorem fin_flat {vs : List Value} (hf : vs.all flatV = true) (hr : lrefs vs = []) : fin P false H.length vs ⟨H ++ l, none⟩ = some (oneOf vs, H, none) := by
  unfold fin endFrz
  simp only [Bool.false_eq_true, if_false, frzL_flatV _ _ _ _ hf, gc_none hr, escBelow]

theorem fin_flat' {vs : List Value} (hf : vs.all flatV = true) (hr : lrefs vs = []) : fin P false H.length vs ⟨H, none⟩ = some (oneOf vs, H, none) := by
  simpa using fin_flat (P := P) (H := H) (l := []) hf hr

theorem oneOf_one (v : Value) : oneOf [v] = v := rfl

theorem gc_same {vs : List Value} {H : List Blk} (hl : ∀ r ∈ lrefs vs, r < H.length) : gc H.length vs ⟨H, none⟩ = (vs, ⟨H, none⟩) := by
  rw [gc_low hl (Nat.le_refl _)]
  simp

theorem reach_one {H : List Blk} {n : Nat} {cs : List Value} {t : TypeId} {o : Bool} (hb : H[n]? = some (.cells cs t o)) (hc : lrefs cs = []) : ∀ (fuel : Nat) (l : List Nat) (acc : List Nat), l.length < fuel → (∀ r ∈ l, r < n ∨ r = n) → acc = [] ∨ acc = [n] →
    reach H n fuel l acc = if n ∈ l ∨ acc = [n] then [n] else []
  | 0, l, acc, hf, _, _ => by omega
  | fuel + 1, [], acc, _, _, ha => by
    rcases ha with rfl | rfl <;> simp [reach]
  | fuel + 1, r :: rs, acc, hf, hl, ha => by
    have ih := fun acc ha => reach_one hb hc fuel rs acc (by simp at hf; omega) (fun x hx => hl x (by simp [hx])) ha
    simp only [reach]
    rcases hl r (by simp) with hr | rfl
    · rw [if_pos hr, ih acc ha]
      have : ¬ n = r := by omega
      simp [this]
    · rw [if_neg (by omega)]
      rcases ha with rfl | rfl
      · simp only [List.contains_nil, Bool.false_eq_true, if_false, hb, hc, List.nil_append]
        rw [ih [r] (.inr rfl)]
        simp
      · simp only [List.contains_cons, beq_self_eq_true, Bool.true_or, if_true]
        rw [ih [r] (.inr rfl)]
        simp

/-- one new row is led to: it stays, all behind it are struck -/
theorem gc_one {vs cs : List Value} {H G : List Blk} {t : TypeId} {o : Bool} (hl : ∀ r ∈ lrefs vs, r < H.length ∨ r = H.length) (hm : H.length ∈ lrefs vs) (hc : lrefs cs = []) (hn : (lrefs vs).length < 4096) :
    gc H.length vs ⟨H ++ (.cells cs t o :: G), none⟩ = (vs, ⟨H ++ [.cells cs t o], none⟩) := by
  have hb : (H ++ (.cells cs t o :: G))[H.length]? = some (.cells cs t o) := by rw [get_app0']; rfl
  unfold gc
  simp only [escOk, if_true]
  have hrch : reach (H ++ (.cells cs t o :: G)) H.length ((H ++ (.cells cs t o :: G)).length * 64 + 4096) (lrefs vs) [] = [H.length] := by
    rw [reach_one hb hc _ _ _ (by omega) hl (.inl rfl)]
    simp [hm]
  rw [hrch]
  have h1 : closed H.length [H.length] (lrefs vs) = true := by
    unfold closed
    rw [List.all_eq_true]
    intro r hr
    rcases hl r hr with h | h <;> simp [h]
  have hr : ∀ b ∈ lrefs vs, renum H.length [H.length] b = b := by
    intro b hb
    rcases hl b hb with h | h
    · simp [renum, h]
    · subst h; simp [renum, findIx]
  simp only [h1, List.map_cons, List.map_nil, List.all_cons, List.all_nil, Bool.and_true, true_and]
  rw [if_pos]
  · rw [lren_same vs hr]
    have hcs : lren (renum H.length [H.length]) cs = cs := lren_same cs (fun b hb => by rw [hc] at hb; simp at hb)
    simp only [List.getD, hb, Option.getD_some, renBlk, List.take_left', hcs]
  · refine ⟨?_, by simp⟩
    simp [List.getD, hb, closed, blkRefs, hc]
where
  get_app0' {l : List Blk} : (H ++ l)[H.length]? = l[0]? := by rw [List.getElem?_append_right (Nat.le_refl _)]; simp

/-! ### Loops over numbers -/

/-- a loop over numbers: what holds ahead of each round (struck of what nobody needs), and at its end -/
theorem loop_rule {σ : Type} {n0 : Nat} {step : List Value × AS → Option ((List Value × AS) ⊕ (AEx × List Value × AS))} {len : Nat} (S : Nat → σ → List Value × AS) (Ok : Nat → σ → Prop) (Q : AEx × List Value × AS → Prop)
    (h : ∀ i s, i < len → Ok i s → (∃ r, step (S i s) = some (.inr r) ∧ Q r) ∨ (∃ X s', step (S i s) = some (.inl X) ∧ gc n0 X.1 X.2 = S (i + 1) s' ∧ Ok (i + 1) s'))
    (hend : ∀ s, Ok len s → ∃ r, step (S len s) = some (.inr r) ∧ Q r) :
    ∀ (k i : Nat) (s : σ) (X : List Value × AS), i + k = len → Ok i s → gc n0 X.1 X.2 = S i s → ∃ r, loopG n0 step X = some r ∧ Q r
  | 0, i, s, X, hk, ho, hX => by
    have : i = len := by omega
    subst this
    obtain ⟨r, h1, h2⟩ := hend s ho
    refine ⟨r, ?_, h2⟩
    rw [show X = (X.1, X.2) from rfl, loopG_eq, hX, h1]
    rfl
  | k + 1, i, s, X, hk, ho, hX => by
    rcases h i s (by omega) ho with ⟨r, h1, h2⟩ | ⟨Y, s', h1, h2, h3⟩
    · refine ⟨r, ?_, h2⟩
      rw [show X = (X.1, X.2) from rfl, loopG_eq, hX, h1]
      rfl
    · obtain ⟨r, h4, h5⟩ := loop_rule S Ok Q h hend k (i + 1) s' Y (by omega) h3 h2
      refine ⟨r, ?_, h5⟩
      rw [show X = (X.1, X.2) from rfl, loopG_eq, hX, h1]
      exact h4

@[simp] theorem cellV_int (k : IntKind) (n : Int) : cellV (.int k n) = true := rfl
@[simp] theorem cellV_bool (b : Bool) : cellV (.bool b) = true := rfl
@[simp] theorem cellV_string (b : ByteArray) : cellV (.string b) = true := rfl
@[simp] theorem cellV_ptr (a : Option Addr) : cellV (.pointer a) = true := rfl
@[simp] theorem cellV_slice (a : Option Addr) (n c : Nat) : cellV (.slice a n c) = true := rfl
@[simp] theorem cellV_map (a : Option Nat) : cellV (.map a) = true := rfl
@[simp] theorem cellV_func (f : Fn) (a b : Array Value) : cellV (.func f a b) = true := rfl
@[simp] theorem cellV_nilFunc : cellV .nilFunc = true := rfl
@[simp] theorem cellV_tSl (n : Nat) (l : List Value) : cellV (tSl n l) = true := rfl
@[simp] theorem allCells_nil : allCells [] = true := rfl
@[simp] theorem allCells_cons (v : Value) (l : List Value) : allCells (v :: l) = (cellV v && allCells l) := rfl

/-! ### Boxes -/

theorem box_agg {t : TypeId} {cs : List Value} (hc : allCells cs = true) : aBox t (.agg cs.toArray) ⟨H, e⟩ = some (.pointer (some ⟨H.length, 0, none⟩), ⟨H ++ [.cells cs t true], e⟩) := by
  unfold aBox
  have h1 : allCells ((Value.agg cs.toArray).cells).toList = true := hc
  rw [if_pos h1]; rfl

theorem box_one {t : TypeId} {v : Value} (hc : cellV v = true) : aBox t v ⟨H, e⟩ = some (.pointer (some ⟨H.length, 0, none⟩), ⟨H ++ [.cells [v] t true], e⟩) := by
  unfold aBox
  have h0 : v.cells.toList = [v] := by cases v <;> simp_all [cellV, Value.cells]
  rw [h0]
  have h1 : allCells [v] = true := by simp [allCells, hc]
  rw [if_pos h1]; rfl

theorem store_agg {b o n : Nat} {cs : List Value} {st : AS} (hn : cs.length = n) : aStore n st (.pointer (some ⟨b, o, none⟩)) (.agg cs.toArray) = storeL st b o cs := by
  simp only [aStore, Value.cells, hn, if_true]

theorem store_one {b o : Nat} {v : Value} {st : AS} (hc : cellV v = true) : aStore 1 st (.pointer (some ⟨b, o, none⟩)) v = storeL st b o [v] := by
  have h0 : v.cells.toList = [v] := by cases v <;> simp_all [cellV, Value.cells]
  simp [aStore, h0]

theorem load_one {b o : Nat} : aLoad false 1 ⟨H, e⟩ (.pointer (some ⟨b, o, none⟩)) = cellAt H b o := rfl
theorem load_agg {b o n : Nat} : aLoad true n ⟨H, e⟩ (.pointer (some ⟨b, o, none⟩)) = (cellsAt H b o n).map fun l => .agg l.toArray := rfl

@[simp] theorem store_int {b o : Nat} {st : AS} (k : IntKind) (n : Int) : aStore 1 st (.pointer (some ⟨b, o, none⟩)) (.int k n) = storeL st b o [.int k n] := rfl
@[simp] theorem box_int {t : TypeId} (k : IntKind) (n : Int) : aBox t (.int k n) ⟨H, e⟩ = some (.pointer (some ⟨H.length, 0, none⟩), ⟨H ++ [.cells [.int k n] t true], e⟩) := rfl
@[simp] theorem store_bool {b o : Nat} {st : AS} (x : Bool) : aStore 1 st (.pointer (some ⟨b, o, none⟩)) (.bool x) = storeL st b o [.bool x] := rfl
@[simp] theorem box_bool {t : TypeId} (x : Bool) : aBox t (.bool x) ⟨H, e⟩ = some (.pointer (some ⟨H.length, 0, none⟩), ⟨H ++ [.cells [.bool x] t true], e⟩) := rfl
@[simp] theorem store_string {b o : Nat} {st : AS} (x : ByteArray) : aStore 1 st (.pointer (some ⟨b, o, none⟩)) (.string x) = storeL st b o [.string x] := rfl
@[simp] theorem box_string {t : TypeId} (x : ByteArray) : aBox t (.string x) ⟨H, e⟩ = some (.pointer (some ⟨H.length, 0, none⟩), ⟨H ++ [.cells [.string x] t true], e⟩) := rfl
@[simp] theorem store_ptr {b o : Nat} {st : AS} (x : Option Addr) : aStore 1 st (.pointer (some ⟨b, o, none⟩)) (.pointer x) = storeL st b o [.pointer x] := rfl
@[simp] theorem box_ptr {t : TypeId} (x : Option Addr) : aBox t (.pointer x) ⟨H, e⟩ = some (.pointer (some ⟨H.length, 0, none⟩), ⟨H ++ [.cells [.pointer x] t true], e⟩) := rfl
@[simp] theorem store_slice {b o : Nat} {st : AS} (x : Option Addr) (n c : Nat) : aStore 1 st (.pointer (some ⟨b, o, none⟩)) (.slice x n c) = storeL st b o [.slice x n c] := rfl
@[simp] theorem box_slice {t : TypeId} (x : Option Addr) (n c : Nat) : aBox t (.slice x n c) ⟨H, e⟩ = some (.pointer (some ⟨H.length, 0, none⟩), ⟨H ++ [.cells [.slice x n c] t true], e⟩) := rfl
@[simp] theorem store_map {b o : Nat} {st : AS} (x : Option Nat) : aStore 1 st (.pointer (some ⟨b, o, none⟩)) (.map x) = storeL st b o [.map x] := rfl
@[simp] theorem box_map {t : TypeId} (x : Option Nat) : aBox t (.map x) ⟨H, e⟩ = some (.pointer (some ⟨H.length, 0, none⟩), ⟨H ++ [.cells [.map x] t true], e⟩) := rfl
@[simp] theorem store_func {b o : Nat} {st : AS} (f : Fn) (x y : Array Value) : aStore 1 st (.pointer (some ⟨b, o, none⟩)) (.func f x y) = storeL st b o [.func f x y] := rfl
@[simp] theorem box_func {t : TypeId} (f : Fn) (x y : Array Value) : aBox t (.func f x y) ⟨H, e⟩ = some (.pointer (some ⟨H.length, 0, none⟩), ⟨H ++ [.cells [.func f x y] t true], e⟩) := rfl
@[simp] theorem store_tSl {b o : Nat} {st : AS} (n : Nat) (x : List Value) : aStore 1 st (.pointer (some ⟨b, o, none⟩)) (tSl n x) = storeL st b o [tSl n x] := rfl
@[simp] theorem box_tSl {t : TypeId} (n : Nat) (x : List Value) : aBox t (tSl n x) ⟨H, e⟩ = some (.pointer (some ⟨H.length, 0, none⟩), ⟨H ++ [.cells [tSl n x] t true], e⟩) := rfl
@[simp] theorem store_nilFunc {b o : Nat} {st : AS}  : aStore 1 st (.pointer (some ⟨b, o, none⟩)) .nilFunc = storeL st b o [.nilFunc] := rfl
@[simp] theorem box_nilFunc {t : TypeId}  : aBox t .nilFunc ⟨H, e⟩ = some (.pointer (some ⟨H.length, 0, none⟩), ⟨H ++ [.cells [.nilFunc] t true], e⟩) := rfl

theorem store_all {k : Nat} {cs vs : List Value} {t : TypeId} (hk : l[k]? = some (.cells cs t true)) (hl : vs.length = cs.length) (hc : allCells vs = true) : storeL ⟨l, none⟩ k 0 vs = some ⟨l.set k (.cells vs t true), escOf none k (lrefs vs)⟩ := by
  unfold storeL
  simp only [hk]
  rw [if_pos ⟨by omega, hc⟩]
  congr 4
  simp [putCells, ← hl]

theorem putCells_all {cs vs : List Value} (h : vs.length = cs.length) : putCells cs 0 vs = vs := by simp [putCells, h]

theorem escOf_nil {b : Nat} : escOf e b [] = e := rfl
theorem joinEsc_none : joinEsc e none = e := by cases e <;> rfl

@[simp] theorem ext20 (a b : Value) : pureRun P (Instr.extract (.tuple #[a, b]) 0) = some a := rfl
@[simp] theorem ext21 (a b : Value) : pureRun P (Instr.extract (.tuple #[a, b]) 1) = some b := rfl
@[simp] theorem ext30 (a b c : Value) : pureRun P (Instr.extract (.tuple #[a, b, c]) 0) = some a := rfl
@[simp] theorem ext31 (a b c : Value) : pureRun P (Instr.extract (.tuple #[a, b, c]) 1) = some b := rfl
@[simp] theorem ext32 (a b c : Value) : pureRun P (Instr.extract (.tuple #[a, b, c]) 2) = some c := rfl

/-- chunks of one length -/
theorem chunk_get {c : Nat} : ∀ (l : List (List Value)), (∀ r ∈ l, r.length = c) → ∀ (i : Nat) (r : List Value), l[i]? = some r → (l.flatten.drop (i * c)).take c = r
  | [], _, i, r, h => by simp at h
  | x :: xs, hl, i, r, hr => by
    have h0 := hl x (by simp)
    cases i with
    | zero => simp at hr; subst hr; rw [Nat.zero_mul, List.drop_zero, List.flatten_cons, ← h0, List.take_left']; rfl
    | succ i =>
      have := chunk_get xs (fun r h => hl r (by simp [h])) i r (by simpa using hr)
      rw [← this, List.flatten_cons, show (i + 1) * c = x.length + i * c by rw [Nat.succ_mul, h0]; omega, ← List.drop_drop, List.drop_left']
      rfl

theorem chunk_len {c : Nat} : ∀ (l : List (List Value)), (∀ r ∈ l, r.length = c) → l.flatten.length = l.length * c
  | [], _ => by simp
  | x :: xs, hl => by
    have := chunk_len xs (fun r h => hl r (by simp [h]))
    have h0 := hl x (by simp)
    simp only [List.flatten_cons, List.length_append, List.length_cons, this, h0, Nat.succ_mul]
    omega

/-! ### Slices that are read -/

/-- a slice of so many elements, with its cells: it is read, whatever it is -/
inductive Rd (H : List Blk) : Value → Nat → List Value → Prop
  | tree (n : Nat) (cs : List Value) : Rd H (tSl n cs) n cs
  | nil : Rd H (.slice none 0 0) 0 []
  | own {b o n c : Nat} {bs cs : List Value} {t : TypeId} {own : Bool} (hb : H[b]? = some (.cells bs t own)) (ho : o ≤ bs.length) (hc : (bs.drop o).take cs.length = cs) : Rd H (.slice (some ⟨b, o, none⟩) n c) n cs

/-- a place in it -/
def rdPtr (v : Value) (off : Nat) : Value :=
  match v with
  | .iface _ (.tuple row) => tPtr off row
  | .slice (some a) _ _ => .pointer (some ⟨a.block, a.off + off, none⟩)
  | _ => unk

theorem Rd.app {v : Value} {n : Nat} {cs : List Value} (h : Rd H v n cs) : Rd (H ++ l) v n cs := by
  cases h with
  | tree => exact .tree _ _
  | nil => exact .nil
  | own hb ho hc => exact .own (by rw [List.getElem?_append_left (lt_of_get hb)]; exact hb) ho hc

theorem Rd.len {v : Value} {n : Nat} {cs : List Value} (h : Rd H v n cs) {t el : TypeId} (ht : P.underlying t = some (.slice el)) (st : AS) : aLen P t v st = some (.int .i64 n) := by
  cases h with
  | tree => simp only [aLen, ht, tSl, tLen]
  | nil => simp [aLen, ht]
  | own hb ho hc => simp [aLen, ht]

theorem Rd.index {v : Value} {n : Nat} {cs : List Value} (h : Rd H v n cs) {t el : TypeId} {sz : Nat} (ht : P.underlying t = some (.slice el)) (hs : sizeP P el = some sz) {k : IntKind} {i : Int} (h0 : 0 ≤ i) (hi : i < n) :
    aIndexAddr P t v (.int k i) = some (rdPtr v (i.toNat * sz)) := by
  cases h with
  | tree => simp [aIndexAddr, ht, tSl, hs, tIndex, h0, hi, rdPtr]
  | nil => simp at hi; omega
  | own hb ho hc => simp [aIndexAddr, ht, hs, h0, hi, rdPtr, add_none]

theorem Rd.field {v : Value} {n : Nat} {cs : List Value} (h : Rd H v n cs) (hn : 0 < n) {t : TypeId} {fs : Array Field} {f : Nat} {fd : Field} {sz : Nat} (ht : P.underlying t = some (.struct fs)) (hf : fs[f]? = some fd) (hs : sizeP P fd.type = some sz) (hz : sz ≠ 0) {off : Nat} :
    aFieldAddr P t (rdPtr v off) f = some (rdPtr v (off + fd.offset)) := by
  cases h with
  | tree => simp [aFieldAddr, ht, tSl, rdPtr, tPtr, tField, hf, hs, hz]
  | nil => omega
  | own hb ho hc => simp [aFieldAddr, ht, rdPtr, hf, hs, hz, add_none, Nat.add_assoc]

theorem Rd.fieldOf {v : Value} {n : Nat} {cs : List Value} {t : TypeId} {f d : Nat} (h1 : ∀ off row, aFieldAddr P t (tPtr off row) f = some (tPtr (off + d) row)) (h2 : ∀ b o, aFieldAddr P t (.pointer (some ⟨b, o, none⟩)) f = some (.pointer (some ⟨b, o + d, none⟩)))
    (h : Rd H v n cs) (hn : 0 < n) {off : Nat} : aFieldAddr P t (rdPtr v off) f = some (rdPtr v (off + d)) := by
  cases h with
  | tree => exact h1 _ _
  | nil => omega
  | own hb ho hc => simp only [rdPtr, h2, Nat.add_assoc]

theorem Rd.load {v : Value} {n : Nat} {cs : List Value} (h : Rd H v n cs) (hn : 0 < n) {off sz : Nat} (hz : 0 < sz) (ho : off + sz ≤ cs.length) (e : Option Nat) : aLoad true sz ⟨H, e⟩ (rdPtr v off) = some (.agg ((cs.drop off).take sz).toArray) := by
  cases h with
  | tree => simp [aLoad, tSl, rdPtr, tPtr, tLoad, ho]
  | nil => omega
  | @own b o n c bs cs t own hb hoo hc =>
    have hl := congrArg List.length hc
    simp at hl
    simp only [aLoad, rdPtr, if_true, cellsAt, hb]
    rw [if_pos (by omega)]
    simp only [Option.map_some]
    congr 2
    rw [← hc, List.drop_take, List.take_take, List.drop_drop, Nat.min_eq_left (by omega)]

theorem Rd.load1 {v : Value} {n : Nat} {cs : List Value} (h : Rd H v n cs) (hn : 0 < n) {off : Nat} {x : Value} (ho : cs[off]? = some x) (e : Option Nat) : aLoad false 1 ⟨H, e⟩ (rdPtr v off) = some x := by
  cases h with
  | tree => simp [aLoad, tSl, rdPtr, tPtr, tLoad, ho]
  | nil => omega
  | @own b o n c bs cs t own hb hoo hc =>
    simp only [aLoad, rdPtr, Bool.false_eq_true, if_false, cellAt, hb]
    rw [← hc, List.getElem?_take] at ho
    split at ho
    · rw [List.getElem?_drop] at ho; exact ho
    · simp at ho

theorem Rd.src {v : Value} {n size : Nat} {cs : List Value} (h : Rd H v n cs) (hl : cs.length = n * size) (hc : cs.all cellV = true) : srcCells size H v = some (n, cs) := by
  cases h with
  | tree => simp [srcCells, tSl, tSrc, hl, hc]
  | nil => simp [srcCells]
  | @own b o n c bs cs t own hb ho hcs =>
    have hlen := congrArg List.length hcs
    simp at hlen
    simp only [srcCells, cellsAt, hb]
    rw [if_pos (by omega), ← hl, hcs]; rfl

theorem Rd.few {v : Value} {n : Nat} {cs : List Value} (h : Rd H v n cs) (hc : lrefs cs = []) : (vrefs v).length ≤ 1 := by
  cases h <;> simp [hc]

theorem Rd.set {v : Value} {n : Nat} {cs : List Value} (h : Rd H v n cs) {b : Nat} (hv : ∀ r ∈ vrefs v, r ≠ b) (x : Blk) : Rd (H.set b x) v n cs := by
  cases h with
  | tree => exact .tree _ _
  | nil => exact .nil
  | own hb ho hc => exact .own (by rw [List.getElem?_set_ne (Ne.symm (hv _ (by simp)))]; exact hb) ho hc

/-- a row that was there before the call is told as it is; nil as the empty one -/
theorem frz_old {v : Value} {n : Nat} {cs : List Value} (h : Rd H v n cs) (hv : ∀ r ∈ vrefs v, r < H.length) (k : Nat) : frz P H.length (k + 1) v (H ++ l) = (v, H ++ l) ∨ (v = .slice none 0 0 ∧ frz P H.length (k + 1) v (H ++ l) = (tSl 0 [], H ++ l)) := by
  cases h with
  | tree => exact .inl (frz_noSl _ _ _ _ rfl)
  | nil => exact .inr ⟨rfl, by simp [frz]⟩
  | @own b o n c bs cs t own hb ho hcs =>
    refine .inl ?_
    have hb' : (H ++ l)[b]? = some (.cells bs t own) := by rw [List.getElem?_append_left (lt_of_get hb)]; exact hb
    have hlt : ¬ H.length ≤ b := by have := lt_of_get hb; omega
    simp only [frz, hb']
    cases own with
    | false => rfl
    | true =>
      simp only
      split
      · rw [if_neg (by simp [hlt])]
      · rfl

/-- a row that the call made becomes a value of its own -/
theorem frz_new {cs : List Value} {t : TypeId} {sz n c k q : Nat} (hk : l[k]? = some (.cells cs t true)) (hs : sizeP P t = some sz) (hn : n * sz ≤ cs.length) (hc : cs.all noSl = true) :
    frz P H.length (q + 1) (.slice (some ⟨H.length + k, 0, none⟩) n c) (H ++ l) = (tSl n (cs.take (n * sz)), H ++ l.set k .dead) := by
  have hb : (H ++ l)[H.length + k]? = some (.cells cs t true) := by rw [get_app]; exact hk
  simp only [frz, hb, hs]
  rw [if_pos ⟨by omega, by omega⟩]
  rw [frzL_noSl _ _ _ _ (by
    simp only [List.drop_zero, List.all_eq_true] at hc ⊢
    exact fun x hx => hc x (List.mem_of_mem_take hx))]
  simp only [List.drop_zero, set_app]

theorem lrefs_take {cs : List Value} (h : lrefs cs = []) (n : Nat) : lrefs (cs.take n) = [] := by
  have := lrefs_app (cs.take n) (cs.drop n)
  rw [List.take_append_drop, h] at this
  exact (List.append_eq_nil_iff.1 this.symm).1

end
end Go.Am

end
