/- Maps whose keys are flat. -/
import Derived.Test.YtfinilnkempofaaAm22
set_option linter.all false
set_option linter.unusedVariables false
set_option linter.unusedSimpArgs false
set_option linter.unnecessarySimpa false
namespace Go.Am

section
variable {P : Program}

theorem pr_each1 {α : Type} (g : α → PUnit → Sem (ForInStep PUnit)) : ∀ (l : List α), (∀ x ∈ l, pureRun P (g x PUnit.unit) = some (ForInStep.yield PUnit.unit)) → pureRun P (forIn l PUnit.unit g) = some PUnit.unit
  | [], _ => rfl
  | x :: xs, h => by
    rw [List.forIn_cons]
    simp only [pureRun_bind, h x (by simp), Option.bind_some]
    exact pr_each1 g xs (fun y hy => h y (by simp [hy]))

theorem pr_each {α : Type} (g : α → PUnit → Sem (ForInStep PUnit)) (l : List α) (h : ∀ x ∈ l, pureRun P (g x PUnit.unit) = some (ForInStep.yield PUnit.unit)) : pureRun P (do forIn l PUnit.unit g; pure ()) = some () := by
  rw [pureRun_bind, pr_each1 g l h]; rfl

/-- a flat key may be one -/
theorem check_flat (b : Bool) : ∀ (n d : Nat) (t : TypeId) (p : List Value), flatT P n t = true → n ≤ d → TOk P t p → pureRun P (Instr.checkKey b d t (argV P t p)) = some ()
  | 0, _, _, _, h, _, _ => by simp [flatT] at h
  | n + 1, 0, _, _, _, h, _ => by omega
  | n + 1, d + 1, t, p, hf, hd, hp => by
    simp only [flatT] at hf
    unfold Instr.checkKey
    cases hp with
    | bool c ht => rw [pureRun_bind, pr_underlying ht]; simp only [Option.bind_some, argV, ht]; rfl
    | int m ht hw => rw [pureRun_bind, pr_underlying ht]; simp only [Option.bind_some, argV, ht]; rfl
    | str s ht hs => rw [pureRun_bind, pr_underlying ht]; simp only [Option.bind_some, argV, ht]; rfl
    | slice rows ht hm ho => simp [ht] at hf
    | @struct _ fs ps ht hpl ho =>
      simp only [ht, Bool.and_eq_true, beq_iff_eq, List.all_eq_true, Bool.not_eq_true', bne_iff_ne, ne_eq] at hf
      obtain ⟨⟨hst, hc⟩, hfs⟩ := hf
      have okp := fun i f r (hi : fs.toList[i]? = some f) hr => ho i f r (by simpa using hi) hr
      have lp := fun i f r (hi : fs.toList[i]? = some f) hr => flat_len n f.type r (hfs f (List.mem_of_getElem? hi)).2 (okp i f r hi hr)
      have pp := contig_part fs.toList ps 0 _ hc (by simpa using hpl) lp
      rw [pureRun_bind, pr_underlying ht]
      simp only [Option.bind_some, argV, ht]
      rw [← Array.forIn_toList]
      refine pr_each _ fs.toList (fun f hfm => ?_)
      obtain ⟨hname, hft⟩ := hfs f hfm
      obtain ⟨i, hi⟩ := List.getElem?_of_mem hfm
      have hlt : i < ps.length := by have := lt_of_get hi; simp only [Array.length_toList] at this; omega
      have hpi : ps[i]? = some ps[i] := List.getElem?_eq_getElem hlt
      have g1 := pr_part (cs := ps.flatten.toArray) (off := f.offset) hft (okp i f _ hi hpi) (by simpa using (pp i f _ hi hpi).2)
      simp only [hname, not_false_eq_true, ne_eq, if_true, pureRun_bind, g1, Option.bind_some, check_flat b n d f.type _ hft (by omega) (okp i f _ hi hpi), pr_pure]
    | @array _ k e ps ht hpl ho =>
      simp only [ht, Bool.and_eq_true, decide_eq_true_eq] at hf
      obtain ⟨hc, hft⟩ := hf
      have lp := fun r (hr : r ∈ ps) => flat_len n e r hft (ho r hr)
      rw [pureRun_bind, pr_underlying ht]
      simp only [Option.bind_some, argV, ht]
      have hse : pureRun P (sizeOf e) = some (P.cellsOf e) := by
        cases n with
        | zero => simp [flatT] at hft
        | succ n =>
          cases hu : P.underlying e with
          | none => simp [flatT, hu] at hft
          | some dd => exact pr_sizeOf hu
      rw [Std.Legacy.Range.forIn_eq_forIn_range']
      have hsz : (({ start := 0, stop := k, step := 1, step_pos := by omega } : Std.Legacy.Range)).size = k := by simp [Std.Legacy.Range.size]
      rw [hsz]
      refine pr_each _ (List.range' 0 k) (fun i hi => ?_)
      have hlt : i < ps.length := by simp [List.mem_range'] at hi; omega
      have hpi : ps[i]? = some ps[i] := List.getElem?_eq_getElem hlt
      have g1 := pr_part (cs := ps.flatten.toArray) (off := i * P.cellsOf e) hft (ho _ (List.mem_of_getElem? hpi)) (by simpa using chunk_get ps lp i _ hpi)
      simp only [pureRun_bind, hse, Option.bind_some, g1, check_flat b n d e _ hft (by omega) (ho _ (List.mem_of_getElem? hpi)), pr_pure]

/-! ### Entries -/

/-- entries, by their keys' cells -/
structure Keys (P : Program) (kt : TypeId) (es : List MapEntry) (ks : List (List Value)) : Prop where
  keys : es.map (·.key) = ks.map (argV P kt)
  ok : ∀ k ∈ ks, TOk P kt k

theorem Keys.nil {kt : TypeId} : Keys P kt [] [] := ⟨rfl, fun _ h => by simp at h⟩
theorem Keys.snoc {kt : TypeId} {es : List MapEntry} {ks : List (List Value)} (h : Keys P kt es ks) {q : List Value} (hq : TOk P kt q) {e : MapEntry} (he : e.key = argV P kt q) : Keys P kt (es ++ [e]) (ks ++ [q]) :=
  ⟨by simp [h.keys, he], fun k hk => by
    rw [List.mem_append] at hk
    rcases hk with hk | hk
    · exact h.ok k hk
    · simp at hk; subst hk; exact hq⟩

open Classical in
theorem keyIx_flat {kt : TypeId} (hf : flatT P 12 kt = true) {q : List Value} (hq : TOk P kt q) : ∀ (es : List MapEntry) (ks : List (List Value)) (i : Nat), Keys P kt es ks →
    keyIx P kt (argV P kt q) es i = some ((ks.findIdx? fun k => decide (k = q)).map (· + i))
  | [], ks, i, h => by
    have : ks = [] := by have := congrArg List.length h.keys; simp at this; exact List.eq_nil_of_length_eq_zero this.symm
    subst this; rfl
  | e :: es, [], i, h => by have := congrArg List.length h.keys; simp at this
  | e :: es, k :: ks, i, h => by
    have hk := h.keys
    simp only [List.map_cons, List.cons.injEq] at hk
    have ih := keyIx_flat hf hq es ks (i + 1) ⟨hk.2, fun x hx => h.ok x (by simp [hx])⟩
    have he := eq_flat 12 10000 kt q k hf (by decide) hq (h.ok k (by simp))
    unfold keyIx
    rw [hk.1]
    have he' : pureRun P (Op.equal kt (argV P kt q) (argV P kt k)) = some (decide (q = k)) := he
    rw [he']
    by_cases hqk : q = k
    · subst hqk; simp [List.findIdx?_cons]
    · have hkq : ¬ k = q := fun h => hqk h.symm
      simp only [hqk, decide_false, ih, List.findIdx?_cons, hkq, Bool.false_eq_true, if_false]
      cases ks.findIdx? fun k => decide (k = q) with
      | none => rfl
      | some j => simp; omega

theorem argV_plain {t : TypeId} {n : Nat} {p : List Value} (hf : flatT P n t = true) (hp : TOk P t p) : plain (argV P t p) = true := by
  have h := flat_plain n t p hf hp
  cases n with
  | zero => simp [flatT] at hf
  | succ n =>
  cases hp with
  | bool c ht => simp [argV, ht, plain]
  | int m ht hw => simp [argV, ht, plain]
  | str s ht hs => simp [argV, ht, plain]
  | slice rows ht hm ho => simp [flatT, ht] at hf
  | @struct _ fs ps ht hpl ho => simp only [argV, ht]; exact h
  | @array _ k e ps ht hpl ho => simp only [argV, ht]; exact h

theorem Keys.plain {kt : TypeId} (hf : flatT P 12 kt = true) {es : List MapEntry} {ks : List (List Value)} (h : Keys P kt es ks) : (es.all fun e => Am.plain e.key) = true := by
  rw [List.all_eq_true]
  intro e he
  have : e.key ∈ es.map (·.key) := List.mem_map.2 ⟨e, he, rfl⟩
  rw [h.keys] at this
  obtain ⟨k, hk, hke⟩ := List.mem_map.1 this
  rw [← hke]
  exact argV_plain hf (h.ok k hk)

open Classical in
/-- what a map has for a key -/
theorem lookup_flat {t kt et : TypeId} {z : Value} (ht : P.underlying t = some (.map kt et)) (hz : zeroP P et = some z) (hpz : Am.plain z = true) (hf : flatT P 12 kt = true) {st : AS} {r c : Nat} {es : List MapEntry} (hr : st.H[r]? = some (.map es c))
    {ks : List (List Value)} (hk : Keys P kt es ks) {q : List Value} (hq : TOk P kt q) (ok : Bool) :
    aLookup P t (.map (some r)) (argV P kt q) ok st = match ks.findIdx? fun k => decide (k = q) with
      | some i => (es[i]?).map fun e => if ok then .tuple #[e.val, .bool true] else e.val
      | none => some (if ok then .tuple #[z, .bool false] else z) := by
  unfold aLookup
  simp only [ht, hr, hz]
  rw [if_pos ⟨argV_plain hf hq, hpz, by rw [check_flat es.isEmpty 12 10000 kt q hf (by decide) hq]; rfl, hk.plain hf⟩]
  rw [keyIx_flat hf hq es ks 0 hk]
  cases ks.findIdx? fun k => decide (k = q) <;> simp

/-- a new key -/
theorem update_new {t kt et : TypeId} (ht : P.underlying t = some (.map kt et)) (hf : flatT P 12 kt = true) {st : AS} {r c : Nat} {es : List MapEntry} (hr : st.H[r]? = some (.map es c))
    {ks : List (List Value)} (hk : Keys P kt es ks) {q : List Value} (hq : TOk P kt q) (hn : q ∉ ks) (v : Value) :
    aMapUpdate P t (.map (some r)) (argV P kt q) v st = some ⟨st.H.set r (.map (es ++ [{ key := argV P kt q, val := v, born := c }]) (c + 1)), escOf st.esc r (vrefs v)⟩ := by
  classical
  unfold aMapUpdate
  simp only [ht, hr]
  rw [if_pos ⟨argV_plain hf hq, by rw [check_flat false 12 10000 kt q hf (by decide) hq]; rfl, hk.plain hf⟩]
  rw [keyIx_flat hf hq es ks 0 hk]
  have : (ks.findIdx? fun k => decide (k = q)) = none := by
    rw [List.findIdx?_eq_none_iff]
    intro k hkm
    have : ¬ k = q := fun h => hn (h ▸ hkm)
    simp [this]
  rw [this]; rfl

end
end Go.Am
