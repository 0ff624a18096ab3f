/- A part of the proof: Am23, Am24, Am25, Am26, Am27, Am28, Am29, Am30, Am31. Its conditions: none. -/
import Derived.Test.YtpklhjeccbjalaaAm19
set_option linter.all false
set_option linter.unusedVariables false
set_option linter.unusedSimpArgs false
set_option linter.unnecessarySimpa false
section
namespace Go.Am

section
variable {P : Program}

theorem pr_each1 {α : Type} (g : α → PUnit → Sem (ForInStep PUnit)) : ∀ (l : List α), (∀ x ∈ l, pureRun P (g x PUnit.unit) = some (ForInStep.yield PUnit.unit)) → pureRun P (forIn l PUnit.unit g) = some PUnit.unit
  | [], _ => rfl
  | x :: xs, h => by
    rw [List.forIn_cons]
    simp only [pureRun_bind, h x (by simp), Option.bind_some]
    exact pr_each1 g xs (fun y hy => h y (by simp [hy]))

theorem pr_each {α : Type} (g : α → PUnit → Sem (ForInStep PUnit)) (l : List α) (h : ∀ x ∈ l, pureRun P (g x PUnit.unit) = some (ForInStep.yield PUnit.unit)) : pureRun P (do forIn l PUnit.unit g; pure ()) = some () := by
  rw [pureRun_bind, pr_each1 g l h]; rfl

/-- a flat key may be one -/
theorem check_flat (b : Bool) : ∀ (n d : Nat) (t : TypeId) (p : List Value), flatT P n t = true → n ≤ d → TOk P t p → pureRun P (Instr.checkKey b d t (argV P t p)) = some ()
  | 0, _, _, _, h, _, _ => by simp [flatT] at h
  | n + 1, 0, _, _, _, h, _ => by omega
  | n + 1, d + 1, t, p, hf, hd, hp => by
    simp only [flatT] at hf
    unfold Instr.checkKey
    cases hp with
    | bool c ht => rw [pureRun_bind, pr_underlying ht]; simp only [Option.bind_some, argV, ht]; rfl
    | int m ht hw => rw [pureRun_bind, pr_underlying ht]; simp only [Option.bind_some, argV, ht]; rfl
    | str s ht hs => rw [pureRun_bind, pr_underlying ht]; simp only [Option.bind_some, argV, ht]; rfl
    | slice rows ht hm ho => simp [ht] at hf
    | @struct _ fs ps ht hpl ho =>
      simp only [ht, Bool.and_eq_true, beq_iff_eq, List.all_eq_true, Bool.not_eq_true', bne_iff_ne, ne_eq] at hf
      obtain ⟨⟨hst, hc⟩, hfs⟩ := hf
      have okp := fun i f r (hi : fs.toList[i]? = some f) hr => ho i f r (by simpa using hi) hr
      have lp := fun i f r (hi : fs.toList[i]? = some f) hr => flat_len n f.type r (hfs f (List.mem_of_getElem? hi)).2 (okp i f r hi hr)
      have pp := contig_part fs.toList ps 0 _ hc (by simpa using hpl) lp
      rw [pureRun_bind, pr_underlying ht]
      simp only [Option.bind_some, argV, ht]
      rw [← Array.forIn_toList]
      refine pr_each _ fs.toList (fun f hfm => ?_)
      obtain ⟨hname, hft⟩ := hfs f hfm
      obtain ⟨i, hi⟩ := List.getElem?_of_mem hfm
      have hlt : i < ps.length := by have := lt_of_get hi; simp only [Array.length_toList] at this; omega
      have hpi : ps[i]? = some ps[i] := List.getElem?_eq_getElem hlt
      have g1 := pr_part (cs := ps.flatten.toArray) (off := f.offset) hft (okp i f _ hi hpi) (by simpa using (pp i f _ hi hpi).2)
      simp only [hname, not_false_eq_true, ne_eq, if_true, pureRun_bind, g1, Option.bind_some, check_flat b n d f.type _ hft (by omega) (okp i f _ hi hpi), pr_pure]
    | @array _ k e ps ht hpl ho =>
      simp only [ht, Bool.and_eq_true, decide_eq_true_eq] at hf
      obtain ⟨hc, hft⟩ := hf
      have lp := fun r (hr : r ∈ ps) => flat_len n e r hft (ho r hr)
      rw [pureRun_bind, pr_underlying ht]
      simp only [Option.bind_some, argV, ht]
      have hse : pureRun P (sizeOf e) = some (P.cellsOf e) := by
        cases n with
        | zero => simp [flatT] at hft
        | succ n =>
          cases hu : P.underlying e with
          | none => simp [flatT, hu] at hft
          | some dd => exact pr_sizeOf hu
      rw [Std.Legacy.Range.forIn_eq_forIn_range']
      have hsz : (({ start := 0, stop := k, step := 1, step_pos := by omega } : Std.Legacy.Range)).size = k := by simp [Std.Legacy.Range.size]
      rw [hsz]
      refine pr_each _ (List.range' 0 k) (fun i hi => ?_)
      have hlt : i < ps.length := by simp [List.mem_range'] at hi; omega
      have hpi : ps[i]? = some ps[i] := List.getElem?_eq_getElem hlt
      have g1 := pr_part (cs := ps.flatten.toArray) (off := i * P.cellsOf e) hft (ho _ (List.mem_of_getElem? hpi)) (by simpa using chunk_get ps lp i _ hpi)
      simp only [pureRun_bind, hse, Option.bind_some, g1, check_flat b n d e _ hft (by omega) (ho _ (List.mem_of_getElem? hpi)), pr_pure]

/-! ### Entries -/

/-- entries, by their keys' cells -/
structure Keys (P : Program) (kt : TypeId) (es : List MapEntry) (ks : List (List Value)) : Prop where
  keys : es.map (·.key) = ks.map (argV P kt)
  ok : ∀ k ∈ ks, TOk P kt k

theorem Keys.nil {kt : TypeId} : Keys P kt [] [] := ⟨rfl, fun _ h => by simp at h⟩
theorem Keys.snoc {kt : TypeId} {es : List MapEntry} {ks : List (List Value)} (h : Keys P kt es ks) {q : List Value} (hq : TOk P kt q) {e : MapEntry} (he : e.key = argV P kt q) : Keys P kt (es ++ [e]) (ks ++ [q]) :=
  ⟨by simp [h.keys, he], fun k hk => by
    rw [List.mem_append] at hk
    rcases hk with hk | hk
    · exact h.ok k hk
    · simp at hk; subst hk; exact hq⟩

open Classical in
theorem keyIx_flat {kt : TypeId} (hf : flatT P 12 kt = true) {q : List Value} (hq : TOk P kt q) : ∀ (es : List MapEntry) (ks : List (List Value)) (i : Nat), Keys P kt es ks →
    keyIx P kt (argV P kt q) es i = some ((ks.findIdx? fun k => decide (k = q)).map (· + i))
  | [], ks, i, h => by
    have : ks = [] := by have := congrArg List.length h.keys; simp at this; exact List.eq_nil_of_length_eq_zero this.symm
    subst this; rfl
  | e :: es, [], i, h => by have := congrArg List.length h.keys; simp at this
  | e :: es, k :: ks, i, h => by
    have hk := h.keys
    simp only [List.map_cons, List.cons.injEq] at hk
    have ih := keyIx_flat hf hq es ks (i + 1) ⟨hk.2, fun x hx => h.ok x (by simp [hx])⟩
    have he := eq_flat 12 10000 kt q k hf (by decide) hq (h.ok k (by simp))
    unfold keyIx
    rw [hk.1]
    have he' : pureRun P (Op.equal kt (argV P kt q) (argV P kt k)) = some (decide (q = k)) := he
    rw [he']
    by_cases hqk : q = k
    · subst hqk; simp [List.findIdx?_cons]
    · have hkq : ¬ k = q := fun h => hqk h.symm
      simp only [hqk, decide_false, ih, List.findIdx?_cons, hkq, Bool.false_eq_true, if_false]
      cases ks.findIdx? fun k => decide (k = q) with
      | none => rfl
      | some j => simp; omega

theorem argV_plain {t : TypeId} {n : Nat} {p : List Value} (hf : flatT P n t = true) (hp : TOk P t p) : plain (argV P t p) = true := by
  have h := flat_plain n t p hf hp
  cases n with
  | zero => simp [flatT] at hf
  | succ n =>
  cases hp with
  | bool c ht => simp [argV, ht, plain]
  | int m ht hw => simp [argV, ht, plain]
  | str s ht hs => simp [argV, ht, plain]
  | slice rows ht hm ho => simp [flatT, ht] at hf
  | @struct _ fs ps ht hpl ho => simp only [argV, ht]; exact h
  | @array _ k e ps ht hpl ho => simp only [argV, ht]; exact h

theorem Keys.plain {kt : TypeId} (hf : flatT P 12 kt = true) {es : List MapEntry} {ks : List (List Value)} (h : Keys P kt es ks) : (es.all fun e => Am.plain e.key) = true := by
  rw [List.all_eq_true]
  intro e he
  have : e.key ∈ es.map (·.key) := List.mem_map.2 ⟨e, he, rfl⟩
  rw [h.keys] at this
  obtain ⟨k, hk, hke⟩ := List.mem_map.1 this
  rw [← hke]
  exact argV_plain hf (h.ok k hk)

open Classical in
/-- what a map has for a key -/
theorem lookup_flat {t kt et : TypeId} {z : Value} (ht : P.underlying t = some (.map kt et)) (hz : zeroP P et = some z) (hpz : Am.plain z = true) (hf : flatT P 12 kt = true) {st : AS} {r c : Nat} {es : List MapEntry} (hr : st.H[r]? = some (.map es c))
    {ks : List (List Value)} (hk : Keys P kt es ks) {q : List Value} (hq : TOk P kt q) (ok : Bool) :
    aLookup P t (.map (some r)) (argV P kt q) ok st = match ks.findIdx? fun k => decide (k = q) with
      | some i => (es[i]?).map fun e => if ok then .tuple #[e.val, .bool true] else e.val
      | none => some (if ok then .tuple #[z, .bool false] else z) := by
  unfold aLookup
  simp only [ht, hr, hz]
  rw [if_pos ⟨argV_plain hf hq, hpz, by rw [check_flat es.isEmpty 12 10000 kt q hf (by decide) hq]; rfl, hk.plain hf⟩]
  rw [keyIx_flat hf hq es ks 0 hk]
  cases ks.findIdx? fun k => decide (k = q) <;> simp

/-- a new key -/
theorem update_new {t kt et : TypeId} (ht : P.underlying t = some (.map kt et)) (hf : flatT P 12 kt = true) {st : AS} {r c : Nat} {es : List MapEntry} (hr : st.H[r]? = some (.map es c))
    {ks : List (List Value)} (hk : Keys P kt es ks) {q : List Value} (hq : TOk P kt q) (hn : q ∉ ks) (v : Value) :
    aMapUpdate P t (.map (some r)) (argV P kt q) v st = some ⟨st.H.set r (.map (es ++ [{ key := argV P kt q, val := v, born := c }]) (c + 1)), escOf st.esc r (vrefs v)⟩ := by
  classical
  unfold aMapUpdate
  simp only [ht, hr]
  rw [if_pos ⟨argV_plain hf hq, by rw [check_flat false 12 10000 kt q hf (by decide) hq]; rfl, hk.plain hf⟩]
  rw [keyIx_flat hf hq es ks 0 hk]
  have : (ks.findIdx? fun k => decide (k = q)) = none := by
    rw [List.findIdx?_eq_none_iff]
    intro k hkm
    have : ¬ k = q := fun h => hn (h ▸ hkm)
    simp [this]
  rw [this]; rfl

end
end Go.Am

end
section
namespace Go.Am

/-- a block that some values lead to -/
inductive Rch (H : List Blk) (l : List Nat) : Nat → Prop
  | here {r : Nat} (h : r ∈ l) : Rch H l r
  | step {r q : Nat} {b : Blk} (h : Rch H l q) (hb : H[q]? = some b) (hr : r ∈ blkRefs b) : Rch H l r

section
variable {H : List Blk} {n : Nat} {vs : List Value} {e : Option Nat}

theorem findIx_mem {r : Nat} : ∀ (l : List Nat) (i : Nat), r ∈ l → ∃ j, findIx r l i = some (i + j) ∧ l[j]? = some r := fun l i h => findIx_spec r l i h

theorem gc_spec (n : Nat) (vs : List Value) (st : AS) : ∃ σ : Nat → Nat, (gc n vs st).1 = lren σ vs ∧ (∀ r, r < n → σ r = r ∧ (gc n vs st).2.H[r]? = st.H[r]?) ∧
    (∀ r, Rch st.H (lrefs vs) r → (∀ q b, Rch st.H (lrefs vs) q → q < n → st.H[q]? = some b → ∀ x ∈ blkRefs b, x < n) → n ≤ r → n ≤ σ r ∧ ∀ b, st.H[r]? = some b → (gc n vs st).2.H[σ r]? = some (renBlk σ b)) ∧
    (n ≤ st.H.length → n ≤ (gc n vs st).2.H.length) := by
  obtain ⟨H, e⟩ := st
  have idv : lren (fun r => r) vs = vs := lren_same vs (fun _ _ => rfl)
  have idb : ∀ b : Blk, renBlk (fun r => r) b = b := by
    intro b
    cases b with
    | cells cs t o => simp [renBlk, lren_same cs (fun _ _ => rfl)]
    | map es c =>
      simp only [renBlk]
      congr 1
      rw [show es = es.map id by simp, List.map_map]
      refine List.map_congr_left fun x _ => ?_
      simp [vren_same x.key (fun _ _ => rfl), vren_same x.val (fun _ _ => rfl)]
    | iter m a b c => simp [renBlk]
    | loop f ps x y fr s => simp [renBlk, lren_same fr (fun _ _ => rfl)]
    | dead => rfl
  have same : ∃ σ : Nat → Nat, (vs, (⟨H, e⟩ : AS)).1 = lren σ vs ∧ (∀ r, r < n → σ r = r ∧ (vs, (⟨H, e⟩ : AS)).2.H[r]? = H[r]?) ∧
      (∀ r, Rch H (lrefs vs) r → (∀ q b, Rch H (lrefs vs) q → q < n → H[q]? = some b → ∀ x ∈ blkRefs b, x < n) → n ≤ r → n ≤ σ r ∧ ∀ b, H[r]? = some b → (vs, (⟨H, e⟩ : AS)).2.H[σ r]? = some (renBlk σ b)) ∧ (n ≤ H.length → n ≤ (vs, (⟨H, e⟩ : AS)).2.H.length) :=
    ⟨fun r => r, idv.symm, fun r _ => ⟨rfl, rfl⟩, fun r _ _ hr => ⟨hr, fun b hb => by rw [idb]; exact hb⟩, fun h => h⟩
  unfold gc
  split
  · simp only
    generalize hkept : reach H n (H.length * 64 + 4096) (lrefs vs) [] = kept
    have hinv := reach_inv H n (H.length * 64 + 4096) (lrefs vs) [] List.nodup_nil (fun r hr => by simp at hr)
    rw [hkept] at hinv
    split
    · rename_i hcond
      obtain ⟨hc1, hc2, hc3⟩ := hcond
      have hc1 := closed_spec hc1
      rw [List.all_eq_true] at hc2
      refine ⟨renum n kept, rfl, fun r hr => ⟨by simp [renum, hr], ?_⟩, fun r hr hold hn => ?_, fun h => by simp; omega⟩
      · rw [List.getElem?_append_left (by simp; omega), List.getElem?_take, if_pos hr]
      · have hmem : ∀ r, Rch H (lrefs vs) r → r < n ∨ r ∈ kept := by
          intro r hr
          induction hr with
          | here h => exact hc1 _ h
          | @step r q b hq hb hrb ih =>
            rcases ih with ih | ih
            · exact .inl (hold q b hq ih hb r hrb)
            · have := hc2 (H.getD q .dead) (List.mem_map.2 ⟨q, ih, rfl⟩)
              have hbq : H.getD q .dead = b := by simp [List.getD, hb]
              rw [hbq] at this
              exact closed_spec this r hrb
        rcases hmem r hr with h | h
        · omega
        · obtain ⟨j, h1, h2⟩ := findIx_mem kept 0 h
          have hnr : ¬ r < n := by omega
          have hs : renum n kept r = n + j := by simp [renum, hnr, h1]
          rw [hs]
          refine ⟨by omega, fun b hb => ?_⟩
          rw [List.getElem?_append_right (by simp; omega)]
          have : n + j - (H.take n).length = j := by simp; omega
          rw [this]
          simp only [List.getElem?_map, h2, Option.map_some]
          simp [List.getD, hb]
    · exact same
  · exact same

theorem gc_vals (n : Nat) (vs : List Value) (st : AS) (h : lrefs vs = []) : (gc n vs st).1 = vs := by
  obtain ⟨σ, h1, _⟩ := gc_spec n vs st
  rw [h1, lren_same vs (fun b hb => by rw [h] at hb; simp at hb)]

/-- what is struck when all that is led to are rows of plain cells -/
theorem gc_flat (n : Nat) (vs : List Value) (st : AS) (h : ∀ r ∈ lrefs vs, ∃ cs t o, st.H[r]? = some (.cells cs t o) ∧ lrefs cs = []) : ∃ σ : Nat → Nat, (gc n vs st).1 = lren σ vs ∧
    (∀ r, r < n → σ r = r ∧ (gc n vs st).2.H[r]? = st.H[r]?) ∧
    (∀ r ∈ lrefs vs, (n ≤ r → n ≤ σ r) ∧ ∀ b, st.H[r]? = some b → (gc n vs st).2.H[σ r]? = some b) := by
  obtain ⟨σ, h1, h2, h3, _⟩ := gc_spec n vs st
  have hr : ∀ r, Rch st.H (lrefs vs) r → r ∈ lrefs vs := by
    intro r hr
    induction hr with
    | here h => exact h
    | step _ hb hx ih =>
      obtain ⟨cs, t, o, hc, hl⟩ := h _ ih
      rw [hc] at hb; simp at hb; subst hb
      simp [blkRefs, hl] at hx
  refine ⟨σ, h1, h2, fun r hm => ?_⟩
  obtain ⟨cs, t, o, hc, hl⟩ := h r hm
  by_cases hn : n ≤ r
  · obtain ⟨g1, g2⟩ := h3 r (.here hm) (fun q b hq _ hb x hx => by
      obtain ⟨cs, t, o, hc, hl⟩ := h q (hr q hq)
      rw [hc] at hb; simp at hb; subst hb
      simp [blkRefs, hl] at hx) hn
    refine ⟨fun _ => g1, fun b hb => ?_⟩
    rw [g2 b hb]
    rw [hc] at hb; simp at hb; subst hb
    simp only [renBlk]
    rw [lren_same cs (fun b hb => by rw [hl] at hb; simp at hb)]
  · refine ⟨fun h => absurd h hn, fun b hb => ?_⟩
    rw [(h2 r (by omega)).1, (h2 r (by omega)).2]; exact hb

/-- a loop over numbers: what holds ahead of each round, however blocks are named -/
theorem loop_inv {n0 : Nat} {step : List Value × AS → Option ((List Value × AS) ⊕ (AEx × List Value × AS))} {len : Nat} (I : Nat → List Value × AS → Prop) (Q : AEx × List Value × AS → Prop)
    (hg : ∀ i X, I i X → I i (gc n0 X.1 X.2))
    (h : ∀ i X, i < len → I i X → (∃ r, step X = some (.inr r) ∧ Q r) ∨ (∃ Y, step X = some (.inl Y) ∧ I (i + 1) Y))
    (hend : ∀ X, I len X → ∃ r, step X = some (.inr r) ∧ Q r) :
    ∀ (k i : Nat) (X : List Value × AS), i + k = len → I i X → ∃ r, loopG n0 step X = some r ∧ Q r
  | 0, i, X, hk, ho => by
    have : i = len := by omega
    subst this
    obtain ⟨r, h1, h2⟩ := hend _ (hg _ _ ho)
    refine ⟨r, ?_, h2⟩
    rw [show X = (X.1, X.2) from rfl, loopG_eq, h1]
    rfl
  | k + 1, i, X, hk, ho => by
    rcases h i _ (by omega) (hg _ _ ho) with ⟨r, h1, h2⟩ | ⟨Y, h1, h2⟩
    · refine ⟨r, ?_, h2⟩
      rw [show X = (X.1, X.2) from rfl, loopG_eq, h1]
      rfl
    · obtain ⟨r, h4, h5⟩ := loop_inv I Q hg h hend k (i + 1) Y (by omega) h2
      refine ⟨r, ?_, h5⟩
      rw [show X = (X.1, X.2) from rfl, loopG_eq, h1]
      exact h4

/-- a cell that is a bool, a number or a string -/
def lit : Value → Bool
  | .bool _ | .int _ _ | .string _ => true
  | _ => false

theorem veqL_lit : ∀ (l : List Value), l.all lit = true → veqL l l = true
  | [], _ => rfl
  | v :: vs, h => by
    simp only [List.all_cons, Bool.and_eq_true] at h
    simp only [veqL, veqL_lit vs h.2, Bool.and_true]
    cases v <;> simp_all [lit, veq]

theorem veq_agg (l : List Value) (h : l.all lit = true) : veq (.agg l.toArray) (.agg l.toArray) = true := veqL_lit l h
theorem veq_tree (n : Nat) (l : List Value) (h : l.all lit = true) : veq (tSl n l) (tSl n l) = true := by
  simp only [tSl, veq, decide_true, Bool.true_and]; exact veqL_lit l h
theorem veq_tight (n : Nat) (l : List Value) (h : l.all lit = true) : veq (tight (tSl n l)) (tight (tSl n l)) = true := by
  simp only [tSl, tight, veq, decide_true, Bool.true_and]; exact veqL_lit l h

end
end Go.Am

end
section
namespace Go.Am

/-! ### What is led to, by relative numbers -/

def reachR (R : List (List Nat)) : Nat → List Nat → List Nat → Option (List Nat)
  | _, [], acc => some acc
  | 0, _ :: _, _ => none
  | k + 1, r :: rs, acc => if acc.contains r = true then reachR R k rs acc else reachR R k (R.getD r [] ++ rs) (acc ++ [r])

theorem reachR_spec {R : List (List Nat)} : ∀ (k : Nat) (rs acc ks : List Nat), reachR R k rs acc = some ks → (∀ r ∈ acc, r ∈ ks) ∧ (∀ r ∈ rs, r ∈ ks) ∧ ∀ j ∈ ks, j ∉ acc → ∀ r ∈ R.getD j [], r ∈ ks
  | 0, [], acc, ks, h => by simp [reachR] at h; subst h; exact ⟨fun _ h => h, fun _ h => by simp at h, fun j h hn => absurd h hn⟩
  | 0, _ :: _, acc, ks, h => by simp [reachR] at h
  | k + 1, [], acc, ks, h => by simp [reachR] at h; subst h; exact ⟨fun _ h => h, fun _ h => by simp at h, fun j h hn => absurd h hn⟩
  | k + 1, r :: rs, acc, ks, h => by
    simp only [reachR] at h
    split at h
    · rename_i hc
      obtain ⟨h1, h2, h3⟩ := reachR_spec k rs acc ks h
      refine ⟨h1, fun x hx => ?_, h3⟩
      rcases List.mem_cons.1 hx with rfl | hx
      · exact h1 _ (by simpa using hc)
      · exact h2 x hx
    · obtain ⟨h1, h2, h3⟩ := reachR_spec k _ _ ks h
      refine ⟨fun x hx => h1 x (by simp [hx]), fun x hx => ?_, fun j hj hn x hx => ?_⟩
      · rcases List.mem_cons.1 hx with rfl | hx
        · exact h1 _ (by simp)
        · exact h2 x (by simp [hx])
      · by_cases hjr : j = r
        · subst hjr; exact h2 x (by simp only [List.mem_append]; exact .inl hx)
        · exact h3 j hj (by simp [hn, hjr]) x hx

section
variable {P : Program} {H0 l : List Blk} {vs : List Value} {e : Option Nat}

theorem contains_rel (n r : Nat) (acc : List Nat) : (acc.map (n + ·)).contains (n + r) = acc.contains r := by
  induction acc with
  | nil => rfl
  | cons x xs ih =>
    simp only [List.map_cons, List.contains_cons, ih]
    congr 1
    by_cases h : r = x
    · subst h; simp
    · have : ¬ n + r = n + x := by omega
      rw [show (n + r == n + x) = false from beq_eq_false_iff_ne.2 this, show (r == x) = false from beq_eq_false_iff_ne.2 h]

theorem reach_refs (H : List Blk) (n fuel r : Nat) (rs acc : List Nat) (hr : n ≤ r) : reach H n (fuel + 1) (r :: rs) acc = if acc.contains r = true then reach H n fuel rs acc else reach H n fuel (blkRefs (H.getD r .dead) ++ rs) (acc ++ [r]) := by
  simp only [reach]
  rw [if_neg (by omega)]
  split
  · rfl
  · congr 2
    cases hb : H[r]? with
    | none => simp [List.getD, hb, blkRefs]
    | some b => cases b <;> simp [List.getD, hb, blkRefs]

theorem reach_rel {R : List (List Nat)} (hR : l.map blkRefs = R.map (List.map (H0.length + ·))) : ∀ (k fuel : Nat) (rs acc ks : List Nat), reachR R k rs acc = some ks → k ≤ fuel →
    reach (H0 ++ l) H0.length fuel (rs.map (H0.length + ·)) (acc.map (H0.length + ·)) = ks.map (H0.length + ·)
  | k, fuel, [], acc, ks, h, _ => by
    have : acc = ks := by cases k <;> simpa [reachR] using h
    subst this
    cases fuel <;> rfl
  | 0, fuel, _ :: _, acc, ks, h, _ => by simp [reachR] at h
  | k + 1, 0, r :: rs, acc, ks, h, hf => by omega
  | k + 1, fuel + 1, r :: rs, acc, ks, h, hf => by
    simp only [reachR] at h
    rw [List.map_cons, reach_refs _ _ _ _ _ _ (by omega), contains_rel]
    have hb : blkRefs ((H0 ++ l).getD (H0.length + r) .dead) = (R.getD r []).map (H0.length + ·) := by
      have h1 : (H0 ++ l)[H0.length + r]? = l[r]? := get_app r
      have h2 := congrArg (fun x => x[r]?) hR
      simp only [List.getElem?_map] at h2
      simp only [List.getD, h1]
      cases hl : l[r]? with
      | none =>
        rw [hl] at h2
        cases hq : R[r]? with
        | none => rfl
        | some q => rw [hq] at h2; simp at h2
      | some b =>
        rw [hl] at h2
        simp only [Option.map_some] at h2
        cases hq : R[r]? with
        | none => rw [hq] at h2; simp at h2
        | some q => rw [hq] at h2; simp at h2; simp [h2]
    split at h
    · rename_i hc
      rw [if_pos hc]
      exact reach_rel hR k fuel rs acc ks h (by omega)
    · rename_i hc
      rw [if_neg hc, hb, ← List.map_append, show acc.map (H0.length + ·) ++ [H0.length + r] = (acc ++ [r]).map (H0.length + ·) by simp]
      exact reach_rel hR k fuel _ _ ks h (by omega)

theorem findIx_rel (n j : Nat) : ∀ (ks : List Nat) (i : Nat), findIx (n + j) (ks.map (n + ·)) i = findIx j ks i
  | [], _ => rfl
  | x :: xs, i => by
    simp only [List.map_cons, findIx, findIx_rel n j xs]
    by_cases h : x = j
    · simp [h]
    · have : ¬ n + x = n + j := by omega
      simp [h]

theorem renum_rel (n j : Nat) (ks : List Nat) : renum n (ks.map (n + ·)) (n + j) = n + (findIx j ks 0).getD j := by
  have : ¬ n + j < n := by omega
  simp only [renum, this, if_false, findIx_rel]
  cases findIx j ks 0 <;> rfl
theorem renum_rel0 (n : Nat) (ks : List Nat) : renum n (ks.map (n + ·)) n = n + (findIx 0 ks 0).getD 0 := renum_rel n 0 ks
theorem renum_old {n r : Nat} (ks : List Nat) (h : r < n) : renum n ks r = r := by simp [renum, h]

/-- new names -/
def rn (n : Nat) (ks : List Nat) : Nat → Nat := renum n (ks.map (n + ·))
theorem rn_own (n j : Nat) (ks : List Nat) : rn n ks (n + j) = n + (findIx j ks 0).getD j := renum_rel n j ks
theorem rn_own0 (n : Nat) (ks : List Nat) : rn n ks n = n + (findIx 0 ks 0).getD 0 := renum_rel n 0 ks
theorem lren_none {σ : Nat → Nat} {cs : List Value} (h : lrefs cs = []) : lren σ cs = cs := lren_same cs (fun b hb => by rw [h] at hb; simp at hb)
theorem vren_none {σ : Nat → Nat} {v : Value} (h : vrefs v = []) : vren σ v = v := vren_same v (fun b hb => by rw [h] at hb; simp at hb)

/-- what is struck, to the letter: R: what each block of one's own names, rs: what the values name, ks: what stays, in its order -/
theorem gc_own (R : List (List Nat)) (rs ks : List Nat) (hk : reachR R 64 rs [] = some ks) (he : escOk H0.length e = true) (hvs : lrefs vs = rs.map (H0.length + ·)) (hR : l.map blkRefs = R.map (List.map (H0.length + ·)))
    {vs' : List Value} {l' : List Blk} (h1 : lren (rn H0.length ks) vs = vs') (h2 : (ks.map fun j => renBlk (rn H0.length ks) (l.getD j .dead)) = l') :
    gc H0.length vs ⟨H0 ++ l, e⟩ = (vs', ⟨H0 ++ l', none⟩) := by
  subst h1 h2
  obtain ⟨_, g2, g3⟩ := reachR_spec 64 rs [] ks hk
  unfold gc
  simp only [he, if_true]
  have hrch := reach_rel (H0 := H0) hR 64 ((H0 ++ l).length * 64 + 4096) rs [] ks hk (by omega)
  simp only [List.map_nil] at hrch
  rw [hvs, hrch]
  have hget : ∀ j, (H0 ++ l).getD (H0.length + j) .dead = l.getD j .dead := fun j => by simp only [List.getD, get_app]
  have hnew : ((ks.map (H0.length + ·)).map fun r => (H0 ++ l).getD r .dead) = ks.map fun j => l.getD j .dead := by
    simp only [List.map_map, Function.comp_def, hget]
  have c1 : closed H0.length (ks.map (H0.length + ·)) (rs.map (H0.length + ·)) = true := by
    unfold closed
    rw [List.all_eq_true]
    intro r hr
    obtain ⟨j, hj, rfl⟩ := List.mem_map.1 hr
    rw [contains_rel]
    simp [g2 j hj]
  have c2 : ((ks.map fun j => l.getD j .dead).all fun b => closed H0.length (ks.map (H0.length + ·)) (blkRefs b)) = true := by
    rw [List.all_eq_true]
    intro b hb
    obtain ⟨j, hj, rfl⟩ := List.mem_map.1 hb
    have hb : blkRefs (l.getD j .dead) = (R.getD j []).map (H0.length + ·) := by
      have h2 := congrArg (fun x => x[j]?) hR
      simp only [List.getElem?_map] at h2
      simp only [List.getD]
      cases hl : l[j]? with
      | none =>
        rw [hl] at h2
        cases hq : R[j]? with
        | none => rfl
        | some q => rw [hq] at h2; simp at h2
      | some b =>
        rw [hl] at h2
        simp only [Option.map_some] at h2
        cases hq : R[j]? with
        | none => rw [hq] at h2; simp at h2
        | some q => rw [hq] at h2; simp at h2; simp [h2]
    rw [hb]
    unfold closed
    rw [List.all_eq_true]
    intro r hr
    obtain ⟨i, hi, rfl⟩ := List.mem_map.1 hr
    rw [contains_rel]
    simp [g3 j hj (by simp) i hi]
  rw [hnew, if_pos ⟨c1, c2, by simp⟩]
  simp [rn, List.map_map, Function.comp_def]

/-! ### The end of a call -/

theorem escOk_none {n : Nat} : escOk n none = true := rfl

/-- what is told of a call whose results name nothing that it made -/
theorem gc_clean (hr : lrefs vs = []) (he : escOk H0.length e = true) : gc H0.length vs ⟨H0 ++ l, e⟩ = (vs, ⟨H0, none⟩) := by
  unfold gc
  simp only [he, if_true]
  have h0 : reach (H0 ++ l) H0.length ((H0 ++ l).length * 64 + 4096) (lrefs vs) [] = [] := reach_low _ _ _ _ _ (fun r hr' => by rw [hr] at hr'; simp at hr')
  rw [h0]
  have h1 : closed H0.length [] (lrefs vs) = true := by rw [hr]; rfl
  have hle : H0.length ≤ (H0 ++ l).length := by simp
  simp only [h1, List.map_nil, List.all_nil, true_and, hle, if_true, List.append_nil]
  rw [lren_none hr]
  simp

theorem fin_of {vs' : List Value} {l' : List Blk} (hf : frzL (frz P H0.length 8) vs (H0 ++ l) = (vs', H0 ++ l')) (hr : lrefs vs' = []) (he : escOk H0.length e = true) :
    fin P false H0.length vs ⟨H0 ++ l, e⟩ = some (oneOf vs', H0, none) := by
  unfold fin endFrz
  simp only [Bool.false_eq_true, if_false, hf, gc_clean hr he, escBelow]

theorem fin_lit {vs : List Value} (hf : vs.all flatV = true) (hr : lrefs vs = []) (he : escOk H0.length e = true) : fin P false H0.length vs ⟨H0 ++ l, e⟩ = some (oneOf vs, H0, none) :=
  fin_of (frzL_flatV _ _ _ _ hf) hr he
theorem fin_lit0 {vs : List Value} (hf : vs.all flatV = true) (hr : lrefs vs = []) : fin P false H0.length vs ⟨H0, none⟩ = some (oneOf vs, H0, none) := fin_flat' hf hr

/-- a row of one's own that is told -/
theorem frz_own {k q n c sz : Nat} {cs : List Value} {t : TypeId} (hk : l[k]? = some (.cells cs t true)) (hs : sizeP P t = some sz) (hn : cs.length = n * sz) (hc : cs.all noSl = true) :
    frz P H0.length (q + 1) (.slice (some ⟨H0.length + k, 0, none⟩) n c) (H0 ++ l) = (tSl n cs, H0 ++ l.set k .dead) := by
  rw [frz_new hk hs (by omega) hc, ← hn, List.take_length]
theorem frz_own0 {q n c sz : Nat} {cs : List Value} {t : TypeId} (hk : l[0]? = some (.cells cs t true)) (hs : sizeP P t = some sz) (hn : cs.length = n * sz) (hc : cs.all noSl = true) :
    frz P H0.length (q + 1) (.slice (some ⟨H0.length, 0, none⟩) n c) (H0 ++ l) = (tSl n cs, H0 ++ l.set 0 .dead) := frz_own (k := 0) hk hs hn hc
theorem frz_nil {n0 q : Nat} {H : List Blk} : frz P n0 (q + 1) (.slice none 0 0) H = (tSl 0 [], H) := by simp [frz]

/-! ### RowsOf of elements -/

/-- elements of so many cells each, that name nothing -/
structure RowsOf (sz : Nat) (rows : List (List Value)) : Prop where
  len : ∀ r ∈ rows, r.length = sz
  refs : ∀ r ∈ rows, lrefs r = []
  cells : ∀ r ∈ rows, r.all cellV = true
  flat : ∀ r ∈ rows, r.all noSl = true

theorem RowsOf.nil {sz : Nat} : RowsOf sz [] := ⟨fun _ h => by simp at h, fun _ h => by simp at h, fun _ h => by simp at h, fun _ h => by simp at h⟩
theorem RowsOf.snoc {sz : Nat} {rows : List (List Value)} (h : RowsOf sz rows) {r : List Value} (h1 : r.length = sz) (h2 : lrefs r = []) (h3 : r.all cellV = true) (h4 : r.all noSl = true) : RowsOf sz (rows ++ [r]) := by
  have key : ∀ x, x ∈ rows ++ [r] → x ∈ rows ∨ x = r := fun x hx => by simpa using hx
  exact ⟨fun x hx => (key x hx).elim (h.len x) (fun e => e ▸ h1), fun x hx => (key x hx).elim (h.refs x) (fun e => e ▸ h2), fun x hx => (key x hx).elim (h.cells x) (fun e => e ▸ h3), fun x hx => (key x hx).elim (h.flat x) (fun e => e ▸ h4)⟩
theorem RowsOf.frefs {sz : Nat} {rows : List (List Value)} (h : RowsOf sz rows) : lrefs rows.flatten = [] := by
  have : ∀ rs : List (List Value), (∀ r ∈ rs, lrefs r = []) → lrefs rs.flatten = [] := by
    intro rs
    induction rs with
    | nil => intro _; rfl
    | cons x xs ih => intro hx; simp only [List.flatten_cons, lrefs_app, hx x (by simp), ih (fun r hr => hx r (by simp [hr])), List.append_nil]
  exact this rows h.refs
theorem RowsOf.fall {sz : Nat} {rows : List (List Value)} (p : Value → Bool) (h : ∀ r ∈ rows, r.all p = true) : rows.flatten.all p = true := by
  induction rows with
  | nil => rfl
  | cons x xs ih => simp only [List.flatten_cons, List.all_append, h x (by simp), ih (fun r hr => h r (by simp [hr])), Bool.and_self]
theorem RowsOf.fcells {sz : Nat} {rows : List (List Value)} (h : RowsOf sz rows) : rows.flatten.all cellV = true := RowsOf.fall (sz := sz) _ h.cells
theorem RowsOf.fflat {sz : Nat} {rows : List (List Value)} (h : RowsOf sz rows) : rows.flatten.all noSl = true := RowsOf.fall (sz := sz) _ h.flat
theorem RowsOf.flen {sz : Nat} {rows : List (List Value)} (h : RowsOf sz rows) : rows.flatten.length = rows.length * sz := by
  have : ∀ rs : List (List Value), (∀ r ∈ rs, r.length = sz) → rs.flatten.length = rs.length * sz := by
    intro rs
    induction rs with
    | nil => intro _; simp
    | cons x xs ih =>
      intro hx
      simp only [List.flatten_cons, List.length_append, hx x (by simp), ih (fun r hr => hx r (by simp [hr])), List.length_cons, Nat.succ_mul]
      omega
  exact this rows h.len
theorem RowsOf.get {sz : Nat} {rows : List (List Value)} (h : RowsOf sz rows) {k : Nat} {r : List Value} (hr : rows[k]? = some r) : r.length = sz ∧ lrefs r = [] ∧ r.all cellV = true ∧ r.all noSl = true :=
  have hm := List.mem_of_getElem? hr
  ⟨h.len r hm, h.refs r hm, h.cells r hm, h.flat r hm⟩

theorem tsl_index {t elem : TypeId} {n sz k : Nat} {j : IntKind} {row : List Value} (hu : P.underlying t = some (.slice elem)) (hs : sizeP P elem = some sz) (hk : k < n) :
    aIndexAddr P t (tSl n row) (.int j (k : Int)) = some (tPtr (k * sz) row.toArray) := by
  show aIndexAddr P t (.iface n (.tuple row.toArray)) _ = _
  simp only [aIndexAddr, hu, hs, tIndex]
  rw [if_pos ⟨by omega, by omega⟩]
  simp

theorem tptr_load {sz k : Nat} {rows : List (List Value)} {r : List Value} {st : AS} (h : RowsOf sz rows) (hr : rows[k]? = some r) : aLoad true sz st (tPtr (k * sz) rows.flatten.toArray) = some (.agg r.toArray) := by
  show tLoad true sz (k * sz) rows.flatten.toArray = _
  have hk := lt_of_get hr
  have hl := h.flen
  have hm : (k + 1) * sz ≤ rows.length * sz := Nat.mul_le_mul_right _ hk
  rw [Nat.succ_mul] at hm
  simp only [tLoad, if_true]
  rw [if_pos (by rw [List.size_toArray]; omega), chunk_get rows h.len k r hr]

theorem tptr_get {sz k off : Nat} {rows : List (List Value)} {r : List Value} {v : Value} {st : AS} {n : Nat} (h : RowsOf sz rows) (hr : rows[k]? = some r) (hv : r[off]? = some v) : aLoad false n st (tPtr (k * sz + off) rows.flatten.toArray) = some v := by
  show tLoad false n (k * sz + off) rows.flatten.toArray = _
  simp only [tLoad, Bool.false_eq_true, if_false]
  have h1 := chunk_get rows h.len k r hr
  have hlt := lt_of_get hv
  have hln := (h.get hr).1
  rw [← h1, List.getElem?_take, if_pos (by omega), List.getElem?_drop] at hv
  simpa using hv

theorem tsl_len {t elem : TypeId} {n : Nat} {row : List Value} {st : AS} (hu : P.underlying t = some (.slice elem)) : aLen P t (tSl n row) st = some (.int .i64 n) := by
  show aLen P t (.iface n (.tuple row.toArray)) st = _
  simp only [aLen, hu]; rfl
theorem sl_len {t elem : TypeId} {n c : Nat} {a : Option Addr} {st : AS} (hu : P.underlying t = some (.slice elem)) : aLen P t (.slice a n c) st = some (.int .i64 n) := by
  simp only [aLen, hu]

/-! ### A row that grows -/

/-- the row as it stands among a call's own blocks, from place 'at' on -/
def rowV (n0 at_ n : Nat) : Value := if n = 0 then .slice none 0 0 else .slice (some ⟨n0 + at_, 0, none⟩) n UNK
def rowB (t : TypeId) (rows : List (List Value)) : List Blk := if rows.length = 0 then [] else [.cells rows.flatten t true]

/-- what an element's type is asked for -/
structure ElemT (P : Program) (t elem : TypeId) (sz : Nat) : Prop where
  u : P.underlying t = some (.slice elem)
  s : sizeP P elem = some sz
  pos : 0 < sz
  z : ∃ z b, zeroP P elem = some z ∧ z.cells.size = sz ∧ bytesP P elem = some b ∧ 0 < b ∧ b ≤ 1048576

/-- the cells that are handed to an append -/
theorem src_own {sz k n c : Nat} {cs : List Value} {t : TypeId} {b : Bool} (hk : l[k]? = some (.cells cs t b)) (hn : cs.length = n * sz) : srcCells sz (H0 ++ l) (.slice (some ⟨H0.length + k, 0, none⟩) n c) = some (n, cs) := by
  simp only [srcCells, cellsAt_app]
  simp only [cellsAt, hk]
  rw [if_pos (by omega), ← hn]
  simp

/-- the first ones -/
theorem app_nil {t elem : TypeId} {sz n : Nat} {y : Value} {cs : List Value} {st : AS} {R : Type} {k : Value → AS → Option R} (ht : ElemT P t elem sz) (hy : srcCells sz st.H y = some (n, cs)) (hn : 0 < n) (hm : n ≤ 65536) :
    eBuiltin P .append #[t, t] [.slice none 0 0, y] st k = k (.slice (some ⟨st.H.length, 0, none⟩) n UNK) ⟨st.H ++ [.cells cs elem true], st.esc⟩ := by
  obtain ⟨z, b, hz, hzs, hb, hb0, hb1⟩ := ht.z
  have hle : n * b ≤ 140737488355328 := by
    have : n * b ≤ 65536 * 1048576 := Nat.mul_le_mul hm hb1
    omega
  have hp := ht.pos
  have hpz : sz ≠ 0 := by omega
  have hbz : b ≠ 0 := by omega
  have hnz : n ≠ 0 := by omega
  simp only [eBuiltin, aAppend, ht.u, ht.s, hb, hz, Option.getD_some, hy]
  simp [hzs, hpz, hbz, hnz, hle, aRow, newBlk]

/-- more of them -/
theorem app_more {t elem : TypeId} {sz n m : Nat} {y : Value} {old cs : List Value} {st : AS} {bk : Nat} {R : Type} {k : Value → AS → Option R} (ht : ElemT P t elem sz) (hb : st.H[bk]? = some (.cells old elem true)) (hl : old.length = m * sz) (hy : srcCells sz st.H y = some (n, cs)) (hn : 0 < n) (hm : m + n ≤ 65536) :
    eBuiltin P .append #[t, t] [.slice (some ⟨bk, 0, none⟩) m UNK, y] st k = k (.slice (some ⟨st.H.length, 0, none⟩) (m + n) UNK) ⟨st.H.set bk .dead ++ [.cells (old ++ cs) elem true], st.esc⟩ := by
  obtain ⟨z, b, hz, hzs, hb', hb0, hb1⟩ := ht.z
  have hle : (m + n) * b ≤ 140737488355328 := by
    have : (m + n) * b ≤ 65536 * 1048576 := Nat.mul_le_mul hm hb1
    omega
  have hp := ht.pos
  have hpz : sz ≠ 0 := by omega
  have hbz : b ≠ 0 := by omega
  have hnz : n ≠ 0 := by omega
  have htk : old.take (m * sz) = old := List.take_of_length_le (by omega)
  have hol : m * sz ≤ old.length := by omega
  simp only [eBuiltin, aAppend, ht.u, ht.s, hb', hz, Option.getD_some, hy]
  simp [hzs, hpz, hbz, hnz, hle, aRow, newBlk, hb, htk, hol]

/-! ### Blocks of one's own, by their places -/

theorem cellAt_z {cs : List Value} {t : TypeId} {o : Bool} {off : Nat} : cellAt (.cells cs t o :: l) 0 off = cs[off]? := rfl
theorem cellAt_s {b : Blk} {k off : Nat} : cellAt (b :: l) (k + 1) off = cellAt l k off := rfl
theorem cellsAt_z {cs : List Value} {t : TypeId} {o : Bool} {off n : Nat} : cellsAt (.cells cs t o :: l) 0 off n = if off + n ≤ cs.length then some ((cs.drop off).take n) else none := rfl
theorem cellsAt_s {b : Blk} {k off n : Nat} : cellsAt (b :: l) (k + 1) off n = cellsAt l k off n := rfl

/-- cells are stored, by places -/
def putB : List Blk → Nat → Nat → List Value → Option (List Blk)
  | [], _, _, _ => none
  | b :: l, 0, off, vs => match b with
    | .cells cs t true => if off + vs.length ≤ cs.length ∧ allCells vs = true then some (.cells (putCells cs off vs) t true :: l) else none
    | _ => none
  | b :: l, k + 1, off, vs => (putB l k off vs).map (b :: ·)

theorem putB_z {cs vs : List Value} {t : TypeId} {off : Nat} : putB (.cells cs t true :: l) 0 off vs = if off + vs.length ≤ cs.length ∧ allCells vs = true then some (.cells (putCells cs off vs) t true :: l) else none := rfl
theorem putB_s {b : Blk} {k off : Nat} {vs : List Value} : putB (b :: l) (k + 1) off vs = (putB l k off vs).map (b :: ·) := rfl

theorem putB_eq : ∀ (l : List Blk) (k off : Nat) (vs : List Value), (storeL ⟨l, none⟩ k off vs).map (·.H) = putB l k off vs
  | [], k, off, vs => by simp [storeL, putB]
  | b :: l, 0, off, vs => by
    simp only [storeL, List.getElem?_cons_zero, putB]
    cases b with
    | cells cs t o => cases o with
      | true =>
        simp only
        split <;> simp
      | false => rfl
    | map es c => rfl
    | iter m a b c => rfl
    | loop f ps x y fr s => rfl
    | dead => rfl
  | b :: l, k + 1, off, vs => by
    have ih := putB_eq l k off vs
    simp only [putB, ← ih]
    simp only [storeL, List.getElem?_cons_succ]
    split
    · split
      · simp
      · rfl
    · rfl

theorem storeL_own {k off : Nat} {vs : List Value} : storeL ⟨H0 ++ l, e⟩ (H0.length + k) off vs = (putB l k off vs).map fun l' => ⟨H0 ++ l', escOf e (H0.length + k) (lrefs vs)⟩ := by
  rw [storeL_app, ← putB_eq]
  cases storeL ⟨l, none⟩ k off vs <;> rfl
theorem storeL_own0 {off : Nat} {vs : List Value} : storeL ⟨H0 ++ l, e⟩ H0.length off vs = (putB l 0 off vs).map fun l' => ⟨H0 ++ l', escOf e H0.length (lrefs vs)⟩ := storeL_own (k := 0)

theorem app_cons2 (a b : List Blk) : H0 ++ a ++ b = H0 ++ (a ++ b) := List.append_assoc ..
theorem len_app : (H0 ++ l).length = H0.length + l.length := List.length_append

/-- a value of several cells, boxed -/
theorem box_lit {t : TypeId} {cs : List Value} {H : List Blk} : aBox t (.agg cs.toArray) ⟨H, e⟩ = if allCells cs = true then some (.pointer (some ⟨H.length, 0, none⟩), ⟨H ++ [.cells cs t true], e⟩) else none := by
  unfold aBox
  rfl
theorem store_lit {b o n : Nat} {cs : List Value} {st : AS} : aStore n st (.pointer (some ⟨b, o, none⟩)) (.agg cs.toArray) = if cs.length = n then storeL st b o cs else none := rfl
theorem max_int {R : Type} {k : Value → AS → Option R} {j : IntKind} {x y : Int} {ts : Array TypeId} {st : AS} : eBuiltin P .max ts [.int j x, .int j y] st k = k (.int j (if y > x then y else x)) st := by
  simp [eBuiltin, aMinMax]
theorem min_int {R : Type} {k : Value → AS → Option R} {j : IntKind} {x y : Int} {ts : Array TypeId} {st : AS} : eBuiltin P .min ts [.int j x, .int j y] st k = k (.int j (if y < x then y else x)) st := by
  simp [eBuiltin, aMinMax]

@[simp] theorem vrefs_map0 : vrefs (.map none) = [] := by simp [vrefs]
@[simp] theorem vrefs_nilFunc : vrefs .nilFunc = [] := by simp [vrefs]
theorem blkRefs_cells (cs : List Value) (t : TypeId) (o : Bool) : blkRefs (.cells cs t o) = lrefs cs := by simp [blkRefs]
theorem blkRefs_dead : blkRefs .dead = [] := by simp [blkRefs]
theorem renBlk_cells (σ : Nat → Nat) (cs : List Value) (t : TypeId) (o : Bool) : renBlk σ (.cells cs t o) = .cells (lren σ cs) t o := by simp [renBlk]
theorem putCells_one0 (c v : Value) (cs : List Value) : putCells (c :: cs) 0 [v] = v :: cs := by simp [putCells]
theorem putCells_succ (c : Value) (cs vs : List Value) (k : Nat) : putCells (c :: cs) (k + 1) vs = c :: putCells cs k vs := by
  simp only [putCells, List.take_succ_cons, List.cons_append]
  rw [show k + 1 + vs.length = (k + vs.length) + 1 by omega, List.drop_succ_cons]
theorem putCells_app {a b vs : List Value} (h : vs.length = a.length) : putCells (a ++ b) 0 vs = vs ++ b := by
  simp [putCells, h]

/-! ### One element more -/

theorem push_nil {t elem : TypeId} {sz : Nat} {r : List Value} {v : Value} {R : Type} {F : Value → AS → Option R} (ht : ElemT P t elem sz) (hr : r.length = sz)
    (hb : ∀ H' e', bsl P t 1 [0] [v] ⟨H', e'⟩ = some (.slice (some ⟨H'.length, 0, none⟩) 1 1, ⟨H' ++ [.cells r elem true], e'⟩)) :
    ((bsl P t 1 [0] [v] ⟨H0 ++ l, e⟩).bind fun q => eBuiltin P .append #[t, t] [.slice none 0 0, q.1] q.2 F) =
      F (.slice (some ⟨H0.length + (l.length + 1), 0, none⟩) 1 UNK) ⟨H0 ++ (l ++ [.cells r elem true, .cells r elem true]), e⟩ := by
  rw [hb]
  simp only [Option.bind_some]
  have hs : srcCells sz (H0 ++ l ++ [Blk.cells r elem true]) (.slice (some ⟨(H0 ++ l).length, 0, none⟩) 1 1) = some (1, r) := by
    simp only [srcCells, cellsAt, get_app0, List.getElem?_cons_zero]
    rw [if_pos (by omega)]
    simp [hr]
    rw [← hr]; simp
  rw [app_nil ht (st := ⟨H0 ++ l ++ [Blk.cells r elem true], e⟩) hs (by omega) (by omega)]
  simp [Nat.add_assoc]

theorem push_more {t elem : TypeId} {sz m k : Nat} {r old : List Value} {v : Value} {R : Type} {F : Value → AS → Option R} (ht : ElemT P t elem sz) (hr : r.length = sz)
    (hb : ∀ H' e', bsl P t 1 [0] [v] ⟨H', e'⟩ = some (.slice (some ⟨H'.length, 0, none⟩) 1 1, ⟨H' ++ [.cells r elem true], e'⟩))
    (hk : l[k]? = some (.cells old elem true)) (hl : old.length = m * sz) (hm : m ≤ 65535) :
    ((bsl P t 1 [0] [v] ⟨H0 ++ l, e⟩).bind fun q => eBuiltin P .append #[t, t] [.slice (some ⟨H0.length + k, 0, none⟩) m UNK, q.1] q.2 F) =
      F (.slice (some ⟨H0.length + (l.length + 1), 0, none⟩) (m + 1) UNK) ⟨H0 ++ (l.set k .dead ++ [.cells r elem true, .cells (old ++ r) elem true]), e⟩ := by
  rw [hb]
  simp only [Option.bind_some]
  have hkl := lt_of_get hk
  have hs : srcCells sz (H0 ++ l ++ [Blk.cells r elem true]) (.slice (some ⟨(H0 ++ l).length, 0, none⟩) 1 1) = some (1, r) := by
    simp only [srcCells, cellsAt, get_app0, List.getElem?_cons_zero]
    rw [if_pos (by omega)]
    simp [hr]
    rw [← hr]; simp
  have hg : (H0 ++ l ++ [Blk.cells r elem true])[H0.length + k]? = some (.cells old elem true) := by
    rw [List.append_assoc, get_app, List.getElem?_append_left hkl]; exact hk
  rw [app_more ht (st := ⟨H0 ++ l ++ [Blk.cells r elem true], e⟩) hg hl hs (by omega) (by omega)]
  have : (H0 ++ l ++ [Blk.cells r elem true]).set (H0.length + k) .dead = H0 ++ (l.set k .dead ++ [.cells r elem true]) := by
    rw [List.append_assoc, set_app, List.set_append_left _ _ hkl]
  simp only [this]
  simp [Nat.add_assoc]

theorem push_more0 {t elem : TypeId} {sz m : Nat} {r old : List Value} {v : Value} {R : Type} {F : Value → AS → Option R} (ht : ElemT P t elem sz) (hr : r.length = sz)
    (hb : ∀ H' e', bsl P t 1 [0] [v] ⟨H', e'⟩ = some (.slice (some ⟨H'.length, 0, none⟩) 1 1, ⟨H' ++ [.cells r elem true], e'⟩))
    (hk : l[0]? = some (.cells old elem true)) (hl : old.length = m * sz) (hm : m ≤ 65535) :
    ((bsl P t 1 [0] [v] ⟨H0 ++ l, e⟩).bind fun q => eBuiltin P .append #[t, t] [.slice (some ⟨H0.length, 0, none⟩) m UNK, q.1] q.2 F) =
      F (.slice (some ⟨H0.length + (l.length + 1), 0, none⟩) (m + 1) UNK) ⟨H0 ++ (l.set 0 .dead ++ [.cells r elem true, .cells (old ++ r) elem true]), e⟩ := push_more (k := 0) ht hr hb hk hl hm

/-- the end of a call that leaves blocks behind -/
theorem fin_keep {vs' : List Value} {l' : List Blk} (hf : vs.all flatV = true) (hg : gc H0.length vs ⟨H0 ++ l, e⟩ = (vs', ⟨H0 ++ l', none⟩)) : fin P false H0.length vs ⟨H0 ++ l, e⟩ = some (oneOf vs', H0 ++ l', none) := by
  unfold fin endFrz
  simp only [Bool.false_eq_true, if_false, frzL_flatV _ _ _ _ hf, hg, escBelow]

/-- a row of one's own that is told -/
theorem fin_row {t : TypeId} {k n c sz : Nat} {cs : List Value} (hk : l[k]? = some (.cells cs t true)) (hs : sizeP P t = some sz) (hn : cs.length = n * sz) (hc : cs.all noSl = true) (hr : lrefs cs = []) (he : escOk H0.length e = true) :
    fin P false H0.length [.slice (some ⟨H0.length + k, 0, none⟩) n c] ⟨H0 ++ l, e⟩ = some (tSl n cs, H0, none) :=
  fin_of (vs' := [tSl n cs]) (l' := l.set k .dead) (by simp only [frzL, frz_own hk hs hn hc]) (by simp [hr]) he
theorem fin_row0 {t : TypeId} {n c sz : Nat} {cs : List Value} (hk : l[0]? = some (.cells cs t true)) (hs : sizeP P t = some sz) (hn : cs.length = n * sz) (hc : cs.all noSl = true) (hr : lrefs cs = []) (he : escOk H0.length e = true) :
    fin P false H0.length [.slice (some ⟨H0.length, 0, none⟩) n c] ⟨H0 ++ l, e⟩ = some (tSl n cs, H0, none) := fin_row (k := 0) hk hs hn hc hr he
theorem fin_nil (he : escOk H0.length e = true) : fin P false H0.length [.slice none 0 0] ⟨H0 ++ l, e⟩ = some (tSl 0 [], H0, none) :=
  fin_of (vs' := [tSl 0 []]) (l' := l) (by simp only [frzL, frz_nil]) (by simp) he
theorem fin_nil0 : fin P false H0.length [.slice none 0 0] ⟨H0, none⟩ = some (tSl 0 [], H0, none) := by
  have := fin_nil (P := P) (H0 := H0) (l := []) (e := none) rfl
  simpa using this

/-- a loop over numbers, its state in two -/
theorem loop_r {σ : Type} {n0 : Nat} {step : List Value × AS → Option ((List Value × AS) ⊕ (AEx × List Value × AS))} {len : Nat} (S : Nat → σ → List Value × AS) (Ok : Nat → σ → Prop) (Q : AEx × List Value × AS → Prop)
    (h : ∀ i s, i < len → Ok i s → (∃ r, step (S i s) = some (.inr r) ∧ Q r) ∨ (∃ vs st s', step (S i s) = some (.inl (vs, st)) ∧ gc n0 vs st = S (i + 1) s' ∧ Ok (i + 1) s'))
    (hend : ∀ s, Ok len s → ∃ r, step (S len s) = some (.inr r) ∧ Q r) (k i : Nat) (s : σ) (vs : List Value) (st : AS) (hk : i + k = len) (ho : Ok i s) (hX : gc n0 vs st = S i s) : ∃ r, loopG n0 step (vs, st) = some r ∧ Q r :=
  loop_rule S Ok Q (fun i s hi ho => (h i s hi ho).imp id fun ⟨vs, st, s', h1, h2, h3⟩ => ⟨(vs, st), s', h1, h2, h3⟩) hend k i s (vs, st) hk ho hX

end
end Go.Am

end
section
namespace Go.Am

/-- entries in the order in which they were laid in -/
def entries {α : Type} (K V : α → Value) : Nat → List α → List MapEntry
  | _, [] => []
  | b, x :: xs => { key := K x, val := V x, born := b } :: entries K V (b + 1) xs

section
variable {P : Program} {α : Type} {K V : α → Value}

theorem entries_snoc : ∀ (b : Nat) (xs : List α) (x : α), entries K V b (xs ++ [x]) = entries K V b xs ++ [{ key := K x, val := V x, born := b + xs.length }]
  | b, [], x => by simp [entries]
  | b, y :: ys, x => by
    simp only [List.cons_append, entries, entries_snoc (b + 1) ys x, List.length_cons]
    rw [show b + 1 + ys.length = b + (ys.length + 1) by omega]

theorem entries_len : ∀ (b : Nat) (xs : List α), (entries K V b xs).length = xs.length
  | _, [] => rfl
  | b, _ :: xs => by simp [entries, entries_len (b + 1) xs]

theorem entries_get : ∀ (b : Nat) (xs : List α) (i : Nat), (entries K V b xs)[i]? = (xs[i]?).map fun x => { key := K x, val := V x, born := b + i }
  | _, [], i => by simp [entries]
  | b, x :: xs, 0 => by simp [entries]
  | b, x :: xs, i + 1 => by
    simp only [entries, List.getElem?_cons_succ, entries_get (b + 1) xs i]
    rw [show b + 1 + i = b + (i + 1) by omega]

theorem entries_keys {kt : TypeId} {kc : α → List Value} : ∀ (b : Nat) (xs : List α), (∀ x ∈ xs, K x = argV P kt (kc x)) → (∀ x ∈ xs, TOk P kt (kc x)) → Keys P kt (entries K V b xs) (xs.map kc)
  | _, [], _, _ => .nil
  | b, x :: xs, h1, h2 => by
    have ih := entries_keys (kt := kt) (kc := kc) (b + 1) xs (fun y hy => h1 y (by simp [hy])) (fun y hy => h2 y (by simp [hy]))
    refine ⟨?_, fun k hk => ?_⟩
    · simp only [entries, List.map_cons, ih.keys, h1 x (by simp)]
    · simp only [List.map_cons, List.mem_cons] at hk
      rcases hk with rfl | hk
      · exact h2 x (by simp)
      · exact ih.ok k hk

theorem entries_refs (hv : ∀ x, vrefs (V x) = []) (hk : ∀ x, vrefs (K x) = []) : ∀ (b : Nat) (xs : List α), ((entries K V b xs).flatMap fun e => vrefs e.key ++ vrefs e.val) = []
  | _, [] => rfl
  | b, x :: xs => by simp [entries, hv x, hk x, entries_refs hv hk (b + 1) xs]

theorem entries_ren {σ : Nat → Nat} (hv : ∀ x, vrefs (V x) = []) (hk : ∀ x, vrefs (K x) = []) : ∀ (b : Nat) (xs : List α), ((entries K V b xs).map fun e => { key := vren σ e.key, val := vren σ e.val, born := e.born : MapEntry }) = entries K V b xs
  | _, [] => rfl
  | b, x :: xs => by simp [entries, vren_none (hv x), vren_none (hk x), entries_ren hv hk (b + 1) xs]

theorem TOk.struct' {t : TypeId} {fs : Array Field} {ts : List TypeId} {ps : List (List Value)} (hu : P.underlying t = some (.struct fs)) (ht : fs.toList.map (·.type) = ts) (h : TOks P ts ps) : TOk P t ps.flatten := by
  obtain ⟨h1, h2⟩ := h.get
  refine .struct ps hu (by rw [h1, ← ht]; simp) (fun i f p hf hp => h2 i f.type p ?_ hp)
  rw [← ht, List.getElem?_map]
  have : fs.toList[i]? = some f := by simpa using hf
  rw [this]; rfl

/-- what is there for a key -/
theorem look_ent {t kt et : TypeId} {z : Value} (ht : P.underlying t = some (.map kt et)) (hz : zeroP P et = some z) (hpz : plain z = true) (hf : flatT P 12 kt = true) {st : AS} {r c : Nat} {xs : List α} {kc : α → List Value}
    (hK : ∀ x ∈ xs, K x = argV P kt (kc x)) (hT : ∀ x ∈ xs, TOk P kt (kc x)) (hr : st.H[r]? = some (.map (entries K V 0 xs) c)) {q : List Value} (hq : TOk P kt q) {p : α → Bool} (hp : ∀ x ∈ xs, p x = true ↔ kc x = q) :
    aLookup P t (.map (some r)) (argV P kt q) true st = some (match xs.find? p with | some x => .tuple #[V x, .bool true] | none => .tuple #[z, .bool false]) := by
  classical
  rw [lookup_flat ht hz hpz hf hr (entries_keys 0 xs hK hT) hq true]
  rw [List.findIdx?_map]
  have : ((fun k => decide (k = q)) ∘ kc) = fun x => decide (kc x = q) := rfl
  rw [this]
  clear hK hT hr this
  have key : ∀ (ys : List α) (b : Nat), (∀ x ∈ ys, p x = true ↔ kc x = q) → (match ys.findIdx? fun x => decide (kc x = q) with
      | some i => ((entries K V b ys)[i]?).map fun e => if true = true then Value.tuple #[e.val, .bool true] else e.val
      | none => some (if true = true then .tuple #[z, .bool false] else z)) = some (match ys.find? p with | some x => .tuple #[V x, .bool true] | none => .tuple #[z, .bool false]) := by
    intro ys
    induction ys with
    | nil => intro b _; rfl
    | cons y ys ih =>
      intro b hp
      by_cases hy : kc y = q
      · have hpy := (hp y (by simp)).2 hy
        simp [List.findIdx?_cons, hy, entries, hpy]
      · have hpy : p y = false := by
          cases h : p y with
          | false => rfl
          | true => exact absurd ((hp y (by simp)).1 h) hy
        have := ih (b + 1) (fun x hx => hp x (by simp [hx]))
        simp only [List.findIdx?_cons, List.find?_cons, hy, decide_false, hpy]
        cases hi : ys.findIdx? fun x => decide (kc x = q) with
        | none =>
          rw [hi] at this
          simpa using this
        | some i =>
          rw [hi] at this
          simpa [entries] using this
  exact key xs 0 hp

/-- a new key is laid in -/
theorem upd_ent {t kt et : TypeId} (ht : P.underlying t = some (.map kt et)) (hf : flatT P 12 kt = true) {st : AS} {r : Nat} {xs : List α} {kc : α → List Value}
    (hK : ∀ x ∈ xs, K x = argV P kt (kc x)) (hT : ∀ x ∈ xs, TOk P kt (kc x)) (hr : st.H[r]? = some (.map (entries K V 0 xs) xs.length)) {x : α} {q : List Value} {v : Value} (hx : K x = argV P kt q) (hv : V x = v) (hq : TOk P kt q) (hn : ∀ y ∈ xs, kc y ≠ q) :
    aMapUpdate P t (.map (some r)) (argV P kt q) v st = some ⟨st.H.set r (.map (entries K V 0 (xs ++ [x])) (xs.length + 1)), escOf st.esc r (vrefs v)⟩ := by
  subst hv
  rw [update_new ht hf hr (entries_keys 0 xs hK hT) hq (fun hm => by
    obtain ⟨y, hy, he⟩ := List.mem_map.1 hm
    exact hn y hy he) (V x)]
  rw [entries_snoc, hx, Nat.zero_add]

end
end Go.Am

end
section
namespace Go.Am

theorem any_G {R : Type} (n0 : Nat) (step : ((List Value × AS) ⊕ (AEx × List Value × AS) → Option R) → List Value × AS → Option R) (s : List Value × AS) (k : AEx × List Value × AS → Option R) : loopG.any n0 step s k = anyW n0 step s k := rfl
theorem all_G {R : Type} (n : Nat) (f : Nat → Option R) : loopG.all n f = allW n f := rfl

/-- rounds of which each may go several ways: what holds ahead of each, and a number that falls -/
theorem any_rule {R : Type} {n0 : Nat} {step : ((List Value × AS) ⊕ (AEx × List Value × AS) → Option R) → List Value × AS → Option R} {k : AEx × List Value × AS → Option R} {r : R} (I : Nat → List Value × AS → Prop) (Q : AEx × List Value × AS → Prop)
    (h : ∀ n X (k' : (List Value × AS) ⊕ (AEx × List Value × AS) → Option R), I n X → (∀ m Y, m < n → I m Y → k' (.inl Y) = some r) → (∀ x, Q x → k' (.inr x) = some r) → step k' (gc n0 X.1 X.2) = some r)
    (hQ : ∀ x, Q x → k x = some r) (n : Nat) (X : List Value × AS) (hX : I n X) : loopG.any n0 step X k = some r := by
  have key : ∀ (m n : Nat) (X : List Value × AS), n + 1 ≤ m → I n X → roundsK n0 step k m X = some r := by
    intro m
    induction m with
    | zero => intro n X hm; omega
    | succ m ih =>
      intro n X hm hI
      simp only [roundsK]
      exact h n X _ hI (fun j Y hj hY => ih j Y (by omega) hY) (fun x hx => hQ x hx)
  exact anyW_full (n := n + 1) (fun m hm => key m n X hm hX)

section
variable {α : Type} {K V : α → Value}

theorem entries_born : ∀ (b : Nat) (xs : List α) (e : MapEntry), e ∈ entries K V b xs → ∃ j x, xs[j]? = some x ∧ e = { key := K x, val := V x, born := b + j }
  | _, [], e, h => by simp [entries] at h
  | b, x :: xs, e, h => by
    simp only [entries, List.mem_cons] at h
    rcases h with rfl | h
    · exact ⟨0, x, rfl, rfl⟩
    · obtain ⟨j, y, h1, h2⟩ := entries_born (b + 1) xs e h
      exact ⟨j + 1, y, by simpa using h1, by rw [h2]; congr 1; omega⟩

theorem entries_find : ∀ (b : Nat) (xs : List α) (j : Nat) (x : α), xs[j]? = some x → (entries K V b xs).find? (·.born == b + j) = some { key := K x, val := V x, born := b + j }
  | _, [], j, x, h => by simp at h
  | b, y :: xs, 0, x, h => by
    simp at h; subst h
    simp [entries, List.find?_cons]
  | b, y :: xs, j + 1, x, h => by
    simp only [entries, List.find?_cons]
    have hne : (b == b + (j + 1)) = false := by rw [beq_eq_false_iff_ne]; omega
    have := entries_find (b + 1) xs j x (by simpa using h)
    rw [show b + 1 + j = b + (j + 1) by omega] at this
    simp only [hne, this]

/-- what a walk may hand out next -/
theorem next_ent {st : AS} {b r : Nat} {seen : List Nat} {xs : List α} (hb : st.H[b]? = some (.iter (some r) xs.length seen xs.length)) (hr : st.H[r]? = some (.map (entries K V 0 xs) xs.length)) :
    ((∀ j, j < xs.length → j ∈ seen) ∧ aNext (.pointer (some ⟨b, 0, none⟩)) st = some (1, fun _ => (.tuple #[.bool false], st))) ∨
    ∃ n g, aNext (.pointer (some ⟨b, 0, none⟩)) st = some (n, g) ∧ 0 < n ∧ ∀ i, i < n → ∃ j x, xs[j]? = some x ∧ j ∉ seen ∧ g i = (.tuple #[.bool true, K x, V x], ⟨st.H.set b (.iter (some r) xs.length (seen ++ [j]) xs.length), st.esc⟩) := by
  have hold : ((entries K V 0 xs).all fun e => decide (e.born < xs.length)) = true := by
    rw [List.all_eq_true]
    intro e he
    obtain ⟨j, x, h1, rfl⟩ := entries_born 0 xs e he
    have := lt_of_get h1
    simp; omega
  unfold aNext
  simp only [hb, hr]
  rw [if_pos ⟨hold, Nat.le_refl _⟩]
  cases hl : (entries K V 0 xs).filter fun e => !seen.contains e.born with
  | nil =>
    refine .inl ⟨fun j hj => ?_, rfl⟩
    have hx : xs[j]? = some xs[j] := List.getElem?_eq_getElem hj
    have hm : ({ key := K xs[j], val := V xs[j], born := 0 + j } : MapEntry) ∈ entries K V 0 xs := List.mem_of_find?_eq_some (entries_find 0 xs j _ hx)
    rw [List.filter_eq_nil_iff] at hl
    have := hl _ hm
    simpa using this
  | cons e0 l =>
    refine .inr ⟨_, _, rfl, by omega, fun i hi => ?_⟩
    have hi' : i < (e0 :: l).length := by simpa using hi
    have hm : (e0 :: l)[i] ∈ e0 :: l := List.getElem_mem hi'
    have hg : (e0 :: l).getD i e0 = (e0 :: l)[i] := by simp only [List.getD, List.getElem?_eq_getElem hi', Option.getD_some]
    generalize (e0 :: l)[i] = ei at hm hg
    rw [← hl] at hm
    obtain ⟨hm1, hm2⟩ := List.mem_filter.1 hm
    obtain ⟨j, x, h1, h2⟩ := entries_born 0 xs _ hm1
    refine ⟨j, x, h1, ?_, ?_⟩
    · rw [h2] at hm2
      simpa using hm2
    · simp only [hg, h2, Nat.zero_add]

/-- what it handed out -/
theorem entry_ent {st : AS} {b r c : Nat} {seen : List Nat} {xs : List α} {j : Nat} {x : α} (hb : st.H[b]? = some (.iter (some r) c (seen ++ [j]) xs.length)) (hr : st.H[r]? = some (.map (entries K V 0 xs) xs.length)) (hx : xs[j]? = some x) :
    aEntry (.pointer (some ⟨b, 0, none⟩)) st = some (.tuple #[K x, V x]) := by
  have := entries_find (K := K) (V := V) 0 xs j x hx
  rw [Nat.zero_add] at this
  unfold aEntry
  simp only [hb, hr, List.getLast?_append, List.getLast?_singleton, Option.some_or, if_true, this, Option.map_some]

/-- how many are left -/
def leftN (n : Nat) (seen : List Nat) : Nat := ((List.range n).filter fun j => !seen.contains j).length

theorem leftN_less {n j : Nat} {seen : List Nat} (hj : j < n) (hs : j ∉ seen) : leftN n (seen ++ [j]) < leftN n seen := by
  have := filter_lt (fun x => !seen.contains x) (fun x => !(seen ++ [j]).contains x) (fun x hx => by
    simp only [List.contains_append, Bool.not_or, Bool.and_eq_true] at hx; exact hx.1) j (by simpa using hs) (by simp) (List.range n) (List.mem_range.2 hj)
  exact this

end
end Go.Am

end
section
namespace Go.Am
section
variable {P : Program}

theorem unk_ne {n : Nat} (h : n < UNK) : n ≠ UNK := by omega

/-- l[:len(l):len(l)] -/
theorem slice_tight {t elem : TypeId} {n sz : Nat} {cs : List Value} {st : AS} {j j' : IntKind} (hu : P.underlying t = some (.slice elem)) (hs : sizeP P elem = some sz) (hl : cs.length = n * sz) (hn : n < UNK) :
    aSlice P t (tSl n cs) none (some (.int j (n : Int))) (some (.int j' (n : Int))) st = some (tight (tSl n cs)) := by
  have hb : aBounds n UNK none (some (.int j (n : Int))) (some (.int j' (n : Int))) = some (0, n, n) := by
    have h0 : (0 : Int) ≤ (n : Int) := by omega
    simp only [aBounds, if_true, h0, Int.toNat_natCast, Option.isSome_some, Option.isNone_some, Nat.zero_le, Nat.le_refl, true_and, and_false, Bool.false_eq_true, if_false, Nat.sub_zero, and_true, implies_true]
    rw [if_pos hn]
  have h1 : tSlice sz n 0 0 n cs.toArray = some (tSl n cs) := by
    have hc : n * sz ≤ cs.toArray.size ∧ n ≠ UNK := ⟨by simp; omega, unk_ne hn⟩
    simp only [tSlice, Nat.sub_zero, Nat.zero_mul, Nat.zero_add, List.drop_zero]
    rw [if_pos hc, List.take_of_length_le (by omega)]
  show aSlice P t (.iface n (.tuple cs.toArray)) _ _ _ _ = _
  simp only [aSlice, hu, hs, hb, h1, Option.map_some, Nat.sub_zero, if_true]

/-- what is appended makes a new row -/
theorem app_tight {t elem : TypeId} {sz n m : Nat} {y : Value} {cs new : List Value} {st : AS} {R : Type} {k : Value → AS → Option R} (ht : ElemT P t elem sz) (hy : srcCells sz st.H y = some (m, new)) (hm : 0 < m) (hl : cs.length = n * sz) (hc : cs.all cellV = true) (hb : n + m ≤ 65536) :
    eBuiltin P .append #[t, t] [tight (tSl n cs), y] st k = k (.slice (some ⟨st.H.length, 0, none⟩) (n + m) UNK) ⟨st.H ++ [.cells (cs ++ new) elem true], st.esc⟩ := by
  obtain ⟨z, b, hz, hzs, hb', hb0, hb1⟩ := ht.z
  have hle : (n + m) * b ≤ 140737488355328 := by
    have : (n + m) * b ≤ 65536 * 1048576 := Nat.mul_le_mul hb hb1
    omega
  have hp := ht.pos
  have hpz : sz ≠ 0 := by omega
  have hbz : b ≠ 0 := by omega
  have hmz : m ≠ 0 := by omega
  have ha : tApp n sz cs.toArray new = some (cs ++ new) := by
    unfold tApp
    rw [if_pos ⟨by simpa using hl, by simpa using hc⟩]
  show eBuiltin P .append #[t, t] [.iface n (.iface 0 (.tuple cs.toArray)), y] st k = _
  simp only [eBuiltin, aAppend, ht.u, ht.s, hb', hz, Option.getD_some, hy]
  simp [hzs, hpz, hbz, hmz, hle, aRow, newBlk, ha]

/-- a row of which the capacity is known, and too small -/
theorem app_full {t elem : TypeId} {sz n m c bk : Nat} {y : Value} {old new : List Value} {st : AS} {R : Type} {k : Value → AS → Option R} (ht : ElemT P t elem sz) {o : Bool} (hk : st.H[bk]? = some (.cells old elem o)) (hol : old.length = n * sz) (hy : srcCells sz st.H y = some (m, new)) (hm : 0 < m) (hcn : c < n + m) (hb : n + m ≤ 65536) :
    eBuiltin P .append #[t, t] [.slice (some ⟨bk, 0, none⟩) n c, y] st k = k (.slice (some ⟨st.H.length, 0, none⟩) (n + m) UNK) ⟨st.H ++ [.cells (old ++ new) elem true], st.esc⟩ := by
  obtain ⟨z, b, hz, hzs, hb', hb0, hb1⟩ := ht.z
  have hle : (n + m) * b ≤ 140737488355328 := by
    have : (n + m) * b ≤ 65536 * 1048576 := Nat.mul_le_mul hb hb1
    omega
  have hp := ht.pos
  have hpz : sz ≠ 0 := by omega
  have hbz : b ≠ 0 := by omega
  have hmz : m ≠ 0 := by omega
  have hcu : c ≠ UNK := by unfold UNK; omega
  have hnc : ¬ n + m ≤ c := by omega
  have hca : cellsAt st.H bk 0 (n * sz) = some old := by
    simp only [cellsAt, hk]
    rw [if_pos (by omega), List.drop_zero, List.take_of_length_le (by omega)]
  simp only [eBuiltin, aAppend, ht.u, ht.s, hb', hz, Option.getD_some, hy]
  simp [hzs, hpz, hbz, hmz, hle, hcu, hnc, aRow, newBlk, hca]

/-- nothing is appended -/
theorem app_none {t elem : TypeId} {sz n c : Nat} {a : Addr} {y : Value} {st : AS} {R : Type} {k : Value → AS → Option R} (ht : ElemT P t elem sz) (hy : srcCells sz st.H y = some (0, [])) :
    eBuiltin P .append #[t, t] [.slice (some a) n c, y] st k = k (.slice (some a) n c) st := by
  obtain ⟨z, b, hz, hzs, hb', hb0, hb1⟩ := ht.z
  have hp := ht.pos
  have hpz : sz ≠ 0 := by omega
  have hbz : b ≠ 0 := by omega
  simp only [eBuiltin, aAppend, ht.u, ht.s, hb', hz, Option.getD_some, hy]
  simp [hzs, hpz, hbz]

theorem src_tree {sz n : Nat} {cs : List Value} {H : List Blk} (hl : cs.length = n * sz) (hc : cs.all cellV = true) : srcCells sz H (tSl n cs) = some (n, cs) := by
  show srcCells sz H (.iface n (.tuple cs.toArray)) = _
  simp only [srcCells, tSrc]
  rw [if_pos ⟨by simpa using hl, by simpa using hc⟩]

/-- arguments that become values when a function is called -/
theorem acall_fza {T : FuncId → Tab} {f : FuncId} (hf : (T f).fza = true) {args args' : List Value} {H H' : List Blk} (h1 : jFrz P 0 args ⟨H, none⟩ true = (args', ⟨H', none⟩)) (h2 : jFrz P 0 args' ⟨H', none⟩ true = (args', ⟨H', none⟩)) :
    acall P T f args H = acall P T f args' H' := by
  rw [acall_eq, acall_eq]
  unfold ebody
  rw [hf, h1, h2]

end
end Go.Am
namespace Go.Am
section

theorem esc_zero (e : Option Nat) : escOk 0 e = true := by cases e <;> simp [escOk]

theorem reach_same (H : List Blk) (b : Nat) : ∀ (fuel : Nat) (rs : List Nat), (∀ r ∈ rs, r = b) → reach H 0 fuel rs [b] = [b]
  | 0, rs, _ => by cases rs <;> rfl
  | fuel + 1, [], _ => rfl
  | fuel + 1, r :: rs, h => by
    have hr : r = b := h r (by simp)
    subst hr
    simp only [reach]
    rw [if_neg (by omega), if_pos (by simp)]
    exact reach_same H r fuel rs (fun x hx => h x (by simp [hx]))

/-- all that is led to is one row -/
theorem gc_row1 {vs : List Value} {H : List Blk} {e : Option Nat} {b : Nat} {cs : List Value} {t : TypeId} {o : Bool} (hv : ∀ r ∈ lrefs vs, r = b) (hm : b ∈ lrefs vs) (hb : H[b]? = some (.cells cs t o)) (hc : lrefs cs = []) {vs' : List Value} (h1 : lren (renum 0 [b]) vs = vs') :
    gc 0 vs ⟨H, e⟩ = (vs', ⟨[.cells cs t o], none⟩) := by
  have hr : reach H 0 (H.length * 64 + 4096) (lrefs vs) [] = [b] := by
    obtain ⟨r, rs, hl⟩ : ∃ r rs, lrefs vs = r :: rs := by
      cases hx : lrefs vs with
      | nil => rw [hx] at hm; simp at hm
      | cons r rs => exact ⟨r, rs, rfl⟩
    have hrb : r = b := hv r (by rw [hl]; simp)
    subst hrb
    rw [hl, show H.length * 64 + 4096 = (H.length * 64 + 4095) + 1 by omega]
    simp only [reach, hb, hc, List.nil_append]
    rw [if_neg (by omega), if_neg (by simp)]
    exact reach_same H r _ rs (fun x hx => hv x (by rw [hl]; simp [hx]))
  have hd : H.getD b .dead = .cells cs t o := by simp [List.getD, hb]
  have c1 : closed 0 [b] (lrefs vs) = true := by
    unfold closed
    rw [List.all_eq_true]
    intro r hr
    rw [hv r hr]; simp
  unfold gc
  simp only [esc_zero, if_true, hr, List.map_cons, List.map_nil, hd]
  rw [if_pos ⟨c1, by simp [blkRefs, hc, closed], by omega⟩, h1]
  simp only [List.take_zero, List.nil_append, renBlk]
  rw [lren_same cs (fun x hx => by rw [hc] at hx; simp at hx)]

end
end Go.Am
namespace Go.Am
section
variable {P : Program} {α : Type} {K V : α → Value}

/-- what is there for a key, or nothing -/
theorem look_ent1 {t kt et : TypeId} {z : Value} (ht : P.underlying t = some (.map kt et)) (hz : zeroP P et = some z) (hpz : plain z = true) (hf : flatT P 12 kt = true) {st : AS} {r c : Nat} {xs : List α} {kc : α → List Value}
    (hK : ∀ x ∈ xs, K x = argV P kt (kc x)) (hT : ∀ x ∈ xs, TOk P kt (kc x)) (hr : st.H[r]? = some (.map (entries K V 0 xs) c)) {q : List Value} (hq : TOk P kt q) {p : α → Bool} (hp : ∀ x ∈ xs, p x = true ↔ kc x = q) :
    aLookup P t (.map (some r)) (argV P kt q) false st = some (match xs.find? p with | some x => V x | none => z) := by
  classical
  rw [lookup_flat ht hz hpz hf hr (entries_keys 0 xs hK hT) hq false]
  rw [List.findIdx?_map]
  have : ((fun k => decide (k = q)) ∘ kc) = fun x => decide (kc x = q) := rfl
  rw [this]
  clear hK hT hr this
  have key : ∀ (ys : List α) (b : Nat), (∀ x ∈ ys, p x = true ↔ kc x = q) → (match ys.findIdx? fun x => decide (kc x = q) with
      | some i => ((entries K V b ys)[i]?).map fun e => if false = true then Value.tuple #[e.val, .bool true] else e.val
      | none => some (if false = true then .tuple #[z, .bool false] else z)) = some (match ys.find? p with | some x => V x | none => z) := by
    intro ys
    induction ys with
    | nil => intro b _; rfl
    | cons y ys ih =>
      intro b hp
      by_cases hy : kc y = q
      · have hpy := (hp y (by simp)).2 hy
        simp [List.findIdx?_cons, hy, entries, hpy]
      · have hpy : p y = false := by
          cases h : p y with
          | false => rfl
          | true => exact absurd ((hp y (by simp)).1 h) hy
        have := ih (b + 1) (fun x hx => hp x (by simp [hx]))
        simp only [List.findIdx?_cons, List.find?_cons, hy, decide_false, hpy]
        cases hi : ys.findIdx? fun x => decide (kc x = q) with
        | none =>
          rw [hi] at this
          simpa using this
        | some i =>
          rw [hi] at this
          simpa [entries] using this
  exact key xs 0 hp

end
end Go.Am

end
section
namespace Go.Am
def mach :=
  And.intro @Option.bind_some.{0,0} <|
  And.intro @Option.map_some.{0,0} <|
  And.intro @bcase_true <|
  And.intro @bcase_false <|
  And.intro @List.getD_cons_zero.{0} <|
  And.intro @List.getD_cons_succ.{0} <|
  And.intro @bin_add <|
  And.intro @bin_sub <|
  And.intro @bin_mul <|
  And.intro @bin_eql <|
  And.intro @bin_neq <|
  And.intro @bin_lss <|
  And.intro @bin_leq <|
  And.intro @bin_gtr <|
  And.intro @bin_geq <|
  And.intro @un_not <|
  And.intro @pick_bool <|
  And.intro @decide_true <|
  And.intro @decide_false <|
  And.intro @Bool.not_true <|
  And.intro @Bool.not_false <|
  And.intro @joinEsc_none <|
  And.intro @oneOf_one <|
  And.intro @ext20 <|
  And.intro @ext21 <|
  And.intro @ext30 <|
  And.intro @ext31 <|
  And.intro @ext32 <|
  And.intro @if_true.{1} <|
  And.intro @box_lit <|
  And.intro @box_int <|
  And.intro @box_bool <|
  And.intro @box_slice <|
  And.intro @box_map <|
  And.intro @box_ptr <|
  And.intro @box_tSl <|
  And.intro @store_lit <|
  And.intro @store_int <|
  And.intro @store_bool <|
  And.intro @store_slice <|
  And.intro @store_map <|
  And.intro @store_ptr <|
  And.intro @store_tSl <|
  And.intro @load_one <|
  And.intro @load_agg <|
  And.intro @app_cons2 <|
  And.intro @List.cons_append.{0} <|
  And.intro @List.nil_append.{0} <|
  And.intro @len_app <|
  And.intro @List.length_cons.{0} <|
  And.intro @List.length_nil.{0} <|
  And.intro @Nat.zero_add <|
  And.intro @Nat.add_zero <|
  And.intro @Nat.le_refl <|
  And.intro @cellAt_app0 <|
  And.intro @cellAt_app <|
  And.intro @cellsAt_app0 <|
  And.intro @cellsAt_app <|
  And.intro @storeL_own0 <|
  And.intro @storeL_own <|
  And.intro @cellAt_z <|
  And.intro @cellAt_s <|
  And.intro @cellsAt_z <|
  And.intro @cellsAt_s <|
  And.intro @putB_z <|
  And.intro @putB_s <|
  And.intro @List.getElem?_cons_zero.{0} <|
  And.intro @List.getElem?_cons_succ.{0} <|
  And.intro @List.drop_zero.{0} <|
  And.intro @List.drop_succ_cons.{0} <|
  And.intro @List.take_zero.{0} <|
  And.intro @List.take_succ_cons.{0} <|
  And.intro @allCells_cons <|
  And.intro @allCells_nil <|
  And.intro @cellV_int <|
  And.intro @cellV_bool <|
  And.intro @cellV_string <|
  And.intro @cellV_ptr <|
  And.intro @cellV_slice <|
  And.intro @cellV_map <|
  And.intro @cellV_func <|
  And.intro @cellV_nilFunc <|
  And.intro @cellV_tSl <|
  And.intro @Bool.and_self <|
  And.intro @Bool.and_true <|
  And.intro @Bool.true_and <|
  And.intro @and_self <|
  And.intro @true_and <|
  And.intro @and_true <|
  And.intro @Bool.false_eq_true <|
  And.intro @if_false.{1} <|
  And.intro @lrefs_nil <|
  And.intro @lrefs_cons <|
  And.intro @vrefs_bool <|
  And.intro @vrefs_int <|
  And.intro @vrefs_string <|
  And.intro @vrefs_ptr <|
  And.intro @vrefs_ptr0 <|
  And.intro @vrefs_slice <|
  And.intro @vrefs_slice0 <|
  And.intro @vrefs_map <|
  And.intro @vrefs_tSl <|
  And.intro @vrefs_tPtr <|
  And.intro @vrefs_agg <|
  And.intro @escOf_nil <|
  And.intro @putCells_one0 <|
  And.intro @putCells_succ <|
  And.intro @max_int <|
  @min_int
end Go.Am

end
section
namespace Go.Am
section
variable {P : Program} {H : Type} {enc : TypeId × Value → H} {w : World}

/-- the second value tells less of what both stand for -/
def BlurV (P : Program) (x y : Value) : Prop := ∀ (ρ : Ren) (sh : Sh) (v : Value), VRel P ρ sh x v → VRel P ρ sh y v
def Blur (P : Program) (xs ys : List Value) : Prop := ∀ (ρ : Ren) (sh : Sh) (vs : List Value), LRel P ρ sh xs vs → LRel P ρ sh ys vs
theorem BlurV.refl (x : Value) : BlurV P x x := fun _ _ _ h => h
theorem Blur.refl (xs : List Value) : Blur P xs xs := fun _ _ _ h => h
theorem Blur.cons {x y : Value} {xs ys : List Value} (h : BlurV P x y) (hs : Blur P xs ys) : Blur P (x :: xs) (y :: ys) := by
  intro ρ sh vs hv
  cases vs with
  | nil => have := hv.1; simp at this
  | cons v vs => exact .cons (h ρ sh v hv.head.1) (hs ρ sh vs hv.head.2)
theorem BlurV.agg {l l' : List Value} (h : Blur P l l') : BlurV P (.agg l.toArray) (.agg l'.toArray) := by
  intro ρ sh v hv
  obtain ⟨a', rfl, hL⟩ := hv.agg_inv
  have := VRel.agg_list (h ρ sh a'.toList (by simpa using hL))
  simpa using this
/-- a row of which the length alone is told -/
theorem BlurV.row (n : Nat) (row : List Value) : BlurV P (tSl n row) (tSl n []) := by
  intro ρ sh v hv
  have hv : VRel P ρ sh (.iface n (.tuple row.toArray)) v := hv
  show VRel P ρ sh (.iface n (.tuple #[])) v
  cases hv with
  | same _ h => simp [plain] at h
  | tree hz hc hl ha ha' => exact .tree (a' := #[]) hz (by simp) hl rfl (fun i h1 h2 => by simp at h1)
  | tree0 hn => exact .tree0 hn

/-- A LAW'S CALL, from what the machine says where less is told -/
theorem calls_blurred {T : FuncId → Tab} (hT : TabOk P T) {f : FuncId} {ts : List TypeId} (hf : ts.all (fineT P 12) = true) (h : ∀ xs, TOks P ts xs → ∃ ys, Blur P (argVs P ts xs) ys ∧ saysTrue (acall P T f ys []) = true)
    {base : Nat} {args : Array Value} {ds : List (DataW H)} {ps : List MemPlace} (hA : DataW.TrodAll enc P w 0 (fun _ => true) true ts args.toList ds ps)
    (hval : ∀ (j : Nat) t v, ts[j]? = some t → args[j]? = some v → Value.okWide P w .any base t v) :
    Calls P f args w fun e w' => e = .returned (.bool true) ∧ Kept w w' := by
  obtain ⟨xs, hxs, l⟩ := open_args (base := base) ts args.toList ds ps hf hA (fun j t v ht hj => hval j t v ht (by simpa using hj))
  obtain ⟨ys, hb, h⟩ := h xs hxs
  unfold saysTrue at h
  split at h
  · rename_i H' e hc
    refine ((acall_sound P T hT).fn f _ _ _ _ _ (rho0 w) w args (acall_lt hc) hc (rel_nil w) (hb _ _ _ l)).mono fun e w' ⟨cv, he, ho⟩ => ?_
    obtain ⟨⟨ρ2, _, h2, h3⟩, _⟩ := ho
    exact ⟨by rw [he, h3.bool_inv], kept_of_step h2 (fun b k hb => by simp at hb)⟩
  · simp at h
end
end Go.Am

end
section
namespace Go.Am
section
variable {P : Program} {T : FuncId → Tab}

mutual
/-- are two values the very same? (functions, too) -/
def eqV : Value → Value → Bool
  | .func (.func f) a b, .func (.func g) c d => Nat.beq f g && (eqA a c && eqA b d)
  | .agg a, .agg b => eqA a b
  | .tuple a, .tuple b => eqA a b
  | .iface i a, .iface j b => decide (i = j) && eqV a b
  | .nilIface, .nilIface => true
  | .chan none, .chan none => true
  | x, y => veq x y
def eqA : Array Value → Array Value → Bool
  | ⟨a⟩, ⟨b⟩ => eqL a b
def eqL : List Value → List Value → Bool
  | [], [] => true
  | x :: xs, y :: ys => eqV x y && eqL xs ys
  | _, _ => false
end
mutual
theorem eqV_eq : ∀ (a b : Value), eqV a b = true → a = b
  | .func (.func f) ⟨a⟩ ⟨b⟩, y, h => by
    cases y with
    | func g c d =>
      cases g with
      | func g =>
        cases c with | mk c => cases d with | mk d =>
        simp only [eqV, eqA, Bool.and_eq_true] at h
        rw [eqL_eq a c h.2.1, eqL_eq b d h.2.2, Nat.eq_of_beq_eq_true h.1]
      | _ => simp [eqV, veq] at h
    | _ => simp [eqV, veq] at h
  | .agg ⟨a⟩, y, h => by
    cases y with
    | agg b => cases b with | mk b => simp only [eqV, eqA] at h; rw [eqL_eq a b h]
    | _ => simp [eqV, veq] at h
  | .tuple ⟨a⟩, y, h => by
    cases y with
    | tuple b => cases b with | mk b => simp only [eqV, eqA] at h; rw [eqL_eq a b h]
    | _ => simp [eqV, veq] at h
  | .iface i a, y, h => by
    cases y with
    | iface j b =>
      simp only [eqV, Bool.and_eq_true, decide_eq_true_eq] at h
      rw [h.1, eqV_eq a b h.2]
    | _ => simp [eqV, veq] at h
  | .nilIface, y, h => by cases y <;> first | rfl | (simp [eqV, veq] at h)
  | .chan none, y, h => by
    cases y with
    | chan c => cases c <;> first | rfl | (simp [eqV, veq] at h)
    | _ => simp [eqV, veq] at h
  | .bool a, y, h => veq_eq _ _ (by cases y <;> simpa [eqV] using h)
  | .int j a, y, h => veq_eq _ _ (by cases y <;> simpa [eqV] using h)
  | .float j a, y, h => veq_eq _ _ (by cases y <;> simpa [eqV] using h)
  | .complex a b c, y, h => veq_eq _ _ (by cases y <;> simpa [eqV] using h)
  | .string a, y, h => veq_eq _ _ (by cases y <;> simpa [eqV] using h)
  | .pointer a, y, h => veq_eq _ _ (by cases y <;> simpa [eqV] using h)
  | .slice a b c, y, h => veq_eq _ _ (by cases y <;> simpa [eqV] using h)
  | .map a, y, h => veq_eq _ _ (by cases y <;> simpa [eqV] using h)
  | .nilFunc, y, h => veq_eq _ _ (by cases y <;> simpa [eqV] using h)
  | .chan (some r), y, h => by cases y <;> simp [eqV, veq] at h
  | .func (.method n) a b, y, h => by cases y <;> simp [eqV, veq] at h
  | .func (.methodOf n m) a b, y, h => by cases y <;> simp [eqV, veq] at h
  | .func (.via n m p q) a b, y, h => by cases y <;> simp [eqV, veq] at h
  | .func (.yield n) a b, y, h => by cases y <;> simp [eqV, veq] at h
theorem eqL_eq : ∀ (a b : List Value), eqL a b = true → a = b
  | [], [], _ => rfl
  | [], _ :: _, h => by simp [eqL] at h
  | _ :: _, [], h => by simp [eqL] at h
  | x :: xs, y :: ys, h => by
    simp only [eqL, Bool.and_eq_true] at h
    rw [eqV_eq x y h.1, eqL_eq xs ys h.2]
end

def eqEs : List MapEntry → List MapEntry → Bool
  | [], [] => true
  | a :: as, b :: bs => eqV a.key b.key && eqV a.val b.val && a.born == b.born && eqEs as bs
  | _, _ => false
def eqB : Blk → Blk → Bool
  | .cells a t o, .cells b u p => eqL a b && t == u && o == p
  | .map es c, .map fs d => eqEs es fs && c == d
  | .iter m a b c, .iter m' a' b' c' => decide (m = m') && a == a' && decide (b = b') && c == c'
  | .dead, .dead => true
  | _, _ => false
def eqH : List Blk → List Blk → Bool
  | [], [] => true
  | a :: as, b :: bs => eqB a b && eqH as bs
  | _, _ => false

structure Ent where
  f : FuncId
  args : List Value
  H : List Blk
  r : Value × List Blk × Option Nat

def Ent.is (e : Ent) (f : FuncId) (args : List Value) (H : List Blk) : Bool := Nat.beq e.f f && (eqL e.args args && eqH e.H H)
def look (f : FuncId) (args : List Value) (H : List Blk) : List Ent → Option Ent
  | [] => none
  | e :: es => cond (e.is f args H) (some e) (look f args H es)

/-- calls, so deep at most; some are looked up -/
def callT (P : Program) (T : FuncId → Tab) (tab : List Ent) : Nat → Callee
  | 0 => fun _ _ _ => none
  | n + 1 => fun f args H => match look f args H tab with
    | some e => some e.r
    | none => ebody P T (callT P T tab n) (loopB (n * 4096 + 4096)) f args H

theorem eqEs_eq : ∀ (a b : List MapEntry), eqEs a b = true → a = b
  | [], [], _ => rfl
  | [], _ :: _, h => by simp [eqEs] at h
  | _ :: _, [], h => by simp [eqEs] at h
  | ⟨k, v, n⟩ :: as, ⟨k', v', n'⟩ :: bs, h => by
    simp only [eqEs, Bool.and_eq_true, beq_iff_eq] at h
    rw [eqV_eq k k' h.1.1.1, eqV_eq v v' h.1.1.2, h.1.2, eqEs_eq as bs h.2]
theorem eqB_eq (a b : Blk) (h : eqB a b = true) : a = b := by
  cases a <;> cases b <;> simp only [eqB, Bool.and_eq_true, beq_iff_eq, decide_eq_true_eq] at h <;> try (simp at h; done)
  · rw [eqL_eq _ _ h.1.1, h.1.2, h.2]
  · rw [eqEs_eq _ _ h.1, h.2]
  · rw [h.1.1.1, h.1.1.2, h.1.2, h.2]
  · rfl
theorem eqH_eq : ∀ (a b : List Blk), eqH a b = true → a = b
  | [], [], _ => rfl
  | [], _ :: _, h => by simp [eqH] at h
  | _ :: _, [], h => by simp [eqH] at h
  | x :: xs, y :: ys, h => by
    simp only [eqH, Bool.and_eq_true] at h
    rw [eqB_eq x y h.1, eqH_eq xs ys h.2]
theorem look_some {f : FuncId} {args : List Value} {H : List Blk} : ∀ (tab : List Ent) {e : Ent}, look f args H tab = some e → e ∈ tab ∧ e.f = f ∧ e.args = args ∧ e.H = H
  | [], e, h => by simp [look] at h
  | x :: xs, e, h => by
    simp only [look] at h
    cases hx : x.is f args H with
    | true =>
      rw [hx, cond_true] at h
      simp only [Option.some.injEq] at h
      subst h
      simp only [Ent.is, Bool.and_eq_true] at hx
      exact ⟨List.mem_cons_self .., Nat.eq_of_beq_eq_true hx.1, eqL_eq _ _ hx.2.1, eqH_eq _ _ hx.2.2⟩
    | false =>
      rw [hx, cond_false] at h
      obtain ⟨h1, h2⟩ := look_some xs h
      exact ⟨List.mem_cons_of_mem _ h1, h2⟩

/-- is an entry so? -/
def Ent.holds (P : Program) (T : FuncId → Tab) (e : Ent) : Prop := acall P T e.f e.args e.H = some e.r

/-- WHAT THE KERNEL RECKONS HOLDS, if what is looked up does -/
theorem acall_of_callT {tab : List Ent} (ht : ∀ e ∈ tab, e.holds P T) : ∀ (n : Nat) {f : FuncId} {args : List Value} {H : List Blk} {r}, callT P T tab n f args H = some r → acall P T f args H = some r
  | 0, f, args, H, r, h => by simp [callT] at h
  | n + 1, f, args, H, r, h => by
    simp only [callT] at h
    split at h
    · rename_i e he
      obtain ⟨h1, rfl, rfl, rfl⟩ := look_some tab he
      rw [← h]
      exact ht e h1
    · rw [acall_eq]
      obtain ⟨q, hq, hall⟩ := ebody_factor (rounds_sound _) h
      exact hall _ (fun x hx => acall_of_callT ht n (hq x hx))
theorem Ent.of {tab : List Ent} {e : Ent} (n : Nat) (ht : ∀ e ∈ tab, e.holds P T) (h : callT P T tab n e.f e.args e.H = some e.r) : e.holds P T := acall_of_callT ht n h
theorem ents_nil : ∀ e ∈ ([] : List Ent), e.holds P T := fun e h => by simp at h
theorem ents_cons {e : Ent} {tab : List Ent} (h : e.holds P T) (ht : ∀ e ∈ tab, e.holds P T) : ∀ x ∈ e :: tab, x.holds P T := fun x hx => (List.mem_cons.1 hx).elim (fun h' => h' ▸ h) (ht x)
/-- what the machine says of a function without arguments, none of it leaning on the like -/
theorem lives_acall (hT : ∀ f, (T f).lives = false) (hS : ∀ f, (T f).sum = none) {f : FuncId} (h : saysTrue (acall P T f [] []) = true) : Lives P f := fun w => by
  unfold saysTrue at h
  split at h
  · rename_i H' e hc
    refine ((acall_sound P T (.of (fun f h => by rw [hT] at h; simp at h) hS)).fn f _ _ _ _ _ (rho0 w) w #[] (acall_lt hc) hc (rel_nil w) ⟨rfl, fun i v hv => by simp at hv⟩).mono fun e w' ⟨cv, he, ho⟩ => ?_
    obtain ⟨⟨ρ2, _, h2, h3⟩, _⟩ := ho
    exact ⟨by rw [he, h3.bool_inv], kept_of_step h2 (fun b k hb => by simp at hb)⟩
  · simp at h
end
end Go.Am

end
