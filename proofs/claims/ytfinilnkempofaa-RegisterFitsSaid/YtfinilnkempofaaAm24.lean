/- What is struck, in general: all that is led to stays, under new names. -/
import Derived.Test.YtfinilnkempofaaAm23
set_option linter.all false
set_option linter.unusedVariables false
set_option linter.unusedSimpArgs false
set_option linter.unnecessarySimpa false
namespace Go.Am

/-- a block that some values lead to -/
inductive Rch (H : List Blk) (l : List Nat) : Nat → Prop
  | here {r : Nat} (h : r ∈ l) : Rch H l r
  | step {r q : Nat} {b : Blk} (h : Rch H l q) (hb : H[q]? = some b) (hr : r ∈ blkRefs b) : Rch H l r

section
variable {H : List Blk} {n : Nat} {vs : List Value} {e : Option Nat}

theorem findIx_mem {r : Nat} : ∀ (l : List Nat) (i : Nat), r ∈ l → ∃ j, findIx r l i = some (i + j) ∧ l[j]? = some r := fun l i h => findIx_spec r l i h

theorem gc_spec (n : Nat) (vs : List Value) (st : AS) : ∃ σ : Nat → Nat, (gc n vs st).1 = lren σ vs ∧ (∀ r, r < n → σ r = r ∧ (gc n vs st).2.H[r]? = st.H[r]?) ∧
    (∀ r, Rch st.H (lrefs vs) r → (∀ q b, Rch st.H (lrefs vs) q → q < n → st.H[q]? = some b → ∀ x ∈ blkRefs b, x < n) → n ≤ r → n ≤ σ r ∧ ∀ b, st.H[r]? = some b → (gc n vs st).2.H[σ r]? = some (renBlk σ b)) ∧
    (n ≤ st.H.length → n ≤ (gc n vs st).2.H.length) := by
  obtain ⟨H, e⟩ := st
  have idv : lren (fun r => r) vs = vs := lren_same vs (fun _ _ => rfl)
  have idb : ∀ b : Blk, renBlk (fun r => r) b = b := by
    intro b
    cases b with
    | cells cs t o => simp [renBlk, lren_same cs (fun _ _ => rfl)]
    | map es c =>
      simp only [renBlk]
      congr 1
      rw [show es = es.map id by simp, List.map_map]
      refine List.map_congr_left fun x _ => ?_
      simp [vren_same x.key (fun _ _ => rfl), vren_same x.val (fun _ _ => rfl)]
    | iter m a b c => simp [renBlk]
    | dead => rfl
  have same : ∃ σ : Nat → Nat, (vs, (⟨H, e⟩ : AS)).1 = lren σ vs ∧ (∀ r, r < n → σ r = r ∧ (vs, (⟨H, e⟩ : AS)).2.H[r]? = H[r]?) ∧
      (∀ r, Rch H (lrefs vs) r → (∀ q b, Rch H (lrefs vs) q → q < n → H[q]? = some b → ∀ x ∈ blkRefs b, x < n) → n ≤ r → n ≤ σ r ∧ ∀ b, H[r]? = some b → (vs, (⟨H, e⟩ : AS)).2.H[σ r]? = some (renBlk σ b)) ∧ (n ≤ H.length → n ≤ (vs, (⟨H, e⟩ : AS)).2.H.length) :=
    ⟨fun r => r, idv.symm, fun r _ => ⟨rfl, rfl⟩, fun r _ _ hr => ⟨hr, fun b hb => by rw [idb]; exact hb⟩, fun h => h⟩
  unfold gc
  split
  · simp only
    generalize hkept : reach H n (H.length * 64 + 4096) (lrefs vs) [] = kept
    have hinv := reach_inv H n (H.length * 64 + 4096) (lrefs vs) [] List.nodup_nil (fun r hr => by simp at hr)
    rw [hkept] at hinv
    split
    · rename_i hcond
      obtain ⟨hc1, hc2, hc3⟩ := hcond
      have hc1 := closed_spec hc1
      rw [List.all_eq_true] at hc2
      refine ⟨renum n kept, rfl, fun r hr => ⟨by simp [renum, hr], ?_⟩, fun r hr hold hn => ?_, fun h => by simp; omega⟩
      · rw [List.getElem?_append_left (by simp; omega), List.getElem?_take, if_pos hr]
      · have hmem : ∀ r, Rch H (lrefs vs) r → r < n ∨ r ∈ kept := by
          intro r hr
          induction hr with
          | here h => exact hc1 _ h
          | @step r q b hq hb hrb ih =>
            rcases ih with ih | ih
            · exact .inl (hold q b hq ih hb r hrb)
            · have := hc2 (H.getD q .dead) (List.mem_map.2 ⟨q, ih, rfl⟩)
              have hbq : H.getD q .dead = b := by simp [List.getD, hb]
              rw [hbq] at this
              exact closed_spec this r hrb
        rcases hmem r hr with h | h
        · omega
        · obtain ⟨j, h1, h2⟩ := findIx_mem kept 0 h
          have hnr : ¬ r < n := by omega
          have hs : renum n kept r = n + j := by simp [renum, hnr, h1]
          rw [hs]
          refine ⟨by omega, fun b hb => ?_⟩
          rw [List.getElem?_append_right (by simp; omega)]
          have : n + j - (H.take n).length = j := by simp; omega
          rw [this]
          simp only [List.getElem?_map, h2, Option.map_some]
          simp [List.getD, hb]
    · exact same
  · exact same

theorem gc_vals (n : Nat) (vs : List Value) (st : AS) (h : lrefs vs = []) : (gc n vs st).1 = vs := by
  obtain ⟨σ, h1, _⟩ := gc_spec n vs st
  rw [h1, lren_same vs (fun b hb => by rw [h] at hb; simp at hb)]

/-- what is struck when all that is led to are rows of plain cells -/
theorem gc_flat (n : Nat) (vs : List Value) (st : AS) (h : ∀ r ∈ lrefs vs, ∃ cs t o, st.H[r]? = some (.cells cs t o) ∧ lrefs cs = []) : ∃ σ : Nat → Nat, (gc n vs st).1 = lren σ vs ∧
    (∀ r, r < n → σ r = r ∧ (gc n vs st).2.H[r]? = st.H[r]?) ∧
    (∀ r ∈ lrefs vs, (n ≤ r → n ≤ σ r) ∧ ∀ b, st.H[r]? = some b → (gc n vs st).2.H[σ r]? = some b) := by
  obtain ⟨σ, h1, h2, h3, _⟩ := gc_spec n vs st
  have hr : ∀ r, Rch st.H (lrefs vs) r → r ∈ lrefs vs := by
    intro r hr
    induction hr with
    | here h => exact h
    | step _ hb hx ih =>
      obtain ⟨cs, t, o, hc, hl⟩ := h _ ih
      rw [hc] at hb; simp at hb; subst hb
      simp [blkRefs, hl] at hx
  refine ⟨σ, h1, h2, fun r hm => ?_⟩
  obtain ⟨cs, t, o, hc, hl⟩ := h r hm
  by_cases hn : n ≤ r
  · obtain ⟨g1, g2⟩ := h3 r (.here hm) (fun q b hq _ hb x hx => by
      obtain ⟨cs, t, o, hc, hl⟩ := h q (hr q hq)
      rw [hc] at hb; simp at hb; subst hb
      simp [blkRefs, hl] at hx) hn
    refine ⟨fun _ => g1, fun b hb => ?_⟩
    rw [g2 b hb]
    rw [hc] at hb; simp at hb; subst hb
    simp only [renBlk]
    rw [lren_same cs (fun b hb => by rw [hl] at hb; simp at hb)]
  · refine ⟨fun h => absurd h hn, fun b hb => ?_⟩
    rw [(h2 r (by omega)).1, (h2 r (by omega)).2]; exact hb

/-- a loop over numbers: what holds ahead of each round, however blocks are named -/
theorem loop_inv {n0 : Nat} {step : List Value × AS → Option ((List Value × AS) ⊕ (AEx × List Value × AS))} {len : Nat} (I : Nat → List Value × AS → Prop) (Q : AEx × List Value × AS → Prop)
    (hg : ∀ i X, I i X → I i (gc n0 X.1 X.2))
    (h : ∀ i X, i < len → I i X → (∃ r, step X = some (.inr r) ∧ Q r) ∨ (∃ Y, step X = some (.inl Y) ∧ I (i + 1) Y))
    (hend : ∀ X, I len X → ∃ r, step X = some (.inr r) ∧ Q r) :
    ∀ (k i : Nat) (X : List Value × AS), i + k = len → I i X → ∃ r, loopG n0 step X = some r ∧ Q r
  | 0, i, X, hk, ho => by
    have : i = len := by omega
    subst this
    obtain ⟨r, h1, h2⟩ := hend _ (hg _ _ ho)
    refine ⟨r, ?_, h2⟩
    rw [show X = (X.1, X.2) from rfl, loopG_eq, h1]
    rfl
  | k + 1, i, X, hk, ho => by
    rcases h i _ (by omega) (hg _ _ ho) with ⟨r, h1, h2⟩ | ⟨Y, h1, h2⟩
    · refine ⟨r, ?_, h2⟩
      rw [show X = (X.1, X.2) from rfl, loopG_eq, h1]
      rfl
    · obtain ⟨r, h4, h5⟩ := loop_inv I Q hg h hend k (i + 1) Y (by omega) h2
      refine ⟨r, ?_, h5⟩
      rw [show X = (X.1, X.2) from rfl, loopG_eq, h1]
      exact h4

/-- a cell that is a bool, a number or a string -/
def lit : Value → Bool
  | .bool _ | .int _ _ | .string _ => true
  | _ => false

theorem veqL_lit : ∀ (l : List Value), l.all lit = true → veqL l l = true
  | [], _ => rfl
  | v :: vs, h => by
    simp only [List.all_cons, Bool.and_eq_true] at h
    simp only [veqL, veqL_lit vs h.2, Bool.and_true]
    cases v <;> simp_all [lit, veq]

theorem veq_agg (l : List Value) (h : l.all lit = true) : veq (.agg l.toArray) (.agg l.toArray) = true := veqL_lit l h

end
end Go.Am
