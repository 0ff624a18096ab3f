/- Walks over maps, whatever the order. -/
import Derived.Test.YtfinilnkempofaaAm26
set_option linter.all false
set_option linter.unusedVariables false
set_option linter.unusedSimpArgs false
set_option linter.unnecessarySimpa false
namespace Go.Am

theorem any_G {R : Type} (n0 : Nat) (step : ((List Value × AS) ⊕ (AEx × List Value × AS) → Option R) → List Value × AS → Option R) (s : List Value × AS) (k : AEx × List Value × AS → Option R) : loopG.any n0 step s k = anyW n0 step s k := rfl
theorem all_G {R : Type} (n : Nat) (f : Nat → Option R) : loopG.all n f = allW n f := rfl

/-- rounds of which each may go several ways: what holds ahead of each, and a number that falls -/
theorem any_rule {R : Type} {n0 : Nat} {step : ((List Value × AS) ⊕ (AEx × List Value × AS) → Option R) → List Value × AS → Option R} {k : AEx × List Value × AS → Option R} {r : R} (I : Nat → List Value × AS → Prop) (Q : AEx × List Value × AS → Prop)
    (h : ∀ n X (k' : (List Value × AS) ⊕ (AEx × List Value × AS) → Option R), I n X → (∀ m Y, m < n → I m Y → k' (.inl Y) = some r) → (∀ x, Q x → k' (.inr x) = some r) → step k' (gc n0 X.1 X.2) = some r)
    (hQ : ∀ x, Q x → k x = some r) (n : Nat) (X : List Value × AS) (hX : I n X) : loopG.any n0 step X k = some r := by
  have key : ∀ (m n : Nat) (X : List Value × AS), n + 1 ≤ m → I n X → roundsK n0 step k m X = some r := by
    intro m
    induction m with
    | zero => intro n X hm; omega
    | succ m ih =>
      intro n X hm hI
      simp only [roundsK]
      exact h n X _ hI (fun j Y hj hY => ih j Y (by omega) hY) (fun x hx => hQ x hx)
  exact anyW_full (n := n + 1) (fun m hm => key m n X hm hX)

section
variable {α : Type} {K V : α → Value}

theorem entries_born : ∀ (b : Nat) (xs : List α) (e : MapEntry), e ∈ entries K V b xs → ∃ j x, xs[j]? = some x ∧ e = { key := K x, val := V x, born := b + j }
  | _, [], e, h => by simp [entries] at h
  | b, x :: xs, e, h => by
    simp only [entries, List.mem_cons] at h
    rcases h with rfl | h
    · exact ⟨0, x, rfl, rfl⟩
    · obtain ⟨j, y, h1, h2⟩ := entries_born (b + 1) xs e h
      exact ⟨j + 1, y, by simpa using h1, by rw [h2]; congr 1; omega⟩

theorem entries_find : ∀ (b : Nat) (xs : List α) (j : Nat) (x : α), xs[j]? = some x → (entries K V b xs).find? (·.born == b + j) = some { key := K x, val := V x, born := b + j }
  | _, [], j, x, h => by simp at h
  | b, y :: xs, 0, x, h => by
    simp at h; subst h
    simp [entries, List.find?_cons]
  | b, y :: xs, j + 1, x, h => by
    simp only [entries, List.find?_cons]
    have hne : (b == b + (j + 1)) = false := by rw [beq_eq_false_iff_ne]; omega
    have := entries_find (b + 1) xs j x (by simpa using h)
    rw [show b + 1 + j = b + (j + 1) by omega] at this
    simp only [hne, this]

/-- what a walk may hand out next -/
theorem next_ent {st : AS} {b r : Nat} {seen : List Nat} {xs : List α} (hb : st.H[b]? = some (.iter (some r) xs.length seen xs.length)) (hr : st.H[r]? = some (.map (entries K V 0 xs) xs.length)) :
    ((∀ j, j < xs.length → j ∈ seen) ∧ aNext (.pointer (some ⟨b, 0, none⟩)) st = some (1, fun _ => (.tuple #[.bool false], st))) ∨
    ∃ n g, aNext (.pointer (some ⟨b, 0, none⟩)) st = some (n, g) ∧ 0 < n ∧ ∀ i, i < n → ∃ j x, xs[j]? = some x ∧ j ∉ seen ∧ g i = (.tuple #[.bool true, K x, V x], ⟨st.H.set b (.iter (some r) xs.length (seen ++ [j]) xs.length), st.esc⟩) := by
  have hold : ((entries K V 0 xs).all fun e => decide (e.born < xs.length)) = true := by
    rw [List.all_eq_true]
    intro e he
    obtain ⟨j, x, h1, rfl⟩ := entries_born 0 xs e he
    have := lt_of_get h1
    simp; omega
  unfold aNext
  simp only [hb, hr]
  rw [if_pos ⟨hold, Nat.le_refl _⟩]
  cases hl : (entries K V 0 xs).filter fun e => !seen.contains e.born with
  | nil =>
    refine .inl ⟨fun j hj => ?_, rfl⟩
    have hx : xs[j]? = some xs[j] := List.getElem?_eq_getElem hj
    have hm : ({ key := K xs[j], val := V xs[j], born := 0 + j } : MapEntry) ∈ entries K V 0 xs := List.mem_of_find?_eq_some (entries_find 0 xs j _ hx)
    rw [List.filter_eq_nil_iff] at hl
    have := hl _ hm
    simpa using this
  | cons e0 l =>
    refine .inr ⟨_, _, rfl, by omega, fun i hi => ?_⟩
    have hi' : i < (e0 :: l).length := by simpa using hi
    have hm : (e0 :: l)[i] ∈ e0 :: l := List.getElem_mem hi'
    have hg : (e0 :: l).getD i e0 = (e0 :: l)[i] := by simp only [List.getD, List.getElem?_eq_getElem hi', Option.getD_some]
    generalize (e0 :: l)[i] = ei at hm hg
    rw [← hl] at hm
    obtain ⟨hm1, hm2⟩ := List.mem_filter.1 hm
    obtain ⟨j, x, h1, h2⟩ := entries_born 0 xs _ hm1
    refine ⟨j, x, h1, ?_, ?_⟩
    · rw [h2] at hm2
      simpa using hm2
    · simp only [hg, h2, Nat.zero_add]

/-- what it handed out -/
theorem entry_ent {st : AS} {b r c : Nat} {seen : List Nat} {xs : List α} {j : Nat} {x : α} (hb : st.H[b]? = some (.iter (some r) c (seen ++ [j]) xs.length)) (hr : st.H[r]? = some (.map (entries K V 0 xs) xs.length)) (hx : xs[j]? = some x) :
    aEntry (.pointer (some ⟨b, 0, none⟩)) st = some (.tuple #[K x, V x]) := by
  have := entries_find (K := K) (V := V) 0 xs j x hx
  rw [Nat.zero_add] at this
  unfold aEntry
  simp only [hb, hr, List.getLast?_append, List.getLast?_singleton, Option.some_or, if_true, this, Option.map_some]

/-- how many are left -/
def leftN (n : Nat) (seen : List Nat) : Nat := ((List.range n).filter fun j => !seen.contains j).length

theorem leftN_less {n j : Nat} {seen : List Nat} (hj : j < n) (hs : j ∉ seen) : leftN n (seen ++ [j]) < leftN n seen := by
  have := filter_lt (fun x => !seen.contains x) (fun x => !(seen ++ [j]).contains x) (fun x hx => by
    simp only [List.contains_append, Bool.not_or, Bool.and_eq_true] at hx; exact hx.1) j (by simpa using hs) (by simp) (List.range n) (List.mem_range.2 hj)
  exact this

end
end Go.Am
