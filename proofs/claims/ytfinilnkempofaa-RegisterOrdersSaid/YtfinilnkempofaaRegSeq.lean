/- A part of the proof: RegSeq. Its conditions: none. -/
import Derived.Test.YtfinilnkempofaaRegPure
set_option linter.all false
set_option linter.unusedVariables false
set_option linter.unusedSimpArgs false
set_option linter.unnecessarySimpa false
namespace Go.Reg
section
variable {V : Type}

/-- the value behind some ops -/
def valF (u : V) (A : List (Rw V)) : V := A.foldl (fun v x => if x.w = true then x.v else v) u

/-- one behind the other -/
structure SeqOk (u : V) (A : List (Rw V)) : Prop where
  val : ∀ (j : Nat) (x : Rw V), A[j]? = some x → x.w = false → x.v = valF u (A.take j)
  time : ∀ (j k : Nat) (x y : Rw V), j < k → A[j]? = some x → A[k]? = some y → x.f ≤ y.t

theorem SeqOk.nil (u : V) : SeqOk u [] := ⟨fun j x h => by simp at h, fun j k x y _ h => by simp at h⟩

theorem SeqOk.snoc {u : V} {A : List (Rw V)} (h : SeqOk u A) {x : Rw V} (hv : x.w = false → x.v = valF u A) (ht : ∀ y ∈ A, y.f ≤ x.t) : SeqOk u (A ++ [x]) := by
  constructor
  · intro j y hy hw
    by_cases hj : j < A.length
    · rw [List.getElem?_append_left hj] at hy
      rw [List.take_append_of_le_length (by omega)]
      exact h.val j y hy hw
    · rw [List.getElem?_append_right (by omega)] at hy
      have : j = A.length := by
        by_cases h0 : j - A.length = 0
        · omega
        · rw [List.getElem?_eq_none (by simp; omega)] at hy; simp at hy
      subst this
      simp at hy; subst hy
      rw [List.take_append_of_le_length (Nat.le_refl _), List.take_length]
      exact hv hw
  · intro j k a b hjk ha hb
    by_cases hk : k < A.length
    · rw [List.getElem?_append_left hk] at hb
      rw [List.getElem?_append_left (by omega)] at ha
      exact h.time j k a b hjk ha hb
    · rw [List.getElem?_append_right (by omega)] at hb
      have : k = A.length := by
        by_cases h0 : k - A.length = 0
        · omega
        · rw [List.getElem?_eq_none (by simp; omega)] at hb; simp at hb
      subst this
      simp at hb; subst hb
      rw [List.getElem?_append_left hjk] at ha
      exact ht a (List.mem_of_getElem? ha)

theorem valF_snoc (u : V) (A : List (Rw V)) (x : Rw V) : valF u (A ++ [x]) = if x.w = true then x.v else valF u A := by simp [valF]

/-- writes that never ended change nothing: the ops in their order are a row that fits -/
theorem seq_comp {u : V} {A B : List (Rw V)} (h : SeqOk u A) (hB : ∀ x ∈ B, x.w = true ∧ x.t < 0) : ∃ r, Comp (A ++ B) (fun _ => false) u r := by
  have key : ∀ (n j : Nat), j + n = A.length → ∃ r, Comp (A ++ B) (fun k => decide (k < j)) (valF u (A.take j)) r := by
    intro n
    induction n with
    | zero =>
      intro j hj
      refine ⟨[], .done (fun k x hx hm => ?_)⟩
      by_cases hk : k < A.length
      · simp; omega
      · exfalso
        rw [List.getElem?_append_right (by omega)] at hx
        obtain ⟨h1, h2⟩ := hB x (List.mem_of_getElem? hx)
        simp only [mustR, h1, Bool.not_true, Bool.false_or, decide_eq_true_eq] at hm
        omega
    | succ n ih =>
      intro j hj
      obtain ⟨x, hx⟩ : ∃ x, A[j]? = some x := ⟨_, List.getElem?_eq_getElem (by omega)⟩
      obtain ⟨r, hr⟩ := ih (j + 1) (by omega)
      have hxx : (A ++ B)[j]? = some x := by rw [List.getElem?_append_left (by omega)]; exact hx
      refine ⟨j :: r, .step hxx ⟨by simp, fun k y x' hy hx' hkj ha => ?_⟩ (fun hw => h.val j x hx hw) ?_⟩
      · rw [hxx] at hx'; simp at hx'; subst hx'
        simp only [aheadR, Bool.and_eq_true, decide_eq_true_eq] at ha
        by_cases hk : k < A.length
        · rw [List.getElem?_append_left hk] at hy
          by_cases hlt : k < j
          · simpa using hlt
          · have := h.time j k x y (by omega) hx hy
            omega
        · rw [List.getElem?_append_right (by omega)] at hy
          have := (hB y (List.mem_of_getElem? hy)).2
          omega
      · have h1 : ins (fun k => decide (k < j)) j = fun k => decide (k < j + 1) := by
          funext k
          simp only [ins]
          by_cases hk : k = j
          · subst hk; simp
          · have : (k == j) = false := by simp [hk]
            rw [this, Bool.false_or]
            congr 1
            simp only [eq_iff_iff]; omega
        have h2 : valF u (A.take (j + 1)) = if x.w = true then x.v else valF u (A.take j) := by
          rw [List.take_add_one, hx]; exact valF_snoc u (A.take j) x
        rw [h1, ← h2]; exact hr
  have := key A.length 0 (by omega)
  simpa [valF] using this

/-- each value written, and told if it was read -/
def seqA (vals : List V) (rds : List Bool) : Nat → List (Rw V)
  | 0 => []
  | i + 1 => match vals[i]? with
    | none => seqA vals rds i
    | some x => seqA vals rds i ++ (⟨true, x, 4 * i, 4 * i + 1⟩ :: if rds[i]? = some true then [⟨false, x, 4 * i + 2, 4 * i + 3⟩] else [])

theorem seqA_ok (u : V) (vals : List V) (rds : List Bool) : ∀ n, SeqOk u (seqA vals rds n) ∧ ∀ y ∈ seqA vals rds n, y.f < 4 * n
  | 0 => ⟨.nil u, fun y h => by simp [seqA] at h⟩
  | i + 1 => by
    obtain ⟨h1, h2⟩ := seqA_ok u vals rds i
    simp only [seqA]
    cases hx : vals[i]? with
    | none => exact ⟨h1, fun y hy => by have := h2 y hy; omega⟩
    | some x =>
      simp only
      have s1 : SeqOk u (seqA vals rds i ++ [⟨true, x, 4 * i, 4 * i + 1⟩]) := h1.snoc (fun hw => by simp at hw) (fun y hy => by have := h2 y hy; simp only; omega)
      have v1 : valF u (seqA vals rds i ++ [⟨true, x, 4 * i, 4 * i + 1⟩]) = x := by rw [valF_snoc]; rfl
      split
      · have s2 := s1.snoc (x := ⟨false, x, 4 * i + 2, 4 * i + 3⟩) (fun _ => v1.symm) (fun y hy => by
          rcases List.mem_append.1 hy with hy | hy
          · have := h2 y hy; simp only; omega
          · simp at hy; subst hy; simp only; omega)
        refine ⟨by simpa using s2, fun y hy => ?_⟩
        simp only [List.mem_append, List.mem_cons, List.not_mem_nil, or_false] at hy
        rcases hy with hy | rfl | rfl
        · have := h2 y hy; omega
        · simp only; omega
        · simp only; omega
      · refine ⟨s1, fun y hy => ?_⟩
        simp only [List.mem_append, List.mem_cons, List.not_mem_nil, or_false] at hy
        rcases hy with hy | rfl
        · have := h2 y hy; omega
        · simp only; omega

theorem seqA_len (vals : List V) (rds : List Bool) : ∀ n, (seqA vals rds n).length ≤ 2 * n
  | 0 => by simp [seqA]
  | i + 1 => by
    have := seqA_len vals rds i
    simp only [seqA]
    split
    · omega
    · split <;> simp <;> omega
end
end Go.Reg
