/- A part of the proof: RegPure. Its conditions: none. -/
import Derived.KernelRfl
set_option linter.all false
set_option linter.unusedVariables false
set_option linter.unusedSimpArgs false
set_option linter.unnecessarySimpa false
namespace Go.Reg

/-- a read or a write of one sector -/
structure Rw (V : Type) where
  w : Bool
  v : V
  f : Int
  t : Int

section
variable {V : Type}

def mustR (x : Rw V) : Bool := !x.w || decide (0 ≤ x.t)
def aheadR (a b : Rw V) : Bool := decide (0 ≤ a.t) && decide (a.t < b.f)

/-- one more is done -/
def ins (D : Nat → Bool) (n : Nat) : Nat → Bool := fun k => k == n || D k

def canNext (l : List (Rw V)) (D : Nat → Bool) (n : Nat) : Prop :=
  D n = false ∧ ∀ (k : Nat) (y x : Rw V), l[k]? = some y → l[n]? = some x → k ≠ n → aheadR y x = true → D k = true

/-- all that mustR be done is -/
def allMust (l : List (Rw V)) (D : Nat → Bool) : Prop := ∀ (k : Nat) (x : Rw V), l[k]? = some x → mustR x = true → D k = true

/-- a row that fits behind what is done already -/
inductive Comp (l : List (Rw V)) : (Nat → Bool) → V → List Nat → Prop
  | done {D : Nat → Bool} {u : V} (h : allMust l D) : Comp l D u []
  | step {D : Nat → Bool} {u : V} {n : Nat} {x : Rw V} {r : List Nat} (hx : l[n]? = some x) (hc : canNext l D n) (hv : x.w = false → x.v = u) (h : Comp l (ins D n) (if x.w = true then x.v else u) r) : Comp l D u (n :: r)

def Dead (l : List (Rw V)) (D : Nat → Bool) (u : V) : Prop := ∀ r, ¬ Comp l D u r

theorem ins_comm (D : Nat → Bool) (a b : Nat) : ins (ins D a) b = ins (ins D b) a := by
  funext k
  simp only [ins]
  cases (k == a) <;> cases (k == b) <;> simp

theorem canNext_ins {l : List (Rw V)} {D : Nat → Bool} {m n : Nat} (h : canNext l D m) (hne : m ≠ n) : canNext l (ins D n) m := by
  refine ⟨?_, fun k y x hy hx hk ha => ?_⟩
  · simp [ins, hne, h.1]
  · simp [ins, h.2 k y x hy hx hk ha]

/-- a read never hurts -/
theorem read_first {l : List (Rw V)} {n : Nat} {x : Rw V} (hx : l[n]? = some x) (hr : x.w = false) : ∀ (r : List Nat) (D : Nat → Bool) (u : V), D n = false → Comp l D u r → Comp l (ins D n) u (r.erase n)
  | [], D, u, hn, h => by
    cases h with
    | done h => exact .done (fun k y hy hm => by simp [ins, h k y hy hm])
  | m :: r, D, u, hn, h => by
    cases h with
    | @step _ _ _ y _ hy hc hv h =>
      by_cases hm : m = n
      · subst hm
        rw [hx] at hy; simp at hy; subst hy
        simp only [hr, Bool.false_eq_true, if_false] at h
        simpa using h
      · rw [List.erase_cons_tail (by simpa using hm)]
        refine .step hy (canNext_ins hc hm) hv ?_
        have hn' : ins D m n = false := by simp [ins, hn]; exact fun e => hm e.symm
        rw [ins_comm]
        exact read_first hx hr r (ins D m) _ hn' h

theorem dead_read {l : List (Rw V)} {n : Nat} {x : Rw V} {D : Nat → Bool} {u : V} (hx : l[n]? = some x) (hr : x.w = false) (hn : D n = false) (h : Dead l (ins D n) u) : Dead l D u :=
  fun r hr' => h _ (read_first hx hr r D u hn hr')

/-- nothing comes next: it is the end -/
theorem dead_none {l : List (Rw V)} {D : Nat → Bool} {u : V} (hm : ¬ allMust l D) (h : ∀ n x, l[n]? = some x → canNext l D n → (x.w = false → x.v = u) → Dead l (ins D n) (if x.w = true then x.v else u)) : Dead l D u := by
  intro r hr
  cases hr with
  | done h => exact hm h
  | step hx hc hv hr => exact h _ _ hx hc hv _ hr

/-! ### The hunt -/

/-- how many of the first n are done -/
def cnt : Nat → (Nat → Bool) → Nat
  | 0, _ => 0
  | n + 1, D => cnt n D + if D n = true then 1 else 0

theorem cnt_le (D : Nat → Bool) : ∀ n, cnt n D ≤ n
  | 0 => Nat.le_refl _
  | n + 1 => by have := cnt_le D n; simp only [cnt]; split <;> omega

theorem cnt_ins_out {D : Nat → Bool} {i : Nat} : ∀ n, n ≤ i → cnt n (ins D i) = cnt n D
  | 0, _ => rfl
  | n + 1, h => by
    have := cnt_ins_out (D := D) (i := i) n (by omega)
    have hne : (n == i) = false := by simp; omega
    simp only [cnt, this, ins, hne, Bool.false_or]

theorem cnt_ins {D : Nat → Bool} {i : Nat} (hi : D i = false) : ∀ n, i < n → cnt n (ins D i) = cnt n D + 1
  | 0, h => by omega
  | n + 1, h => by
    by_cases hn : i = n
    · subst hn
      have := cnt_ins_out (D := D) (i := i) i (Nat.le_refl _)
      simp [cnt, this, ins, hi]
    · have := cnt_ins hi n (by omega)
      have hne : (n == i) = false := by simp; omega
      simp only [cnt, this, ins, hne, Bool.false_or]
      omega

/-- a set of bits with one more -/
theorem bits_ins (d i : Nat) : (d ||| 2 ^ i).testBit = ins d.testBit i := by
  funext k
  rw [Nat.testBit_or, Nat.testBit_two_pow]
  simp only [ins]
  by_cases h : i = k
  · subst h; simp
  · have h' : k ≠ i := fun e => h e.symm
    simp [h, h']

/-- what is tried: dead, or it stands aheadR in the hunt -/
def Inv (l : List (Rw V)) (T : List (Nat × V)) (c : Nat) : Prop := ∀ e ∈ T, Dead l e.1.testBit e.2 ∨ cnt l.length e.1.testBit < c

/-- what comes of a state: found (a row behind the one so far), or not; what was tried behind it -/
structure Tells (l : List (Rw V)) (d : Nat) (u : V) (row : List Nat) (T : List (Nat × V)) (b : Bool) (row' : List Nat) (T' : List (Nat × V)) : Prop where
  found : b = true → ∃ r, row' = row ++ r ∧ Comp l d.testBit u r
  not : b = false → row' = row ∧ Dead l d.testBit u ∧ ∀ e ∈ T', e ∈ T ∨ Dead l e.1.testBit e.2

theorem Inv.more {l : List (Rw V)} {T T' : List (Nat × V)} {c : Nat} (h : Inv l T c) (h' : ∀ e ∈ T', e ∈ T ∨ Dead l e.1.testBit e.2) : Inv l T' c := fun e he => (h' e he).elim (h e) .inl

theorem Inv.up {l : List (Rw V)} {T : List (Nat × V)} {d : Nat} {u : V} {c : Nat} (h : Inv l T c) (hc : cnt l.length d.testBit = c) : Inv l (T ++ [(d, u)]) (c + 1) := fun e he => by
  rw [List.mem_append] at he
  rcases he with he | he
  · rcases h e he with h1 | h1
    · exact .inl h1
    · exact .inr (by omega)
  · simp at he; subst he; exact .inr (by simp only; omega)

end
end Go.Reg
