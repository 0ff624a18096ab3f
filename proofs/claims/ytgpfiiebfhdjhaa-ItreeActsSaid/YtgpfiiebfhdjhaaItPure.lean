/- A part of the proof: ItPure, ItPure2. Its conditions: none. -/
import Derived.KernelRfl
set_option linter.all false
set_option linter.unusedVariables false
set_option linter.unusedSimpArgs false
set_option linter.unnecessarySimpa false
section
namespace Go.It
set_option linter.unusedVariables false
set_option linter.unusedSimpArgs false

structure En where
  off : Int
  len : Int
  id : Int
  deriving DecidableEq

inductive Tr where
  | nil
  | nd (red : Bool) (e : En) (far : Int) (l r : Tr)

def isNil : Tr → Bool
  | .nil => true
  | _ => false
def isRed : Tr → Bool
  | .nil => false
  | .nd c _ _ _ _ => c
def reach : Tr → Int
  | .nil => 0
  | .nd _ _ f _ _ => f
def lf : Tr → Tr
  | .nil => .nil
  | .nd _ _ _ l _ => l
def rt : Tr → Tr
  | .nil => .nil
  | .nd _ _ _ _ r => r
def endE (e : En) : Int := e.off + e.len
def max3 (a b c : Int) : Int := if c > (if b > a then b else a) then c else (if b > a then b else a)
def farOf (e : En) (l r : Tr) : Int := max3 (endE e) (reach l) (reach r)

/-- a node with what is below it: how far it reaches is reckoned -/
def mk (c : Bool) (e : En) (l r : Tr) : Tr := .nd c e (farOf e l r) l r
def mend : Tr → Tr
  | .nil => .nil
  | .nd c e _ l r => mk c e l r

def turnL : Tr → Option Tr
  | .nd c e _ l (.nd _ e2 _ a b) => some (mk c e2 (mk true e l a) b)
  | _ => none
def turnR : Tr → Option Tr
  | .nd c e _ (.nd _ e2 _ a b) r => some (mk c e2 a (mk true e b r))
  | _ => none
def flip : Tr → Option Tr
  | .nd c e f (.nd c1 e1 f1 a b) (.nd c2 e2 f2 a2 b2) => some (.nd (!c) e f (.nd (!c1) e1 f1 a b) (.nd (!c2) e2 f2 a2 b2))
  | _ => none

def settle1 (t : Tr) : Option Tr := if isRed (rt t) = true ∧ isRed (lf t) = false then turnL t else some t
def settle2 (t : Tr) : Option Tr := if isRed (lf t) = true ∧ isRed (lf (lf t)) = true then turnR t else some t
def settle3 (t : Tr) : Option Tr := if isRed (lf t) = true ∧ isRed (rt t) = true then flip t else some t
def settle (t : Tr) : Option Tr := (settle1 t).bind fun t => (settle2 t).bind fun t => (settle3 t).map mend

/-- which stands ahead -/
def ltE (a b : En) : Bool := decide (a.off < b.off) || (decide (a.off = b.off) && (decide (a.len < b.len) || (decide (a.len = b.len) && decide (a.id < b.id))))

def add (x : En) : Tr → Option Tr
  | .nil => some (mk true x .nil .nil)
  | .nd c e f l r => if ltE e x = true then (add x r).bind fun r' => settle (.nd c e f l r') else (add x l).bind fun l' => settle (.nd c e f l' r)

def redLeft (t : Tr) : Option Tr := (flip t).bind fun t => if isRed (lf (rt t)) = true then (match t with
  | .nd c e f l r => (turnR r).bind fun r' => (turnL (.nd c e f l r')).bind flip
  | .nil => none) else some t
def redRight (t : Tr) : Option Tr := (flip t).bind fun t => if isRed (lf (lf t)) = true then (turnR t).bind flip else some t

def first : Tr → Option En
  | .nil => none
  | .nd _ e _ .nil _ => some e
  | .nd _ _ _ l _ => first l

def behead : Nat → Tr → Option Tr
  | 0, _ => none
  | k + 1, t => if isNil (lf t) = true then (if isNil t = true then none else some .nil) else
    (if isRed (lf t) = false ∧ isRed (lf (lf t)) = false then redLeft t else some t).bind fun t => match t with
      | .nil => none
      | .nd c e f l r => (behead k l).bind fun l' => settle (.nd c e f l' r)

def cut (x : En) : Nat → Tr → Option Tr
  | 0, _ => none
  | k + 1, t => match t with
    | .nil => none
    | .nd c0 e0 f0 l0 r0 =>
      if ltE x e0 = true then
        (if isRed l0 = false ∧ isRed (lf l0) = false then redLeft t else some t).bind fun t => match t with
          | .nil => none
          | .nd c e f l r => (cut x k l).bind fun l' => settle (.nd c e f l' r)
      else
        (if isRed l0 = true then turnR t else some t).bind fun t => match t with
          | .nil => none
          | .nd c1 e1 f1 l1 r1 =>
            if x = e1 ∧ isNil r1 = true then some .nil else
              (if isRed r1 = false ∧ isRed (lf r1) = false then redRight (.nd c1 e1 f1 l1 r1) else some (.nd c1 e1 f1 l1 r1)).bind fun t => match t with
                | .nil => none
                | .nd c e f l r => if x = e then (first r).bind fun m => (behead k r).bind fun r' => settle (.nd c m f l r') else (cut x k r).bind fun r' => settle (.nd c e f l r')

section
variable {c : Bool} {e : En} {f : Int} {l r : Tr}
@[simp] theorem lf_nd : lf (.nd c e f l r) = l := rfl
@[simp] theorem rt_nd : rt (.nd c e f l r) = r := rfl
@[simp] theorem isRed_nd : isRed (.nd c e f l r) = c := rfl
@[simp] theorem lf_mk : lf (mk c e l r) = l := rfl
@[simp] theorem rt_mk : rt (mk c e l r) = r := rfl
@[simp] theorem isRed_mk : isRed (mk c e l r) = c := rfl
@[simp] theorem isNil_nd : isNil (.nd c e f l r) = false := rfl
@[simp] theorem isNil_nil : isNil .nil = true := rfl
@[simp] theorem isRed_nil : isRed .nil = false := rfl
@[simp] theorem mend_nd : mend (.nd c e f l r) = mk c e l r := rfl
@[simp] theorem mend_mk : mend (mk c e l r) = mk c e l r := rfl
end

/-! ### What settle does -/

theorem settle_same {c : Bool} {e : En} {f : Int} {l r : Tr} (hr : isRed r = false) (hl : isRed l = false ∨ isRed (lf l) = false) : settle (.nd c e f l r) = some (mk c e l r) := by
  have h1 : settle1 (.nd c e f l r) = some (.nd c e f l r) := by simp [settle1, hr]
  have h2 : settle2 (.nd c e f l r) = some (.nd c e f l r) := by
    rcases hl with hl | hl <;> simp [settle2, hl]
  have h3 : settle3 (.nd c e f l r) = some (.nd c e f l r) := by simp [settle3, hr]
  simp [settle, h1, h2, h3]
theorem settle_turn {c : Bool} {e e2 : En} {f f2 : Int} {l a b : Tr} (hl : isRed l = false) (hb : isRed b = false) : settle (.nd c e f l (.nd true e2 f2 a b)) = some (mk c e2 (mk true e l a) b) := by
  have h1 : settle1 (.nd c e f l (.nd true e2 f2 a b)) = some (mk c e2 (mk true e l a) b) := by simp [settle1, hl, turnL]
  have h2 : settle2 (mk c e2 (mk true e l a) b) = some (mk c e2 (mk true e l a) b) := by simp [settle2, hl]
  have h3 : settle3 (mk c e2 (mk true e l a) b) = some (mk c e2 (mk true e l a) b) := by simp [settle3, hb]
  simp only [settle, h1, h2, h3, Option.bind_some, Option.map_some, mend_mk]
theorem settle_flip {c : Bool} {e e1 e2 : En} {f f1 f2 : Int} {a b a2 b2 : Tr} (ha : isRed a = false) : settle (.nd c e f (.nd true e1 f1 a b) (.nd true e2 f2 a2 b2)) = some (mk (!c) e (.nd false e1 f1 a b) (.nd false e2 f2 a2 b2)) := by
  simp [settle, settle1, settle2, settle3, ha, flip]
theorem settle_lean {c : Bool} {e e1 e2 : En} {f f1 f2 : Int} {a b d r : Tr} (hr : isRed r = false) : settle (.nd c e f (.nd true e1 f1 (.nd true e2 f2 a b) d) r) = some (mk (!c) e1 (.nd false e2 f2 a b) (mk false e d r)) := by
  have h1 : settle1 (.nd c e f (.nd true e1 f1 (.nd true e2 f2 a b) d) r) = some (.nd c e f (.nd true e1 f1 (.nd true e2 f2 a b) d) r) := by simp [settle1, hr]
  have h2 : settle2 (.nd c e f (.nd true e1 f1 (.nd true e2 f2 a b) d) r) = some (mk c e1 (.nd true e2 f2 a b) (mk true e d r)) := by simp [settle2, turnR]
  have h3 : settle3 (mk c e1 (.nd true e2 f2 a b) (mk true e d r)) = some (.nd (!c) e1 (farOf e1 (.nd true e2 f2 a b) (mk true e d r)) (.nd false e2 f2 a b) (mk false e d r)) := by simp [settle3, flip, mk]
  simp only [settle, h1, h2, h3, Option.bind_some, Option.map_some, mend_nd]

/-! ### Shapes -/

/-- is the root red (c), and are all ways down of the same black height h, red nodes leaning to the left? -/
def ok : Tr → Bool → Nat → Prop
  | .nil, c, h => c = false ∧ h = 0
  | .nd red _ _ l r, c, h => c = red ∧ (if red = true then ok l false h ∧ ok r false h else ∃ k, h = k + 1 ∧ ok r false k ∧ (ok l false k ∨ ok l true k))

theorem ok_red {e : En} {f : Int} {l r : Tr} {c : Bool} {h : Nat} : ok (.nd true e f l r) c h ↔ c = true ∧ ok l false h ∧ ok r false h := by simp [ok]
theorem ok_black {e : En} {f : Int} {l r : Tr} {c : Bool} {h : Nat} : ok (.nd false e f l r) c h ↔ c = false ∧ ∃ k, h = k + 1 ∧ ok r false k ∧ (ok l false k ∨ ok l true k) := by simp [ok]
theorem ok.isRed {t : Tr} {c : Bool} {h : Nat} (hk : ok t c h) : isRed t = c := by
  cases t with
  | nil => exact hk.1.symm
  | nd red e f l r => exact hk.1.symm
theorem ok.red {t : Tr} {h : Nat} (hk : ok t true h) : ∃ e f l r, t = .nd true e f l r ∧ ok l false h ∧ ok r false h := by
  cases t with
  | nil => simp [ok] at hk
  | nd red e f l r =>
    cases red with
    | false => simp [ok] at hk
    | true => rw [ok_red] at hk; exact ⟨e, f, l, r, rfl, hk.2⟩
theorem ok.black {t : Tr} {h : Nat} (hk : ok t false h) : (t = .nil ∧ h = 0) ∨ ∃ e f l r k, t = .nd false e f l r ∧ h = k + 1 ∧ ok r false k ∧ (ok l false k ∨ ok l true k) := by
  cases t with
  | nil => exact .inl ⟨rfl, hk.2⟩
  | nd red e f l r =>
    cases red with
    | true => simp [ok] at hk
    | false => rw [ok_black] at hk; obtain ⟨_, k, h1, h2, h3⟩ := hk; exact .inr ⟨e, f, l, r, k, rfl, h1, h2, h3⟩
theorem ok_r {e : En} {f : Int} {l r : Tr} {h : Nat} (h1 : ok l false h) (h2 : ok r false h) : ok (.nd true e f l r) true h := ok_red.2 ⟨rfl, h1, h2⟩
theorem ok_b {e : En} {f : Int} {l r : Tr} {h : Nat} (h1 : ok l false h ∨ ok l true h) (h2 : ok r false h) : ok (.nd false e f l r) false (h + 1) := ok_black.2 ⟨rfl, h, rfl, h2, h1⟩
/-- a black tree, whose root may be red -/
def okAny (t : Tr) (h : Nat) : Prop := ok t false h ∨ ok t true h
theorem okAny.lf_black {t : Tr} {h : Nat} (hk : okAny t h) : isRed t = false ∨ isRed (lf t) = false := by
  rcases hk with hk | hk
  · exact .inl hk.isRed
  · obtain ⟨e, f, l, r, rfl, h1, _⟩ := hk.red
    exact .inr h1.isRed

/-- entries in order -/
def toL : Tr → List En
  | .nil => []
  | .nd _ e _ l r => toL l ++ e :: toL r
def size : Tr → Nat
  | .nil => 0
  | .nd _ _ _ l r => size l + size r + 1
def farOk : Tr → Prop
  | .nil => True
  | .nd _ e f l r => f = farOf e l r ∧ farOk l ∧ farOk r
theorem farOk_mk {c : Bool} {e : En} {l r : Tr} (hl : farOk l) (hr : farOk r) : farOk (mk c e l r) := ⟨rfl, hl, hr⟩
theorem toL_mk {c : Bool} {e : En} {l r : Tr} : toL (mk c e l r) = toL l ++ e :: toL r := rfl
theorem farOk_col {c d : Bool} {e : En} {f : Int} {l r : Tr} (h : farOk (.nd c e f l r)) : farOk (.nd d e f l r) := h

/-- what is told of a part that was settled -/
structure Done (t : Tr) (L : List En) : Prop where
  far : farOk t
  list : toL t = L

/-- settle, where a side is known -/
theorem settle_left {c : Bool} {e : En} {f : Int} {l r : Tr} {h : Nat} (hl : okAny l h) (hr : ok r false h) (fl : farOk l) (fr : farOk r) :
    ∃ t, settle (.nd c e f l r) = some t ∧ Done t (toL l ++ e :: toL r) ∧ (c = false → ok t false (h + 1)) ∧ (c = true → isRed l = false → ok t true h) := by
  refine ⟨_, settle_same hr.isRed hl.lf_black, ⟨farOk_mk fl fr, rfl⟩, fun hc => ?_, fun hc hb => ?_⟩
  · subst hc; exact ok_b hl hr
  · subst hc
    rcases hl with hl | hl
    · exact ok_r hl hr
    · rw [hl.isRed] at hb; simp at hb
theorem settle_right {e : En} {f : Int} {l r : Tr} {h : Nat} (hl : ok l false h) (hr : okAny r h) (fl : farOk l) (fr : farOk r) :
    ∃ t, settle (.nd false e f l r) = some t ∧ Done t (toL l ++ e :: toL r) ∧ ok t false (h + 1) := by
  rcases hr with hr | hr
  · exact ⟨_, settle_same hr.isRed (.inl hl.isRed), ⟨farOk_mk fl fr, rfl⟩, ok_b (.inl hl) hr⟩
  · obtain ⟨e2, f2, a, b, rfl, h1, h2⟩ := hr.red
    exact ⟨_, settle_turn hl.isRed h2.isRed, ⟨farOk_mk (farOk_mk fl fr.2.1) fr.2.2, by simp [toL_mk, toL]⟩, ok_b (.inr (ok_r hl h1)) h2⟩
/-- both sides may be red -/
theorem settle_both {e : En} {f : Int} {l r : Tr} {h : Nat} (hl : okAny l h) (hr : okAny r h) (fl : farOk l) (fr : farOk r) :
    ∃ t, settle (.nd false e f l r) = some t ∧ Done t (toL l ++ e :: toL r) ∧ okAny t (h + 1) := by
  rcases hl with hl | hl
  · obtain ⟨t, h1, h2, h3⟩ := settle_right (e := e) (f := f) hl hr fl fr
    exact ⟨t, h1, h2, .inl h3⟩
  · rcases hr with hr | hr
    · obtain ⟨t, h1, h2, h3, _⟩ := settle_left (c := false) (e := e) (f := f) (.inr hl) hr fl fr
      exact ⟨t, h1, h2, .inl (h3 rfl)⟩
    · obtain ⟨e1, f1, a, b, rfl, h1, h2⟩ := hl.red
      obtain ⟨e2, f2, a2, b2, rfl, h3, h4⟩ := hr.red
      exact ⟨_, settle_flip h1.isRed, ⟨farOk_mk fl fr, by simp [toL_mk, toL]⟩, .inr (ok_r (ok_b (.inl h1) h2) (ok_b (.inl h3) h4))⟩

/-! ### An entry is put in -/

/-- a red node with a red one to its left: it is put right one step up -/
def lean (t : Tr) (h : Nat) : Prop := ∃ e f l r, t = .nd true e f l r ∧ ok l true h ∧ ok r false h

/-- where an entry goes -/
def putIn (x : En) : List En → List En
  | [] => [x]
  | e :: es => if ltE e x = true then e :: putIn x es else x :: e :: es

theorem ltE_trans {a b c : En} (h : ltE a b = true) (h' : ltE b c = true) : ltE a c = true := by
  simp only [ltE, Bool.or_eq_true, Bool.and_eq_true, decide_eq_true_eq] at *
  omega
theorem ltE_irrefl (a : En) : ltE a a = false := by simp [ltE]
theorem ltE_total {a b : En} (h : ltE a b = false) : a = b ∨ ltE b a = true := by
  obtain ⟨o1, l1, i1⟩ := a
  obtain ⟨o2, l2, i2⟩ := b
  simp only [ltE, Bool.or_eq_false_iff, Bool.and_eq_false_iff, decide_eq_false_iff_not, Bool.or_eq_true, Bool.and_eq_true, decide_eq_true_eq, En.mk.injEq] at *
  omega
def Sorted (L : List En) : Prop := L.Pairwise fun a b => ltE a b = true

theorem putIn_left {x e : En} (h : ltE e x = false) (hx : x ≠ e) : ∀ (A B : List En), Sorted (A ++ e :: B) → putIn x (A ++ e :: B) = putIn x A ++ e :: B
  | [], B, _ => by simp [putIn, h]
  | a :: A, B, hs => by
    have hs' : Sorted (A ++ e :: B) := (List.pairwise_cons.1 hs).2
    have ih := putIn_left h hx A B hs'
    simp only [List.cons_append, putIn]
    split
    · rw [ih]; rfl
    · rfl
theorem putIn_right {x e : En} (h : ltE e x = true) : ∀ (A B : List En), Sorted (A ++ e :: B) → putIn x (A ++ e :: B) = A ++ e :: putIn x B
  | [], B, _ => by simp [putIn, h]
  | a :: A, B, hs => by
    have hs' : Sorted (A ++ e :: B) := (List.pairwise_cons.1 hs).2
    have ih := putIn_right h A B hs'
    have ha : ltE a e = true := (List.pairwise_cons.1 hs).1 e (by simp)
    simp only [List.cons_append, putIn]
    rw [if_pos (ltE_trans ha h), ih]

theorem sorted_l {A B : List En} {e : En} (h : Sorted (A ++ e :: B)) : Sorted A := (List.pairwise_append.1 h).1
theorem sorted_r {A B : List En} {e : En} (h : Sorted (A ++ e :: B)) : Sorted B := (List.pairwise_cons.1 (List.pairwise_append.1 h).2.1).2

theorem add_ok {x : En} : ∀ (t : Tr) (h : Nat), farOk t → Sorted (toL t) → ¬ x ∈ toL t →
    (ok t false h → ∃ t', add x t = some t' ∧ Done t' (putIn x (toL t)) ∧ okAny t' h) ∧
    (ok t true h → ∃ t', add x t = some t' ∧ Done t' (putIn x (toL t)) ∧ (ok t' true h ∨ lean t' h))
  | .nil, h, _, _, _ => by
    refine ⟨fun hk => ⟨_, rfl, ⟨farOk_mk trivial trivial, by simp [toL, putIn, mk]⟩, .inr ?_⟩, fun hk => by simp [ok] at hk⟩
    have : h = 0 := hk.2
    subst this
    exact ok_r ⟨rfl, rfl⟩ ⟨rfl, rfl⟩
  | .nd c e f l r, h, hf, hs, hx => by
    obtain ⟨_, fl, fr⟩ := hf
    have hxe : x ≠ e := fun h => hx (by simp [toL, h])
    have hxl : ¬ x ∈ toL l := fun h => hx (by simp [toL, h])
    have hxr : ¬ x ∈ toL r := fun h => hx (by simp [toL, h])
    have ihl := fun h => add_ok l h fl (sorted_l hs) hxl
    have ihr := fun h => add_ok r h fr (sorted_r hs) hxr
    constructor
    · intro hk
      cases c with
      | true => simp [ok] at hk
      | false =>
        rw [ok_black] at hk
        obtain ⟨_, k, rfl, hr, hl⟩ := hk
        cases hlt : ltE e x with
        | true =>
          obtain ⟨r', h1, h2, h3⟩ := (ihr k).1 hr
          obtain ⟨t, h4, h5, h6⟩ := settle_both (e := e) (f := f) hl h3 fl h2.far
          refine ⟨t, by simp [add, hlt, h1, h4], ⟨h5.far, ?_⟩, h6⟩
          rw [h5.list, h2.list]
          exact (putIn_right hlt _ _ hs).symm
        | false =>
          have hpl := putIn_left hlt hxe _ _ hs
          rcases hl with hl | hl
          · obtain ⟨l', h1, h2, h3⟩ := (ihl k).1 hl
            obtain ⟨t, h4, h5, h6, _⟩ := settle_left (c := false) (e := e) (f := f) h3 hr h2.far fr
            refine ⟨t, by simp [add, hlt, h1, h4], ⟨h5.far, ?_⟩, .inl (h6 rfl)⟩
            rw [h5.list, h2.list]
            exact hpl.symm
          · obtain ⟨l', h1, h2, h3⟩ := (ihl k).2 hl
            rcases h3 with h3 | h3
            · obtain ⟨t, h4, h5, h6, _⟩ := settle_left (c := false) (e := e) (f := f) (.inr h3) hr h2.far fr
              refine ⟨t, by simp [add, hlt, h1, h4], ⟨h5.far, ?_⟩, .inl (h6 rfl)⟩
              rw [h5.list, h2.list]
              exact hpl.symm
            · obtain ⟨e1, f1, a, d, rfl, h6, h7⟩ := h3
              obtain ⟨e2, f2, a2, b2, rfl, h8, h9⟩ := h6.red
              have hff := h2.far
              refine ⟨mk true e1 (.nd false e2 f2 a2 b2) (mk false e d r), by simp [add, hlt, h1, settle_lean hr.isRed], ⟨farOk_mk hff.2.1 (farOk_mk hff.2.2 fr), ?_⟩, .inr (ok_r (ok_b (.inl h8) h9) (ok_b (.inl h7) hr))⟩
              have hll := h2.list
              rw [show toL (.nd false e f l r) = toL l ++ e :: toL r from rfl, hpl, ← hll]
              simp [toL_mk, toL]
    · intro hk
      obtain ⟨e', f', l', r', heq, hl, hr⟩ := hk.red
      simp only [Tr.nd.injEq] at heq
      obtain ⟨rfl, rfl, rfl, rfl, rfl⟩ := heq
      cases hlt : ltE e x with
      | true =>
        obtain ⟨r', h1, h2, h3⟩ := (ihr h).1 hr
        have hpr := putIn_right hlt _ _ hs
        rcases h3 with h3 | h3
        · obtain ⟨t, h4, h5, _, h6⟩ := settle_left (c := true) (e := e) (f := f) (.inl hl) h3 fl h2.far
          refine ⟨t, by simp [add, hlt, h1, h4], ⟨h5.far, ?_⟩, .inl (h6 rfl hl.isRed)⟩
          rw [h5.list, h2.list]
          exact hpr.symm
        · obtain ⟨e2, f2, a, b, rfl, h7, h8⟩ := h3.red
          have hff := h2.far
          refine ⟨mk true e2 (mk true e l a) b, by simp [add, hlt, h1, settle_turn hl.isRed h8.isRed], ⟨farOk_mk (farOk_mk fl hff.2.1) hff.2.2, ?_⟩, .inr ⟨_, _, _, _, rfl, ok_r hl h7, h8⟩⟩
          have hll := h2.list
          rw [show toL (.nd true e f l r) = toL l ++ e :: toL r from rfl, hpr, ← hll]
          simp [toL_mk, toL]
      | false =>
        have hpl := putIn_left hlt hxe _ _ hs
        obtain ⟨l', h1, h2, h3⟩ := (ihl h).1 hl
        rcases h3 with h3 | h3
        · obtain ⟨t, h4, h5, _, h6⟩ := settle_left (c := true) (e := e) (f := f) (.inl h3) hr h2.far fr
          refine ⟨t, by simp [add, hlt, h1, h4], ⟨h5.far, ?_⟩, .inl (h6 rfl h3.isRed)⟩
          rw [h5.list, h2.list]
          exact hpl.symm
        · obtain ⟨t, h4, h5, h6⟩ : ∃ t, settle (.nd true e f l' r) = some t ∧ Done t (toL l' ++ e :: toL r) ∧ t = mk true e l' r := ⟨_, settle_same hr.isRed (okAny.lf_black (.inr h3)), ⟨farOk_mk h2.far fr, rfl⟩, rfl⟩
          subst h6
          refine ⟨_, by simp [add, hlt, h1, h4], ⟨h5.far, ?_⟩, .inr ⟨_, _, _, _, rfl, h3, hr⟩⟩
          rw [h5.list, h2.list]
          exact hpl.symm

/-! ### An entry is taken out -/

section
variable {e e1 e2 e3 : En} {f f1 f2 f3 : Int} {a b a2 b2 a3 b3 : Tr}
theorem redLeft_1 (h : isRed a2 = false) : redLeft (.nd true e f (.nd false e1 f1 a b) (.nd false e2 f2 a2 b2)) = some (.nd false e f (.nd true e1 f1 a b) (.nd true e2 f2 a2 b2)) := by
  simp [redLeft, flip, h]
theorem redLeft_2 : redLeft (.nd true e f (.nd false e1 f1 a b) (.nd false e2 f2 (.nd true e3 f3 a3 b3) b2)) = some (mk true e3 (mk false e (.nd true e1 f1 a b) a3) (mk false e2 b3 b2)) := by
  have h1 : flip (.nd true e f (.nd false e1 f1 a b) (.nd false e2 f2 (.nd true e3 f3 a3 b3) b2)) = some (.nd false e f (.nd true e1 f1 a b) (.nd true e2 f2 (.nd true e3 f3 a3 b3) b2)) := rfl
  simp only [redLeft, h1, Option.bind_some, rt_nd, lf_nd, isRed_nd, if_true]
  rfl
theorem redRight_1 (h : isRed a = false) : redRight (.nd true e f (.nd false e1 f1 a b) (.nd false e2 f2 a2 b2)) = some (.nd false e f (.nd true e1 f1 a b) (.nd true e2 f2 a2 b2)) := by
  simp [redRight, flip, h]
theorem redRight_2 : redRight (.nd true e f (.nd false e1 f1 (.nd true e3 f3 a3 b3) b) (.nd false e2 f2 a2 b2)) = some (mk true e1 (.nd false e3 f3 a3 b3) (mk false e b (.nd true e2 f2 a2 b2))) := by
  have h1 : flip (.nd true e f (.nd false e1 f1 (.nd true e3 f3 a3 b3) b) (.nd false e2 f2 a2 b2)) = some (.nd false e f (.nd true e1 f1 (.nd true e3 f3 a3 b3) b) (.nd true e2 f2 a2 b2)) := rfl
  simp only [redRight, h1, Option.bind_some, lf_nd, isRed_nd, if_true]
  rfl
end

/-- black, and red to its left -/
def lean3 (t : Tr) (h : Nat) : Prop := ∃ e f l r k, t = .nd false e f l r ∧ h = k + 1 ∧ ok l true k ∧ ok r false k

theorem toL_ne {c : Bool} {e : En} {f : Int} {l r : Tr} : toL (.nd c e f l r) ≠ [] := by simp [toL]
theorem tail_app {A B : List En} (h : A ≠ []) : (A ++ B).tail = A.tail ++ B := by cases A with | nil => exact absurd rfl h | cons x xs => rfl

theorem behead_red {n : Nat} {c c' : Bool} {e e' : En} {f f' : Int} {l r l' r' l2 : Tr} (hl : isNil l = false) (hc : isRed l = false ∧ isRed (lf l) = false) (hr : redLeft (.nd c e f l r) = some (.nd c' e' f' l' r')) (hb : behead n l' = some l2) :
    behead (n + 1) (.nd c e f l r) = settle (.nd c' e' f' l2 r') := by
  have hl' : ¬ isNil (lf (.nd c e f l r)) = true := by rw [lf_nd, hl]; simp
  have hc' : isRed (lf (.nd c e f l r)) = false ∧ isRed (lf (lf (.nd c e f l r))) = false := hc
  rw [behead, if_neg hl', if_pos hc', hr]
  simp only [Option.bind_some, hb]
theorem behead_go {n : Nat} {c : Bool} {e : En} {f : Int} {l r l2 : Tr} (hl : isNil l = false) (hc : ¬ (isRed l = false ∧ isRed (lf l) = false)) (hb : behead n l = some l2) :
    behead (n + 1) (.nd c e f l r) = settle (.nd c e f l2 r) := by
  have hl' : ¬ isNil (lf (.nd c e f l r)) = true := by rw [lf_nd, hl]; simp
  have hc' : ¬ (isRed (lf (.nd c e f l r)) = false ∧ isRed (lf (lf (.nd c e f l r))) = false) := hc
  rw [behead, if_neg hl', if_neg hc']
  simp only [Option.bind_some, hb]

theorem behead_ok : ∀ (n : Nat) (t : Tr) (h : Nat), farOk t →
    (ok t true h → 2 * h + 1 ≤ n → ∃ t', behead n t = some t' ∧ Done t' (toL t).tail ∧ okAny t' h) ∧
    (lean3 t h → 2 * h ≤ n → ∃ t', behead n t = some t' ∧ Done t' (toL t).tail ∧ ok t' false h)
  | 0, t, h, _ => ⟨fun _ hn => by omega, fun hk hn => by obtain ⟨_, _, _, _, k, _, rfl, _⟩ := hk; omega⟩
  | n + 1, t, h, hf => by
    constructor
    · intro hk hn
      obtain ⟨e, f, l, r, rfl, hl, hr⟩ := hk.red
      obtain ⟨_, fl, fr⟩ := hf
      rcases hl.black with ⟨rfl, rfl⟩ | ⟨e1, f1, a, b, k, rfl, rfl, hb, ha⟩
      · have : r = .nil := by
          rcases hr.black with ⟨h1, _⟩ | ⟨_, _, _, _, k, _, h1, _⟩
          · exact h1
          · omega
        subst this
        exact ⟨.nil, by simp [behead], ⟨trivial, by simp [toL]⟩, .inl ⟨rfl, rfl⟩⟩
      · rcases hr.black with ⟨_, h0⟩ | ⟨e2, f2, a2, b2, k2, rfl, hk2, hb2, ha2⟩
        · omega
        · have hkk : k2 = k := by omega
          subst hkk
          rcases ha with ha | ha
          · -- two black ones to the left
            have hcond : isRed (.nd false e1 f1 a b) = false ∧ isRed (lf (.nd false e1 f1 a b)) = false := ⟨rfl, ha.isRed⟩
            rcases ha2 with ha2 | ha2
            · obtain ⟨l', h1, h2, h3⟩ := (behead_ok n (.nd true e1 f1 a b) k2 fl).1 (ok_r ha hb) (by omega)
              obtain ⟨t', h4, h5, h6⟩ := settle_both (e := e) (f := f) h3 (.inr (ok_r (f := f2) (e := e2) ha2 hb2)) h2.far (show farOk (.nd true e2 f2 a2 b2) from fr)
              refine ⟨t', ?_, ⟨h5.far, ?_⟩, h6⟩
              · rw [behead_red rfl hcond (redLeft_1 ha2.isRed) h1, h4]
              · rw [h5.list, h2.list]
                rw [show toL (.nd true e f (.nd false e1 f1 a b) (.nd false e2 f2 a2 b2)) = toL (.nd true e1 f1 a b) ++ e :: toL (.nd true e2 f2 a2 b2) from rfl, tail_app toL_ne]
            · obtain ⟨e3, f3, a3, b3, rfl, h31, h32⟩ := ha2.red
              obtain ⟨l', h1, h2, h3⟩ := (behead_ok n (mk false e (.nd true e1 f1 a b) a3) (k2 + 1) (farOk_mk fl fr.2.1.2.1)).2 ⟨_, _, _, _, _, rfl, rfl, ok_r ha hb, h31⟩ (by omega)
              obtain ⟨t', h4, h5, _, h6⟩ := settle_left (c := true) (e := e3) (f := farOf e3 (mk false e (.nd true e1 f1 a b) a3) (mk false e2 b3 b2)) (.inl h3) (ok_b (e := e2) (f := farOf e2 b3 b2) (.inl h32) hb2) h2.far (farOk_mk fr.2.1.2.2 fr.2.2)
              refine ⟨t', ?_, ⟨h5.far, ?_⟩, .inr (h6 rfl h3.isRed)⟩
              · rw [behead_red rfl hcond redLeft_2 h1]
                exact h4
              · rw [h5.list, h2.list, show toL (mk false e (.nd true e1 f1 a b) a3) = toL (.nd true e1 f1 a b) ++ e :: toL a3 from rfl, tail_app toL_ne,
                  show toL (.nd true e f (.nd false e1 f1 a b) (.nd false e2 f2 (.nd true e3 f3 a3 b3) b2)) = toL (.nd true e1 f1 a b) ++ e :: toL (.nd false e2 f2 (.nd true e3 f3 a3 b3) b2) from rfl, tail_app toL_ne]
                simp [toL, toL_mk]
          · -- red below to the left
            have hcond : ¬ (isRed (.nd false e1 f1 a b) = false ∧ isRed (lf (.nd false e1 f1 a b)) = false) := fun h => by rw [lf_nd, ha.isRed] at h; simp at h
            obtain ⟨l', h1, h2, h3⟩ := (behead_ok n (.nd false e1 f1 a b) (k2 + 1) fl).2 ⟨_, _, _, _, _, rfl, rfl, ha, hb⟩ (by omega)
            obtain ⟨t', h4, h5, _, h6⟩ := settle_left (c := true) (e := e) (f := f) (.inl h3) hr h2.far fr
            refine ⟨t', ?_, ⟨h5.far, ?_⟩, .inr (h6 rfl h3.isRed)⟩
            · rw [behead_go rfl hcond h1, h4]
            · rw [h5.list, h2.list, show toL (.nd true e f (.nd false e1 f1 a b) (.nd false e2 f2 a2 b2)) = toL (.nd false e1 f1 a b) ++ e :: toL (.nd false e2 f2 a2 b2) from rfl, tail_app toL_ne]
    · rintro ⟨e, f, l, r, k, rfl, rfl, hl, hr⟩ hn
      obtain ⟨_, fl, fr⟩ := hf
      obtain ⟨l', h1, h2, h3⟩ := (behead_ok n l k fl).1 hl (by omega)
      obtain ⟨t', h4, h5, h6, _⟩ := settle_left (c := false) (e := e) (f := f) h3 hr h2.far fr
      obtain ⟨e1, f1, a, b, rfl, h7, h8⟩ := hl.red
      refine ⟨t', ?_, ⟨h5.far, ?_⟩, h6 rfl⟩
      · rw [behead_go rfl (by simp) h1, h4]
      · rw [h5.list, h2.list, show toL (.nd false e f (.nd true e1 f1 a b) r) = toL (.nd true e1 f1 a b) ++ e :: toL r from rfl, tail_app toL_ne]

theorem first_ok : ∀ (t : Tr), t ≠ .nil → ∃ m, first t = some m ∧ (toL t).head? = some m
  | .nil, h => absurd rfl h
  | .nd c e f .nil r, _ => ⟨e, rfl, rfl⟩
  | .nd c e f (.nd c1 e1 f1 a b) r, _ => by
    obtain ⟨m, h1, h2⟩ := first_ok (.nd c1 e1 f1 a b) (by simp)
    refine ⟨m, h1, ?_⟩
    rw [show toL (.nd c e f (.nd c1 e1 f1 a b) r) = toL (.nd c1 e1 f1 a b) ++ e :: toL r from rfl, List.head?_append, h2]
    rfl

section
variable {A B : List En} {e x : En}
theorem in_left (hs : Sorted (A ++ e :: B)) (hx : x ∈ A ++ e :: B) (h : ltE x e = true) : x ∈ A := by
  rcases List.mem_append.1 hx with hx | hx
  · exact hx
  · rcases List.mem_cons.1 hx with rfl | hx
    · rw [ltE_irrefl] at h; simp at h
    · have := (List.pairwise_cons.1 (List.pairwise_append.1 hs).2.1).1 x hx
      have := ltE_trans h this
      rw [ltE_irrefl] at this; simp at this
theorem not_left (hs : Sorted (A ++ e :: B)) (h : ltE x e = false) : ¬ x ∈ A := fun hx => by
  have := (List.pairwise_append.1 hs).2.2 x hx e (by simp)
  rw [h] at this; simp at this
theorem in_right (hs : Sorted (A ++ e :: B)) (hx : x ∈ A ++ e :: B) (h : ltE x e = false) (hne : x ≠ e) : x ∈ B := by
  rcases List.mem_append.1 hx with hx | hx
  · exact absurd hx (not_left hs h)
  · rcases List.mem_cons.1 hx with rfl | hx
    · exact absurd rfl hne
    · exact hx
theorem erase_l (hx : x ∈ A) : (A ++ e :: B).erase x = A.erase x ++ e :: B := List.erase_append_left _ hx
theorem erase_e (hs : Sorted (A ++ e :: B)) : (A ++ e :: B).erase e = A ++ B := by
  rw [List.erase_append_right _ (not_left hs (ltE_irrefl e)), List.erase_cons_head]
theorem erase_r (hs : Sorted (A ++ e :: B)) (h : ltE x e = false) (hne : x ≠ e) : (A ++ e :: B).erase x = A ++ e :: B.erase x := by
  rw [List.erase_append_right _ (not_left hs h), List.erase_cons_tail (by simpa using fun h => hne h.symm)]
end

theorem step_r {S : Tr → Prop} {x e : En} {n : Nat} {c : Bool} {f : Int} {l r : Tr} (hne : r ≠ .nil) (hb : ∃ r', behead n r = some r' ∧ Done r' (toL r).tail ∧ S r') (hc : x ∈ toL r → ∃ r', cut x n r = some r' ∧ Done r' ((toL r).erase x) ∧ S r')
    (hs : Sorted (toL l ++ e :: toL r)) (hx : x ∈ toL l ++ e :: toL r) (hlt : ltE x e = false) :
    ∃ m r', (if x = e then (first r).bind fun m => (behead n r).bind fun r' => settle (.nd c m f l r') else (cut x n r).bind fun r' => settle (.nd c e f l r')) = settle (.nd c m f l r') ∧ farOk r' ∧ toL l ++ m :: toL r' = (toL l ++ e :: toL r).erase x ∧ S r' := by
  by_cases hxe : x = e
  · subst hxe
    obtain ⟨m, h1, h2⟩ := first_ok r hne
    obtain ⟨r', h3, h4, h5⟩ := hb
    refine ⟨m, r', by simp [h1, h3], h4.far, ?_, h5⟩
    rw [erase_e hs, h4.list]
    cases hl : toL r with
    | nil => rw [hl] at h2; simp at h2
    | cons y ys => rw [hl] at h2; simp at h2; subst h2; rfl
  · obtain ⟨r', h3, h4, h5⟩ := hc (in_right hs hx hlt hxe)
    refine ⟨e, r', by simp [hxe, h3], h4.far, ?_, h5⟩
    rw [erase_r hs hlt hxe, h4.list]

theorem cut_less {n : Nat} {x : En} {c c' : Bool} {e e' : En} {f f' : Int} {l r l' r' l2 : Tr} (hlt : ltE x e = true) (hr : (if isRed l = false ∧ isRed (lf l) = false then redLeft (.nd c e f l r) else some (.nd c e f l r)) = some (.nd c' e' f' l' r')) (hb : cut x n l' = some l2) :
    cut x (n + 1) (.nd c e f l r) = settle (.nd c' e' f' l2 r') := by
  simp only [cut]
  rw [if_pos hlt, hr]
  simp only [Option.bind_some, hb]
theorem cut_ge {n : Nat} {x : En} {c c1 c' : Bool} {e e1 e' : En} {f f1 f' : Int} {l r l1 r1 l' r' : Tr} (hlt : ltE x e = false) (h1 : (if isRed l = true then turnR (.nd c e f l r) else some (.nd c e f l r)) = some (.nd c1 e1 f1 l1 r1)) (hn : ¬ (x = e1 ∧ isNil r1 = true))
    (h2 : (if isRed r1 = false ∧ isRed (lf r1) = false then redRight (.nd c1 e1 f1 l1 r1) else some (.nd c1 e1 f1 l1 r1)) = some (.nd c' e' f' l' r')) :
    cut x (n + 1) (.nd c e f l r) = (if x = e' then (first r').bind fun m => (behead n r').bind fun r2 => settle (.nd c' m f' l' r2) else (cut x n r').bind fun r2 => settle (.nd c' e' f' l' r2)) := by
  simp only [cut]
  rw [if_neg (by rw [hlt]; simp), h1]
  simp only [Option.bind_some]
  rw [if_neg hn, h2]
  simp only [Option.bind_some]

/-- black, and red to its right -/
def right3 (x : En) (t : Tr) (h : Nat) : Prop := ∃ e f l r k, t = .nd false e f l r ∧ h = k + 1 ∧ ok l false k ∧ ok r true k ∧ ltE x e = false

theorem cut_ok {x : En} : ∀ (n : Nat) (t : Tr) (h : Nat), farOk t → Sorted (toL t) → x ∈ toL t →
    (ok t true h → 2 * h + 1 ≤ n → ∃ t', cut x n t = some t' ∧ Done t' ((toL t).erase x) ∧ okAny t' h) ∧
    (lean3 t h → 2 * h ≤ n → ∃ t', cut x n t = some t' ∧ Done t' ((toL t).erase x) ∧ ok t' false h) ∧
    (right3 x t h → 2 * h ≤ n → ∃ t', cut x n t = some t' ∧ Done t' ((toL t).erase x) ∧ ok t' false h)
  | 0, t, h, _, _, _ => ⟨fun _ hn => by omega, fun hk hn => by obtain ⟨_, _, _, _, k, _, rfl, _⟩ := hk; omega, fun hk hn => by obtain ⟨_, _, _, _, k, _, rfl, _⟩ := hk; omega⟩
  | n + 1, t, h, hf, hs, hx => by
    refine ⟨fun hk hn => ?_, ?_, ?_⟩
    · obtain ⟨e, f, l, r, rfl, hl, hr⟩ := hk.red
      obtain ⟨_, fl, fr⟩ := hf
      have hs : Sorted (toL l ++ e :: toL r) := hs
      have hx : x ∈ toL l ++ e :: toL r := hx
      show ∃ t', cut x (n + 1) (.nd true e f l r) = some t' ∧ Done t' ((toL l ++ e :: toL r).erase x) ∧ okAny t' h
      cases hlt : ltE x e with
      | true =>
        have hxl := in_left hs hx hlt
        rcases hl.black with ⟨rfl, rfl⟩ | ⟨e1, f1, a, b, k, rfl, rfl, hb, ha⟩
        · simp [toL] at hxl
        rcases hr.black with ⟨_, h0⟩ | ⟨e2, f2, a2, b2, k2, rfl, hk2, hb2, ha2⟩
        · omega
        have hkk : k2 = k := by omega
        subst hkk
        rcases ha with ha | ha
        · have hcond : isRed (.nd false e1 f1 a b) = false ∧ isRed (lf (.nd false e1 f1 a b)) = false := ⟨rfl, ha.isRed⟩
          rcases ha2 with ha2 | ha2
          · obtain ⟨l', h1, h2, h3⟩ := (cut_ok n (.nd true e1 f1 a b) k2 fl (sorted_l hs) hxl).1 (ok_r ha hb) (by omega)
            obtain ⟨t', h4, h5, h6⟩ := settle_both (e := e) (f := f) h3 (.inr (ok_r (f := f2) (e := e2) ha2 hb2)) h2.far (show farOk (.nd true e2 f2 a2 b2) from fr)
            refine ⟨t', ?_, ⟨h5.far, ?_⟩, h6⟩
            · rw [cut_less hlt (by rw [if_pos hcond]; exact redLeft_1 ha2.isRed) h1, h4]
            · rw [h5.list, h2.list]
              exact (erase_l hxl).symm
          · obtain ⟨e3, f3, a3, b3, rfl, h31, h32⟩ := ha2.red
            have heq : toL (.nd false e1 f1 a b) ++ e :: toL (.nd false e2 f2 (.nd true e3 f3 a3 b3) b2) = toL (mk false e (.nd true e1 f1 a b) a3) ++ e3 :: toL (mk false e2 b3 b2) := by simp [toL, toL_mk]
            rw [heq] at hs ⊢
            have hxl2 : x ∈ toL (mk false e (.nd true e1 f1 a b) a3) := by
              rw [toL_mk]; exact List.mem_append_left _ hxl
            obtain ⟨l', h1, h2, h3⟩ := (cut_ok n (mk false e (.nd true e1 f1 a b) a3) (k2 + 1) (farOk_mk fl fr.2.1.2.1) (sorted_l hs) hxl2).2.1 ⟨_, _, _, _, _, rfl, rfl, ok_r ha hb, h31⟩ (by omega)
            obtain ⟨t', h4, h5, _, h6⟩ := settle_left (c := true) (e := e3) (f := farOf e3 (mk false e (.nd true e1 f1 a b) a3) (mk false e2 b3 b2)) (.inl h3) (ok_b (e := e2) (f := farOf e2 b3 b2) (.inl h32) hb2) h2.far (farOk_mk fr.2.1.2.2 fr.2.2)
            refine ⟨t', ?_, ⟨h5.far, ?_⟩, .inr (h6 rfl h3.isRed)⟩
            · rw [cut_less hlt (by rw [if_pos hcond]; exact redLeft_2) h1]
              exact h4
            · rw [h5.list, h2.list]
              exact (erase_l hxl2).symm
        · have hcond : ¬ (isRed (.nd false e1 f1 a b) = false ∧ isRed (lf (.nd false e1 f1 a b)) = false) := fun h => by rw [lf_nd, ha.isRed] at h; simp at h
          obtain ⟨l', h1, h2, h3⟩ := (cut_ok n (.nd false e1 f1 a b) (k2 + 1) fl (sorted_l hs) hxl).2.1 ⟨_, _, _, _, _, rfl, rfl, ha, hb⟩ (by omega)
          obtain ⟨t', h4, h5, _, h6⟩ := settle_left (c := true) (e := e) (f := f) (.inl h3) hr h2.far fr
          refine ⟨t', ?_, ⟨h5.far, ?_⟩, .inr (h6 rfl h3.isRed)⟩
          · rw [cut_less hlt (by rw [if_neg hcond]) h1, h4]
          · rw [h5.list, h2.list]
            exact (erase_l hxl).symm
      | false =>
        have hstay : (if isRed l = true then turnR (.nd true e f l r) else some (.nd true e f l r)) = some (.nd true e f l r) := by rw [hl.isRed]; simp
        rcases hr.black with ⟨rfl, rfl⟩ | ⟨e2, f2, a2, b2, k, rfl, rfl, hb2, ha2⟩
        · -- it is the last one
          have : l = .nil := by
            rcases hl.black with ⟨h1, _⟩ | ⟨_, _, _, _, k, _, h1, _⟩
            · exact h1
            · omega
          subst this
          have hxe : x = e := by simpa [toL] using hx
          subst hxe
          refine ⟨.nil, ?_, ⟨trivial, by simp [toL]⟩, .inl ⟨rfl, rfl⟩⟩
          simp only [cut]
          rw [if_neg (by rw [hlt]; simp), hstay]
          simp
        · have hnn : ¬ (x = e ∧ isNil (.nd false e2 f2 a2 b2) = true) := by simp
          rcases ha2 with ha2 | ha2
          · have hcond : isRed (.nd false e2 f2 a2 b2) = false ∧ isRed (lf (.nd false e2 f2 a2 b2)) = false := ⟨rfl, ha2.isRed⟩
            rcases hl.black with ⟨_, h0⟩ | ⟨e1, f1, a, b, k1, rfl, hk1, hb, ha⟩
            · omega
            have hkk : k1 = k := by omega
            subst hkk
            rcases ha with ha | ha
            · -- a node of four
              have hrr : ok (.nd true e2 f2 a2 b2) true k1 := ok_r ha2 hb2
              obtain ⟨m, r', h1, h2, h3, h4⟩ := step_r (c := false) (f := f) (l := .nd true e1 f1 a b) (S := fun r' => okAny r' k1) (by simp) ((behead_ok n (.nd true e2 f2 a2 b2) k1 fr).1 hrr (by omega)) (fun hxr => (cut_ok n (.nd true e2 f2 a2 b2) k1 fr (sorted_r hs) hxr).1 hrr (by omega)) hs hx hlt
              obtain ⟨t', h5, h6, h7⟩ := settle_both (e := m) (f := f) (.inr (ok_r (e := e1) (f := f1) ha hb)) h4 (show farOk (.nd true e1 f1 a b) from fl) h2
              refine ⟨t', ?_, ⟨h6.far, by rw [h6.list]; exact h3⟩, h7⟩
              rw [cut_ge hlt hstay hnn (by rw [if_pos hcond]; exact redRight_1 ha.isRed), h1, h5]
            · -- the left one lends
              obtain ⟨e3, f3, a3, b3, rfl, h31, h32⟩ := ha.red
              have heq : toL (.nd false e1 f1 (.nd true e3 f3 a3 b3) b) ++ e :: toL (.nd false e2 f2 a2 b2) = toL (.nd false e3 f3 a3 b3) ++ e1 :: toL (mk false e b (.nd true e2 f2 a2 b2)) := by simp [toL, toL_mk]
              have he1 : ltE e1 e = true := (List.pairwise_append.1 hs).2.2 e1 (by simp [toL]) e (by simp)
              have hlt1 : ltE x e1 = false := by
                cases hc : ltE x e1 with
                | false => rfl
                | true => rw [ltE_trans hc he1] at hlt; simp at hlt
              rw [heq] at hs hx ⊢
              have hne1 : x ≠ e1 := fun h => by subst h; rw [he1] at hlt; simp at hlt
              have hxr := in_right hs hx hlt1 hne1
              obtain ⟨r', h1, h2, h3⟩ := (cut_ok n (mk false e b (.nd true e2 f2 a2 b2)) (k1 + 1) (farOk_mk fl.2.2 (show farOk (.nd true e2 f2 a2 b2) from fr)) (sorted_r hs) hxr).2.2 ⟨_, _, _, _, _, rfl, rfl, hb, ok_r ha2 hb2, hlt⟩ (by omega)
              obtain ⟨t', h4, h5, _, h6⟩ := settle_left (c := true) (e := e1) (f := farOf e1 (.nd false e3 f3 a3 b3) (mk false e b (.nd true e2 f2 a2 b2))) (.inl (ok_b (e := e3) (f := f3) (.inl h31) h32)) h3 (show farOk (.nd false e3 f3 a3 b3) from fl.2.1) h2.far
              refine ⟨t', ?_, ⟨h5.far, ?_⟩, .inr (h6 rfl rfl)⟩
              · rw [cut_ge hlt hstay hnn (by rw [if_pos hcond]; exact redRight_2), if_neg hne1, h1]
                exact h4
              · rw [h5.list, h2.list]
                exact (erase_r hs hlt1 hne1).symm
          · have hcond : ¬ (isRed (.nd false e2 f2 a2 b2) = false ∧ isRed (lf (.nd false e2 f2 a2 b2)) = false) := fun h => by rw [lf_nd, ha2.isRed] at h; simp at h
            have hl3 : lean3 (.nd false e2 f2 a2 b2) (k + 1) := ⟨_, _, _, _, _, rfl, rfl, ha2, hb2⟩
            obtain ⟨m, r', h1, h2, h3, h4⟩ := step_r (c := true) (f := f) (l := l) (S := fun r' => ok r' false (k + 1)) (by simp) ((behead_ok n (.nd false e2 f2 a2 b2) (k + 1) fr).2 hl3 (by omega)) (fun hxr => (cut_ok n (.nd false e2 f2 a2 b2) (k + 1) fr (sorted_r hs) hxr).2.1 hl3 (by omega)) hs hx hlt
            obtain ⟨t', h5, h6, _, h7⟩ := settle_left (c := true) (e := m) (f := f) (.inl hl) h4 fl h2
            refine ⟨t', ?_, ⟨h6.far, by rw [h6.list]; exact h3⟩, .inr (h7 rfl hl.isRed)⟩
            rw [cut_ge hlt hstay hnn (by rw [if_neg hcond]), h1, h5]
    · rintro ⟨e, f, l, r, k, rfl, rfl, hl, hr⟩ hn
      obtain ⟨_, fl, fr⟩ := hf
      have hs : Sorted (toL l ++ e :: toL r) := hs
      have hx : x ∈ toL l ++ e :: toL r := hx
      show ∃ t', cut x (n + 1) (.nd false e f l r) = some t' ∧ Done t' ((toL l ++ e :: toL r).erase x) ∧ ok t' false (k + 1)
      obtain ⟨e1, f1, a, b, rfl, ha, hb⟩ := hl.red
      cases hlt : ltE x e with
      | true =>
        have hxl := in_left hs hx hlt
        obtain ⟨l', h1, h2, h3⟩ := (cut_ok n (.nd true e1 f1 a b) k fl (sorted_l hs) hxl).1 hl (by omega)
        obtain ⟨t', h4, h5, h6, _⟩ := settle_left (c := false) (e := e) (f := f) h3 hr h2.far fr
        refine ⟨t', ?_, ⟨h5.far, ?_⟩, h6 rfl⟩
        · rw [cut_less hlt (by rw [if_neg (by simp)]) h1, h4]
        · rw [h5.list, h2.list]
          exact (erase_l hxl).symm
      | false =>
        have he1 : ltE e1 e = true := (List.pairwise_append.1 hs).2.2 e1 (by simp [toL]) e (by simp)
        have hlt1 : ltE x e1 = false := by
          cases hc : ltE x e1 with
          | false => rfl
          | true => rw [ltE_trans hc he1] at hlt; simp at hlt
        have hne1 : x ≠ e1 := fun h => by subst h; rw [he1] at hlt; simp at hlt
        have heq : toL (.nd true e1 f1 a b) ++ e :: toL r = toL a ++ e1 :: toL (mk true e b r) := by simp [toL, toL_mk]
        rw [heq] at hs hx ⊢
        have hxr := in_right hs hx hlt1 hne1
        obtain ⟨r', h1, h2, h3⟩ := (cut_ok n (mk true e b r) k (farOk_mk fl.2.2 fr) (sorted_r hs) hxr).1 (ok_r hb hr) (by omega)
        obtain ⟨t', h4, h5, h6⟩ := settle_right (e := e1) (f := farOf e1 a (mk true e b r)) ha h3 fl.2.1 h2.far
        refine ⟨t', ?_, ⟨h5.far, ?_⟩, h6⟩
        · rw [cut_ge (c1 := false) (e1 := e1) (f1 := farOf e1 a (mk true e b r)) (l1 := a) (r1 := mk true e b r) hlt (by rw [isRed_nd, if_pos rfl]; rfl) (by simp [mk]) (by rw [if_neg (by simp)]), if_neg hne1, h1]
          exact h4
        · rw [h5.list, h2.list]
          exact (erase_r hs hlt1 hne1).symm
    · rintro ⟨e, f, l, r, k, rfl, rfl, hl, hr, hlt⟩ hn
      obtain ⟨_, fl, fr⟩ := hf
      have hs : Sorted (toL l ++ e :: toL r) := hs
      have hx : x ∈ toL l ++ e :: toL r := hx
      show ∃ t', cut x (n + 1) (.nd false e f l r) = some t' ∧ Done t' ((toL l ++ e :: toL r).erase x) ∧ ok t' false (k + 1)
      obtain ⟨e2, f2, a2, b2, rfl, ha2, hb2⟩ := hr.red
      have hstay : (if isRed l = true then turnR (.nd false e f l (.nd true e2 f2 a2 b2)) else some (.nd false e f l (.nd true e2 f2 a2 b2))) = some (.nd false e f l (.nd true e2 f2 a2 b2)) := by rw [hl.isRed]; simp
      obtain ⟨m, r', h1, h2, h3, h4⟩ := step_r (c := false) (f := f) (l := l) (S := fun r' => okAny r' k) (by simp) ((behead_ok n (.nd true e2 f2 a2 b2) k fr).1 hr (by omega)) (fun hxr => (cut_ok n (.nd true e2 f2 a2 b2) k fr (sorted_r hs) hxr).1 hr (by omega)) hs hx hlt
      obtain ⟨t', h5, h6, h7⟩ := settle_right (e := m) (f := f) hl h4 fl h2
      refine ⟨t', ?_, ⟨h6.far, by rw [h6.list]; exact h3⟩, h7⟩
      rw [cut_ge hlt hstay (by simp) (by rw [if_neg (by simp)]), h1, h5]
end Go.It

end
section
namespace Go.It
set_option linter.unusedVariables false
set_option linter.unusedSimpArgs false

def paint (c : Bool) : Tr → Tr
  | .nil => .nil
  | .nd _ e f l r => .nd c e f l r
@[simp] theorem paint_nd {c d : Bool} {e : En} {f : Int} {l r : Tr} : paint c (.nd d e f l r) = .nd c e f l r := rfl
@[simp] theorem paint_nil {c : Bool} : paint c .nil = .nil := rfl
theorem toL_paint (c : Bool) (t : Tr) : toL (paint c t) = toL t := by cases t <;> rfl
theorem farOk_paint {c : Bool} {t : Tr} (h : farOk t) : farOk (paint c t) := by cases t with | nil => exact h | nd _ _ _ _ _ => exact h

/-- a tree as it stands between calls -/
structure Inv (t : Tr) : Prop where
  shape : ∃ h, ok t false h
  far : farOk t
  sorted : Sorted (toL t)

theorem inv_nil : Inv .nil := ⟨⟨0, rfl, rfl⟩, trivial, List.Pairwise.nil⟩

theorem ok_paint {t : Tr} {h : Nat} (hk : okAny t h) : ∃ h', ok (paint false t) false h' := by
  rcases hk with hk | hk
  · rcases hk.black with ⟨rfl, rfl⟩ | ⟨e, f, l, r, k, rfl, rfl, h1, h2⟩
    · exact ⟨0, rfl, rfl⟩
    · exact ⟨_, ok_b h2 h1⟩
  · obtain ⟨e, f, l, r, rfl, h1, h2⟩ := hk.red
    exact ⟨_, ok_b (.inl h1) h2⟩

theorem mem_putIn {x y : En} : ∀ {L : List En}, y ∈ putIn x L ↔ y = x ∨ y ∈ L
  | [] => by simp [putIn]
  | e :: es => by
    simp only [putIn]
    split
    · simp only [List.mem_cons, mem_putIn]
      constructor <;> (rintro (h | h | h) <;> simp [h])
    · simp
theorem sorted_putIn {x : En} : ∀ {L : List En}, Sorted L → ¬ x ∈ L → Sorted (putIn x L)
  | [], _, _ => by simp [putIn, Sorted]
  | e :: es, hs, hx => by
    obtain ⟨h1, h2⟩ := List.pairwise_cons.1 hs
    simp only [putIn]
    split
    · rename_i h
      refine List.pairwise_cons.2 ⟨fun y hy => ?_, sorted_putIn h2 (fun h => hx (by simp [h]))⟩
      rcases mem_putIn.1 hy with rfl | hy
      · exact h
      · exact h1 y hy
    · rename_i h
      have hlt : ltE x e = true := by
        rcases ltE_total (by simpa using h : ltE e x = false) with rfl | h
        · exact absurd (by simp) hx
        · exact h
      refine List.pairwise_cons.2 ⟨fun y hy => ?_, hs⟩
      rcases List.mem_cons.1 hy with rfl | hy
      · exact hlt
      · exact ltE_trans hlt (h1 y hy)

theorem ins_ok {t : Tr} {x : En} (hi : Inv t) (hx : ¬ x ∈ toL t) : ∃ t', add x t = some t' ∧ t' ≠ .nil ∧ Inv (paint false t') ∧ toL (paint false t') = putIn x (toL t) := by
  obtain ⟨h, hk⟩ := hi.shape
  obtain ⟨t', h1, h2, h3⟩ := (add_ok t h hi.far hi.sorted hx).1 hk
  have hl : toL (paint false t') = putIn x (toL t) := by rw [toL_paint, h2.list]
  refine ⟨t', h1, fun hn => ?_, ⟨ok_paint h3, farOk_paint h2.far, by rw [hl]; exact sorted_putIn hi.sorted hx⟩, hl⟩
  have := h2.list
  rw [hn] at this
  have hm : x ∈ putIn x (toL t) := mem_putIn.2 (.inl rfl)
  rw [← this] at hm
  simp [toL] at hm

/-- the root's colour ahead of a cut -/
def ready (t : Tr) : Tr := if isRed (lf t) = false ∧ isRed (rt t) = false then paint true t else t

theorem sorted_erase {x : En} {L : List En} (h : Sorted L) : Sorted (L.erase x) := List.Pairwise.sublist List.erase_sublist h

theorem del_ok {t : Tr} {x : En} (hi : Inv t) (hx : x ∈ toL t) : ∃ n t', cut x n (ready t) = some t' ∧ Inv (paint false t') ∧ toL (paint false t') = (toL t).erase x := by
  obtain ⟨h, hk⟩ := hi.shape
  rcases hk.black with ⟨rfl, _⟩ | ⟨e, f, l, r, k, rfl, rfl, hr, hl⟩
  · simp [toL] at hx
  · rcases hl with hl | hl
    · have hre : ready (.nd false e f l r) = .nd true e f l r := by simp [ready, hl.isRed, hr.isRed]
      obtain ⟨t', h1, h2, h3⟩ := (cut_ok (x := x) (2 * k + 1) (.nd true e f l r) k hi.far hi.sorted hx).1 (ok_r hl hr) (Nat.le_refl _)
      have hlst : toL (paint false t') = (toL (.nd false e f l r)).erase x := by rw [toL_paint, h2.list]; rfl
      exact ⟨_, t', by rw [hre]; exact h1, ⟨ok_paint h3, farOk_paint h2.far, by rw [hlst]; exact sorted_erase hi.sorted⟩, hlst⟩
    · have hre : ready (.nd false e f l r) = .nd false e f l r := by simp [ready, hl.isRed]
      obtain ⟨t', h1, h2, h3⟩ := (cut_ok (x := x) (2 * (k + 1)) (.nd false e f l r) (k + 1) hi.far hi.sorted hx).2.1 ⟨_, _, _, _, _, rfl, rfl, hl, hr⟩ (Nat.le_refl _)
      have hlst : toL (paint false t') = (toL (.nd false e f l r)).erase x := by rw [toL_paint, h2.list]
      exact ⟨_, t', by rw [hre]; exact h1, ⟨ok_paint (.inl h3), farOk_paint h2.far, by rw [hlst]; exact sorted_erase hi.sorted⟩, hlst⟩

/-! ### The height -/
def height : Tr → Nat
  | .nil => 0
  | .nd _ _ _ l r => 1 + max (height l) (height r)

theorem height_ok : ∀ (t : Tr) (h : Nat), (ok t false h → height t ≤ 2 * h ∧ 2 ^ h ≤ (toL t).length + 1) ∧ (ok t true h → height t ≤ 2 * h + 1 ∧ 2 ^ h ≤ (toL t).length + 1)
  | .nil, h => ⟨fun hk => by obtain ⟨_, rfl⟩ := hk; simp [height, toL], fun hk => by simp [ok] at hk⟩
  | .nd c e f l r, h => by
    constructor
    · intro hk
      rcases hk.black with ⟨h1, _⟩ | ⟨e', f', l', r', k, heq, rfl, hr, hl⟩
      · simp at h1
      simp only [Tr.nd.injEq] at heq
      obtain ⟨rfl, rfl, rfl, rfl, rfl⟩ := heq
      have h1 := (height_ok r k).1 hr
      have h2 : height l ≤ 2 * k + 1 ∧ 2 ^ k ≤ (toL l).length + 1 := by
        rcases hl with hl | hl
        · have := (height_ok l k).1 hl; exact ⟨by omega, this.2⟩
        · exact (height_ok l k).2 hl
      simp only [height, toL, List.length_append, List.length_cons, Nat.pow_succ]
      omega
    · intro hk
      obtain ⟨e', f', l', r', heq, hl, hr⟩ := hk.red
      simp only [Tr.nd.injEq] at heq
      obtain ⟨rfl, rfl, rfl, rfl, rfl⟩ := heq
      have h1 := (height_ok r h).1 hr
      have h2 := (height_ok l h).1 hl
      simp only [height, toL, List.length_append, List.length_cons]
      omega

/-- binary digits -/
def bits (n : Nat) : Nat := if h : 0 < n then bits (n / 2) + 1 else 0
termination_by n
theorem bits_pos {n : Nat} (h : 0 < n) : bits n = bits (n / 2) + 1 := by rw [bits, dif_pos h]
theorem bits_zero : bits 0 = 0 := by rw [bits, dif_neg (by omega)]
theorem bits_ge : ∀ (h n : Nat), 2 ^ h ≤ n → h + 1 ≤ bits n
  | 0, n, hn => by rw [bits_pos (by omega)]; omega
  | h + 1, n, hn => by
    have hp : 0 < 2 ^ h := Nat.two_pow_pos h
    rw [Nat.pow_succ] at hn
    have := bits_ge h (n / 2) (by omega)
    rw [bits_pos (by omega)]
    omega
theorem height_bits {t : Tr} (hi : Inv t) : height t ≤ 2 * bits ((toL t).length + 1) := by
  obtain ⟨h, hk⟩ := hi.shape
  have h1 := (height_ok t h).1 hk
  have h2 := bits_ge h _ h1.2
  omega

/-! ### What overlaps -/
/-- do an entry's span and another one overlap? -/
def ovl (e : En) (o n : Int) : Bool := decide ((if o > e.off then o else e.off) < (if o + n < endE e then o + n else endE e))

theorem max3_ge (a b c : Int) : a ≤ max3 a b c ∧ b ≤ max3 a b c ∧ c ≤ max3 a b c := by
  unfold max3
  split <;> split <;> omega
theorem far_ge : ∀ {t : Tr}, farOk t → ∀ e ∈ toL t, endE e ≤ reach t
  | .nil, _, e, he => by simp [toL] at he
  | .nd c x f l r, ⟨h1, h2, h3⟩, e, he => by
    have h4 := max3_ge (endE x) (reach l) (reach r)
    simp only [toL, List.mem_append, List.mem_cons] at he
    rw [show reach (.nd c x f l r) = max3 (endE x) (reach l) (reach r) from h1]
    rcases he with he | rfl | he
    · have := far_ge h2 e he; omega
    · omega
    · have := far_ge h3 e he; omega

/-- the ids that a walk tells -/
def told (o n : Int) : Tr → List Int
  | .nil => []
  | .nd _ e f l r => if f ≤ o then [] else told o n l ++ (if e.off ≥ o + n then [] else (if ovl e o n = true then [e.id] else []) ++ told o n r)

theorem ltE_off {a b : En} (h : ltE a b = true) : a.off ≤ b.off := by
  simp only [ltE, Bool.or_eq_true, Bool.and_eq_true, decide_eq_true_eq] at h
  omega
theorem told_ok {o n : Int} : ∀ {t : Tr}, farOk t → Sorted (toL t) → told o n t = ((toL t).filter fun e => ovl e o n).map (·.id)
  | .nil, _, _ => rfl
  | .nd c x f l r, hf, hs => by
    obtain ⟨h1, h2, h3⟩ := hf
    have hs : Sorted (toL l ++ x :: toL r) := hs
    have il := told_ok (o := o) (n := n) h2 (sorted_l hs)
    have ir := told_ok (o := o) (n := n) h3 (sorted_r hs)
    simp only [told]
    split
    · rename_i hle
      have hn : ∀ e ∈ toL (.nd c x f l r), ovl e o n = false := fun e he => by
        have h5 : endE e ≤ f := far_ge (t := .nd c x f l r) ⟨h1, h2, h3⟩ e he
        simp only [ovl, decide_eq_false_iff_not]
        split <;> split <;> omega
      rw [List.filter_eq_nil_iff.2 (fun e he => by rw [hn e he]; simp)]
      rfl
    · rw [show toL (.nd c x f l r) = toL l ++ x :: toL r from rfl, List.filter_append, List.map_append, ← il]
      congr 1
      split
      · rename_i hge
        have hn : ∀ e ∈ x :: toL r, ovl e o n = false := fun e he => by
          have h5 : x.off ≤ e.off := by
            rcases List.mem_cons.1 he with rfl | he
            · omega
            · exact ltE_off ((List.pairwise_cons.1 (List.pairwise_append.1 hs).2.1).1 e he)
          simp only [ovl, decide_eq_false_iff_not]
          split <;> split <;> omega
        rw [List.filter_eq_nil_iff.2 (fun e he => by rw [hn e he]; simp)]
        rfl
      · cases hb : ovl x o n with
        | true => simp [List.filter_cons, hb, ir]
        | false => simp [List.filter_cons, hb, ir]
end Go.It

end
