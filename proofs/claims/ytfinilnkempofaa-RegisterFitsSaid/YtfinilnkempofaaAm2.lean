/- How an abstract value, and abstract blocks, stand to the model's. -/
import Derived.Test.YtfinilnkempofaaAm1
import Derived.Laws.Sem
import Derived.Laws.World
import Derived.Laws.Cells
import Derived.Laws.Rows
set_option linter.all false
set_option linter.unusedVariables false
set_option linter.unusedSimpArgs false
set_option linter.unnecessarySimpa false
namespace Go.Am

/-- where the blocks are, and the rows that nothing writes any more -/
structure Ren where
  at_ : Nat → Option (Nat × Nat)
  fz : Nat → Option (Array Value)
instance : CoeFun Ren (fun _ => Nat → Option (Nat × Nat)) := ⟨Ren.at_⟩
abbrev Sh := Nat → Option (TypeId × Nat)

/-- the model's value that an abstract one stands for -/
inductive VRel (P : Program) (ρ : Ren) (sh : Sh) : Value → Value → Prop
  | any (v : Value) : VRel P ρ sh (.chan none) v
  | same (v : Value) (h : plain v = true) : VRel P ρ sh v v
  | ptr {b o cb base : Nat} (h : ρ b = some (cb, base)) : VRel P ρ sh (.pointer (some ⟨b, o, none⟩)) (.pointer (some ⟨cb, base + o, none⟩))
  | slice {b o cb base len cap cap' : Nat} (h : ρ b = some (cb, base)) (hc : cap ≠ UNK → cap' = cap) (hl : len ≤ cap')
      (hu : cap = UNK → ∃ e n, sh cb = some (e, n) ∧ base + o + cap' * P.cellsOf e ≤ n) :
      VRel P ρ sh (.slice (some ⟨b, o, none⟩) len cap) (.slice (some ⟨cb, base + o, none⟩) len cap')
  | slice0 {b o : Nat} {a' : Addr} {cap : Nat} (hb : (ρ b).isSome = true) (hc : cap ≠ UNK → cap = 0) : VRel P ρ sh (.slice (some ⟨b, o, none⟩) 0 cap) (.slice (some a') 0 0)
  | map {r cr : Nat} (h : ρ r = some (cr, 0)) : VRel P ρ sh (.map (some r)) (.map (some cr))
  | func {fn : Fn} {a a' b b' : Array Value} (ha : a.size = a'.size) (hb : b.size = b'.size)
      (ha' : ∀ i (h1 : i < a.size) (h2 : i < a'.size), VRel P ρ sh a[i] a'[i]) (hb' : ∀ i (h1 : i < b.size) (h2 : i < b'.size), VRel P ρ sh b[i] b'[i]) :
      VRel P ρ sh (.func fn a b) (.func fn a' b')
  | agg {a a' : Array Value} (ha : a.size = a'.size) (ha' : ∀ i (h1 : i < a.size) (h2 : i < a'.size), VRel P ρ sh a[i] a'[i]) : VRel P ρ sh (.agg a) (.agg a')
  | tuple {a a' : Array Value} (ha : a.size = a'.size) (ha' : ∀ i (h1 : i < a.size) (h2 : i < a'.size), VRel P ρ sh a[i] a'[i]) : VRel P ρ sh (.tuple a) (.tuple a')
  | tree {len cb base cap' : Nat} {a a' c : Array Value} (hz : ρ.fz cb = some c) (hc : (c.toList.drop base).take a'.size = a'.toList) (hl : len ≤ cap')
      (ha : a.size = a'.size) (ha' : ∀ i (h1 : i < a.size) (h2 : i < a'.size), VRel P ρ sh a[i] a'[i]) : VRel P ρ sh (.iface len (.tuple a)) (.slice (some ⟨cb, base, none⟩) len cap')
  | tree0 {a' : Option Addr} {cap' : Nat} (hn : a' = none → cap' = 0) : VRel P ρ sh (.iface 0 (.tuple #[])) (.slice a' 0 cap')
  | tptr {off cb base : Nat} {a a' c : Array Value} (hz : ρ.fz cb = some c) (hc : (c.toList.drop base).take a'.size = a'.toList)
      (ha : a.size = a'.size) (ha' : ∀ i (h1 : i < a.size) (h2 : i < a'.size), VRel P ρ sh a[i] a'[i]) : VRel P ρ sh (.iface off (.agg a)) (.pointer (some ⟨cb, base + off, none⟩))

/-- lists of values, one by one -/
def LRel (P : Program) (ρ : Ren) (sh : Sh) (l l' : List Value) : Prop := l.length = l'.length ∧ ∀ (i : Nat) (v : Value), l[i]? = some v → ∃ v' : Value, l'[i]? = some v' ∧ VRel P ρ sh v v'

section
variable {P : Program} {ρ ρ' : Ren} {sh sh' : Sh}

theorem plainL_get {l : List Value} (h : plainL l = true) : ∀ (i : Nat) v, l[i]? = some v → plain v = true := by
  induction l with
  | nil => intro i v hv; simp at hv
  | cons x xs ih =>
    simp only [plainL, Bool.and_eq_true] at h
    intro i v hv
    cases i with
    | zero => simp at hv; subst hv; exact h.1
    | succ i => simp at hv; exact ih h.2 i v hv

theorem plainA_get {a : Array Value} (h : plainA a = true) (i : Nat) (hi : i < a.size) : plain a[i] = true := by
  cases a with | mk l => exact plainL_get h i _ (by simp [List.getElem?_eq_getElem, hi])

theorem LRel.refl_plain {l : List Value} (h : plainL l = true) : LRel P ρ sh l l :=
  ⟨rfl, fun i v hv => ⟨v, hv, .same v (plainL_get h i v hv)⟩⟩

theorem LRel.nil : LRel P ρ sh [] [] := ⟨rfl, fun i v h => by simp at h⟩

theorem LRel.cons {v v' : Value} {l l' : List Value} (h : VRel P ρ sh v v') (hl : LRel P ρ sh l l') : LRel P ρ sh (v :: l) (v' :: l') := by
  refine ⟨by simp [hl.1], fun i x hx => ?_⟩
  cases i with
  | zero => simp at hx; subst hx; exact ⟨v', by simp, h⟩
  | succ i => simp at hx; obtain ⟨y, hy, hr⟩ := hl.2 i x hx; exact ⟨y, by simpa using hy, hr⟩

theorem LRel.head {v v' : Value} {l l' : List Value} (h : LRel P ρ sh (v :: l) (v' :: l')) : VRel P ρ sh v v' ∧ LRel P ρ sh l l' := by
  obtain ⟨hl, hi⟩ := h
  constructor
  · obtain ⟨y, hy, hr⟩ := hi 0 v (by simp); simp at hy; subst hy; exact hr
  · refine ⟨by simpa using hl, fun i x hx => ?_⟩
    obtain ⟨y, hy, hr⟩ := hi (i + 1) x (by simpa using hx)
    exact ⟨y, by simpa using hy, hr⟩

theorem LRel.append {a a' b b' : List Value} (h : LRel P ρ sh a a') (h' : LRel P ρ sh b b') : LRel P ρ sh (a ++ b) (a' ++ b') := by
  refine ⟨by simp [h.1, h'.1], fun i v hv => ?_⟩
  by_cases hi : i < a.length
  · rw [List.getElem?_append_left hi] at hv
    obtain ⟨y, hy, hr⟩ := h.2 i v hv
    exact ⟨y, by rw [List.getElem?_append_left (h.1 ▸ hi)]; exact hy, hr⟩
  · have hi' : a.length ≤ i := Nat.le_of_not_lt hi
    rw [List.getElem?_append_right hi'] at hv
    obtain ⟨y, hy, hr⟩ := h'.2 _ v hv
    exact ⟨y, by rw [List.getElem?_append_right (h.1 ▸ hi'), ← h.1]; exact hy, hr⟩

theorem LRel.take {a a' : List Value} (h : LRel P ρ sh a a') (n : Nat) : LRel P ρ sh (a.take n) (a'.take n) := by
  refine ⟨by simp [h.1], fun i v hv => ?_⟩
  rw [List.getElem?_take] at hv
  split at hv
  · rename_i hi
    obtain ⟨y, hy, hr⟩ := h.2 i v hv
    exact ⟨y, by rw [List.getElem?_take, if_pos hi]; exact hy, hr⟩
  · simp at hv

theorem LRel.drop {a a' : List Value} (h : LRel P ρ sh a a') (n : Nat) : LRel P ρ sh (a.drop n) (a'.drop n) := by
  refine ⟨by simp [h.1], fun i v hv => ?_⟩
  rw [List.getElem?_drop] at hv
  obtain ⟨y, hy, hr⟩ := h.2 _ v hv
  exact ⟨y, by rw [List.getElem?_drop]; exact hy, hr⟩

theorem LRel.set {a a' : List Value} (h : LRel P ρ sh a a') (n : Nat) {v v' : Value} (hv : VRel P ρ sh v v') : LRel P ρ sh (a.set n v) (a'.set n v') := by
  refine ⟨by simp [h.1], fun i x hx => ?_⟩
  by_cases hi : n = i
  · subst hi
    by_cases hn : n < a.length
    · rw [List.getElem?_set_self hn] at hx; simp at hx; subst hx
      exact ⟨v', by rw [List.getElem?_set_self (h.1 ▸ hn)], hv⟩
    · rw [List.getElem?_eq_none (by simpa using Nat.le_of_not_lt hn)] at hx; simp at hx
  · rw [List.getElem?_set_ne hi] at hx
    obtain ⟨y, hy, hr⟩ := h.2 i x hx
    exact ⟨y, by rw [List.getElem?_set_ne hi]; exact hy, hr⟩

theorem LRel.getD {a a' : List Value} (h : LRel P ρ sh a a') (n : Nat) (d : Value) : VRel P ρ sh (a.getD n unk) (a'.getD n d) := by
  by_cases hn : n < a.length
  · obtain ⟨y, hy, hr⟩ := h.2 n a[n] (List.getElem?_eq_getElem hn)
    simp [List.getD, List.getElem?_eq_getElem hn, hy, hr]
  · simp [List.getD, List.getElem?_eq_none (Nat.le_of_not_lt hn)]
    exact .any _

theorem LRel.flatten_replicate {l : List Value} (h : plainL l = true) (n : Nat) : LRel P ρ sh (List.replicate n l).flatten (List.replicate n l).flatten := by
  induction n with
  | zero => exact .nil
  | succ n ih => rw [List.replicate_succ, List.flatten_cons]; exact (LRel.refl_plain h).append ih

/-- arrays' relation as lists' -/
theorem LRel.of_arr {a a' : Array Value} (ha : a.size = a'.size) (ha' : ∀ i (h1 : i < a.size) (h2 : i < a'.size), VRel P ρ sh a[i] a'[i]) : LRel P ρ sh a.toList a'.toList := by
  refine ⟨by simpa using ha, fun i v hv => ?_⟩
  have hi : i < a.size := by
    by_cases h : i < a.size
    · exact h
    · rw [List.getElem?_eq_none (by simpa using Nat.le_of_not_lt h)] at hv; simp at hv
  have e : a[i] = v := by
    rw [List.getElem?_eq_getElem (by simpa using hi)] at hv; simpa using hv
  subst e
  exact ⟨a'[i], by rw [List.getElem?_eq_getElem (by simpa [← ha] using hi)]; simp, ha' i hi (ha ▸ hi)⟩

theorem LRel.arr {a a' : Array Value} (h : LRel P ρ sh a.toList a'.toList) : a.size = a'.size ∧ ∀ i (_ : i < a.size) (_ : i < a'.size), VRel P ρ sh a[i] a'[i] := by
  have hs : a.size = a'.size := by simpa using h.1
  refine ⟨hs, fun i h1 h2 => ?_⟩
  obtain ⟨y, hy, hr⟩ := h.2 i a[i] (by rw [List.getElem?_eq_getElem (by simpa using h1)]; simp)
  rw [List.getElem?_eq_getElem (by simpa using h2)] at hy
  simp at hy; subst hy; exact hr

theorem VRel.agg_list {l l' : List Value} (h : LRel P ρ sh l l') : VRel P ρ sh (.agg l.toArray) (.agg l'.toArray) := by
  have := LRel.arr (a := l.toArray) (a' := l'.toArray) (by simpa using h)
  exact .agg this.1 this.2

theorem VRel.tuple_list {l l' : List Value} (h : LRel P ρ sh l l') : VRel P ρ sh (.tuple l.toArray) (.tuple l'.toArray) := by
  have := LRel.arr (a := l.toArray) (a' := l'.toArray) (by simpa using h)
  exact .tuple this.1 this.2

/-- a known value: what it stands for is itself -/
theorem VRel.eq_of_plain {v v' : Value} (h : VRel P ρ sh v v') : plain v = true → v' = v := by
  induction h with
  | any v => intro h; simp [plain] at h
  | same v _ => intro _; rfl
  | ptr _ => intro h; simp [plain] at h
  | slice _ _ _ _ => intro h; simp [plain] at h
  | slice0 _ _ => intro h; simp [plain] at h
  | map _ => intro h; simp [plain] at h
  | tree _ _ _ _ _ _ => intro h; simp [plain] at h
  | tree0 _ => intro h; simp [plain] at h
  | tptr _ _ _ _ _ => intro h; simp [plain] at h
  | @func fn a a' b b' ha hb _ _ iha ihb =>
    intro h
    simp only [plain, Bool.and_eq_true] at h
    have e1 : a' = a := by
      apply Array.ext ha.symm
      intro i h1 h2; exact iha i h2 h1 (plainA_get h.1 i h2)
    have e2 : b' = b := by
      apply Array.ext hb.symm
      intro i h1 h2; exact ihb i h2 h1 (plainA_get h.2 i h2)
    rw [e1, e2]
  | @agg a a' ha _ iha =>
    intro h
    simp only [plain] at h
    have e1 : a' = a := by
      apply Array.ext ha.symm
      intro i h1 h2; exact iha i h2 h1 (plainA_get h i h2)
    rw [e1]
  | @tuple a a' ha _ iha =>
    intro h
    simp only [plain] at h
    have e1 : a' = a := by
      apply Array.ext ha.symm
      intro i h1 h2; exact iha i h2 h1 (plainA_get h i h2)
    rw [e1]

theorem LRel.eq_of_plain {l l' : List Value} (h : LRel P ρ sh l l') (hp : plainL l = true) : l' = l := by
  apply List.ext_getElem? fun i => ?_
  cases hi : l[i]? with
  | none => rw [List.getElem?_eq_none_iff] at hi ⊢; rw [← h.1]; exact hi
  | some v =>
    obtain ⟨y, hy, hr⟩ := h.2 i v hi
    rw [hy, hr.eq_of_plain (plainL_get hp i v hi)]

theorem plainL_arr {a : Array Value} : plainA a = plainL a.toList := by cases a; rfl

theorem VRel.agg_inv {a : Array Value} {v : Value} (h : VRel P ρ sh (.agg a) v) : ∃ a', v = .agg a' ∧ LRel P ρ sh a.toList a'.toList := by
  cases h with
  | same _ h => exact ⟨a, rfl, .refl_plain (by simpa [plain, plainL_arr] using h)⟩
  | agg ha ha' => exact ⟨_, rfl, .of_arr ha ha'⟩

theorem VRel.tuple_inv {a : Array Value} {v : Value} (h : VRel P ρ sh (.tuple a) v) : ∃ a', v = .tuple a' ∧ LRel P ρ sh a.toList a'.toList := by
  cases h with
  | same _ h => exact ⟨a, rfl, .refl_plain (by simpa [plain, plainL_arr] using h)⟩
  | tuple ha ha' => exact ⟨_, rfl, .of_arr ha ha'⟩

theorem VRel.ptree_inv {len : Nat} {a : Array Value} {v : Value} (h : VRel P ρ sh (.iface len (.tuple a)) v) :
    (∃ cb base cap' c a', v = .slice (some ⟨cb, base, none⟩) len cap' ∧ ρ.fz cb = some c ∧ (c.toList.drop base).take a'.length = a' ∧ len ≤ cap' ∧ LRel P ρ sh a.toList a') ∨
    (len = 0 ∧ a = #[] ∧ ∃ a' cap', (a' = none → cap' = 0) ∧ v = .slice a' 0 cap') := by
  cases h with
  | same _ h => simp [plain] at h
  | tree hz hc hl ha ha' => exact .inl ⟨_, _, _, _, _, rfl, hz, by simpa using hc, hl, .of_arr ha ha'⟩
  | tree0 hn => exact .inr ⟨rfl, rfl, _, _, hn, rfl⟩

theorem VRel.tptr_inv {off : Nat} {a : Array Value} {v : Value} (h : VRel P ρ sh (.iface off (.agg a)) v) :
    ∃ cb base c a', v = .pointer (some ⟨cb, base + off, none⟩) ∧ ρ.fz cb = some c ∧ (c.toList.drop base).take a'.length = a' ∧ LRel P ρ sh a.toList a' := by
  cases h with
  | same _ h => simp [plain] at h
  | tptr hz hc ha ha' => exact ⟨_, _, _, _, rfl, hz, by simpa using hc, .of_arr ha ha'⟩

theorem VRel.tptr_list {off cb base : Nat} {a a' : List Value} {c : Array Value} (hz : ρ.fz cb = some c) (hc : (c.toList.drop base).take a'.length = a') (h : LRel P ρ sh a a') :
    VRel P ρ sh (.iface off (.agg a.toArray)) (.pointer (some ⟨cb, base + off, none⟩)) := by
  have := LRel.arr (a := a.toArray) (a' := a'.toArray) (by simpa using h)
  exact .tptr hz (by simpa using hc) this.1 this.2

theorem VRel.tree_list {len cb base cap' : Nat} {a a' : List Value} {c : Array Value} (hz : ρ.fz cb = some c) (hc : (c.toList.drop base).take a'.length = a') (hl : len ≤ cap') (h : LRel P ρ sh a a') :
    VRel P ρ sh (.iface len (.tuple a.toArray)) (.slice (some ⟨cb, base, none⟩) len cap') := by
  have := LRel.arr (a := a.toArray) (a' := a'.toArray) (by simpa using h)
  exact .tree hz (by simpa using hc) hl this.1 this.2

theorem VRel.func_inv {fn : Fn} {a b : Array Value} {v : Value} (h : VRel P ρ sh (.func fn a b) v) : ∃ a' b', v = .func fn a' b' ∧ LRel P ρ sh a.toList a'.toList ∧ LRel P ρ sh b.toList b'.toList := by
  cases h with
  | same _ h =>
    simp only [plain, Bool.and_eq_true, plainL_arr] at h
    exact ⟨a, b, rfl, .refl_plain h.1, .refl_plain h.2⟩
  | func ha hb ha' hb' => exact ⟨_, _, rfl, .of_arr ha ha', .of_arr hb hb'⟩

theorem VRel.bool_inv {b : Bool} {v : Value} (h : VRel P ρ sh (.bool b) v) : v = .bool b := h.eq_of_plain rfl
theorem VRel.int_inv {k : IntKind} {n : Int} {v : Value} (h : VRel P ρ sh (.int k n) v) : v = .int k n := h.eq_of_plain rfl
theorem VRel.string_inv {s : ByteArray} {v : Value} (h : VRel P ρ sh (.string s) v) : v = .string s := h.eq_of_plain rfl

theorem VRel.ptr_inv {a : Addr} {v : Value} (h : VRel P ρ sh (.pointer (some a)) v) : ∃ cb base, a.spot = none ∧ ρ a.block = some (cb, base) ∧ v = .pointer (some ⟨cb, base + a.off, none⟩) := by
  cases h with
  | same _ h => simp [plain] at h
  | ptr h => exact ⟨_, _, rfl, h, rfl⟩

/-- a single cell stays one -/
theorem VRel.cellV {v v' : Value} (h : VRel P ρ sh v v') (hc : cellV v = true) : v'.cells = #[v'] ∧ v.cells = #[v] ∧ v'.oneCell' = true := by
  cases h with
  | any v => simp [Am.cellV] at hc
  | same v h => cases v <;> simp_all [Am.cellV, Value.cells, Value.oneCell']
  | ptr _ => exact ⟨rfl, rfl, rfl⟩
  | slice _ _ _ _ => exact ⟨rfl, rfl, rfl⟩
  | slice0 _ _ => exact ⟨rfl, rfl, rfl⟩
  | map _ => exact ⟨rfl, rfl, rfl⟩
  | func _ _ _ _ => exact ⟨rfl, rfl, rfl⟩
  | agg _ _ => simp [Am.cellV] at hc
  | tuple _ _ => simp [Am.cellV] at hc
  | tree _ _ _ _ _ => exact ⟨rfl, rfl, rfl⟩
  | tree0 _ => exact ⟨rfl, rfl, rfl⟩
  | tptr _ _ _ _ => exact ⟨rfl, rfl, rfl⟩

theorem mem_lrefs {l : List Value} {b : Nat} : b ∈ lrefs l ↔ ∃ v ∈ l, b ∈ vrefs v := by
  induction l with
  | nil => simp [lrefs]
  | cons x xs ih => simp [lrefs, ih]

theorem arefs_list (a : Array Value) : arefs a = lrefs a.toList := by cases a; rfl
theorem aren_list (σ : Nat → Nat) (a : Array Value) : aren σ a = (lren σ a.toList).toArray := by cases a; rfl
theorem lren_map (σ : Nat → Nat) (l : List Value) : lren σ l = l.map (vren σ) := by
  induction l with
  | nil => rfl
  | cons x xs ih => simp [lren, ih]

theorem mem_arefs {a : Array Value} {i b : Nat} (hi : i < a.size) (h : b ∈ vrefs a[i]) : b ∈ arefs a := by
  rw [arefs_list, mem_lrefs]
  exact ⟨a[i], by simp, h⟩

theorem aren_size (σ : Nat → Nat) (a : Array Value) : (aren σ a).size = a.size := by rw [aren_list, lren_map]; simp
theorem aren_get (σ : Nat → Nat) (a : Array Value) (i : Nat) (h : i < (aren σ a).size) (h' : i < a.size) : (aren σ a)[i] = vren σ a[i] := by
  simp only [aren_list, lren_map]; simp

theorem vren_plain (σ : Nat → Nat) {P : Program} {ρ : Ren} {sh : Sh} {v v' : Value} (h : VRel P ρ sh v v') : plain v = true → vren σ v = v := by
  induction h with
  | any v => intro h; simp [plain] at h
  | same v h => intro _; exact plain_ren σ v h
  | ptr _ => intro h; simp [plain] at h
  | slice _ _ _ _ => intro h; simp [plain] at h
  | slice0 _ _ => intro h; simp [plain] at h
  | map _ => intro h; simp [plain] at h
  | func _ _ _ _ _ _ => intro h; exact plain_ren σ _ h
  | agg _ _ _ => intro h; exact plain_ren σ _ h
  | tuple _ _ _ => intro h; exact plain_ren σ _ h
  | tree _ _ _ _ _ _ => intro h; simp [plain] at h
  | tree0 _ => intro h; simp [plain] at h
  | tptr _ _ _ _ _ => intro h; simp [plain] at h
where
  plain_ren (σ : Nat → Nat) : ∀ v, plain v = true → vren σ v = v
    | .bool _, _ | .int _ _, _ | .float _ _, _ | .string _, _ | .pointer none, _ | .slice none _ _, _ | .map none, _ | .nilFunc, _ | .nilIface, _ => rfl
    | .agg ⟨l⟩, h => by simp only [vren, aren]; rw [plain_renL σ l (by simpa [plain, plainA] using h)]
    | .tuple ⟨l⟩, h => by simp only [vren, aren]; rw [plain_renL σ l (by simpa [plain, plainA] using h)]
    | .func f ⟨a⟩ ⟨b⟩, h => by
      simp only [plain, plainA, Bool.and_eq_true] at h
      simp only [vren, aren]; rw [plain_renL σ a h.1, plain_renL σ b h.2]
    | .complex _ _ _, h => rfl
    | .pointer (some _), h => by simp [plain] at h
    | .slice (some _) _ _, h => by simp [plain] at h
    | .map (some _), h => by simp [plain] at h
    | .chan none, h => rfl
    | .chan (some _), h => rfl
    | .iface _ _, h => by simp [plain] at h
  plain_renL (σ : Nat → Nat) : ∀ l, plainL l = true → lren σ l = l
    | [], _ => rfl
    | v :: vs, h => by
      simp only [plainL, Bool.and_eq_true] at h
      simp only [lren]; rw [plain_ren σ v h.1, plain_renL σ vs h.2]

/-- the blocks that a value names are renamed; the model's value stays -/
theorem VRel.ren {σ : Nat → Nat} {v v' : Value} (h : VRel P ρ sh v v') (hz : ∀ cb c, ρ.fz cb = some c → ρ'.fz cb = some c) : (∀ b ∈ vrefs v, ρ' (σ b) = ρ b) → (∀ r x, sh r = some x → sh' r = some x) → VRel P ρ' sh' (vren σ v) v' := by
  induction h with
  | any v => intro _ _; exact .any v
  | same v h => intro _ _; rw [vren_plain.plain_ren σ v h]; exact .same v h
  | ptr h => intro hr _; exact .ptr (by rw [hr _ (by simp [vrefs])]; exact h)
  | slice h hc hl hu =>
    intro hr hs
    exact .slice (by rw [hr _ (by simp [vrefs])]; exact h) hc hl (fun e => let ⟨e, n, h1, h2⟩ := hu e; ⟨e, n, hs _ _ h1, h2⟩)
  | slice0 hb hc => intro hr _; exact .slice0 (by rw [hr _ (by simp [vrefs])]; exact hb) hc
  | map h => intro hr _; exact .map (by rw [hr _ (by simp [vrefs])]; exact h)
  | @func fn a a' b b' ha hb _ _ iha ihb =>
    intro hr hs
    refine .func (by rw [aren_size]; exact ha) (by rw [aren_size]; exact hb) (fun i h1 h2 => ?_) (fun i h1 h2 => ?_)
    · rw [aren_size] at h1
      rw [aren_get _ _ _ _ h1]
      exact iha i h1 h2 (fun c hc => hr c (by simp [vrefs, mem_arefs h1 hc])) hs
    · rw [aren_size] at h1
      rw [aren_get _ _ _ _ h1]
      exact ihb i h1 h2 (fun c hc => hr c (by simp [vrefs, mem_arefs h1 hc])) hs
  | @agg a a' ha _ iha =>
    intro hr hs
    refine .agg (by rw [aren_size]; exact ha) (fun i h1 h2 => ?_)
    rw [aren_size] at h1
    rw [aren_get _ _ _ _ h1]
    exact iha i h1 h2 (fun c hc => hr c (by simp [vrefs, mem_arefs h1 hc])) hs
  | @tuple a a' ha _ iha =>
    intro hr hs
    refine .tuple (by rw [aren_size]; exact ha) (fun i h1 h2 => ?_)
    rw [aren_size] at h1
    rw [aren_get _ _ _ _ h1]
    exact iha i h1 h2 (fun c hc => hr c (by simp [vrefs, mem_arefs h1 hc])) hs
  | tree h1 hc hl ha _ iha =>
    intro hr hs
    refine .tree (hz _ _ h1) hc hl (by rw [aren_size]; exact ha) (fun i h1 h2 => ?_)
    rw [aren_size] at h1
    rw [aren_get _ _ _ _ h1]
    exact iha i h1 h2 (fun c hc => hr c (by simp [vrefs, mem_arefs h1 hc])) hs
  | tree0 hn => intro _ _; exact .tree0 hn
  | tptr h1 hc ha _ iha =>
    intro hr hs
    refine .tptr (hz _ _ h1) hc (by rw [aren_size]; exact ha) (fun i h1 h2 => ?_)
    rw [aren_size] at h1
    rw [aren_get _ _ _ _ h1]
    exact iha i h1 h2 (fun c hc => hr c (by simp [vrefs, mem_arefs h1 hc])) hs

theorem VRel.congr {v v' : Value} (h : VRel P ρ sh v v') (hz : ∀ cb c, ρ.fz cb = some c → ρ'.fz cb = some c) : (∀ b ∈ vrefs v, ρ' b = ρ b) → VRel P ρ' sh v v' := by
  induction h with
  | any v => intro _; exact .any v
  | same v h => intro _; exact .same v h
  | ptr h => intro hr; exact .ptr (by rw [hr _ (by simp [vrefs])]; exact h)
  | slice h hc hl hu => intro hr; exact .slice (by rw [hr _ (by simp [vrefs])]; exact h) hc hl hu
  | slice0 hb hc => intro hr; exact .slice0 (by rw [hr _ (by simp [vrefs])]; exact hb) hc
  | map h => intro hr; exact .map (by rw [hr _ (by simp [vrefs])]; exact h)
  | @func fn a a' b b' ha hb _ _ iha ihb =>
    intro hr
    exact .func ha hb (fun i h1 h2 => iha i h1 h2 (fun c hc => hr c (by simp [vrefs, mem_arefs h1 hc]))) (fun i h1 h2 => ihb i h1 h2 (fun c hc => hr c (by simp [vrefs, mem_arefs h1 hc])))
  | @agg a a' ha _ iha => intro hr; exact .agg ha (fun i h1 h2 => iha i h1 h2 (fun c hc => hr c (by simp [vrefs, mem_arefs h1 hc])))
  | @tuple a a' ha _ iha => intro hr; exact .tuple ha (fun i h1 h2 => iha i h1 h2 (fun c hc => hr c (by simp [vrefs, mem_arefs h1 hc])))
  | tree h1 hc hl ha _ iha => intro hr; exact .tree (hz _ _ h1) hc hl ha (fun i h1 h2 => iha i h1 h2 (fun c hc => hr c (by simp [vrefs, mem_arefs h1 hc])))
  | tree0 hn => intro _; exact .tree0 hn
  | tptr h1 hc ha _ iha => intro hr; exact .tptr (hz _ _ h1) hc ha (fun i h1 h2 => iha i h1 h2 (fun c hc => hr c (by simp [vrefs, mem_arefs h1 hc])))

/-- what a value stands for hangs on the blocks that are known alone -/
theorem VRel.mono {v v' : Value} (h : VRel P ρ sh v v') (hz : ∀ cb c, ρ.fz cb = some c → ρ'.fz cb = some c) (hr : ∀ b x, ρ b = some x → ρ' b = some x) (hs : ∀ r x, sh r = some x → sh' r = some x) : VRel P ρ' sh' v v' := by
  induction h with
  | any v => exact .any v
  | same v h => exact .same v h
  | ptr h => exact .ptr (hr _ _ h)
  | slice h hc hl hu => exact .slice (hr _ _ h) hc hl (fun e => let ⟨e, n, h1, h2⟩ := hu e; ⟨e, n, hs _ _ h1, h2⟩)
  | slice0 hb hc => exact .slice0 (by obtain ⟨x, hx⟩ := Option.isSome_iff_exists.1 hb; rw [hr _ _ hx]; rfl) hc
  | map h => exact .map (hr _ _ h)
  | func ha hb _ _ iha ihb => exact .func ha hb (fun i h1 h2 => iha i h1 h2) (fun i h1 h2 => ihb i h1 h2)
  | agg ha _ iha => exact .agg ha (fun i h1 h2 => iha i h1 h2)
  | tuple ha _ iha => exact .tuple ha (fun i h1 h2 => iha i h1 h2)
  | tree h1 hc hl ha _ iha => exact .tree (hz _ _ h1) hc hl ha (fun i h1 h2 => iha i h1 h2)
  | tree0 hn => exact .tree0 hn
  | tptr h1 hc ha _ iha => exact .tptr (hz _ _ h1) hc ha (fun i h1 h2 => iha i h1 h2)

theorem LRel.mono {l l' : List Value} (h : LRel P ρ sh l l') (hz : ∀ cb c, ρ.fz cb = some c → ρ'.fz cb = some c) (hr : ∀ b x, ρ b = some x → ρ' b = some x) (hs : ∀ r x, sh r = some x → sh' r = some x) : LRel P ρ' sh' l l' :=
  ⟨h.1, fun i v hv => let ⟨y, hy, hv⟩ := h.2 i v hv; ⟨y, hy, hv.mono hz hr hs⟩⟩

theorem LRel.ren {σ : Nat → Nat} {l l' : List Value} (h : LRel P ρ sh l l') (hz : ∀ cb c, ρ.fz cb = some c → ρ'.fz cb = some c) (hr : ∀ b ∈ lrefs l, ρ' (σ b) = ρ b) (hs : ∀ r x, sh r = some x → sh' r = some x) : LRel P ρ' sh' (lren σ l) l' := by
  rw [lren_map]
  refine ⟨by simp [h.1], fun i v hv => ?_⟩
  rw [List.getElem?_map] at hv
  cases hi : l[i]? with
  | none => simp [hi] at hv
  | some u =>
    simp [hi] at hv; subst hv
    obtain ⟨y, hy, hv⟩ := h.2 i u hi
    exact ⟨y, hy, hv.ren hz (fun b hb => hr b (mem_lrefs.2 ⟨u, List.mem_of_getElem? hi, hb⟩)) hs⟩

/-- every block that a related value names is known -/
theorem VRel.known {v v' : Value} (h : VRel P ρ sh v v') : ∀ b ∈ vrefs v, (ρ b).isSome = true := by
  induction h with
  | any v => intro b hb; simp [vrefs] at hb
  | same v h => intro b hb; rw [plain_refs v h] at hb; simp at hb
  | ptr h => intro b hb; simp [vrefs] at hb; subst hb; rw [h]; rfl
  | slice h _ _ _ => intro b hb; simp [vrefs] at hb; subst hb; rw [h]; rfl
  | slice0 h _ => intro b hb; simp [vrefs] at hb; subst hb; exact h
  | map h => intro b hb; simp [vrefs] at hb; subst hb; rw [h]; rfl
  | @func fn a a' b b' ha hb _ _ iha ihb =>
    intro c hc
    simp only [vrefs, List.mem_append, arefs_list, mem_lrefs] at hc
    rcases hc with ⟨v, hv, hc⟩ | ⟨v, hv, hc⟩
    · obtain ⟨i, hi, rfl⟩ := Array.getElem_of_mem (by simpa using hv); exact iha i hi (ha ▸ hi) c hc
    · obtain ⟨i, hi, rfl⟩ := Array.getElem_of_mem (by simpa using hv); exact ihb i hi (hb ▸ hi) c hc
  | @agg a a' ha _ iha =>
    intro c hc
    simp only [vrefs, arefs_list, mem_lrefs] at hc
    obtain ⟨v, hv, hc⟩ := hc
    obtain ⟨i, hi, rfl⟩ := Array.getElem_of_mem (by simpa using hv); exact iha i hi (ha ▸ hi) c hc
  | @tuple a a' ha _ iha =>
    intro c hc
    simp only [vrefs, arefs_list, mem_lrefs] at hc
    obtain ⟨v, hv, hc⟩ := hc
    obtain ⟨i, hi, rfl⟩ := Array.getElem_of_mem (by simpa using hv); exact iha i hi (ha ▸ hi) c hc
  | @tree _ _ _ _ a a' _ _ _ _ ha _ iha =>
    intro c hc
    simp only [vrefs, arefs_list, mem_lrefs] at hc
    obtain ⟨v, hv, hc⟩ := hc
    obtain ⟨i, hi, rfl⟩ := Array.getElem_of_mem (by simpa using hv); exact iha i hi (ha ▸ hi) c hc
  | tree0 _ => intro b hb; simp [vrefs, arefs, lrefs] at hb
  | @tptr _ _ _ a a' _ _ _ ha _ iha =>
    intro c hc
    simp only [vrefs, arefs_list, mem_lrefs] at hc
    obtain ⟨v, hv, hc⟩ := hc
    obtain ⟨i, hi, rfl⟩ := Array.getElem_of_mem (by simpa using hv); exact iha i hi (ha ▸ hi) c hc
where
  plain_refs : ∀ v, plain v = true → vrefs v = []
    | .bool _, _ | .int _ _, _ | .float _ _, _ | .string _, _ | .pointer none, _ | .slice none _ _, _ | .map none, _ | .nilFunc, _ | .nilIface, _ => rfl
    | .agg ⟨l⟩, h => by simp only [vrefs, arefs]; exact plain_refsL l (by simpa [plain, plainA] using h)
    | .tuple ⟨l⟩, h => by simp only [vrefs, arefs]; exact plain_refsL l (by simpa [plain, plainA] using h)
    | .func f ⟨a⟩ ⟨b⟩, h => by
      simp only [plain, plainA, Bool.and_eq_true] at h
      simp only [vrefs, arefs]; rw [plain_refsL a h.1, plain_refsL b h.2]; rfl
    | .complex _ _ _, h => rfl
    | .pointer (some _), h => by simp [plain] at h
    | .slice (some _) _ _, h => by simp [plain] at h
    | .map (some _), h => by simp [plain] at h
    | .chan none, h => rfl
    | .chan (some _), h => by simp [plain] at h
    | .iface _ _, h => by simp [plain] at h
  plain_refsL : ∀ l, plainL l = true → lrefs l = []
    | [], _ => rfl
    | v :: vs, h => by
      simp only [plainL, Bool.and_eq_true] at h
      simp only [lrefs]; rw [plain_refs v h.1, plain_refsL vs h.2]; rfl

theorem LRel.known {l l' : List Value} (h : LRel P ρ sh l l') : ∀ b ∈ lrefs l, (ρ b).isSome = true := by
  intro b hb
  obtain ⟨v, hv, hb⟩ := mem_lrefs.1 hb
  obtain ⟨i, hi⟩ := List.mem_iff_getElem?.1 hv
  obtain ⟨y, _, hr⟩ := h.2 i v hi
  exact hr.known b hb

end
end Go.Am
