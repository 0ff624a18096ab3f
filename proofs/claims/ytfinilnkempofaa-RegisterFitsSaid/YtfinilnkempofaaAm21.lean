/- What the operators say of known numbers, bools and flat values. -/
import Derived.Test.YtfinilnkempofaaAm20
import Derived.Laws.BitsLemmas
import Derived.Laws.Bits64
set_option linter.all false
set_option linter.unusedVariables false
set_option linter.unusedSimpArgs false
set_option linter.unnecessarySimpa false
namespace Go.Am

section
variable {P : Program} {t : TypeId} {ox oy : Operand} {k : IntKind} {a b : Int}

theorem bcase_true {R : Type} {x y : Option R} : bcase (.bool true) x y = x := rfl
theorem bcase_false {R : Type} {x y : Option R} : bcase (.bool false) x y = y := rfl
theorem bcase_if {R : Type} {x y : Option R} (c : Bool) : bcase (.bool c) x y = if c = true then x else y := by cases c <;> rfl

theorem bin_run {op : BinOp} {x y v : Value} (hx : plain x = true) (hy : plain y = true) (hg : pureRun P (eqGuard op t ox oy x y) = some ()) (hb : pureRun P (binOp op t x y) = some v) (hv : plain v = true) :
    aBin P op t ox oy x y = some v := by
  unfold aBin
  rw [if_pos ⟨hx, hy⟩, pureRun_bind, hg]
  simp only [Option.bind_some, hb, hv, if_true]

theorem guard_int {op : BinOp} {j : IntKind} {c : Int} : pureRun P (eqGuard op t ox oy (.int k a) (.int j c)) = some () := by
  unfold eqGuard; cases op <;> rfl

theorem bin_add : aBin P .add t ox oy (.int k a) (.int k b) = some (.int k (k.wrap (a + b))) := bin_run rfl rfl guard_int (by simp [binOp, Op.intArith, pr_pure]) rfl
theorem bin_sub : aBin P .sub t ox oy (.int k a) (.int k b) = some (.int k (k.wrap (a - b))) := bin_run rfl rfl guard_int (by simp [binOp, Op.intArith, pr_pure]) rfl
theorem bin_mul : aBin P .mul t ox oy (.int k a) (.int k b) = some (.int k (k.wrap (a * b))) := bin_run rfl rfl guard_int (by simp [binOp, Op.intArith, pr_pure]) rfl
theorem bin_quo (h : b ≠ 0) : aBin P .quo t ox oy (.int k a) (.int k b) = some (.int k (k.wrap (a.tdiv b))) := bin_run rfl rfl guard_int (by simp [binOp, Op.intDiv, h, pr_pure]) rfl
theorem bin_rem (h : b ≠ 0) : aBin P .rem t ox oy (.int k a) (.int k b) = some (.int k (a.tmod b)) := bin_run rfl rfl guard_int (by simp [binOp, Op.intDiv, h, pr_pure]) rfl
theorem bin_eql : aBin P .eql t ox oy (.int k a) (.int k b) = some (.bool (decide (a = b))) := bin_run rfl rfl guard_int (by simp [binOp, Op.intCmp, pr_pure]; rfl) rfl
theorem bin_neq : aBin P .neq t ox oy (.int k a) (.int k b) = some (.bool (!decide (a = b))) := bin_run rfl rfl guard_int (by simp [binOp, Op.intCmp, pr_pure]; rfl) rfl
theorem bin_lss : aBin P .lss t ox oy (.int k a) (.int k b) = some (.bool (decide (a < b))) := bin_run rfl rfl guard_int (by simp [binOp, Op.intCmp, pr_pure]) rfl
theorem bin_leq : aBin P .leq t ox oy (.int k a) (.int k b) = some (.bool (decide (a ≤ b))) := bin_run rfl rfl guard_int (by simp [binOp, Op.intCmp, pr_pure]) rfl
theorem bin_gtr : aBin P .gtr t ox oy (.int k a) (.int k b) = some (.bool (decide (b < a))) := bin_run rfl rfl guard_int (by simp [binOp, Op.intCmp, pr_pure]) rfl
theorem bin_geq : aBin P .geq t ox oy (.int k a) (.int k b) = some (.bool (decide (b ≤ a))) := bin_run rfl rfl guard_int (by simp [binOp, Op.intCmp, pr_pure]) rfl

theorem un_not {c : Bool} : aUn P .not (.bool c) = some (.bool (!c)) := by
  unfold aUn; rfl

theorem pick_bool {c : Bool} {x y : Value} : aPick (.bool c) x y = some (if c = true then x else y) := by cases c <;> rfl

/-! ### Sets of bits -/

theorem bin_or {x y : Nat} (hx : x < 2 ^ 64) (hy : y < 2 ^ 64) : aBin P .or t ox oy (.int .u64 x) (.int .u64 y) = some (.int .u64 ((x ||| y : Nat) : Int)) := by
  refine bin_run rfl rfl guard_int ?_ rfl
  show some (Value.int .u64 (IntKind.u64.wrap ((BitVec.ofInt 64 (x : Int) ||| BitVec.ofInt 64 (y : Int)).toNat : Int))) = _
  rw [IntKind.wrap_u64, BitVec.toNat_or, BitVec.toNat_ofInt, BitVec.toNat_ofInt]
  have h1 : ((x : Int) % ((2 ^ 64 : Nat) : Int)).toNat = x := by omega
  have h2 : ((y : Int) % ((2 ^ 64 : Nat) : Int)).toNat = y := by omega
  rw [h1, h2]
  have := Nat.or_lt_two_pow hx hy
  congr 2
  omega

theorem bin_and {x y : Nat} (hx : x < 2 ^ 64) (hy : y < 2 ^ 64) : aBin P .and t ox oy (.int .u64 x) (.int .u64 y) = some (.int .u64 ((x &&& y : Nat) : Int)) := by
  refine bin_run rfl rfl guard_int ?_ rfl
  show some (Value.int .u64 (IntKind.u64.wrap ((BitVec.ofInt 64 (x : Int) &&& BitVec.ofInt 64 (y : Int)).toNat : Int))) = _
  rw [IntKind.wrap_u64, BitVec.toNat_and, BitVec.toNat_ofInt, BitVec.toNat_ofInt]
  have h1 : ((x : Int) % ((2 ^ 64 : Nat) : Int)).toNat = x := by omega
  have h2 : ((y : Int) % ((2 ^ 64 : Nat) : Int)).toNat = y := by omega
  rw [h1, h2]
  have : x &&& y ≤ x := Nat.and_le_left
  congr 2
  omega

/-- what is in x and not in y -/
def lessBits (x y : Nat) : Nat := x &&& (2 ^ 64 - 1 - y)

theorem bin_andNot {x y : Nat} (hx : x < 2 ^ 64) (hy : y < 2 ^ 64) : aBin P .andNot t ox oy (.int .u64 x) (.int .u64 y) = some (.int .u64 ((lessBits x y : Nat) : Int)) := by
  refine bin_run rfl rfl guard_int ?_ rfl
  show some (Value.int .u64 (IntKind.u64.wrap ((BitVec.ofInt 64 (x : Int) &&& ~~~BitVec.ofInt 64 (y : Int)).toNat : Int))) = _
  rw [IntKind.wrap_u64, BitVec.toNat_and, BitVec.toNat_not, BitVec.toNat_ofInt, BitVec.toNat_ofInt]
  have h1 : ((x : Int) % ((2 ^ 64 : Nat) : Int)).toNat = x := by omega
  have h2 : ((y : Int) % ((2 ^ 64 : Nat) : Int)).toNat = y := by omega
  rw [h1, h2]
  have : x &&& (2 ^ 64 - 1 - y) ≤ x := Nat.and_le_left
  unfold lessBits
  congr 2
  omega

theorem lessBits_lt {x y : Nat} (hx : x < 2 ^ 64) : lessBits x y < 2 ^ 64 := Nat.lt_of_le_of_lt Nat.and_le_left hx

theorem lessBits_bit {x y : Nat} (hx : x < 2 ^ 64) (hy : y < 2 ^ 64) (i : Nat) : (lessBits x y).testBit i = (x.testBit i && !y.testBit i) := by
  unfold lessBits
  rw [Nat.testBit_and]
  by_cases hi : i < 64
  · have : (2 ^ 64 - 1 - y) = 2 ^ 64 - (y + 1) := by omega
    rw [this, Nat.testBit_two_pow_sub_succ hy]
    simp [hi]
  · have : x.testBit i = false := Nat.testBit_lt_two_pow (Nat.lt_of_lt_of_le hx (Nat.pow_le_pow_right (by decide) (by omega)))
    simp [this]

theorem lessBits_zero {x y : Nat} (hx : x < 2 ^ 64) (hy : y < 2 ^ 64) : lessBits x y = 0 ↔ ∀ i, x.testBit i = true → y.testBit i = true := by
  constructor
  · intro h i hi
    have := lessBits_bit hx hy i
    rw [h, hi] at this
    simpa using this
  · intro h
    apply Nat.eq_of_testBit_eq
    intro i
    rw [lessBits_bit hx hy i]
    cases hxi : x.testBit i with
    | false => simp
    | true => simp [h i hxi]

theorem bin_bit {i : Nat} {j : IntKind} (hi : i < 64) : aBin P .shl t ox oy (.int .u64 1) (.int j (i : Int)) = some (.int .u64 ((2 ^ i : Nat) : Int)) := by
  refine bin_run rfl rfl guard_int ?_ rfl
  have h0 : ¬ ((i : Int) < 0) := by omega
  have hb : IntKind.u64.bits = 64 := rfl
  simp only [binOp, Op.shift, h0, if_false, pr_pure]
  rw [IntKind.wrap_u64, Int.toNat_natCast, hb, Nat.min_eq_left (by omega)]
  have h1 : (2 : Nat) ^ i < 2 ^ 64 := Nat.pow_lt_pow_right (by decide) hi
  have h2 : (2 : Int) ^ i = ((2 ^ i : Nat) : Int) := by simp
  rw [h2, Int.one_mul]
  generalize 2 ^ i = m at h1
  congr 2
  omega

theorem bin_shr {x i : Nat} {j : IntKind} (hi : i < 64) : aBin P .shr t ox oy (.int .u64 x) (.int j (i : Int)) = some (.int .u64 ((x >>> i : Nat) : Int)) := by
  refine bin_run rfl rfl guard_int ?_ rfl
  have h0 : ¬ ((i : Int) < 0) := by omega
  have hb : IntKind.u64.bits = 64 := rfl
  simp only [binOp, Op.shift, h0, if_false, pr_pure]
  rw [Int.toNat_natCast, hb, Nat.min_eq_left (by omega), Nat.shiftRight_eq_div_pow]
  have h2 : (2 : Int) ^ i = ((2 ^ i : Nat) : Int) := by simp
  rw [h2, Int.fdiv_eq_ediv_of_nonneg _ (Int.natCast_nonneg _), Int.natCast_ediv]

/-! ### Flat values -/

theorem flat_plain : ∀ (n : Nat) (t : TypeId) (l : List Value), flatT P n t = true → TOk P t l → plainL l = true
  | 0, _, _, h, _ => by simp [flatT] at h
  | n + 1, t, l, h, hl => by
    have flat : ∀ ps : List (List Value), (∀ p ∈ ps, plainL p = true) → plainL ps.flatten = true := by
      intro ps
      have app : ∀ a b : List Value, plainL a = true → plainL b = true → plainL (a ++ b) = true := by
        intro a b ha hb
        induction a with
        | nil => exact hb
        | cons x xs ih =>
          simp only [plainL, Bool.and_eq_true] at ha
          simp only [List.cons_append, plainL, ha.1, ih ha.2, Bool.and_self]
      induction ps with
      | nil => intro _; rfl
      | cons p ps ih => intro hp; exact app p ps.flatten (hp p (by simp)) (ih (fun q hq => hp q (by simp [hq])))
    simp only [flatT] at h
    cases hl with
    | bool b ht => rfl
    | int m ht hw => rfl
    | str s ht hs => rfl
    | slice rows ht hm ho => simp [ht] at h
    | @struct _ fs ps ht hpl ho =>
      simp only [ht, Bool.and_eq_true, beq_iff_eq, List.all_eq_true] at h
      refine flat ps (fun p hp => ?_)
      obtain ⟨i, hi⟩ := List.getElem?_of_mem hp
      have hlt : i < fs.toList.length := by have := lt_of_get hi; simp only [Array.length_toList]; omega
      exact flat_plain n fs.toList[i].type p (h.2 _ (List.getElem_mem hlt)).2 (ho i _ p (by rw [← Array.getElem?_toList]; exact List.getElem?_eq_getElem hlt) hi)
    | @array _ c e ps ht hpl ho =>
      simp only [ht, Bool.and_eq_true, decide_eq_true_eq] at h
      exact flat ps (fun p hp => flat_plain n e p h.2 (ho p hp))

/-- a flat struct or array, with what == asks of its type -/
structure FlatAgg (P : Program) (t : TypeId) : Prop where
  flat : flatT P 12 t = true
  guard : P.eqGuardType P.depth t = false
  agg : (match P.underlying t with | some (.struct _) | some (.array _ _) => true | _ => false) = true

theorem FlatAgg.argV (h : FlatAgg P t) (l : List Value) : argV P t l = .agg l.toArray := by
  have := h.agg
  unfold Am.argV
  split at this <;> simp_all

theorem guard_agg {op : BinOp} {x y : Array Value} (h : P.eqGuardType P.depth t = false) : pureRun P (eqGuard op t ox oy (.agg x) (.agg y)) = some () := by
  have key : pureRun P (do
      if !(← program).eqGuardType (← program).depth t then return
      if ← Op.eqGuardIn Op.maxDepth t (.agg x) (.agg y) then unsupported (.noEntry "binop/eql: two nil values of an interface type with methods, in a part of a struct or an array")) = some () := by
    rw [pureRun_bind]
    show (Option.bind (some P) _) = _
    simp only [Option.bind_some]
    rw [pureRun_bind]
    show (Option.bind (some P) _) = _
    simp only [Option.bind_some, h, Bool.not_false, if_true]
    rfl
  unfold eqGuard
  cases op <;> first | rfl | exact key

open Classical in
theorem bin_eql_flat (h : FlatAgg P t) {p q : List Value} (hp : TOk P t p) (hq : TOk P t q) : aBin P .eql t ox oy (.agg p.toArray) (.agg q.toArray) = some (.bool (decide (p = q))) := by
  have he := eq_flat 12 10000 t p q h.flat (by decide) hp hq
  rw [h.argV, h.argV] at he
  refine bin_run (by show plainA _ = true; exact flat_plain 12 t p h.flat hp) (by show plainA _ = true; exact flat_plain 12 t q h.flat hq) (guard_agg h.guard) ?_ rfl
  show pureRun P (do pure (Value.bool (← Op.equal t (.agg p.toArray) (.agg q.toArray)))) = _
  rw [pureRun_bind]
  show (pureRun P (Op.equalIn 10000 t _ _)).bind _ = _
  rw [he]; rfl

open Classical in
theorem bin_neq_flat (h : FlatAgg P t) {p q : List Value} (hp : TOk P t p) (hq : TOk P t q) : aBin P .neq t ox oy (.agg p.toArray) (.agg q.toArray) = some (.bool (!decide (p = q))) := by
  have he := eq_flat 12 10000 t p q h.flat (by decide) hp hq
  rw [h.argV, h.argV] at he
  refine bin_run (by show plainA _ = true; exact flat_plain 12 t p h.flat hp) (by show plainA _ = true; exact flat_plain 12 t q h.flat hq) (guard_agg h.guard) ?_ rfl
  show pureRun P (do pure (Value.bool (!(← Op.equal t (.agg p.toArray) (.agg q.toArray))))) = _
  rw [pureRun_bind]
  show (pureRun P (Op.equalIn 10000 t _ _)).bind _ = _
  rw [he]; rfl

end
end Go.Am
