/- A part of the proof: HistEv, HistRef, SpanT, HistRef2. Its conditions: none. -/
import Derived.Test.YtfinilnkempofaaRgOps
set_option linter.all false
set_option linter.unusedVariables false
set_option linter.unusedSimpArgs false
set_option linter.unnecessarySimpa false
section
namespace Go.Proofs.Ytfinilnkempofaa
open Go Go.Am

/-- an event -/
structure Ev where
  kind : Int
  who : Int
  ticket : Int
  rk : Int
  off : Int
  len : Int
  rd : List Int
  d : List Int

def byt (l : List Int) : List Value := l.map (Value.int .u8)
def evc (x : Ev) : List Value := [.int .i64 x.kind, .int .i64 x.who, .int .i64 x.ticket, .int .i64 x.rk, .int .i64 x.off, .int .i64 x.len, tSl x.rd.length (byt x.rd), tSl x.d.length (byt x.d)]
def evs (l : List Ev) : List (List Value) := l.map evc
/-- the events' row -/
def evR (l : List Ev) : List Value := (evs l).flatten

def isI (n : Int) : Prop := -9223372036854775808 ≤ n ∧ n < 9223372036854775808
def OkB (l : List Int) : Prop := l.length < 1000000 ∧ ∀ b ∈ l, 0 ≤ b ∧ b < 256
structure OkEv (x : Ev) : Prop where
  kind : isI x.kind
  who : isI x.who
  ticket : isI x.ticket
  rk : isI x.rk
  off : isI x.off
  len : isI x.len
  rd : OkB x.rd
  d : OkB x.d
def OkEvs (l : List Ev) : Prop := ∀ x ∈ l, OkEv x

theorem q36 (l : List Int) : lrefs (byt l) = [] := by
  induction l with
  | nil => rfl
  | cons x xs ih => simpa [byt] using ih
theorem y363 (l : List Int) : (byt l).length = l.length := by simp [byt]
theorem y25 (x : Ev) : lrefs (evc x) = [] := by simp [evc, q36]
theorem y63 (x : Ev) : (evc x).length = 8 := by simp [evc]
theorem q34 (x : Ev) : q16 (evc x) = true := by simp [evc]
theorem evc_flat (x : Ev) : (evc x).all noSl = true := by simp [evc, noSl, tSl]
theorem q211 (l : List Ev) : RowsOf 8 (evs l) := by
  have key : ∀ r ∈ evs l, ∃ x, r = evc x := fun r hr => by
    obtain ⟨x, _, rfl⟩ := List.mem_map.1 hr
    exact ⟨x, rfl⟩
  refine ⟨fun r hr => ?_, fun r hr => ?_, fun r hr => ?_, fun r hr => ?_⟩ <;> obtain ⟨x, rfl⟩ := key r hr
  · rfl
  · exact y25 x
  · rfl
  · rfl
theorem q22 (l : List Ev) : lrefs (evR l) = [] := (q211 l).frefs
theorem evs_get {l : List Ev} {k : Nat} {x : Ev} (h : l[k]? = some x) : (evs l)[k]? = some (evc x) := by simp [evs, h]
theorem evs_len (l : List Ev) : (evs l).length = l.length := by simp [evs]

/-- the names of both worlds' events -/
theorem y348 {l : List Ev} {k : Nat} (hk : k < l.length) : q15 PP q13 (tSl l.length (evR l)) (.int .i64 (k : Int)) = some (tPtr (k * 8) (evR l).toArray) := y177 y96 y248 hk
theorem ix_wld {l : List Ev} {k : Nat} (hk : k < l.length) : q15 PP q25 (tSl l.length (evR l)) (.int .i64 (k : Int)) = some (tPtr (k * 8) (evR l).toArray) := y177 q183 y249 hk
theorem q287 (l : List Ev) (st : AS) : aLen PP q13 (tSl l.length (evR l)) st = some (.int .i64 l.length) := y237 y96
theorem ln_wld (l : List Ev) (st : AS) : aLen PP q25 (tSl l.length (evR l)) st = some (.int .i64 l.length) := y237 q183
section
variable {l : List Ev} {k : Nat} {x : Ev} (h : l[k]? = some x) (st : AS)
include h
theorem q272 : aLoad true 8 st (tPtr (k * 8) (evR l).toArray) = some (.agg (evc x).toArray) := y344 (q211 l) (evs_get h)
theorem ev_kind : aLoad false 1 st (tPtr (k * 8) (evR l).toArray) = some (.int .i64 x.kind) := y259 (off := 0) (q211 l) (evs_get h) rfl
theorem ev_who : aLoad false 1 st (tPtr (k * 8 + 1) (evR l).toArray) = some (.int .i64 x.who) := y259 (q211 l) (evs_get h) rfl
theorem ev_ticket : aLoad false 1 st (tPtr (k * 8 + 2) (evR l).toArray) = some (.int .i64 x.ticket) := y259 (q211 l) (evs_get h) rfl
theorem ev_d : aLoad false 1 st (tPtr (k * 8 + 7) (evR l).toArray) = some (tSl x.d.length (byt x.d)) := y259 (q211 l) (evs_get h) rfl
end

theorem q122 {n : Int} (h : isI n) : IntKind.i64.wrap n = n := by
  unfold isI at h; rw [IntKind.wrap_i64]; omega
theorem wrap_nat {n : Nat} (h : n < 9223372036854775808) : IntKind.i64.wrap (n : Int) = (n : Int) := q122 ⟨by omega, by omega⟩
theorem q69 {n : Nat} (h : n < 4611686018427387904) : IntKind.i64.wrap ((n : Int) + 1) = ((n + 1 : Nat) : Int) := by
  rw [q122 ⟨by omega, by omega⟩]; omega

end Go.Proofs.Ytfinilnkempofaa

end
section
namespace Go.Proofs.Ytfinilnkempofaa
open Go Go.Am

/-- is x the asking of y? -/
def asksB (x y : Ev) : Bool := decide (x.kind = 0) && decide (x.who = y.who) && decide (x.ticket = y.ticket)
/-- the first asking of y among the first events -/
def y138 (l : List Ev) (at_ : Nat) : Int := match l[at_]? with
  | some y => match (l.take at_).findIdx? fun x => asksB x y with
    | some i => (i : Int)
    | none => -1
  | none => -1

theorem q310 {α : Type} (p : α → Bool) : ∀ (l : List α) (n i : Nat), (∀ j x, j < i → l[j]? = some x → p x = false) → (∀ x, l[i]? = some x → p x = true) → i < n → i < l.length → (l.take n).findIdx? p = some i
  | [], n, i, h, hp, hi, hl => by simp at hl
  | x :: xs, 0, i, h, hp, hi, hl => by omega
  | x :: xs, n + 1, 0, h, hp, hi, hl => by simp [List.findIdx?_cons, hp x rfl]
  | x :: xs, n + 1, i + 1, h, hp, hi, hl => by
    have hx := h 0 x (by omega) rfl
    have ih := q310 p xs n i (fun j y hj hy => h (j + 1) y (by omega) (by simpa using hy)) (fun y hy => hp y (by simpa using hy)) (by omega) (by simpa using hl)
    simp [List.findIdx?_cons, hx, ih]

theorem findIdx_none {α : Type} (p : α → Bool) (l : List α) (n : Nat) (h : ∀ j x, j < n → l[j]? = some x → p x = false) : (l.take n).findIdx? p = none := by
  rw [List.findIdx?_eq_none_iff]
  intro x hx
  obtain ⟨j, hj⟩ := List.getElem?_of_mem hx
  rw [List.getElem?_take] at hj
  split at hj
  · rename_i hjn
    simpa using h j x hjn hj
  · simp at hj

section
variable {l : List Ev}

theorem asked_ok (hl : OkEvs l) (hm : l.length < 1000000) {at_ : Nat} (hat : at_ < l.length) (H : List Blk) : acall PP TT y83 [tSl l.length (evR l), .int .i64 at_] H = some (.int .i64 (y138 l at_), H, none) := by
  obtain ⟨y, hy⟩ : ∃ y, l[at_]? = some y := ⟨_, List.getElem?_eq_getElem hat⟩
  have hixa := y348 hat
  obtain ⟨r, hlp, hr⟩ := q142 (n0 := H.length) (step := twainref36_asked.loop2s (acall PP TT) loopG H.length) (len := at_) (σ := Unit) (fun i _ => ([tSl l.length (evR l), .int .i64 at_, .int .i64 i], ⟨H, none⟩))
    (fun i _ => ∀ j x, j < i → l[j]? = some x → asksB x y = false)
    (fun r => (r = (.exit 0, [unk], ⟨H, none⟩) ∧ y138 l at_ = -1) ∨ r = (.ret, [.int .i64 (y138 l at_)], ⟨H, none⟩))
    (fun i _ hi ho => by
      have hil : i < l.length := by omega
      obtain ⟨x, hx⟩ : ∃ x, l[i]? = some x := ⟨_, List.getElem?_eq_getElem hil⟩
      have hi' : ((i : Int) < (at_ : Int)) := by omega
      have hix := y348 hil
      have hw := q69 (n := i) (by omega)
      have e1 := ev_kind hx ⟨H, none⟩
      have e2 := ev_who hx ⟨H, none⟩
      have e3 := ev_ticket hx ⟨H, none⟩
      have e4 := ev_who hy ⟨H, none⟩
      have e5 := ev_ticket hy ⟨H, none⟩
      cases hb : asksB x y with
      | true =>
        have hfound : y138 l at_ = (i : Int) := by
          unfold y138
          rw [hy]
          simp only [q310 (fun x => asksB x y) l at_ i ho (fun z hz => by rw [hx] at hz; simp at hz; subst hz; exact hb) hi hil]
        refine .inl ⟨_, ?_, .inr rfl⟩
        simp only [asksB, Bool.and_eq_true, decide_eq_true_eq] at hb
        obtain ⟨⟨h1, h2⟩, h3⟩ := hb
        simp only [twainref36_asked.loop2s, twainref36_asked.loop2, twainref36_asked.j1, mach, Nat.reduceAdd, Nat.reduceLeDiff, Int.reduceEq, Int.reduceLT, Int.reduceLE, hi', hix, hixa, y71, y109, q109, e1, e2, e3, e4, e5, h1, h2, h3, hfound]
      | false =>
        refine .inr ⟨([tSl l.length (evR l), .int .i64 at_, .int .i64 ((i + 1 : Nat) : Int)], ⟨H, none⟩), (), ?_, y208 (by simp [q22]), fun j z hj hz => ?_⟩
        · have hcase : x.kind ≠ 0 ∨ (x.kind = 0 ∧ x.who ≠ y.who) ∨ (x.kind = 0 ∧ x.who = y.who ∧ x.ticket ≠ y.ticket) := by
            simp only [asksB, Bool.and_eq_false_iff, decide_eq_false_iff_not] at hb
            by_cases h1 : x.kind = 0 <;> by_cases h2 : x.who = y.who <;> simp_all
          rcases hcase with h1 | ⟨h1, h2⟩ | ⟨h1, h2, h3⟩
          · simp only [twainref36_asked.loop2s, twainref36_asked.loop2, twainref36_asked.j1, twainref36_asked.j2, mach, Nat.reduceAdd, Nat.reduceLeDiff, Int.reduceEq, Int.reduceLT, Int.reduceLE, hi', hix, hixa, y71, y109, q109, e1, e2, e3, e4, e5, h1, hw]
          · simp only [twainref36_asked.loop2s, twainref36_asked.loop2, twainref36_asked.j1, twainref36_asked.j2, mach, Nat.reduceAdd, Nat.reduceLeDiff, Int.reduceEq, Int.reduceLT, Int.reduceLE, hi', hix, hixa, y71, y109, q109, e1, e2, e3, e4, e5, h1, h2, hw]
          · simp only [twainref36_asked.loop2s, twainref36_asked.loop2, twainref36_asked.j1, twainref36_asked.j2, mach, Nat.reduceAdd, Nat.reduceLeDiff, Int.reduceEq, Int.reduceLT, Int.reduceLE, hi', hix, hixa, y71, y109, q109, e1, e2, e3, e4, e5, h1, h2, h3, hw]
        · by_cases hji : j = i
          · subst hji; rw [hx] at hz; simp at hz; subst hz; exact hb
          · exact ho j z (by omega) hz)
    (fun _ ho => ⟨_, by simp only [twainref36_asked.loop2s, twainref36_asked.loop2, mach, Nat.reduceAdd, Nat.reduceLeDiff, Int.reduceEq, Int.reduceLT, Int.reduceLE, Int.lt_irrefl], .inl ⟨rfl, by
      unfold y138
      rw [hy]
      simp only [findIdx_none (fun x => asksB x y) l at_ ho]⟩⟩)
    at_ 0 () ([tSl l.length (evR l), .int .i64 at_, .int .i64 0], ⟨H, none⟩) (by omega) (fun j x hj => by omega) (y208 (by simp [q22]))
  rw [y22, twainref36_asked.eq]
  rcases hr with ⟨rfl, h⟩ | rfl
  · simp only [twainref36_asked.sh, hlp, mach, Nat.reduceAdd, Nat.reduceLeDiff, Int.reduceEq, Int.reduceLT, Int.reduceLE, twainref36_asked.j4, h]
    exact q153 rfl rfl
  · simp only [twainref36_asked.sh, hlp, mach, Nat.reduceAdd, Nat.reduceLeDiff, Int.reduceEq, Int.reduceLT, Int.reduceLE]
    exact q153 rfl rfl

end
end Go.Proofs.Ytfinilnkempofaa

end
section
namespace Go.Proofs.Ytfinilnkempofaa
open Go Go.Am

/-- a span's cells -/
abbrev spn (o n : Int) : Value := .agg [Value.int .i64 o, Value.int .i64 n].toArray
def q214 (n : Int) : Bool := decide (0 ≤ n) && decide (n ≤ 1073741824)
def y205 (o n : Int) : Bool := q214 o && q214 n
def endI (o n : Int) : Int := if y205 o n = true then o + n else 0
def mxI (x y : Int) : Int := if y > x then y else x
def mnI (x y : Int) : Int := if y < x then y else x
/-- do spans meet, and where? -/
def meetB (a an b bn : Int) : Bool := y205 a an && y205 b bn && decide (mxI a b < mnI (a + an) (b + bn))
def meetV (a an b bn : Int) : Value := if meetB a an b bn = true then spn (mxI a b) (mnI (a + an) (b + bn) - mxI a b) else spn 0 0

theorem y200 {o n : Int} (h : y205 o n = true) : 0 ≤ o ∧ o ≤ 1073741824 ∧ 0 ≤ n ∧ n ≤ 1073741824 := by
  simp only [y205, q214, Bool.and_eq_true, decide_eq_true_eq] at h
  omega

theorem within_ok (n : Int) (H : List Blk) : acall PP TT q140 [.int .i64 n] H = some (.bool (q214 n), H, none) := by
  rw [y22, span_within.eq]
  by_cases h : 0 ≤ n
  · simp only [span_within.sh, mach, Nat.reduceAdd, Nat.reduceLeDiff, Int.reduceEq, Int.reduceLT, Int.reduceLE, h, q214]
    exact q153 rfl rfl
  · simp only [span_within.sh, mach, Nat.reduceAdd, Nat.reduceLeDiff, Int.reduceEq, Int.reduceLT, Int.reduceLE, h, q214, Bool.false_and]
    exact q153 rfl rfl

theorem q263 (o n : Int) (H : List Blk) : acall PP TT q139 [spn o n] H = some (.bool (y205 o n), H, none) := by
  rw [y22, span_Plain.eq]
  cases h : q214 o with
  | true =>
    simp only [span_Plain.sh, mach, Nat.reduceAdd, Nat.reduceLeDiff, Int.reduceEq, Int.reduceLT, Int.reduceLE, y19, q56, within_ok, h, y205]
    exact y90 rfl rfl rfl
  | false =>
    simp only [span_Plain.sh, mach, Nat.reduceAdd, Nat.reduceLeDiff, Int.reduceEq, Int.reduceLT, Int.reduceLE, y19, q56, within_ok, h, y205, Bool.false_and]
    exact y90 rfl rfl rfl

theorem end_ok (o n : Int) (H : List Blk) : acall PP TT q189 [spn o n] H = some (.int .i64 (endI o n), H, none) := by
  rw [y22, span_End.eq]
  cases h : y205 o n with
  | true =>
    have hp := y200 h
    have hw : IntKind.i64.wrap (o + n) = o + n := q122 ⟨by omega, by omega⟩
    simp only [span_End.sh, mach, Nat.reduceAdd, Nat.reduceLeDiff, Int.reduceEq, Int.reduceLT, Int.reduceLE, y19, q56, q263, h, endI, hw]
    exact y90 rfl rfl rfl
  | false =>
    simp only [span_End.sh, mach, Nat.reduceAdd, Nat.reduceLeDiff, Int.reduceEq, Int.reduceLT, Int.reduceLE, y19, q56, q263, h, endI]
    exact y90 rfl rfl rfl

theorem sfrom_ok (o n m : Int) (H : List Blk) : acall PP TT q96 [spn o n, .int .i64 m] H = some (.int .i64 (mxI o m), H, none) := by
  rw [y22, span_side_from.eq]
  simp only [span_side_from.sh, mach, Nat.reduceAdd, Nat.reduceLeDiff, Int.reduceEq, Int.reduceLT, Int.reduceLE, y19, y254]
  exact y90 rfl rfl rfl

theorem to_ok (o n m : Int) (H : List Blk) : acall PP TT y116 [spn o n, .int .i64 m] H = some (.int .i64 (mnI (endI o n) m), H, none) := by
  rw [y22, span_side_to.eq]
  simp only [span_side_to.sh, mach, Nat.reduceAdd, Nat.reduceLeDiff, Int.reduceEq, Int.reduceLT, Int.reduceLE, y19, y254, end_ok]
  exact y90 rfl rfl rfl

theorem q227 : q89 PP y15 [] = some (spn 0 0) := by kernel_rfl
theorem y95 (x y : Int) : q89 PP y15 [(0, .int .i64 x), (1, .int .i64 y)] = some (spn x y) := by kernel_rfl
theorem bd_side (x y : Int) : q89 PP q82 [(0, spn x y)] = some (spn x y) := by kernel_rfl
theorem fn_from (x y : Value) : aFn PP (.func (.func q96) #[x] #[]) [y] = some (q96, [x, y]) := by kernel_rfl
theorem fn_to (x y : Value) : aFn PP (.func (.func y116) #[x] #[]) [y] = some (y116, [x, y]) := by kernel_rfl
theorem veq_spn (x y : Int) : veq (spn x y) (spn x y) = true := veq_agg _ rfl
theorem q131 : ((some true : Option Bool) == some true) = true := rfl

theorem meet_ok (a an b bn : Int) (H : List Blk) : acall PP TT y188 [spn a an, spn b bn] H = some (.tuple #[meetV a an b bn, .bool (meetB a an b bn)], H, none) := by
  rw [y22, span_Meet.eq]
  cases h1 : y205 a an with
  | false =>
    have hm : meetB a an b bn = false := by simp [meetB, h1]
    simp only [span_Meet.sh, span_Meet.j0, mach, Nat.reduceAdd, Nat.reduceLeDiff, Int.reduceEq, Int.reduceLT, Int.reduceLE, q83, z_api_Span, y19, q56, q263, h1, q227, q9, meetV, hm]
    exact y90 rfl rfl rfl
  | true =>
    cases h2 : y205 b bn with
    | false =>
      have hm : meetB a an b bn = false := by simp [meetB, h2]
      simp only [span_Meet.sh, span_Meet.j0, mach, Nat.reduceAdd, Nat.reduceLeDiff, Int.reduceEq, Int.reduceLT, Int.reduceLE, q83, z_api_Span, y19, q56, q263, h1, h2, q227, q9, meetV, hm]
      exact y90 rfl rfl rfl
    | true =>
      have p1 := y200 h1
      have p2 := y200 h2
      have e1 : endI a an = a + an := by simp [endI, h1]
      have e2 : endI b bn = b + bn := by simp [endI, h2]
      by_cases hc : mnI (a + an) (b + bn) ≤ mxI a b
      · have hm : meetB a an b bn = false := by
          have : ¬ mxI a b < mnI (a + an) (b + bn) := by omega
          simp [meetB, this]
        simp only [span_Meet.sh, span_Meet.j0, span_Meet.j1, mach, Nat.reduceAdd, Nat.reduceLeDiff, Int.reduceEq, Int.reduceLT, Int.reduceLE, q83, z_api_Span, y19, q56, q263, h1, h2, q227, bd_side, fn_from, fn_to, sfrom_ok, to_ok, end_ok, e1, e2, veq_spn, q131, hc, q9, meetV, hm]
        exact y90 rfl rfl rfl
      · have hm : meetB a an b bn = true := by
          have : mxI a b < mnI (a + an) (b + bn) := by omega
          simp [meetB, this, h1, h2]
        have hb : -1073741824 ≤ mnI (a + an) (b + bn) - mxI a b ∧ mnI (a + an) (b + bn) - mxI a b ≤ 2147483648 := by
          unfold mnI mxI; constructor <;> split <;> split <;> omega
        have hw : IntKind.i64.wrap (mnI (a + an) (b + bn) - mxI a b) = mnI (a + an) (b + bn) - mxI a b := q122 ⟨by omega, by omega⟩
        simp only [span_Meet.sh, span_Meet.j0, span_Meet.j1, mach, Nat.reduceAdd, Nat.reduceLeDiff, Int.reduceEq, Int.reduceLT, Int.reduceLE, q83, z_api_Span, y19, q56, q263, h1, h2, q227, y95, bd_side, fn_from, fn_to, sfrom_ok, to_ok, end_ok, e1, e2, veq_spn, q131, hc, q9, meetV, hm, hw]
        exact y90 rfl rfl rfl

theorem overlap_ok (a an b bn : Int) (H : List Blk) : acall PP TT q128 [spn a an, spn b bn] H = some (.bool (meetB a an b bn), H, none) := by
  rw [y22, span_Overlap.eq]
  cases hm : meetB a an b bn with
  | true =>
    simp only [span_Overlap.sh, mach, Nat.reduceAdd, Nat.reduceLeDiff, Int.reduceEq, Int.reduceLT, Int.reduceLE, meet_ok, q83, z_api_Span, meetV, hm, q9]
    exact y90 rfl rfl rfl
  | false =>
    simp only [span_Overlap.sh, mach, Nat.reduceAdd, Nat.reduceLeDiff, Int.reduceEq, Int.reduceLT, Int.reduceLE, meet_ok, q83, z_api_Span, meetV, hm, q9]
    exact y90 rfl rfl rfl

/-! ### The document's -/

theorem q218 (o n : Int) (H : List Blk) : acall PP TT y92 [spn o n] H = some (.bool (y205 o n), H, none) := by
  rw [y22, twainref04_Plain.eq]
  by_cases h1 : 0 ≤ o
  · by_cases h2 : o ≤ 1073741824
    · by_cases h3 : 0 ≤ n
      · simp only [twainref04_Plain.sh, mach, Nat.reduceAdd, Nat.reduceLeDiff, Int.reduceEq, Int.reduceLT, Int.reduceLE, y19, q56, y205, q214, h1, h2, h3]
        exact y90 rfl rfl rfl
      · simp only [twainref04_Plain.sh, mach, Nat.reduceAdd, Nat.reduceLeDiff, Int.reduceEq, Int.reduceLT, Int.reduceLE, y19, q56, y205, q214, h1, h2, h3, Bool.false_and]
        exact y90 rfl rfl rfl
    · simp only [twainref04_Plain.sh, mach, Nat.reduceAdd, Nat.reduceLeDiff, Int.reduceEq, Int.reduceLT, Int.reduceLE, y19, q56, y205, q214, h1, h2, Bool.false_and]
      exact y90 rfl rfl rfl
  · simp only [twainref04_Plain.sh, mach, Nat.reduceAdd, Nat.reduceLeDiff, Int.reduceEq, Int.reduceLT, Int.reduceLE, y19, q56, y205, q214, h1, Bool.false_and]
    exact y90 rfl rfl rfl

theorem rmeet_ok (a an b bn : Int) (H : List Blk) : acall PP TT y119 [spn a an, spn b bn] H = some (.tuple #[meetV a an b bn, .bool (meetB a an b bn)], H, none) := by
  rw [y22, twainref04_Meet.eq]
  cases h1 : y205 a an with
  | false =>
    have hm : meetB a an b bn = false := by simp [meetB, h1]
    simp only [twainref04_Meet.sh, twainref04_Meet.j0, mach, Nat.reduceAdd, Nat.reduceLeDiff, Int.reduceEq, Int.reduceLT, Int.reduceLE, q83, z_api_Span, y19, q56, q218, h1, q227, q9, meetV, hm]
    exact y90 rfl rfl rfl
  | true =>
    cases h2 : y205 b bn with
    | false =>
      have hm : meetB a an b bn = false := by simp [meetB, h2]
      simp only [twainref04_Meet.sh, twainref04_Meet.j0, mach, Nat.reduceAdd, Nat.reduceLeDiff, Int.reduceEq, Int.reduceLT, Int.reduceLE, q83, z_api_Span, y19, q56, q218, h1, h2, q227, q9, meetV, hm]
      exact y90 rfl rfl rfl
    | true =>
      have p1 := y200 h1
      have p2 := y200 h2
      have w1 : IntKind.i64.wrap (a + an) = a + an := q122 ⟨by omega, by omega⟩
      have w2 : IntKind.i64.wrap (b + bn) = b + bn := q122 ⟨by omega, by omega⟩
      have hb : -1073741824 ≤ mnI (a + an) (b + bn) - mxI a b ∧ mnI (a + an) (b + bn) - mxI a b ≤ 2147483648 := by
        unfold mnI mxI; constructor <;> split <;> split <;> omega
      have hw : IntKind.i64.wrap (mnI (a + an) (b + bn) - mxI a b) = mnI (a + an) (b + bn) - mxI a b := q122 ⟨by omega, by omega⟩
      -- the last of it
      have last : ∀ (f t : Int) (l : List Blk), f = mxI a b → t = mnI (a + an) (b + bn) → l = [Blk.cells [.int .i64 a, .int .i64 an] y15 true, .cells [.int .i64 b, .int .i64 bn] y15 true, .cells [.int .i64 0, .int .i64 0] y15 true] →
          twainref04_Meet.j3 (acall PP TT) loopG H.length (.pointer (some ⟨H.length + 2, 0, none⟩)) (.int .i64 f) (.int .i64 t) ⟨H ++ l, none⟩ = some (.tuple #[meetV a an b bn, .bool (meetB a an b bn)], H, none) := by
        rintro f t l rfl rfl rfl
        by_cases hc : mnI (a + an) (b + bn) ≤ mxI a b
        · have hm : meetB a an b bn = false := by
            have : ¬ mxI a b < mnI (a + an) (b + bn) := by omega
            simp [meetB, this]
          simp only [twainref04_Meet.j3, mach, Nat.reduceAdd, Nat.reduceLeDiff, Int.reduceEq, Int.reduceLT, Int.reduceLE, hc, q227, q9, meetV, hm]
          exact y90 rfl rfl rfl
        · have hm : meetB a an b bn = true := by
            have : mxI a b < mnI (a + an) (b + bn) := by omega
            simp [meetB, this, h1, h2]
          simp only [twainref04_Meet.j3, mach, Nat.reduceAdd, Nat.reduceLeDiff, Int.reduceEq, Int.reduceLT, Int.reduceLE, hc, y95, q9, meetV, hm, hw]
          exact y90 rfl rfl rfl
      by_cases g1 : a < b
      · by_cases g2 : b + bn < a + an
        · simp only [twainref04_Meet.sh, twainref04_Meet.j0, twainref04_Meet.j1, twainref04_Meet.j2, mach, Nat.reduceAdd, Nat.reduceLeDiff, Int.reduceEq, Int.reduceLT, Int.reduceLE, q83, z_api_Span, y19, q56, q218, h1, h2, w1, w2, g1, g2]
          exact last _ _ _ (by simp [mxI, g1]) (by simp [mnI, g2]) rfl
        · simp only [twainref04_Meet.sh, twainref04_Meet.j0, twainref04_Meet.j1, twainref04_Meet.j2, mach, Nat.reduceAdd, Nat.reduceLeDiff, Int.reduceEq, Int.reduceLT, Int.reduceLE, q83, z_api_Span, y19, q56, q218, h1, h2, w1, w2, g1, g2]
          exact last _ _ _ (by simp [mxI, g1]) (by simp [mnI, g2]) rfl
      · by_cases g2 : b + bn < a + an
        · simp only [twainref04_Meet.sh, twainref04_Meet.j0, twainref04_Meet.j1, twainref04_Meet.j2, mach, Nat.reduceAdd, Nat.reduceLeDiff, Int.reduceEq, Int.reduceLT, Int.reduceLE, q83, z_api_Span, y19, q56, q218, h1, h2, w1, w2, g1, g2]
          exact last _ _ _ (by simp [mxI, g1]) (by simp [mnI, g2]) rfl
        · simp only [twainref04_Meet.sh, twainref04_Meet.j0, twainref04_Meet.j1, twainref04_Meet.j2, mach, Nat.reduceAdd, Nat.reduceLeDiff, Int.reduceEq, Int.reduceLT, Int.reduceLE, q83, z_api_Span, y19, q56, q218, h1, h2, w1, w2, g1, g2]
          exact last _ _ _ (by simp [mxI, g1]) (by simp [mnI, g2]) rfl

theorem roverlap_ok (a an b bn : Int) (H : List Blk) : acall PP TT q98 [spn a an, spn b bn] H = some (.bool (meetB a an b bn), H, none) := by
  rw [y22, twainref04_Overlap.eq]
  cases hm : meetB a an b bn with
  | true =>
    simp only [twainref04_Overlap.sh, mach, Nat.reduceAdd, Nat.reduceLeDiff, Int.reduceEq, Int.reduceLT, Int.reduceLE, rmeet_ok, q83, z_api_Span, meetV, hm, q9]
    exact y90 rfl rfl rfl
  | false =>
    simp only [twainref04_Overlap.sh, mach, Nat.reduceAdd, Nat.reduceLeDiff, Int.reduceEq, Int.reduceLT, Int.reduceLE, rmeet_ok, q83, z_api_Span, meetV, hm, q9]
    exact y90 rfl rfl rfl

end Go.Proofs.Ytfinilnkempofaa

end
section
namespace Go.Proofs.Ytfinilnkempofaa
open Go Go.Am

/-- the first of some numbers, so many of them, that is so; -1: none -/
def q280 (p : Nat → Bool) : Nat → Nat → Int
  | _, 0 => -1
  | i, k + 1 => if p i = true then (i : Int) else q280 p (i + 1) k

theorem q305 {p : Nat → Bool} : ∀ (k i m : Nat), (∀ j, i ≤ j → j < m → p j = false) → p m = true → i ≤ m → m < i + k → q280 p i k = (m : Int)
  | 0, i, m, _, _, h1, h2 => by omega
  | k + 1, i, m, h, hm, h1, h2 => by
    simp only [q280]
    by_cases he : i = m
    · subst he; rw [if_pos hm]
    · rw [h i (Nat.le_refl _) (by omega)]
      simp only [Bool.false_eq_true, if_false]
      exact q305 k (i + 1) m (fun j h3 h4 => h j (by omega) h4) hm (by omega) (by omega)

theorem q265 {p : Nat → Bool} : ∀ (k i : Nat), (∀ j, i ≤ j → j < i + k → p j = false) → q280 p i k = -1
  | 0, i, _ => rfl
  | k + 1, i, h => by
    simp only [q280, h i (Nat.le_refl _) (by omega), Bool.false_eq_true, if_false]
    exact q265 k (i + 1) (fun j h3 h4 => h j (by omega) (by omega))

theorem y336 {p : Nat → Bool} : ∀ (k i : Nat), (q280 p i k = -1 ∧ ∀ j, i ≤ j → j < i + k → p j = false) ∨ ∃ m : Nat, q280 p i k = (m : Int) ∧ i ≤ m ∧ m < i + k ∧ p m = true ∧ ∀ j, i ≤ j → j < m → p j = false
  | 0, i => .inl ⟨rfl, fun j h1 h2 => by omega⟩
  | k + 1, i => by
    cases hp : p i with
    | true => exact .inr ⟨i, by simp [q280, hp], by omega, by omega, hp, fun j h1 h2 => by omega⟩
    | false =>
      have he : q280 p i (k + 1) = q280 p (i + 1) k := by simp [q280, hp]
      rw [he]
      rcases y336 (p := p) k (i + 1) with ⟨h1, h2⟩ | ⟨m, h1, h2, h3, h4, h5⟩
      · refine .inl ⟨h1, fun j h3 h4 => ?_⟩
        by_cases hj : j = i
        · subst hj; exact hp
        · exact h2 j (by omega) (by omega)
      · refine .inr ⟨m, h1, by omega, by omega, h4, fun j h6 h7 => ?_⟩
        by_cases hj : j = i
        · subst hj; exact hp
        · exact h5 j (by omega) h7

/-- is event i an end of what was asked at a place? -/
def endsB (l : List Ev) (from_ i : Nat) : Bool := match l[i]? with
  | some x => decide (x.kind = 1) && decide (y138 l i = (from_ : Int))
  | none => false
def y72 (l : List Ev) (from_ : Nat) : Int := q280 (endsB l from_) (from_ + 1) (l.length - (from_ + 1))

section
variable {l : List Ev}

theorem askedI_isI (hm : l.length < 1000000) (k : Nat) : isI (y138 l k) ∧ y138 l k < (l.length : Int) := by
  unfold y138 isI
  split
  · rename_i y hy
    split
    · rename_i i hi
      have := List.findIdx?_eq_some_iff_findIdx_eq.1 hi
      have h2 := this.1
      simp at h2
      omega
    · omega
  · omega

theorem ended_ok (hl : OkEvs l) (hm : l.length < 1000000) {from_ : Nat} (hf : from_ < l.length) (H : List Blk) : acall PP TT y80 [tSl l.length (evR l), .int .i64 from_] H = some (.int .i64 (y72 l from_), H, none) := by
  have hw0 := q69 (n := from_) (by omega)
  obtain ⟨r, hlp, hr⟩ := q142 (n0 := H.length) (step := twainref36_ended.loop2s (acall PP TT) loopG H.length) (len := l.length) (σ := Unit) (fun i _ => ([tSl l.length (evR l), .int .i64 from_, .int .i64 i], ⟨H, none⟩))
    (fun i _ => from_ + 1 ≤ i ∧ ∀ j, from_ + 1 ≤ j → j < i → endsB l from_ j = false)
    (fun r => (r = (.exit 0, [unk], ⟨H, none⟩) ∧ y72 l from_ = -1) ∨ r = (.ret, [.int .i64 (y72 l from_)], ⟨H, none⟩))
    (fun i _ hi ho => by
      obtain ⟨x, hx⟩ : ∃ x, l[i]? = some x := ⟨_, List.getElem?_eq_getElem hi⟩
      have hi' : ((i : Int) < (l.length : Int)) := by omega
      have hix := y348 hi
      have hw := q69 (n := i) (by omega)
      have hln := q287 l ⟨H, none⟩
      have e1 := ev_kind hx ⟨H, none⟩
      have hak := asked_ok hl hm hi H
      cases hb : endsB l from_ i with
      | true =>
        have hfound : y72 l from_ = (i : Int) := q305 _ _ _ ho.2 hb ho.1 (by omega)
        refine .inl ⟨_, ?_, .inr rfl⟩
        simp only [endsB, hx, Bool.and_eq_true, decide_eq_true_eq] at hb
        obtain ⟨h1, h2⟩ := hb
        simp only [twainref36_ended.loop2s, twainref36_ended.loop2, twainref36_ended.j1, mach, Nat.reduceAdd, Nat.reduceLeDiff, Int.reduceEq, Int.reduceLT, Int.reduceLE, hi', hix, hln, y71, e1, h1, hak, h2, hfound]
      | false =>
        refine .inr ⟨([tSl l.length (evR l), .int .i64 from_, .int .i64 ((i + 1 : Nat) : Int)], ⟨H, none⟩), (), ?_, y208 (by simp [q22]), by omega, fun j h1 h2 => ?_⟩
        · simp only [endsB, hx, Bool.and_eq_false_iff, decide_eq_false_iff_not] at hb
          by_cases h1 : x.kind = 1
          · have h2 : ¬ y138 l i = (from_ : Int) := by
              rcases hb with hb | hb
              · exact absurd h1 hb
              · exact hb
            simp only [twainref36_ended.loop2s, twainref36_ended.loop2, twainref36_ended.j1, twainref36_ended.j2, mach, Nat.reduceAdd, Nat.reduceLeDiff, Int.reduceEq, Int.reduceLT, Int.reduceLE, hi', hix, hln, y71, e1, h1, hak, h2, hw]
          · simp only [twainref36_ended.loop2s, twainref36_ended.loop2, twainref36_ended.j1, twainref36_ended.j2, mach, Nat.reduceAdd, Nat.reduceLeDiff, Int.reduceEq, Int.reduceLT, Int.reduceLE, hi', hix, hln, y71, e1, h1, hw]
        · by_cases hji : j = i
          · subst hji; exact hb
          · exact ho.2 j h1 (by omega))
    (fun _ ho => ⟨_, by simp only [twainref36_ended.loop2s, twainref36_ended.loop2, mach, Nat.reduceAdd, Nat.reduceLeDiff, Int.reduceEq, Int.reduceLT, Int.reduceLE, q287, Int.lt_irrefl], .inl ⟨rfl, q265 _ _ (fun j h1 h2 => ho.2 j h1 (by omega))⟩⟩)
    (l.length - (from_ + 1)) (from_ + 1) () ([tSl l.length (evR l), .int .i64 from_, .int .i64 ((from_ + 1 : Nat) : Int)], ⟨H, none⟩) (by omega) ⟨by omega, fun j h1 h2 => by omega⟩ (y208 (by simp [q22]))
  rw [y22, twainref36_ended.eq]
  rcases hr with ⟨rfl, h⟩ | rfl
  · simp only [twainref36_ended.sh, mach, Nat.reduceAdd, Nat.reduceLeDiff, Int.reduceEq, Int.reduceLT, Int.reduceLE, hw0, hlp, twainref36_ended.j4, h]
    exact q153 rfl rfl
  · simp only [twainref36_ended.sh, mach, Nat.reduceAdd, Nat.reduceLeDiff, Int.reduceEq, Int.reduceLT, Int.reduceLE, hw0, hlp]
    exact q153 rfl rfl

/-! ### Sectors -/

/-- the i'th sector of bytes; noughts, where there are not as many -/
def secI (b : List Int) (i : Nat) : List Int := if 16 * (i + 1) ≤ b.length then (b.drop (16 * i)).take 16 else List.replicate 16 0

theorem y182 (b : List Int) (i : Nat) : (secI b i).length = 16 := by
  unfold secI
  split
  · simp; omega
  · simp
theorem y327 {b : List Int} (hb : OkB b) (i : Nat) : ∀ x ∈ secI b i, 0 ≤ x ∧ x < 256 := by
  intro x hx
  unfold secI at hx
  split at hx
  · exact hb.2 x (List.mem_of_mem_drop (List.mem_of_mem_take hx))
  · simp at hx; omega
theorem y74 (b : List Int) : q16 (byt b) = true := by
  induction b with
  | nil => rfl
  | cons x xs ih => simpa [byt, q16] using ih
theorem q194 (b : List Int) : (byt b).all noSl = true := by
  induction b with
  | nil => rfl
  | cons x xs ih => simp only [byt, List.map_cons, List.all_cons, noSl, Bool.true_and]; exact ih
theorem y274 (b : List Int) (i : Nat) : (byt (secI b i)).length = 16 := by rw [y363, y182]
theorem byt_take (b : List Int) (n : Nat) : (byt b).take n = byt (b.take n) := by simp [byt]
theorem byt_drop (b : List Int) (n : Nat) : (byt b).drop n = byt (b.drop n) := by simp [byt]

theorem ix_sec {bk o k : Nat} (hk : k < 16) : q15 PP y1 (.pointer (some ⟨bk, o, none⟩)) (.int .i64 (k : Int)) = some (.pointer (some ⟨bk, o + k, none⟩)) := by
  simp only [q15, q197, q341]
  rw [if_pos ⟨by omega, by omega⟩]
  simp [Addr.add]
theorem ix_byt {b : List Int} {k : Nat} (hk : k < b.length) : q15 PP y48 (tSl b.length (byt b)) (.int .i64 (k : Int)) = some (tPtr k (byt b).toArray) := by
  have := y177 (row := byt b) (j := .i64) y218 q341 hk
  simpa using this
theorem ld_byt {b : List Int} {k : Nat} {x : Int} (hk : b[k]? = some x) (st : AS) : aLoad false 1 st (tPtr k (byt b).toArray) = some (.int .u8 x) := by
  show tLoad false 1 k (byt b).toArray = _
  simp [tLoad, byt, hk]
theorem q206 (b : List Int) (st : AS) : aLen PP y48 (tSl b.length (byt b)) st = some (.int .i64 b.length) := y237 y218

theorem q295 {cs : List Value} {k : Nat} {v : Value} (h : k < cs.length) : q49 cs k [v] = cs.set k v := by
  unfold q49
  rw [List.set_eq_take_append_cons_drop, if_pos h]
  simp

def z16 : List Int := List.replicate 16 0
theorem q90 : z_api_Sector = byt z16 := rfl
theorem y146 : (byt z16).length = 16 := by simp [byt, z16]

theorem fill_step {X : List Int} {k : Nat} {x : Int} (hX : X.length = 16) (hk : X[k]? = some x) : (byt (X.take k ++ List.replicate (16 - k) 0)).set k (.int .u8 x) = byt (X.take (k + 1) ++ List.replicate (16 - (k + 1)) 0) := by
  have hlt := q12 hk
  have h1 : List.replicate (16 - k) (0 : Int) = 0 :: List.replicate (16 - (k + 1)) 0 := by
    rw [show 16 - k = (16 - (k + 1)) + 1 by omega, List.replicate_succ]
  have h2 : (X.take k).length = k := by simp; omega
  rw [h1]
  unfold byt
  rw [List.map_append, List.set_append_right _ _ (by simp; omega)]
  have h3 : k - (List.map (Value.int .u8) (X.take k)).length = 0 := by rw [List.length_map, h2]; omega
  rw [h3, List.map_cons, List.set_cons_zero, List.take_add_one, hk]
  simp

theorem sector_ok {b : List Int} (hb : OkB b) {i : Nat} (hi : i ≤ 1073741824) (H : List Blk) : acall PP TT y85 [tSl b.length (byt b), .int .i64 i] H = some (.agg (byt (secI b i)).toArray, H, none) := by
  have hbl := hb.1
  rw [y22, twainref36_sector.eq]
  have hneg : ¬ ((i : Int) < 0) := by omega
  have w1 := q69 (n := i) (by omega)
  have w2 : IntKind.i64.wrap (16 * ((i + 1 : Nat) : Int)) = ((16 * (i + 1) : Nat) : Int) := by rw [q122 ⟨by omega, by omega⟩]; omega
  by_cases hc : 16 * (i + 1) ≤ b.length
  · have hlt : ¬ ((b.length : Int) < ((16 * (i + 1) : Nat) : Int)) := by omega
    have hX : ((b.drop (16 * i)).take 16).length = 16 := by simp; omega
    have hs : secI b i = (b.drop (16 * i)).take 16 := by simp [secI, hc]
    obtain ⟨r, hlp, hr⟩ := q142 (n0 := H.length) (step := twainref36_sector.loop5s (acall PP TT) loopG H.length) (len := 16) (σ := Unit)
      (fun k _ => ([tSl b.length (byt b), .int .i64 i, .pointer (some ⟨H.length, 0, none⟩), .pointer (some ⟨H.length + 1, 0, none⟩), .int .i64 k], ⟨H ++ [.cells (byt z16) y1 true, .cells (byt (((b.drop (16 * i)).take 16).take k ++ List.replicate (16 - k) 0)) y1 true], none⟩))
      (fun _ _ => True)
      (fun r => r = (.exit 0, [.pointer (some ⟨H.length, 0, none⟩), .pointer (some ⟨H.length + 1, 0, none⟩)], ⟨H ++ [.cells (byt z16) y1 true, .cells (byt (secI b i)) y1 true], none⟩))
      (fun k _ hk _ => by
        have hk' : ((k : Int) < 16) := by omega
        obtain ⟨x, hx⟩ : ∃ x, ((b.drop (16 * i)).take 16)[k]? = some x := ⟨_, List.getElem?_eq_getElem (by omega)⟩
        have hbx : b[16 * i + k]? = some x := by rw [List.getElem?_take, if_pos hk, List.getElem?_drop] at hx; exact hx
        have hbl2 := q12 hbx
        have w3 : IntKind.i64.wrap (16 * (i : Int)) = ((16 * i : Nat) : Int) := by rw [q122 ⟨by omega, by omega⟩]; omega
        have w4 : IntKind.i64.wrap (((16 * i : Nat) : Int) + (k : Int)) = ((16 * i + k : Nat) : Int) := by rw [q122 ⟨by omega, by omega⟩]; omega
        have w5 := q69 (n := k) (by omega)
        have hix := ix_byt hbl2
        have hld := fun st => ld_byt hbx st
        have hsx := fun bk o => ix_sec (bk := bk) (o := o) hk
        have hln : (byt (((b.drop (16 * i)).take 16).take k ++ List.replicate (16 - k) 0)).length = 16 := by rw [y363]; simp; omega
        have hst := fill_step hX hx
        have hkl : k + 1 ≤ (byt (((b.drop (16 * i)).take 16).take k ++ List.replicate (16 - k) 0)).length := by omega
        have hput := q295 (cs := byt (((b.drop (16 * i)).take 16).take k ++ List.replicate (16 - k) 0)) (k := k) (v := .int .u8 x) (by omega)
        rw [hst] at hput
        refine .inr ?_
        apply Exists.intro
        refine ⟨(), ?_, ?_, trivial⟩
        · simp only [twainref36_sector.loop5s, twainref36_sector.loop5, mach, Nat.reduceAdd, Nat.reduceLeDiff, Int.reduceEq, Int.reduceLT, Int.reduceLE, hk', w3, w4, hix, hld, hsx, hkl, hput, w5]
          rfl
        · exact y115 [[], []] [0, 1] [0, 1] rfl rfl (by simp [q36]) (by simp [q40, q36]) (by simp [lren, vren, q117, q86, y70, q41, q36]) (by simp [q129, q55, q36]))
      (fun _ _ => ⟨_, by simp only [twainref36_sector.loop5s, twainref36_sector.loop5, mach, Nat.reduceAdd, Nat.reduceLeDiff, Int.reduceEq, Int.reduceLT, Int.reduceLE, show ¬ (((16 : Nat) : Int) < 16) by decide]; rfl, by simp [hs, List.take_of_length_le (Nat.le_of_eq hX)]⟩)
      16 0 () ([tSl b.length (byt b), .int .i64 i, .pointer (some ⟨H.length, 0, none⟩), .pointer (some ⟨H.length + 1, 0, none⟩), .int .i64 0], ⟨H ++ [.cells (byt z16) y1 true, .cells (byt z16) y1 true], none⟩) (by omega) trivial
      (y115 [[], []] [0, 1] [0, 1] rfl rfl (by simp [q36]) (by simp [q40, q36]) (by simp [lren, vren, q117, q86, y70, q41, q36]) (by simp [q129, q55, q36, z16]))
    subst hr
    simp only [twainref36_sector.sh, twainref36_sector.j0, twainref36_sector.j1, twainref36_sector.j4, mach, Nat.reduceAdd, Nat.reduceLeDiff, Int.reduceEq, Int.reduceLT, Int.reduceLE, hneg, q206, w1, w2, hlt, y50, q90, y74, hlp, y146, y274, List.take_of_length_le, q9, q36]
    refine y90 ?_ ?_ rfl
    · simp [flatV, q194]
    · simp [q36]
  · have hlt : ((b.length : Int) < ((16 * (i + 1) : Nat) : Int)) := by omega
    have hs : secI b i = z16 := by simp [secI, hc, z16]
    simp only [twainref36_sector.sh, twainref36_sector.j0, twainref36_sector.j1, mach, Nat.reduceAdd, Nat.reduceLeDiff, Int.reduceEq, Int.reduceLT, Int.reduceLE, hneg, q206, w1, w2, hlt, y50, q90, y74, y146, List.take_of_length_le, q9, q36, hs]
    refine y90 ?_ ?_ rfl
    · simp [flatV, q194]
    · simp [q36]

end
end Go.Proofs.Ytfinilnkempofaa

end
