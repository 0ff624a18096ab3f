/- A part of the proof: HistEv, HistRef, SpanT, HistRef2. Its conditions: none. -/
import Derived.Test.YtfinilnkempofaaRgOps
set_option linter.all false
set_option linter.unusedVariables false
set_option linter.unusedSimpArgs false
set_option linter.unnecessarySimpa false
section
namespace Go.Proofs.Ytfinilnkempofaa
open Go Go.Am

/-- an event -/
structure Ev where
  kind : Int
  who : Int
  ticket : Int
  rk : Int
  off : Int
  len : Int
  rd : List Int
  d : List Int

def byt (l : List Int) : List Value := l.map (Value.int .u8)
def evc (x : Ev) : List Value := [.int .i64 x.kind, .int .i64 x.who, .int .i64 x.ticket, .int .i64 x.rk, .int .i64 x.off, .int .i64 x.len, tSl x.rd.length (byt x.rd), tSl x.d.length (byt x.d)]
def evs (l : List Ev) : List (List Value) := l.map evc
/-- the events' row -/
def evR (l : List Ev) : List Value := (evs l).flatten

def isI (n : Int) : Prop := -9223372036854775808 ≤ n ∧ n < 9223372036854775808
def OkB (l : List Int) : Prop := l.length < 1000000 ∧ ∀ b ∈ l, 0 ≤ b ∧ b < 256
structure OkEv (x : Ev) : Prop where
  kind : isI x.kind
  who : isI x.who
  ticket : isI x.ticket
  rk : isI x.rk
  off : isI x.off
  len : isI x.len
  rd : OkB x.rd
  d : OkB x.d
def OkEvs (l : List Ev) : Prop := ∀ x ∈ l, OkEv x

theorem y84 (l : List Int) : lrefs (byt l) = [] := by
  induction l with
  | nil => rfl
  | cons x xs ih => simpa [byt] using ih
theorem y482 (l : List Int) : (byt l).length = l.length := by simp [byt]
theorem q47 (x : Ev) : lrefs (evc x) = [] := by simp [evc, y84]
theorem q76 (x : Ev) : (evc x).length = 8 := by simp [evc]
theorem y53 (x : Ev) : y35 (evc x) = true := by simp [evc]
theorem y589 (x : Ev) : (evc x).all noSl = true := by simp [evc, noSl, tSl]
theorem q203 (l : List Ev) : RowsOf 8 (evs l) := by
  have key : ∀ r ∈ evs l, ∃ x, r = evc x := fun r hr => by
    obtain ⟨x, _, rfl⟩ := List.mem_map.1 hr
    exact ⟨x, rfl⟩
  refine ⟨fun r hr => ?_, fun r hr => ?_, fun r hr => ?_, fun r hr => ?_⟩ <;> obtain ⟨x, rfl⟩ := key r hr
  · rfl
  · exact q47 x
  · rfl
  · rfl
theorem y55 (l : List Ev) : lrefs (evR l) = [] := (q203 l).frefs
theorem q349 {l : List Ev} {k : Nat} {x : Ev} (h : l[k]? = some x) : (evs l)[k]? = some (evc x) := by simp [evs, h]
theorem y468 (l : List Ev) : (evs l).length = l.length := by simp [evs]

/-- the names of both worlds' events -/
theorem q346 {l : List Ev} {k : Nat} (hk : k < l.length) : q37 PP y24 (tSl l.length (evR l)) (.int .i64 (k : Int)) = some (tPtr (k * 8) (evR l).toArray) := q189 q108 y247 hk
theorem q545 {l : List Ev} {k : Nat} (hk : k < l.length) : q37 PP q45 (tSl l.length (evR l)) (.int .i64 (k : Int)) = some (tPtr (k * 8) (evR l).toArray) := q189 q179 y242 hk
theorem q295 (l : List Ev) (st : AS) : aLen PP y24 (tSl l.length (evR l)) st = some (.int .i64 l.length) := q215 q108
theorem y605 (l : List Ev) (st : AS) : aLen PP q45 (tSl l.length (evR l)) st = some (.int .i64 l.length) := q215 q179
section
variable {l : List Ev} {k : Nat} {x : Ev} (h : l[k]? = some x) (st : AS)
include h
theorem q263 : aLoad true 8 st (tPtr (k * 8) (evR l).toArray) = some (.agg (evc x).toArray) := y401 (q203 l) (q349 h)
theorem q576 : aLoad false 1 st (tPtr (k * 8) (evR l).toArray) = some (.int .i64 x.kind) := q258 (off := 0) (q203 l) (q349 h) rfl
theorem ev_who : aLoad false 1 st (tPtr (k * 8 + 1) (evR l).toArray) = some (.int .i64 x.who) := q258 (q203 l) (q349 h) rfl
theorem y399 : aLoad false 1 st (tPtr (k * 8 + 2) (evR l).toArray) = some (.int .i64 x.ticket) := q258 (q203 l) (q349 h) rfl
theorem ev_d : aLoad false 1 st (tPtr (k * 8 + 7) (evR l).toArray) = some (tSl x.d.length (byt x.d)) := q258 (q203 l) (q349 h) rfl
end

theorem q177 {n : Int} (h : isI n) : IntKind.i64.wrap n = n := by
  unfold isI at h; rw [IntKind.wrap_i64]; omega
theorem wrap_nat {n : Nat} (h : n < 9223372036854775808) : IntKind.i64.wrap (n : Int) = (n : Int) := q177 ⟨by omega, by omega⟩
theorem q100 {n : Nat} (h : n < 4611686018427387904) : IntKind.i64.wrap ((n : Int) + 1) = ((n + 1 : Nat) : Int) := by
  rw [q177 ⟨by omega, by omega⟩]; omega

end Go.Proofs.Ytfinilnkempofaa

end
section
namespace Go.Proofs.Ytfinilnkempofaa
open Go Go.Am

/-- is x the asking of y? -/
def asksB (x y : Ev) : Bool := decide (x.kind = 0) && decide (x.who = y.who) && decide (x.ticket = y.ticket)
/-- the first asking of y among the first events -/
def q142 (l : List Ev) (at_ : Nat) : Int := match l[at_]? with
  | some y => match (l.take at_).findIdx? fun x => asksB x y with
    | some i => (i : Int)
    | none => -1
  | none => -1

theorem q289 {α : Type} (p : α → Bool) : ∀ (l : List α) (n i : Nat), (∀ j x, j < i → l[j]? = some x → p x = false) → (∀ x, l[i]? = some x → p x = true) → i < n → i < l.length → (l.take n).findIdx? p = some i
  | [], n, i, h, hp, hi, hl => by simp at hl
  | x :: xs, 0, i, h, hp, hi, hl => by omega
  | x :: xs, n + 1, 0, h, hp, hi, hl => by simp [List.findIdx?_cons, hp x rfl]
  | x :: xs, n + 1, i + 1, h, hp, hi, hl => by
    have hx := h 0 x (by omega) rfl
    have ih := q289 p xs n i (fun j y hj hy => h (j + 1) y (by omega) (by simpa using hy)) (fun y hy => hp y (by simpa using hy)) (by omega) (by simpa using hl)
    simp [List.findIdx?_cons, hx, ih]

theorem q373 {α : Type} (p : α → Bool) (l : List α) (n : Nat) (h : ∀ j x, j < n → l[j]? = some x → p x = false) : (l.take n).findIdx? p = none := by
  rw [List.findIdx?_eq_none_iff]
  intro x hx
  obtain ⟨j, hj⟩ := List.getElem?_of_mem hx
  rw [List.getElem?_take] at hj
  split at hj
  · rename_i hjn
    simpa using h j x hjn hj
  · simp at hj

section
variable {l : List Ev}

theorem q489 (hl : OkEvs l) (hm : l.length < 1000000) {at_ : Nat} (hat : at_ < l.length) (H : List Blk) : acall PP TT q92 [tSl l.length (evR l), .int .i64 at_] H = some (.int .i64 (q142 l at_), H, none) := by
  obtain ⟨y, hy⟩ : ∃ y, l[at_]? = some y := ⟨_, List.getElem?_eq_getElem hat⟩
  have hixa := q346 hat
  obtain ⟨r, hlp, hr⟩ := q148 (n0 := H.length) (step := twainref36_asked.loop2s (acall PP TT) loopG H.length) (len := at_) (σ := Unit) (fun i _ => ([tSl l.length (evR l), .int .i64 at_, .int .i64 i], ⟨H, none⟩))
    (fun i _ => ∀ j x, j < i → l[j]? = some x → asksB x y = false)
    (fun r => (r = (.exit 0, [unk], ⟨H, none⟩) ∧ q142 l at_ = -1) ∨ r = (.ret, [.int .i64 (q142 l at_)], ⟨H, none⟩))
    (fun i _ hi ho => by
      have hil : i < l.length := by omega
      obtain ⟨x, hx⟩ : ∃ x, l[i]? = some x := ⟨_, List.getElem?_eq_getElem hil⟩
      have hi' : ((i : Int) < (at_ : Int)) := by omega
      have hix := q346 hil
      have hw := q100 (n := i) (by omega)
      have e1 := q576 hx ⟨H, none⟩
      have e2 := ev_who hx ⟨H, none⟩
      have e3 := y399 hx ⟨H, none⟩
      have e4 := ev_who hy ⟨H, none⟩
      have e5 := y399 hy ⟨H, none⟩
      cases hb : asksB x y with
      | true =>
        have hfound : q142 l at_ = (i : Int) := by
          unfold q142
          rw [hy]
          simp only [q289 (fun x => asksB x y) l at_ i ho (fun z hz => by rw [hx] at hz; simp at hz; subst hz; exact hb) hi hil]
        refine .inl ⟨_, ?_, .inr rfl⟩
        simp only [asksB, Bool.and_eq_true, decide_eq_true_eq] at hb
        obtain ⟨⟨h1, h2⟩, h3⟩ := hb
        simp only [twainref36_asked.loop2s, twainref36_asked.loop2, twainref36_asked.j1, Option.bind_some, Option.map_some, q9, y7, List.getD_cons_zero, List.getD_cons_succ, q27, q29, q30, q28, y27, q23, q31, y28, y25, q41, q14, decide_true, decide_false, Bool.not_true, Bool.not_false, y4, y14, ext20, ext21, ext30, ext31, ext32, if_true, q32, box_int, box_bool, box_slice, box_map, box_ptr, box_tSl, q18, store_int, store_bool, store_slice, store_map, store_ptr, store_tSl, q16, y19, q17, List.cons_append, List.nil_append, q34, List.length_cons, List.length_nil, Nat.zero_add, Nat.add_zero, Nat.reduceAdd, Nat.reduceLeDiff, Nat.le_refl, q10, q13, y8, y9, q11, y13, q22, q21, y16, q19, y43, q44, List.getElem?_cons_zero, List.getElem?_cons_succ, List.drop_zero, List.drop_succ_cons, List.take_zero, List.take_succ_cons, allCells_cons, allCells_nil, cellV_int, cellV_bool, cellV_string, cellV_ptr, cellV_slice, cellV_map, cellV_func, cellV_nilFunc, cellV_tSl, Bool.and_self, Bool.and_true, Bool.true_and, and_self, true_and, and_true, Bool.false_eq_true, if_false, lrefs_nil, lrefs_cons, vrefs_bool, vrefs_int, vrefs_string, vrefs_ptr, vrefs_ptr0, vrefs_slice, vrefs_slice0, vrefs_map, vrefs_tSl, vrefs_tPtr, vrefs_agg, q15, Int.reduceEq, Int.reduceLT, Int.reduceLE, y6, y5, y34, q33, hi', hix, hixa, y83, q117, q116, e1, e2, e3, e4, e5, h1, h2, h3, hfound]
      | false =>
        refine .inr ⟨([tSl l.length (evR l), .int .i64 at_, .int .i64 ((i + 1 : Nat) : Int)], ⟨H, none⟩), (), ?_, q243 (by simp [y55]), fun j z hj hz => ?_⟩
        · have hcase : x.kind ≠ 0 ∨ (x.kind = 0 ∧ x.who ≠ y.who) ∨ (x.kind = 0 ∧ x.who = y.who ∧ x.ticket ≠ y.ticket) := by
            simp only [asksB, Bool.and_eq_false_iff, decide_eq_false_iff_not] at hb
            by_cases h1 : x.kind = 0 <;> by_cases h2 : x.who = y.who <;> simp_all
          rcases hcase with h1 | ⟨h1, h2⟩ | ⟨h1, h2, h3⟩
          · simp only [twainref36_asked.loop2s, twainref36_asked.loop2, twainref36_asked.j1, twainref36_asked.j2, Option.bind_some, Option.map_some, q9, y7, List.getD_cons_zero, List.getD_cons_succ, q27, q29, q30, q28, y27, q23, q31, y28, y25, q41, q14, decide_true, decide_false, Bool.not_true, Bool.not_false, y4, y14, ext20, ext21, ext30, ext31, ext32, if_true, q32, box_int, box_bool, box_slice, box_map, box_ptr, box_tSl, q18, store_int, store_bool, store_slice, store_map, store_ptr, store_tSl, q16, y19, q17, List.cons_append, List.nil_append, q34, List.length_cons, List.length_nil, Nat.zero_add, Nat.add_zero, Nat.reduceAdd, Nat.reduceLeDiff, Nat.le_refl, q10, q13, y8, y9, q11, y13, q22, q21, y16, q19, y43, q44, List.getElem?_cons_zero, List.getElem?_cons_succ, List.drop_zero, List.drop_succ_cons, List.take_zero, List.take_succ_cons, allCells_cons, allCells_nil, cellV_int, cellV_bool, cellV_string, cellV_ptr, cellV_slice, cellV_map, cellV_func, cellV_nilFunc, cellV_tSl, Bool.and_self, Bool.and_true, Bool.true_and, and_self, true_and, and_true, Bool.false_eq_true, if_false, lrefs_nil, lrefs_cons, vrefs_bool, vrefs_int, vrefs_string, vrefs_ptr, vrefs_ptr0, vrefs_slice, vrefs_slice0, vrefs_map, vrefs_tSl, vrefs_tPtr, vrefs_agg, q15, Int.reduceEq, Int.reduceLT, Int.reduceLE, y6, y5, y34, q33, hi', hix, hixa, y83, q117, q116, e1, e2, e3, e4, e5, h1, hw]
          · simp only [twainref36_asked.loop2s, twainref36_asked.loop2, twainref36_asked.j1, twainref36_asked.j2, Option.bind_some, Option.map_some, q9, y7, List.getD_cons_zero, List.getD_cons_succ, q27, q29, q30, q28, y27, q23, q31, y28, y25, q41, q14, decide_true, decide_false, Bool.not_true, Bool.not_false, y4, y14, ext20, ext21, ext30, ext31, ext32, if_true, q32, box_int, box_bool, box_slice, box_map, box_ptr, box_tSl, q18, store_int, store_bool, store_slice, store_map, store_ptr, store_tSl, q16, y19, q17, List.cons_append, List.nil_append, q34, List.length_cons, List.length_nil, Nat.zero_add, Nat.add_zero, Nat.reduceAdd, Nat.reduceLeDiff, Nat.le_refl, q10, q13, y8, y9, q11, y13, q22, q21, y16, q19, y43, q44, List.getElem?_cons_zero, List.getElem?_cons_succ, List.drop_zero, List.drop_succ_cons, List.take_zero, List.take_succ_cons, allCells_cons, allCells_nil, cellV_int, cellV_bool, cellV_string, cellV_ptr, cellV_slice, cellV_map, cellV_func, cellV_nilFunc, cellV_tSl, Bool.and_self, Bool.and_true, Bool.true_and, and_self, true_and, and_true, Bool.false_eq_true, if_false, lrefs_nil, lrefs_cons, vrefs_bool, vrefs_int, vrefs_string, vrefs_ptr, vrefs_ptr0, vrefs_slice, vrefs_slice0, vrefs_map, vrefs_tSl, vrefs_tPtr, vrefs_agg, q15, Int.reduceEq, Int.reduceLT, Int.reduceLE, y6, y5, y34, q33, hi', hix, hixa, y83, q117, q116, e1, e2, e3, e4, e5, h1, h2, hw]
          · simp only [twainref36_asked.loop2s, twainref36_asked.loop2, twainref36_asked.j1, twainref36_asked.j2, Option.bind_some, Option.map_some, q9, y7, List.getD_cons_zero, List.getD_cons_succ, q27, q29, q30, q28, y27, q23, q31, y28, y25, q41, q14, decide_true, decide_false, Bool.not_true, Bool.not_false, y4, y14, ext20, ext21, ext30, ext31, ext32, if_true, q32, box_int, box_bool, box_slice, box_map, box_ptr, box_tSl, q18, store_int, store_bool, store_slice, store_map, store_ptr, store_tSl, q16, y19, q17, List.cons_append, List.nil_append, q34, List.length_cons, List.length_nil, Nat.zero_add, Nat.add_zero, Nat.reduceAdd, Nat.reduceLeDiff, Nat.le_refl, q10, q13, y8, y9, q11, y13, q22, q21, y16, q19, y43, q44, List.getElem?_cons_zero, List.getElem?_cons_succ, List.drop_zero, List.drop_succ_cons, List.take_zero, List.take_succ_cons, allCells_cons, allCells_nil, cellV_int, cellV_bool, cellV_string, cellV_ptr, cellV_slice, cellV_map, cellV_func, cellV_nilFunc, cellV_tSl, Bool.and_self, Bool.and_true, Bool.true_and, and_self, true_and, and_true, Bool.false_eq_true, if_false, lrefs_nil, lrefs_cons, vrefs_bool, vrefs_int, vrefs_string, vrefs_ptr, vrefs_ptr0, vrefs_slice, vrefs_slice0, vrefs_map, vrefs_tSl, vrefs_tPtr, vrefs_agg, q15, Int.reduceEq, Int.reduceLT, Int.reduceLE, y6, y5, y34, q33, hi', hix, hixa, y83, q117, q116, e1, e2, e3, e4, e5, h1, h2, h3, hw]
        · by_cases hji : j = i
          · subst hji; rw [hx] at hz; simp at hz; subst hz; exact hb
          · exact ho j z (by omega) hz)
    (fun _ ho => ⟨_, by simp only [twainref36_asked.loop2s, twainref36_asked.loop2, Option.bind_some, Option.map_some, q9, y7, List.getD_cons_zero, List.getD_cons_succ, q27, q29, q30, q28, y27, q23, q31, y28, y25, q41, q14, decide_true, decide_false, Bool.not_true, Bool.not_false, y4, y14, ext20, ext21, ext30, ext31, ext32, if_true, q32, box_int, box_bool, box_slice, box_map, box_ptr, box_tSl, q18, store_int, store_bool, store_slice, store_map, store_ptr, store_tSl, q16, y19, q17, List.cons_append, List.nil_append, q34, List.length_cons, List.length_nil, Nat.zero_add, Nat.add_zero, Nat.reduceAdd, Nat.reduceLeDiff, Nat.le_refl, q10, q13, y8, y9, q11, y13, q22, q21, y16, q19, y43, q44, List.getElem?_cons_zero, List.getElem?_cons_succ, List.drop_zero, List.drop_succ_cons, List.take_zero, List.take_succ_cons, allCells_cons, allCells_nil, cellV_int, cellV_bool, cellV_string, cellV_ptr, cellV_slice, cellV_map, cellV_func, cellV_nilFunc, cellV_tSl, Bool.and_self, Bool.and_true, Bool.true_and, and_self, true_and, and_true, Bool.false_eq_true, if_false, lrefs_nil, lrefs_cons, vrefs_bool, vrefs_int, vrefs_string, vrefs_ptr, vrefs_ptr0, vrefs_slice, vrefs_slice0, vrefs_map, vrefs_tSl, vrefs_tPtr, vrefs_agg, q15, Int.reduceEq, Int.reduceLT, Int.reduceLE, y6, y5, y34, q33, Int.lt_irrefl], .inl ⟨rfl, by
      unfold q142
      rw [hy]
      simp only [q373 (fun x => asksB x y) l at_ ho]⟩⟩)
    at_ 0 () ([tSl l.length (evR l), .int .i64 at_, .int .i64 0], ⟨H, none⟩) (by omega) (fun j x hj => by omega) (q243 (by simp [y55]))
  rw [q50, twainref36_asked.eq]
  rcases hr with ⟨rfl, h⟩ | rfl
  · simp only [twainref36_asked.sh, hlp, Option.bind_some, Option.map_some, q9, y7, List.getD_cons_zero, List.getD_cons_succ, q27, q29, q30, q28, y27, q23, q31, y28, y25, q41, q14, decide_true, decide_false, Bool.not_true, Bool.not_false, y4, y14, ext20, ext21, ext30, ext31, ext32, if_true, q32, box_int, box_bool, box_slice, box_map, box_ptr, box_tSl, q18, store_int, store_bool, store_slice, store_map, store_ptr, store_tSl, q16, y19, q17, List.cons_append, List.nil_append, q34, List.length_cons, List.length_nil, Nat.zero_add, Nat.add_zero, Nat.reduceAdd, Nat.reduceLeDiff, Nat.le_refl, q10, q13, y8, y9, q11, y13, q22, q21, y16, q19, y43, q44, List.getElem?_cons_zero, List.getElem?_cons_succ, List.drop_zero, List.drop_succ_cons, List.take_zero, List.take_succ_cons, allCells_cons, allCells_nil, cellV_int, cellV_bool, cellV_string, cellV_ptr, cellV_slice, cellV_map, cellV_func, cellV_nilFunc, cellV_tSl, Bool.and_self, Bool.and_true, Bool.true_and, and_self, true_and, and_true, Bool.false_eq_true, if_false, lrefs_nil, lrefs_cons, vrefs_bool, vrefs_int, vrefs_string, vrefs_ptr, vrefs_ptr0, vrefs_slice, vrefs_slice0, vrefs_map, vrefs_tSl, vrefs_tPtr, vrefs_agg, q15, Int.reduceEq, Int.reduceLT, Int.reduceLE, y6, y5, y34, q33, twainref36_asked.j4, h]
    exact y172 rfl rfl
  · simp only [twainref36_asked.sh, hlp, Option.bind_some, Option.map_some, q9, y7, List.getD_cons_zero, List.getD_cons_succ, q27, q29, q30, q28, y27, q23, q31, y28, y25, q41, q14, decide_true, decide_false, Bool.not_true, Bool.not_false, y4, y14, ext20, ext21, ext30, ext31, ext32, if_true, q32, box_int, box_bool, box_slice, box_map, box_ptr, box_tSl, q18, store_int, store_bool, store_slice, store_map, store_ptr, store_tSl, q16, y19, q17, List.cons_append, List.nil_append, q34, List.length_cons, List.length_nil, Nat.zero_add, Nat.add_zero, Nat.reduceAdd, Nat.reduceLeDiff, Nat.le_refl, q10, q13, y8, y9, q11, y13, q22, q21, y16, q19, y43, q44, List.getElem?_cons_zero, List.getElem?_cons_succ, List.drop_zero, List.drop_succ_cons, List.take_zero, List.take_succ_cons, allCells_cons, allCells_nil, cellV_int, cellV_bool, cellV_string, cellV_ptr, cellV_slice, cellV_map, cellV_func, cellV_nilFunc, cellV_tSl, Bool.and_self, Bool.and_true, Bool.true_and, and_self, true_and, and_true, Bool.false_eq_true, if_false, lrefs_nil, lrefs_cons, vrefs_bool, vrefs_int, vrefs_string, vrefs_ptr, vrefs_ptr0, vrefs_slice, vrefs_slice0, vrefs_map, vrefs_tSl, vrefs_tPtr, vrefs_agg, q15, Int.reduceEq, Int.reduceLT, Int.reduceLE, y6, y5, y34, q33]
    exact y172 rfl rfl

end
end Go.Proofs.Ytfinilnkempofaa

end
section
namespace Go.Proofs.Ytfinilnkempofaa
open Go Go.Am

/-- a span's cells -/
abbrev spn (o n : Int) : Value := .agg [Value.int .i64 o, Value.int .i64 n].toArray
def q205 (n : Int) : Bool := decide (0 ≤ n) && decide (n ≤ 1073741824)
def y199 (o n : Int) : Bool := q205 o && q205 n
def endI (o n : Int) : Int := if y199 o n = true then o + n else 0
def mxI (x y : Int) : Int := if y > x then y else x
def mnI (x y : Int) : Int := if y < x then y else x
/-- do spans meet, and where? -/
def meetB (a an b bn : Int) : Bool := y199 a an && y199 b bn && decide (mxI a b < mnI (a + an) (b + bn))
def meetV (a an b bn : Int) : Value := if meetB a an b bn = true then spn (mxI a b) (mnI (a + an) (b + bn) - mxI a b) else spn 0 0

theorem q196 {o n : Int} (h : y199 o n = true) : 0 ≤ o ∧ o ≤ 1073741824 ∧ 0 ≤ n ∧ n ≤ 1073741824 := by
  simp only [y199, q205, Bool.and_eq_true, decide_eq_true_eq] at h
  omega

theorem q398 (n : Int) (H : List Blk) : acall PP TT y143 [.int .i64 n] H = some (.bool (q205 n), H, none) := by
  rw [q50, span_within.eq]
  by_cases h : 0 ≤ n
  · simp only [span_within.sh, Option.bind_some, Option.map_some, q9, y7, List.getD_cons_zero, List.getD_cons_succ, q27, q29, q30, q28, y27, q23, q31, y28, y25, q41, q14, decide_true, decide_false, Bool.not_true, Bool.not_false, y4, y14, ext20, ext21, ext30, ext31, ext32, if_true, q32, box_int, box_bool, box_slice, box_map, box_ptr, box_tSl, q18, store_int, store_bool, store_slice, store_map, store_ptr, store_tSl, q16, y19, q17, List.cons_append, List.nil_append, q34, List.length_cons, List.length_nil, Nat.zero_add, Nat.add_zero, Nat.reduceAdd, Nat.reduceLeDiff, Nat.le_refl, q10, q13, y8, y9, q11, y13, q22, q21, y16, q19, y43, q44, List.getElem?_cons_zero, List.getElem?_cons_succ, List.drop_zero, List.drop_succ_cons, List.take_zero, List.take_succ_cons, allCells_cons, allCells_nil, cellV_int, cellV_bool, cellV_string, cellV_ptr, cellV_slice, cellV_map, cellV_func, cellV_nilFunc, cellV_tSl, Bool.and_self, Bool.and_true, Bool.true_and, and_self, true_and, and_true, Bool.false_eq_true, if_false, lrefs_nil, lrefs_cons, vrefs_bool, vrefs_int, vrefs_string, vrefs_ptr, vrefs_ptr0, vrefs_slice, vrefs_slice0, vrefs_map, vrefs_tSl, vrefs_tPtr, vrefs_agg, q15, Int.reduceEq, Int.reduceLT, Int.reduceLE, y6, y5, y34, q33, h, q205]
    exact y172 rfl rfl
  · simp only [span_within.sh, Option.bind_some, Option.map_some, q9, y7, List.getD_cons_zero, List.getD_cons_succ, q27, q29, q30, q28, y27, q23, q31, y28, y25, q41, q14, decide_true, decide_false, Bool.not_true, Bool.not_false, y4, y14, ext20, ext21, ext30, ext31, ext32, if_true, q32, box_int, box_bool, box_slice, box_map, box_ptr, box_tSl, q18, store_int, store_bool, store_slice, store_map, store_ptr, store_tSl, q16, y19, q17, List.cons_append, List.nil_append, q34, List.length_cons, List.length_nil, Nat.zero_add, Nat.add_zero, Nat.reduceAdd, Nat.reduceLeDiff, Nat.le_refl, q10, q13, y8, y9, q11, y13, q22, q21, y16, q19, y43, q44, List.getElem?_cons_zero, List.getElem?_cons_succ, List.drop_zero, List.drop_succ_cons, List.take_zero, List.take_succ_cons, allCells_cons, allCells_nil, cellV_int, cellV_bool, cellV_string, cellV_ptr, cellV_slice, cellV_map, cellV_func, cellV_nilFunc, cellV_tSl, Bool.and_self, Bool.and_true, Bool.true_and, and_self, true_and, and_true, Bool.false_eq_true, if_false, lrefs_nil, lrefs_cons, vrefs_bool, vrefs_int, vrefs_string, vrefs_ptr, vrefs_ptr0, vrefs_slice, vrefs_slice0, vrefs_map, vrefs_tSl, vrefs_tPtr, vrefs_agg, q15, Int.reduceEq, Int.reduceLT, Int.reduceLE, y6, y5, y34, q33, h, q205, Bool.false_and]
    exact y172 rfl rfl

theorem y260 (o n : Int) (H : List Blk) : acall PP TT y141 [spn o n] H = some (.bool (y199 o n), H, none) := by
  rw [q50, span_Plain.eq]
  cases h : q205 o with
  | true =>
    simp only [span_Plain.sh, Option.bind_some, Option.map_some, q9, y7, List.getD_cons_zero, List.getD_cons_succ, q27, q29, q30, q28, y27, q23, q31, y28, y25, q41, q14, decide_true, decide_false, Bool.not_true, Bool.not_false, y4, y14, ext20, ext21, ext30, ext31, ext32, if_true, q32, box_int, box_bool, box_slice, box_map, box_ptr, box_tSl, q18, store_int, store_bool, store_slice, store_map, store_ptr, store_tSl, q16, y19, q17, List.cons_append, List.nil_append, q34, List.length_cons, List.length_nil, Nat.zero_add, Nat.add_zero, Nat.reduceAdd, Nat.reduceLeDiff, Nat.le_refl, q10, q13, y8, y9, q11, y13, q22, q21, y16, q19, y43, q44, List.getElem?_cons_zero, List.getElem?_cons_succ, List.drop_zero, List.drop_succ_cons, List.take_zero, List.take_succ_cons, allCells_cons, allCells_nil, cellV_int, cellV_bool, cellV_string, cellV_ptr, cellV_slice, cellV_map, cellV_func, cellV_nilFunc, cellV_tSl, Bool.and_self, Bool.and_true, Bool.true_and, and_self, true_and, and_true, Bool.false_eq_true, if_false, lrefs_nil, lrefs_cons, vrefs_bool, vrefs_int, vrefs_string, vrefs_ptr, vrefs_ptr0, vrefs_slice, vrefs_slice0, vrefs_map, vrefs_tSl, vrefs_tPtr, vrefs_agg, q15, Int.reduceEq, Int.reduceLT, Int.reduceLE, y6, y5, y34, q33, q39, y70, q398, h, y199]
    exact y100 rfl rfl rfl
  | false =>
    simp only [span_Plain.sh, Option.bind_some, Option.map_some, q9, y7, List.getD_cons_zero, List.getD_cons_succ, q27, q29, q30, q28, y27, q23, q31, y28, y25, q41, q14, decide_true, decide_false, Bool.not_true, Bool.not_false, y4, y14, ext20, ext21, ext30, ext31, ext32, if_true, q32, box_int, box_bool, box_slice, box_map, box_ptr, box_tSl, q18, store_int, store_bool, store_slice, store_map, store_ptr, store_tSl, q16, y19, q17, List.cons_append, List.nil_append, q34, List.length_cons, List.length_nil, Nat.zero_add, Nat.add_zero, Nat.reduceAdd, Nat.reduceLeDiff, Nat.le_refl, q10, q13, y8, y9, q11, y13, q22, q21, y16, q19, y43, q44, List.getElem?_cons_zero, List.getElem?_cons_succ, List.drop_zero, List.drop_succ_cons, List.take_zero, List.take_succ_cons, allCells_cons, allCells_nil, cellV_int, cellV_bool, cellV_string, cellV_ptr, cellV_slice, cellV_map, cellV_func, cellV_nilFunc, cellV_tSl, Bool.and_self, Bool.and_true, Bool.true_and, and_self, true_and, and_true, Bool.false_eq_true, if_false, lrefs_nil, lrefs_cons, vrefs_bool, vrefs_int, vrefs_string, vrefs_ptr, vrefs_ptr0, vrefs_slice, vrefs_slice0, vrefs_map, vrefs_tSl, vrefs_tPtr, vrefs_agg, q15, Int.reduceEq, Int.reduceLT, Int.reduceLE, y6, y5, y34, q33, q39, y70, q398, h, y199, Bool.false_and]
    exact y100 rfl rfl rfl

theorem q585 (o n : Int) (H : List Blk) : acall PP TT q184 [spn o n] H = some (.int .i64 (endI o n), H, none) := by
  rw [q50, span_End.eq]
  cases h : y199 o n with
  | true =>
    have hp := q196 h
    have hw : IntKind.i64.wrap (o + n) = o + n := q177 ⟨by omega, by omega⟩
    simp only [span_End.sh, Option.bind_some, Option.map_some, q9, y7, List.getD_cons_zero, List.getD_cons_succ, q27, q29, q30, q28, y27, q23, q31, y28, y25, q41, q14, decide_true, decide_false, Bool.not_true, Bool.not_false, y4, y14, ext20, ext21, ext30, ext31, ext32, if_true, q32, box_int, box_bool, box_slice, box_map, box_ptr, box_tSl, q18, store_int, store_bool, store_slice, store_map, store_ptr, store_tSl, q16, y19, q17, List.cons_append, List.nil_append, q34, List.length_cons, List.length_nil, Nat.zero_add, Nat.add_zero, Nat.reduceAdd, Nat.reduceLeDiff, Nat.le_refl, q10, q13, y8, y9, q11, y13, q22, q21, y16, q19, y43, q44, List.getElem?_cons_zero, List.getElem?_cons_succ, List.drop_zero, List.drop_succ_cons, List.take_zero, List.take_succ_cons, allCells_cons, allCells_nil, cellV_int, cellV_bool, cellV_string, cellV_ptr, cellV_slice, cellV_map, cellV_func, cellV_nilFunc, cellV_tSl, Bool.and_self, Bool.and_true, Bool.true_and, and_self, true_and, and_true, Bool.false_eq_true, if_false, lrefs_nil, lrefs_cons, vrefs_bool, vrefs_int, vrefs_string, vrefs_ptr, vrefs_ptr0, vrefs_slice, vrefs_slice0, vrefs_map, vrefs_tSl, vrefs_tPtr, vrefs_agg, q15, Int.reduceEq, Int.reduceLT, Int.reduceLE, y6, y5, y34, q33, q39, y70, y260, h, endI, hw]
    exact y100 rfl rfl rfl
  | false =>
    simp only [span_End.sh, Option.bind_some, Option.map_some, q9, y7, List.getD_cons_zero, List.getD_cons_succ, q27, q29, q30, q28, y27, q23, q31, y28, y25, q41, q14, decide_true, decide_false, Bool.not_true, Bool.not_false, y4, y14, ext20, ext21, ext30, ext31, ext32, if_true, q32, box_int, box_bool, box_slice, box_map, box_ptr, box_tSl, q18, store_int, store_bool, store_slice, store_map, store_ptr, store_tSl, q16, y19, q17, List.cons_append, List.nil_append, q34, List.length_cons, List.length_nil, Nat.zero_add, Nat.add_zero, Nat.reduceAdd, Nat.reduceLeDiff, Nat.le_refl, q10, q13, y8, y9, q11, y13, q22, q21, y16, q19, y43, q44, List.getElem?_cons_zero, List.getElem?_cons_succ, List.drop_zero, List.drop_succ_cons, List.take_zero, List.take_succ_cons, allCells_cons, allCells_nil, cellV_int, cellV_bool, cellV_string, cellV_ptr, cellV_slice, cellV_map, cellV_func, cellV_nilFunc, cellV_tSl, Bool.and_self, Bool.and_true, Bool.true_and, and_self, true_and, and_true, Bool.false_eq_true, if_false, lrefs_nil, lrefs_cons, vrefs_bool, vrefs_int, vrefs_string, vrefs_ptr, vrefs_ptr0, vrefs_slice, vrefs_slice0, vrefs_map, vrefs_tSl, vrefs_tPtr, vrefs_agg, q15, Int.reduceEq, Int.reduceLT, Int.reduceLE, y6, y5, y34, q33, q39, y70, y260, h, endI]
    exact y100 rfl rfl rfl

theorem q505 (o n m : Int) (H : List Blk) : acall PP TT y105 [spn o n, .int .i64 m] H = some (.int .i64 (mxI o m), H, none) := by
  rw [q50, span_side_from.eq]
  simp only [span_side_from.sh, Option.bind_some, Option.map_some, q9, y7, List.getD_cons_zero, List.getD_cons_succ, q27, q29, q30, q28, y27, q23, q31, y28, y25, q41, q14, decide_true, decide_false, Bool.not_true, Bool.not_false, y4, y14, ext20, ext21, ext30, ext31, ext32, if_true, q32, box_int, box_bool, box_slice, box_map, box_ptr, box_tSl, q18, store_int, store_bool, store_slice, store_map, store_ptr, store_tSl, q16, y19, q17, List.cons_append, List.nil_append, q34, List.length_cons, List.length_nil, Nat.zero_add, Nat.add_zero, Nat.reduceAdd, Nat.reduceLeDiff, Nat.le_refl, q10, q13, y8, y9, q11, y13, q22, q21, y16, q19, y43, q44, List.getElem?_cons_zero, List.getElem?_cons_succ, List.drop_zero, List.drop_succ_cons, List.take_zero, List.take_succ_cons, allCells_cons, allCells_nil, cellV_int, cellV_bool, cellV_string, cellV_ptr, cellV_slice, cellV_map, cellV_func, cellV_nilFunc, cellV_tSl, Bool.and_self, Bool.and_true, Bool.true_and, and_self, true_and, and_true, Bool.false_eq_true, if_false, lrefs_nil, lrefs_cons, vrefs_bool, vrefs_int, vrefs_string, vrefs_ptr, vrefs_ptr0, vrefs_slice, vrefs_slice0, vrefs_map, vrefs_tSl, vrefs_tPtr, vrefs_agg, q15, Int.reduceEq, Int.reduceLT, Int.reduceLE, y6, y5, y34, q33, q39, y248]
  exact y100 rfl rfl rfl

theorem to_ok (o n m : Int) (H : List Blk) : acall PP TT q122 [spn o n, .int .i64 m] H = some (.int .i64 (mnI (endI o n) m), H, none) := by
  rw [q50, span_side_to.eq]
  simp only [span_side_to.sh, Option.bind_some, Option.map_some, q9, y7, List.getD_cons_zero, List.getD_cons_succ, q27, q29, q30, q28, y27, q23, q31, y28, y25, q41, q14, decide_true, decide_false, Bool.not_true, Bool.not_false, y4, y14, ext20, ext21, ext30, ext31, ext32, if_true, q32, box_int, box_bool, box_slice, box_map, box_ptr, box_tSl, q18, store_int, store_bool, store_slice, store_map, store_ptr, store_tSl, q16, y19, q17, List.cons_append, List.nil_append, q34, List.length_cons, List.length_nil, Nat.zero_add, Nat.add_zero, Nat.reduceAdd, Nat.reduceLeDiff, Nat.le_refl, q10, q13, y8, y9, q11, y13, q22, q21, y16, q19, y43, q44, List.getElem?_cons_zero, List.getElem?_cons_succ, List.drop_zero, List.drop_succ_cons, List.take_zero, List.take_succ_cons, allCells_cons, allCells_nil, cellV_int, cellV_bool, cellV_string, cellV_ptr, cellV_slice, cellV_map, cellV_func, cellV_nilFunc, cellV_tSl, Bool.and_self, Bool.and_true, Bool.true_and, and_self, true_and, and_true, Bool.false_eq_true, if_false, lrefs_nil, lrefs_cons, vrefs_bool, vrefs_int, vrefs_string, vrefs_ptr, vrefs_ptr0, vrefs_slice, vrefs_slice0, vrefs_map, vrefs_tSl, vrefs_tPtr, vrefs_agg, q15, Int.reduceEq, Int.reduceLT, Int.reduceLE, y6, y5, y34, q33, q39, y248, q585]
  exact y100 rfl rfl rfl

theorem y224 : y119 PP q35 [] = some (spn 0 0) := by kernel_rfl
theorem y106 (x y : Int) : y119 PP q35 [(0, .int .i64 x), (1, .int .i64 y)] = some (spn x y) := by kernel_rfl
theorem q557 (x y : Int) : y119 PP y92 [(0, spn x y)] = some (spn x y) := by kernel_rfl
theorem y576 (x y : Value) : aFn PP (.func (.func y105) #[x] #[]) [y] = some (y105, [x, y]) := by kernel_rfl
theorem fn_to (x y : Value) : aFn PP (.func (.func q122) #[x] #[]) [y] = some (q122, [x, y]) := by kernel_rfl
theorem y561 (x y : Int) : veq (spn x y) (spn x y) = true := y580 _ rfl
theorem y153 : ((some true : Option Bool) == some true) = true := rfl

theorem y567 (a an b bn : Int) (H : List Blk) : acall PP TT q182 [spn a an, spn b bn] H = some (.tuple #[meetV a an b bn, .bool (meetB a an b bn)], H, none) := by
  rw [q50, span_Meet.eq]
  cases h1 : y199 a an with
  | false =>
    have hm : meetB a an b bn = false := by simp [meetB, h1]
    simp only [span_Meet.sh, span_Meet.j0, Option.bind_some, Option.map_some, q9, y7, List.getD_cons_zero, List.getD_cons_succ, q27, q29, q30, q28, y27, q23, q31, y28, y25, q41, q14, decide_true, decide_false, Bool.not_true, Bool.not_false, y4, y14, ext20, ext21, ext30, ext31, ext32, if_true, q32, box_int, box_bool, box_slice, box_map, box_ptr, box_tSl, q18, store_int, store_bool, store_slice, store_map, store_ptr, store_tSl, q16, y19, q17, List.cons_append, List.nil_append, q34, List.length_cons, List.length_nil, Nat.zero_add, Nat.add_zero, Nat.reduceAdd, Nat.reduceLeDiff, Nat.le_refl, q10, q13, y8, y9, q11, y13, q22, q21, y16, q19, y43, q44, List.getElem?_cons_zero, List.getElem?_cons_succ, List.drop_zero, List.drop_succ_cons, List.take_zero, List.take_succ_cons, allCells_cons, allCells_nil, cellV_int, cellV_bool, cellV_string, cellV_ptr, cellV_slice, cellV_map, cellV_func, cellV_nilFunc, cellV_tSl, Bool.and_self, Bool.and_true, Bool.true_and, and_self, true_and, and_true, Bool.false_eq_true, if_false, lrefs_nil, lrefs_cons, vrefs_bool, vrefs_int, vrefs_string, vrefs_ptr, vrefs_ptr0, vrefs_slice, vrefs_slice0, vrefs_map, vrefs_tSl, vrefs_tPtr, vrefs_agg, q15, Int.reduceEq, Int.reduceLT, Int.reduceLE, y6, y5, y34, q33, q91, z_api_Span, q39, y70, y260, h1, y224, y15, meetV, hm]
    exact y100 rfl rfl rfl
  | true =>
    cases h2 : y199 b bn with
    | false =>
      have hm : meetB a an b bn = false := by simp [meetB, h2]
      simp only [span_Meet.sh, span_Meet.j0, Option.bind_some, Option.map_some, q9, y7, List.getD_cons_zero, List.getD_cons_succ, q27, q29, q30, q28, y27, q23, q31, y28, y25, q41, q14, decide_true, decide_false, Bool.not_true, Bool.not_false, y4, y14, ext20, ext21, ext30, ext31, ext32, if_true, q32, box_int, box_bool, box_slice, box_map, box_ptr, box_tSl, q18, store_int, store_bool, store_slice, store_map, store_ptr, store_tSl, q16, y19, q17, List.cons_append, List.nil_append, q34, List.length_cons, List.length_nil, Nat.zero_add, Nat.add_zero, Nat.reduceAdd, Nat.reduceLeDiff, Nat.le_refl, q10, q13, y8, y9, q11, y13, q22, q21, y16, q19, y43, q44, List.getElem?_cons_zero, List.getElem?_cons_succ, List.drop_zero, List.drop_succ_cons, List.take_zero, List.take_succ_cons, allCells_cons, allCells_nil, cellV_int, cellV_bool, cellV_string, cellV_ptr, cellV_slice, cellV_map, cellV_func, cellV_nilFunc, cellV_tSl, Bool.and_self, Bool.and_true, Bool.true_and, and_self, true_and, and_true, Bool.false_eq_true, if_false, lrefs_nil, lrefs_cons, vrefs_bool, vrefs_int, vrefs_string, vrefs_ptr, vrefs_ptr0, vrefs_slice, vrefs_slice0, vrefs_map, vrefs_tSl, vrefs_tPtr, vrefs_agg, q15, Int.reduceEq, Int.reduceLT, Int.reduceLE, y6, y5, y34, q33, q91, z_api_Span, q39, y70, y260, h1, h2, y224, y15, meetV, hm]
      exact y100 rfl rfl rfl
    | true =>
      have p1 := q196 h1
      have p2 := q196 h2
      have e1 : endI a an = a + an := by simp [endI, h1]
      have e2 : endI b bn = b + bn := by simp [endI, h2]
      by_cases hc : mnI (a + an) (b + bn) ≤ mxI a b
      · have hm : meetB a an b bn = false := by
          have : ¬ mxI a b < mnI (a + an) (b + bn) := by omega
          simp [meetB, this]
        simp only [span_Meet.sh, span_Meet.j0, span_Meet.j1, Option.bind_some, Option.map_some, q9, y7, List.getD_cons_zero, List.getD_cons_succ, q27, q29, q30, q28, y27, q23, q31, y28, y25, q41, q14, decide_true, decide_false, Bool.not_true, Bool.not_false, y4, y14, ext20, ext21, ext30, ext31, ext32, if_true, q32, box_int, box_bool, box_slice, box_map, box_ptr, box_tSl, q18, store_int, store_bool, store_slice, store_map, store_ptr, store_tSl, q16, y19, q17, List.cons_append, List.nil_append, q34, List.length_cons, List.length_nil, Nat.zero_add, Nat.add_zero, Nat.reduceAdd, Nat.reduceLeDiff, Nat.le_refl, q10, q13, y8, y9, q11, y13, q22, q21, y16, q19, y43, q44, List.getElem?_cons_zero, List.getElem?_cons_succ, List.drop_zero, List.drop_succ_cons, List.take_zero, List.take_succ_cons, allCells_cons, allCells_nil, cellV_int, cellV_bool, cellV_string, cellV_ptr, cellV_slice, cellV_map, cellV_func, cellV_nilFunc, cellV_tSl, Bool.and_self, Bool.and_true, Bool.true_and, and_self, true_and, and_true, Bool.false_eq_true, if_false, lrefs_nil, lrefs_cons, vrefs_bool, vrefs_int, vrefs_string, vrefs_ptr, vrefs_ptr0, vrefs_slice, vrefs_slice0, vrefs_map, vrefs_tSl, vrefs_tPtr, vrefs_agg, q15, Int.reduceEq, Int.reduceLT, Int.reduceLE, y6, y5, y34, q33, q91, z_api_Span, q39, y70, y260, h1, h2, y224, q557, y576, fn_to, q505, to_ok, q585, e1, e2, y561, y153, hc, y15, meetV, hm]
        exact y100 rfl rfl rfl
      · have hm : meetB a an b bn = true := by
          have : mxI a b < mnI (a + an) (b + bn) := by omega
          simp [meetB, this, h1, h2]
        have hb : -1073741824 ≤ mnI (a + an) (b + bn) - mxI a b ∧ mnI (a + an) (b + bn) - mxI a b ≤ 2147483648 := by
          unfold mnI mxI; constructor <;> split <;> split <;> omega
        have hw : IntKind.i64.wrap (mnI (a + an) (b + bn) - mxI a b) = mnI (a + an) (b + bn) - mxI a b := q177 ⟨by omega, by omega⟩
        simp only [span_Meet.sh, span_Meet.j0, span_Meet.j1, Option.bind_some, Option.map_some, q9, y7, List.getD_cons_zero, List.getD_cons_succ, q27, q29, q30, q28, y27, q23, q31, y28, y25, q41, q14, decide_true, decide_false, Bool.not_true, Bool.not_false, y4, y14, ext20, ext21, ext30, ext31, ext32, if_true, q32, box_int, box_bool, box_slice, box_map, box_ptr, box_tSl, q18, store_int, store_bool, store_slice, store_map, store_ptr, store_tSl, q16, y19, q17, List.cons_append, List.nil_append, q34, List.length_cons, List.length_nil, Nat.zero_add, Nat.add_zero, Nat.reduceAdd, Nat.reduceLeDiff, Nat.le_refl, q10, q13, y8, y9, q11, y13, q22, q21, y16, q19, y43, q44, List.getElem?_cons_zero, List.getElem?_cons_succ, List.drop_zero, List.drop_succ_cons, List.take_zero, List.take_succ_cons, allCells_cons, allCells_nil, cellV_int, cellV_bool, cellV_string, cellV_ptr, cellV_slice, cellV_map, cellV_func, cellV_nilFunc, cellV_tSl, Bool.and_self, Bool.and_true, Bool.true_and, and_self, true_and, and_true, Bool.false_eq_true, if_false, lrefs_nil, lrefs_cons, vrefs_bool, vrefs_int, vrefs_string, vrefs_ptr, vrefs_ptr0, vrefs_slice, vrefs_slice0, vrefs_map, vrefs_tSl, vrefs_tPtr, vrefs_agg, q15, Int.reduceEq, Int.reduceLT, Int.reduceLE, y6, y5, y34, q33, q91, z_api_Span, q39, y70, y260, h1, h2, y224, y106, q557, y576, fn_to, q505, to_ok, q585, e1, e2, y561, y153, hc, y15, meetV, hm, hw]
        exact y100 rfl rfl rfl

theorem y508 (a an b bn : Int) (H : List Blk) : acall PP TT q133 [spn a an, spn b bn] H = some (.bool (meetB a an b bn), H, none) := by
  rw [q50, span_Overlap.eq]
  cases hm : meetB a an b bn with
  | true =>
    simp only [span_Overlap.sh, Option.bind_some, Option.map_some, q9, y7, List.getD_cons_zero, List.getD_cons_succ, q27, q29, q30, q28, y27, q23, q31, y28, y25, q41, q14, decide_true, decide_false, Bool.not_true, Bool.not_false, y4, y14, ext20, ext21, ext30, ext31, ext32, if_true, q32, box_int, box_bool, box_slice, box_map, box_ptr, box_tSl, q18, store_int, store_bool, store_slice, store_map, store_ptr, store_tSl, q16, y19, q17, List.cons_append, List.nil_append, q34, List.length_cons, List.length_nil, Nat.zero_add, Nat.add_zero, Nat.reduceAdd, Nat.reduceLeDiff, Nat.le_refl, q10, q13, y8, y9, q11, y13, q22, q21, y16, q19, y43, q44, List.getElem?_cons_zero, List.getElem?_cons_succ, List.drop_zero, List.drop_succ_cons, List.take_zero, List.take_succ_cons, allCells_cons, allCells_nil, cellV_int, cellV_bool, cellV_string, cellV_ptr, cellV_slice, cellV_map, cellV_func, cellV_nilFunc, cellV_tSl, Bool.and_self, Bool.and_true, Bool.true_and, and_self, true_and, and_true, Bool.false_eq_true, if_false, lrefs_nil, lrefs_cons, vrefs_bool, vrefs_int, vrefs_string, vrefs_ptr, vrefs_ptr0, vrefs_slice, vrefs_slice0, vrefs_map, vrefs_tSl, vrefs_tPtr, vrefs_agg, q15, Int.reduceEq, Int.reduceLT, Int.reduceLE, y6, y5, y34, q33, y567, q91, z_api_Span, meetV, hm, y15]
    exact y100 rfl rfl rfl
  | false =>
    simp only [span_Overlap.sh, Option.bind_some, Option.map_some, q9, y7, List.getD_cons_zero, List.getD_cons_succ, q27, q29, q30, q28, y27, q23, q31, y28, y25, q41, q14, decide_true, decide_false, Bool.not_true, Bool.not_false, y4, y14, ext20, ext21, ext30, ext31, ext32, if_true, q32, box_int, box_bool, box_slice, box_map, box_ptr, box_tSl, q18, store_int, store_bool, store_slice, store_map, store_ptr, store_tSl, q16, y19, q17, List.cons_append, List.nil_append, q34, List.length_cons, List.length_nil, Nat.zero_add, Nat.add_zero, Nat.reduceAdd, Nat.reduceLeDiff, Nat.le_refl, q10, q13, y8, y9, q11, y13, q22, q21, y16, q19, y43, q44, List.getElem?_cons_zero, List.getElem?_cons_succ, List.drop_zero, List.drop_succ_cons, List.take_zero, List.take_succ_cons, allCells_cons, allCells_nil, cellV_int, cellV_bool, cellV_string, cellV_ptr, cellV_slice, cellV_map, cellV_func, cellV_nilFunc, cellV_tSl, Bool.and_self, Bool.and_true, Bool.true_and, and_self, true_and, and_true, Bool.false_eq_true, if_false, lrefs_nil, lrefs_cons, vrefs_bool, vrefs_int, vrefs_string, vrefs_ptr, vrefs_ptr0, vrefs_slice, vrefs_slice0, vrefs_map, vrefs_tSl, vrefs_tPtr, vrefs_agg, q15, Int.reduceEq, Int.reduceLT, Int.reduceLE, y6, y5, y34, q33, y567, q91, z_api_Span, meetV, hm, y15]
    exact y100 rfl rfl rfl

/-! ### The document's -/

theorem y208 (o n : Int) (H : List Blk) : acall PP TT y103 [spn o n] H = some (.bool (y199 o n), H, none) := by
  rw [q50, twainref04_Plain.eq]
  by_cases h1 : 0 ≤ o
  · by_cases h2 : o ≤ 1073741824
    · by_cases h3 : 0 ≤ n
      · simp only [twainref04_Plain.sh, Option.bind_some, Option.map_some, q9, y7, List.getD_cons_zero, List.getD_cons_succ, q27, q29, q30, q28, y27, q23, q31, y28, y25, q41, q14, decide_true, decide_false, Bool.not_true, Bool.not_false, y4, y14, ext20, ext21, ext30, ext31, ext32, if_true, q32, box_int, box_bool, box_slice, box_map, box_ptr, box_tSl, q18, store_int, store_bool, store_slice, store_map, store_ptr, store_tSl, q16, y19, q17, List.cons_append, List.nil_append, q34, List.length_cons, List.length_nil, Nat.zero_add, Nat.add_zero, Nat.reduceAdd, Nat.reduceLeDiff, Nat.le_refl, q10, q13, y8, y9, q11, y13, q22, q21, y16, q19, y43, q44, List.getElem?_cons_zero, List.getElem?_cons_succ, List.drop_zero, List.drop_succ_cons, List.take_zero, List.take_succ_cons, allCells_cons, allCells_nil, cellV_int, cellV_bool, cellV_string, cellV_ptr, cellV_slice, cellV_map, cellV_func, cellV_nilFunc, cellV_tSl, Bool.and_self, Bool.and_true, Bool.true_and, and_self, true_and, and_true, Bool.false_eq_true, if_false, lrefs_nil, lrefs_cons, vrefs_bool, vrefs_int, vrefs_string, vrefs_ptr, vrefs_ptr0, vrefs_slice, vrefs_slice0, vrefs_map, vrefs_tSl, vrefs_tPtr, vrefs_agg, q15, Int.reduceEq, Int.reduceLT, Int.reduceLE, y6, y5, y34, q33, q39, y70, y199, q205, h1, h2, h3]
        exact y100 rfl rfl rfl
      · simp only [twainref04_Plain.sh, Option.bind_some, Option.map_some, q9, y7, List.getD_cons_zero, List.getD_cons_succ, q27, q29, q30, q28, y27, q23, q31, y28, y25, q41, q14, decide_true, decide_false, Bool.not_true, Bool.not_false, y4, y14, ext20, ext21, ext30, ext31, ext32, if_true, q32, box_int, box_bool, box_slice, box_map, box_ptr, box_tSl, q18, store_int, store_bool, store_slice, store_map, store_ptr, store_tSl, q16, y19, q17, List.cons_append, List.nil_append, q34, List.length_cons, List.length_nil, Nat.zero_add, Nat.add_zero, Nat.reduceAdd, Nat.reduceLeDiff, Nat.le_refl, q10, q13, y8, y9, q11, y13, q22, q21, y16, q19, y43, q44, List.getElem?_cons_zero, List.getElem?_cons_succ, List.drop_zero, List.drop_succ_cons, List.take_zero, List.take_succ_cons, allCells_cons, allCells_nil, cellV_int, cellV_bool, cellV_string, cellV_ptr, cellV_slice, cellV_map, cellV_func, cellV_nilFunc, cellV_tSl, Bool.and_self, Bool.and_true, Bool.true_and, and_self, true_and, and_true, Bool.false_eq_true, if_false, lrefs_nil, lrefs_cons, vrefs_bool, vrefs_int, vrefs_string, vrefs_ptr, vrefs_ptr0, vrefs_slice, vrefs_slice0, vrefs_map, vrefs_tSl, vrefs_tPtr, vrefs_agg, q15, Int.reduceEq, Int.reduceLT, Int.reduceLE, y6, y5, y34, q33, q39, y70, y199, q205, h1, h2, h3, Bool.false_and]
        exact y100 rfl rfl rfl
    · simp only [twainref04_Plain.sh, Option.bind_some, Option.map_some, q9, y7, List.getD_cons_zero, List.getD_cons_succ, q27, q29, q30, q28, y27, q23, q31, y28, y25, q41, q14, decide_true, decide_false, Bool.not_true, Bool.not_false, y4, y14, ext20, ext21, ext30, ext31, ext32, if_true, q32, box_int, box_bool, box_slice, box_map, box_ptr, box_tSl, q18, store_int, store_bool, store_slice, store_map, store_ptr, store_tSl, q16, y19, q17, List.cons_append, List.nil_append, q34, List.length_cons, List.length_nil, Nat.zero_add, Nat.add_zero, Nat.reduceAdd, Nat.reduceLeDiff, Nat.le_refl, q10, q13, y8, y9, q11, y13, q22, q21, y16, q19, y43, q44, List.getElem?_cons_zero, List.getElem?_cons_succ, List.drop_zero, List.drop_succ_cons, List.take_zero, List.take_succ_cons, allCells_cons, allCells_nil, cellV_int, cellV_bool, cellV_string, cellV_ptr, cellV_slice, cellV_map, cellV_func, cellV_nilFunc, cellV_tSl, Bool.and_self, Bool.and_true, Bool.true_and, and_self, true_and, and_true, Bool.false_eq_true, if_false, lrefs_nil, lrefs_cons, vrefs_bool, vrefs_int, vrefs_string, vrefs_ptr, vrefs_ptr0, vrefs_slice, vrefs_slice0, vrefs_map, vrefs_tSl, vrefs_tPtr, vrefs_agg, q15, Int.reduceEq, Int.reduceLT, Int.reduceLE, y6, y5, y34, q33, q39, y70, y199, q205, h1, h2, Bool.false_and]
      exact y100 rfl rfl rfl
  · simp only [twainref04_Plain.sh, Option.bind_some, Option.map_some, q9, y7, List.getD_cons_zero, List.getD_cons_succ, q27, q29, q30, q28, y27, q23, q31, y28, y25, q41, q14, decide_true, decide_false, Bool.not_true, Bool.not_false, y4, y14, ext20, ext21, ext30, ext31, ext32, if_true, q32, box_int, box_bool, box_slice, box_map, box_ptr, box_tSl, q18, store_int, store_bool, store_slice, store_map, store_ptr, store_tSl, q16, y19, q17, List.cons_append, List.nil_append, q34, List.length_cons, List.length_nil, Nat.zero_add, Nat.add_zero, Nat.reduceAdd, Nat.reduceLeDiff, Nat.le_refl, q10, q13, y8, y9, q11, y13, q22, q21, y16, q19, y43, q44, List.getElem?_cons_zero, List.getElem?_cons_succ, List.drop_zero, List.drop_succ_cons, List.take_zero, List.take_succ_cons, allCells_cons, allCells_nil, cellV_int, cellV_bool, cellV_string, cellV_ptr, cellV_slice, cellV_map, cellV_func, cellV_nilFunc, cellV_tSl, Bool.and_self, Bool.and_true, Bool.true_and, and_self, true_and, and_true, Bool.false_eq_true, if_false, lrefs_nil, lrefs_cons, vrefs_bool, vrefs_int, vrefs_string, vrefs_ptr, vrefs_ptr0, vrefs_slice, vrefs_slice0, vrefs_map, vrefs_tSl, vrefs_tPtr, vrefs_agg, q15, Int.reduceEq, Int.reduceLT, Int.reduceLE, y6, y5, y34, q33, q39, y70, y199, q205, h1, Bool.false_and]
    exact y100 rfl rfl rfl

theorem q500 (a an b bn : Int) (H : List Blk) : acall PP TT y124 [spn a an, spn b bn] H = some (.tuple #[meetV a an b bn, .bool (meetB a an b bn)], H, none) := by
  rw [q50, twainref04_Meet.eq]
  cases h1 : y199 a an with
  | false =>
    have hm : meetB a an b bn = false := by simp [meetB, h1]
    simp only [twainref04_Meet.sh, twainref04_Meet.j0, Option.bind_some, Option.map_some, q9, y7, List.getD_cons_zero, List.getD_cons_succ, q27, q29, q30, q28, y27, q23, q31, y28, y25, q41, q14, decide_true, decide_false, Bool.not_true, Bool.not_false, y4, y14, ext20, ext21, ext30, ext31, ext32, if_true, q32, box_int, box_bool, box_slice, box_map, box_ptr, box_tSl, q18, store_int, store_bool, store_slice, store_map, store_ptr, store_tSl, q16, y19, q17, List.cons_append, List.nil_append, q34, List.length_cons, List.length_nil, Nat.zero_add, Nat.add_zero, Nat.reduceAdd, Nat.reduceLeDiff, Nat.le_refl, q10, q13, y8, y9, q11, y13, q22, q21, y16, q19, y43, q44, List.getElem?_cons_zero, List.getElem?_cons_succ, List.drop_zero, List.drop_succ_cons, List.take_zero, List.take_succ_cons, allCells_cons, allCells_nil, cellV_int, cellV_bool, cellV_string, cellV_ptr, cellV_slice, cellV_map, cellV_func, cellV_nilFunc, cellV_tSl, Bool.and_self, Bool.and_true, Bool.true_and, and_self, true_and, and_true, Bool.false_eq_true, if_false, lrefs_nil, lrefs_cons, vrefs_bool, vrefs_int, vrefs_string, vrefs_ptr, vrefs_ptr0, vrefs_slice, vrefs_slice0, vrefs_map, vrefs_tSl, vrefs_tPtr, vrefs_agg, q15, Int.reduceEq, Int.reduceLT, Int.reduceLE, y6, y5, y34, q33, q91, z_api_Span, q39, y70, y208, h1, y224, y15, meetV, hm]
    exact y100 rfl rfl rfl
  | true =>
    cases h2 : y199 b bn with
    | false =>
      have hm : meetB a an b bn = false := by simp [meetB, h2]
      simp only [twainref04_Meet.sh, twainref04_Meet.j0, Option.bind_some, Option.map_some, q9, y7, List.getD_cons_zero, List.getD_cons_succ, q27, q29, q30, q28, y27, q23, q31, y28, y25, q41, q14, decide_true, decide_false, Bool.not_true, Bool.not_false, y4, y14, ext20, ext21, ext30, ext31, ext32, if_true, q32, box_int, box_bool, box_slice, box_map, box_ptr, box_tSl, q18, store_int, store_bool, store_slice, store_map, store_ptr, store_tSl, q16, y19, q17, List.cons_append, List.nil_append, q34, List.length_cons, List.length_nil, Nat.zero_add, Nat.add_zero, Nat.reduceAdd, Nat.reduceLeDiff, Nat.le_refl, q10, q13, y8, y9, q11, y13, q22, q21, y16, q19, y43, q44, List.getElem?_cons_zero, List.getElem?_cons_succ, List.drop_zero, List.drop_succ_cons, List.take_zero, List.take_succ_cons, allCells_cons, allCells_nil, cellV_int, cellV_bool, cellV_string, cellV_ptr, cellV_slice, cellV_map, cellV_func, cellV_nilFunc, cellV_tSl, Bool.and_self, Bool.and_true, Bool.true_and, and_self, true_and, and_true, Bool.false_eq_true, if_false, lrefs_nil, lrefs_cons, vrefs_bool, vrefs_int, vrefs_string, vrefs_ptr, vrefs_ptr0, vrefs_slice, vrefs_slice0, vrefs_map, vrefs_tSl, vrefs_tPtr, vrefs_agg, q15, Int.reduceEq, Int.reduceLT, Int.reduceLE, y6, y5, y34, q33, q91, z_api_Span, q39, y70, y208, h1, h2, y224, y15, meetV, hm]
      exact y100 rfl rfl rfl
    | true =>
      have p1 := q196 h1
      have p2 := q196 h2
      have w1 : IntKind.i64.wrap (a + an) = a + an := q177 ⟨by omega, by omega⟩
      have w2 : IntKind.i64.wrap (b + bn) = b + bn := q177 ⟨by omega, by omega⟩
      have hb : -1073741824 ≤ mnI (a + an) (b + bn) - mxI a b ∧ mnI (a + an) (b + bn) - mxI a b ≤ 2147483648 := by
        unfold mnI mxI; constructor <;> split <;> split <;> omega
      have hw : IntKind.i64.wrap (mnI (a + an) (b + bn) - mxI a b) = mnI (a + an) (b + bn) - mxI a b := q177 ⟨by omega, by omega⟩
      -- the last of it
      have last : ∀ (f t : Int) (l : List Blk), f = mxI a b → t = mnI (a + an) (b + bn) → l = [Blk.cells [.int .i64 a, .int .i64 an] q35 true, .cells [.int .i64 b, .int .i64 bn] q35 true, .cells [.int .i64 0, .int .i64 0] q35 true] →
          twainref04_Meet.j3 (acall PP TT) loopG H.length (.pointer (some ⟨H.length + 2, 0, none⟩)) (.int .i64 f) (.int .i64 t) ⟨H ++ l, none⟩ = some (.tuple #[meetV a an b bn, .bool (meetB a an b bn)], H, none) := by
        rintro f t l rfl rfl rfl
        by_cases hc : mnI (a + an) (b + bn) ≤ mxI a b
        · have hm : meetB a an b bn = false := by
            have : ¬ mxI a b < mnI (a + an) (b + bn) := by omega
            simp [meetB, this]
          simp only [twainref04_Meet.j3, Option.bind_some, Option.map_some, q9, y7, List.getD_cons_zero, List.getD_cons_succ, q27, q29, q30, q28, y27, q23, q31, y28, y25, q41, q14, decide_true, decide_false, Bool.not_true, Bool.not_false, y4, y14, ext20, ext21, ext30, ext31, ext32, if_true, q32, box_int, box_bool, box_slice, box_map, box_ptr, box_tSl, q18, store_int, store_bool, store_slice, store_map, store_ptr, store_tSl, q16, y19, q17, List.cons_append, List.nil_append, q34, List.length_cons, List.length_nil, Nat.zero_add, Nat.add_zero, Nat.reduceAdd, Nat.reduceLeDiff, Nat.le_refl, q10, q13, y8, y9, q11, y13, q22, q21, y16, q19, y43, q44, List.getElem?_cons_zero, List.getElem?_cons_succ, List.drop_zero, List.drop_succ_cons, List.take_zero, List.take_succ_cons, allCells_cons, allCells_nil, cellV_int, cellV_bool, cellV_string, cellV_ptr, cellV_slice, cellV_map, cellV_func, cellV_nilFunc, cellV_tSl, Bool.and_self, Bool.and_true, Bool.true_and, and_self, true_and, and_true, Bool.false_eq_true, if_false, lrefs_nil, lrefs_cons, vrefs_bool, vrefs_int, vrefs_string, vrefs_ptr, vrefs_ptr0, vrefs_slice, vrefs_slice0, vrefs_map, vrefs_tSl, vrefs_tPtr, vrefs_agg, q15, Int.reduceEq, Int.reduceLT, Int.reduceLE, y6, y5, y34, q33, hc, y224, y15, meetV, hm]
          exact y100 rfl rfl rfl
        · have hm : meetB a an b bn = true := by
            have : mxI a b < mnI (a + an) (b + bn) := by omega
            simp [meetB, this, h1, h2]
          simp only [twainref04_Meet.j3, Option.bind_some, Option.map_some, q9, y7, List.getD_cons_zero, List.getD_cons_succ, q27, q29, q30, q28, y27, q23, q31, y28, y25, q41, q14, decide_true, decide_false, Bool.not_true, Bool.not_false, y4, y14, ext20, ext21, ext30, ext31, ext32, if_true, q32, box_int, box_bool, box_slice, box_map, box_ptr, box_tSl, q18, store_int, store_bool, store_slice, store_map, store_ptr, store_tSl, q16, y19, q17, List.cons_append, List.nil_append, q34, List.length_cons, List.length_nil, Nat.zero_add, Nat.add_zero, Nat.reduceAdd, Nat.reduceLeDiff, Nat.le_refl, q10, q13, y8, y9, q11, y13, q22, q21, y16, q19, y43, q44, List.getElem?_cons_zero, List.getElem?_cons_succ, List.drop_zero, List.drop_succ_cons, List.take_zero, List.take_succ_cons, allCells_cons, allCells_nil, cellV_int, cellV_bool, cellV_string, cellV_ptr, cellV_slice, cellV_map, cellV_func, cellV_nilFunc, cellV_tSl, Bool.and_self, Bool.and_true, Bool.true_and, and_self, true_and, and_true, Bool.false_eq_true, if_false, lrefs_nil, lrefs_cons, vrefs_bool, vrefs_int, vrefs_string, vrefs_ptr, vrefs_ptr0, vrefs_slice, vrefs_slice0, vrefs_map, vrefs_tSl, vrefs_tPtr, vrefs_agg, q15, Int.reduceEq, Int.reduceLT, Int.reduceLE, y6, y5, y34, q33, hc, y106, y15, meetV, hm, hw]
          exact y100 rfl rfl rfl
      by_cases g1 : a < b
      · by_cases g2 : b + bn < a + an
        · simp only [twainref04_Meet.sh, twainref04_Meet.j0, twainref04_Meet.j1, twainref04_Meet.j2, Option.bind_some, Option.map_some, q9, y7, List.getD_cons_zero, List.getD_cons_succ, q27, q29, q30, q28, y27, q23, q31, y28, y25, q41, q14, decide_true, decide_false, Bool.not_true, Bool.not_false, y4, y14, ext20, ext21, ext30, ext31, ext32, if_true, q32, box_int, box_bool, box_slice, box_map, box_ptr, box_tSl, q18, store_int, store_bool, store_slice, store_map, store_ptr, store_tSl, q16, y19, q17, List.cons_append, List.nil_append, q34, List.length_cons, List.length_nil, Nat.zero_add, Nat.add_zero, Nat.reduceAdd, Nat.reduceLeDiff, Nat.le_refl, q10, q13, y8, y9, q11, y13, q22, q21, y16, q19, y43, q44, List.getElem?_cons_zero, List.getElem?_cons_succ, List.drop_zero, List.drop_succ_cons, List.take_zero, List.take_succ_cons, allCells_cons, allCells_nil, cellV_int, cellV_bool, cellV_string, cellV_ptr, cellV_slice, cellV_map, cellV_func, cellV_nilFunc, cellV_tSl, Bool.and_self, Bool.and_true, Bool.true_and, and_self, true_and, and_true, Bool.false_eq_true, if_false, lrefs_nil, lrefs_cons, vrefs_bool, vrefs_int, vrefs_string, vrefs_ptr, vrefs_ptr0, vrefs_slice, vrefs_slice0, vrefs_map, vrefs_tSl, vrefs_tPtr, vrefs_agg, q15, Int.reduceEq, Int.reduceLT, Int.reduceLE, y6, y5, y34, q33, q91, z_api_Span, q39, y70, y208, h1, h2, w1, w2, g1, g2]
          exact last _ _ _ (by simp [mxI, g1]) (by simp [mnI, g2]) rfl
        · simp only [twainref04_Meet.sh, twainref04_Meet.j0, twainref04_Meet.j1, twainref04_Meet.j2, Option.bind_some, Option.map_some, q9, y7, List.getD_cons_zero, List.getD_cons_succ, q27, q29, q30, q28, y27, q23, q31, y28, y25, q41, q14, decide_true, decide_false, Bool.not_true, Bool.not_false, y4, y14, ext20, ext21, ext30, ext31, ext32, if_true, q32, box_int, box_bool, box_slice, box_map, box_ptr, box_tSl, q18, store_int, store_bool, store_slice, store_map, store_ptr, store_tSl, q16, y19, q17, List.cons_append, List.nil_append, q34, List.length_cons, List.length_nil, Nat.zero_add, Nat.add_zero, Nat.reduceAdd, Nat.reduceLeDiff, Nat.le_refl, q10, q13, y8, y9, q11, y13, q22, q21, y16, q19, y43, q44, List.getElem?_cons_zero, List.getElem?_cons_succ, List.drop_zero, List.drop_succ_cons, List.take_zero, List.take_succ_cons, allCells_cons, allCells_nil, cellV_int, cellV_bool, cellV_string, cellV_ptr, cellV_slice, cellV_map, cellV_func, cellV_nilFunc, cellV_tSl, Bool.and_self, Bool.and_true, Bool.true_and, and_self, true_and, and_true, Bool.false_eq_true, if_false, lrefs_nil, lrefs_cons, vrefs_bool, vrefs_int, vrefs_string, vrefs_ptr, vrefs_ptr0, vrefs_slice, vrefs_slice0, vrefs_map, vrefs_tSl, vrefs_tPtr, vrefs_agg, q15, Int.reduceEq, Int.reduceLT, Int.reduceLE, y6, y5, y34, q33, q91, z_api_Span, q39, y70, y208, h1, h2, w1, w2, g1, g2]
          exact last _ _ _ (by simp [mxI, g1]) (by simp [mnI, g2]) rfl
      · by_cases g2 : b + bn < a + an
        · simp only [twainref04_Meet.sh, twainref04_Meet.j0, twainref04_Meet.j1, twainref04_Meet.j2, Option.bind_some, Option.map_some, q9, y7, List.getD_cons_zero, List.getD_cons_succ, q27, q29, q30, q28, y27, q23, q31, y28, y25, q41, q14, decide_true, decide_false, Bool.not_true, Bool.not_false, y4, y14, ext20, ext21, ext30, ext31, ext32, if_true, q32, box_int, box_bool, box_slice, box_map, box_ptr, box_tSl, q18, store_int, store_bool, store_slice, store_map, store_ptr, store_tSl, q16, y19, q17, List.cons_append, List.nil_append, q34, List.length_cons, List.length_nil, Nat.zero_add, Nat.add_zero, Nat.reduceAdd, Nat.reduceLeDiff, Nat.le_refl, q10, q13, y8, y9, q11, y13, q22, q21, y16, q19, y43, q44, List.getElem?_cons_zero, List.getElem?_cons_succ, List.drop_zero, List.drop_succ_cons, List.take_zero, List.take_succ_cons, allCells_cons, allCells_nil, cellV_int, cellV_bool, cellV_string, cellV_ptr, cellV_slice, cellV_map, cellV_func, cellV_nilFunc, cellV_tSl, Bool.and_self, Bool.and_true, Bool.true_and, and_self, true_and, and_true, Bool.false_eq_true, if_false, lrefs_nil, lrefs_cons, vrefs_bool, vrefs_int, vrefs_string, vrefs_ptr, vrefs_ptr0, vrefs_slice, vrefs_slice0, vrefs_map, vrefs_tSl, vrefs_tPtr, vrefs_agg, q15, Int.reduceEq, Int.reduceLT, Int.reduceLE, y6, y5, y34, q33, q91, z_api_Span, q39, y70, y208, h1, h2, w1, w2, g1, g2]
          exact last _ _ _ (by simp [mxI, g1]) (by simp [mnI, g2]) rfl
        · simp only [twainref04_Meet.sh, twainref04_Meet.j0, twainref04_Meet.j1, twainref04_Meet.j2, Option.bind_some, Option.map_some, q9, y7, List.getD_cons_zero, List.getD_cons_succ, q27, q29, q30, q28, y27, q23, q31, y28, y25, q41, q14, decide_true, decide_false, Bool.not_true, Bool.not_false, y4, y14, ext20, ext21, ext30, ext31, ext32, if_true, q32, box_int, box_bool, box_slice, box_map, box_ptr, box_tSl, q18, store_int, store_bool, store_slice, store_map, store_ptr, store_tSl, q16, y19, q17, List.cons_append, List.nil_append, q34, List.length_cons, List.length_nil, Nat.zero_add, Nat.add_zero, Nat.reduceAdd, Nat.reduceLeDiff, Nat.le_refl, q10, q13, y8, y9, q11, y13, q22, q21, y16, q19, y43, q44, List.getElem?_cons_zero, List.getElem?_cons_succ, List.drop_zero, List.drop_succ_cons, List.take_zero, List.take_succ_cons, allCells_cons, allCells_nil, cellV_int, cellV_bool, cellV_string, cellV_ptr, cellV_slice, cellV_map, cellV_func, cellV_nilFunc, cellV_tSl, Bool.and_self, Bool.and_true, Bool.true_and, and_self, true_and, and_true, Bool.false_eq_true, if_false, lrefs_nil, lrefs_cons, vrefs_bool, vrefs_int, vrefs_string, vrefs_ptr, vrefs_ptr0, vrefs_slice, vrefs_slice0, vrefs_map, vrefs_tSl, vrefs_tPtr, vrefs_agg, q15, Int.reduceEq, Int.reduceLT, Int.reduceLE, y6, y5, y34, q33, q91, z_api_Span, q39, y70, y208, h1, h2, w1, w2, g1, g2]
          exact last _ _ _ (by simp [mxI, g1]) (by simp [mnI, g2]) rfl

theorem q430 (a an b bn : Int) (H : List Blk) : acall PP TT y108 [spn a an, spn b bn] H = some (.bool (meetB a an b bn), H, none) := by
  rw [q50, twainref04_Overlap.eq]
  cases hm : meetB a an b bn with
  | true =>
    simp only [twainref04_Overlap.sh, Option.bind_some, Option.map_some, q9, y7, List.getD_cons_zero, List.getD_cons_succ, q27, q29, q30, q28, y27, q23, q31, y28, y25, q41, q14, decide_true, decide_false, Bool.not_true, Bool.not_false, y4, y14, ext20, ext21, ext30, ext31, ext32, if_true, q32, box_int, box_bool, box_slice, box_map, box_ptr, box_tSl, q18, store_int, store_bool, store_slice, store_map, store_ptr, store_tSl, q16, y19, q17, List.cons_append, List.nil_append, q34, List.length_cons, List.length_nil, Nat.zero_add, Nat.add_zero, Nat.reduceAdd, Nat.reduceLeDiff, Nat.le_refl, q10, q13, y8, y9, q11, y13, q22, q21, y16, q19, y43, q44, List.getElem?_cons_zero, List.getElem?_cons_succ, List.drop_zero, List.drop_succ_cons, List.take_zero, List.take_succ_cons, allCells_cons, allCells_nil, cellV_int, cellV_bool, cellV_string, cellV_ptr, cellV_slice, cellV_map, cellV_func, cellV_nilFunc, cellV_tSl, Bool.and_self, Bool.and_true, Bool.true_and, and_self, true_and, and_true, Bool.false_eq_true, if_false, lrefs_nil, lrefs_cons, vrefs_bool, vrefs_int, vrefs_string, vrefs_ptr, vrefs_ptr0, vrefs_slice, vrefs_slice0, vrefs_map, vrefs_tSl, vrefs_tPtr, vrefs_agg, q15, Int.reduceEq, Int.reduceLT, Int.reduceLE, y6, y5, y34, q33, q500, q91, z_api_Span, meetV, hm, y15]
    exact y100 rfl rfl rfl
  | false =>
    simp only [twainref04_Overlap.sh, Option.bind_some, Option.map_some, q9, y7, List.getD_cons_zero, List.getD_cons_succ, q27, q29, q30, q28, y27, q23, q31, y28, y25, q41, q14, decide_true, decide_false, Bool.not_true, Bool.not_false, y4, y14, ext20, ext21, ext30, ext31, ext32, if_true, q32, box_int, box_bool, box_slice, box_map, box_ptr, box_tSl, q18, store_int, store_bool, store_slice, store_map, store_ptr, store_tSl, q16, y19, q17, List.cons_append, List.nil_append, q34, List.length_cons, List.length_nil, Nat.zero_add, Nat.add_zero, Nat.reduceAdd, Nat.reduceLeDiff, Nat.le_refl, q10, q13, y8, y9, q11, y13, q22, q21, y16, q19, y43, q44, List.getElem?_cons_zero, List.getElem?_cons_succ, List.drop_zero, List.drop_succ_cons, List.take_zero, List.take_succ_cons, allCells_cons, allCells_nil, cellV_int, cellV_bool, cellV_string, cellV_ptr, cellV_slice, cellV_map, cellV_func, cellV_nilFunc, cellV_tSl, Bool.and_self, Bool.and_true, Bool.true_and, and_self, true_and, and_true, Bool.false_eq_true, if_false, lrefs_nil, lrefs_cons, vrefs_bool, vrefs_int, vrefs_string, vrefs_ptr, vrefs_ptr0, vrefs_slice, vrefs_slice0, vrefs_map, vrefs_tSl, vrefs_tPtr, vrefs_agg, q15, Int.reduceEq, Int.reduceLT, Int.reduceLE, y6, y5, y34, q33, q500, q91, z_api_Span, meetV, hm, y15]
    exact y100 rfl rfl rfl

end Go.Proofs.Ytfinilnkempofaa

end
section
namespace Go.Proofs.Ytfinilnkempofaa
open Go Go.Am

/-- the first of some numbers, so many of them, that is so; -1: none -/
def q270 (p : Nat → Bool) : Nat → Nat → Int
  | _, 0 => -1
  | i, k + 1 => if p i = true then (i : Int) else q270 p (i + 1) k

theorem y291 {p : Nat → Bool} : ∀ (k i m : Nat), (∀ j, i ≤ j → j < m → p j = false) → p m = true → i ≤ m → m < i + k → q270 p i k = (m : Int)
  | 0, i, m, _, _, h1, h2 => by omega
  | k + 1, i, m, h, hm, h1, h2 => by
    simp only [q270]
    by_cases he : i = m
    · subst he; rw [if_pos hm]
    · rw [h i (Nat.le_refl _) (by omega)]
      simp only [Bool.false_eq_true, if_false]
      exact y291 k (i + 1) m (fun j h3 h4 => h j (by omega) h4) hm (by omega) (by omega)

theorem q255 {p : Nat → Bool} : ∀ (k i : Nat), (∀ j, i ≤ j → j < i + k → p j = false) → q270 p i k = -1
  | 0, i, _ => rfl
  | k + 1, i, h => by
    simp only [q270, h i (Nat.le_refl _) (by omega), Bool.false_eq_true, if_false]
    exact q255 k (i + 1) (fun j h3 h4 => h j (by omega) (by omega))

theorem y321 {p : Nat → Bool} : ∀ (k i : Nat), (q270 p i k = -1 ∧ ∀ j, i ≤ j → j < i + k → p j = false) ∨ ∃ m : Nat, q270 p i k = (m : Int) ∧ i ≤ m ∧ m < i + k ∧ p m = true ∧ ∀ j, i ≤ j → j < m → p j = false
  | 0, i => .inl ⟨rfl, fun j h1 h2 => by omega⟩
  | k + 1, i => by
    cases hp : p i with
    | true => exact .inr ⟨i, by simp [q270, hp], by omega, by omega, hp, fun j h1 h2 => by omega⟩
    | false =>
      have he : q270 p i (k + 1) = q270 p (i + 1) k := by simp [q270, hp]
      rw [he]
      rcases y321 (p := p) k (i + 1) with ⟨h1, h2⟩ | ⟨m, h1, h2, h3, h4, h5⟩
      · refine .inl ⟨h1, fun j h3 h4 => ?_⟩
        by_cases hj : j = i
        · subst hj; exact hp
        · exact h2 j (by omega) (by omega)
      · refine .inr ⟨m, h1, by omega, by omega, h4, fun j h6 h7 => ?_⟩
        by_cases hj : j = i
        · subst hj; exact hp
        · exact h5 j (by omega) h7

/-- is event i an end of what was asked at a place? -/
def endsB (l : List Ev) (from_ i : Nat) : Bool := match l[i]? with
  | some x => decide (x.kind = 1) && decide (q142 l i = (from_ : Int))
  | none => false
def y87 (l : List Ev) (from_ : Nat) : Int := q270 (endsB l from_) (from_ + 1) (l.length - (from_ + 1))

section
variable {l : List Ev}

theorem y498 (hm : l.length < 1000000) (k : Nat) : isI (q142 l k) ∧ q142 l k < (l.length : Int) := by
  unfold q142 isI
  split
  · rename_i y hy
    split
    · rename_i i hi
      have := List.findIdx?_eq_some_iff_findIdx_eq.1 hi
      have h2 := this.1
      simp at h2
      omega
    · omega
  · omega

theorem y390 (hl : OkEvs l) (hm : l.length < 1000000) {from_ : Nat} (hf : from_ < l.length) (H : List Blk) : acall PP TT y91 [tSl l.length (evR l), .int .i64 from_] H = some (.int .i64 (y87 l from_), H, none) := by
  have hw0 := q100 (n := from_) (by omega)
  obtain ⟨r, hlp, hr⟩ := q148 (n0 := H.length) (step := twainref36_ended.loop2s (acall PP TT) loopG H.length) (len := l.length) (σ := Unit) (fun i _ => ([tSl l.length (evR l), .int .i64 from_, .int .i64 i], ⟨H, none⟩))
    (fun i _ => from_ + 1 ≤ i ∧ ∀ j, from_ + 1 ≤ j → j < i → endsB l from_ j = false)
    (fun r => (r = (.exit 0, [unk], ⟨H, none⟩) ∧ y87 l from_ = -1) ∨ r = (.ret, [.int .i64 (y87 l from_)], ⟨H, none⟩))
    (fun i _ hi ho => by
      obtain ⟨x, hx⟩ : ∃ x, l[i]? = some x := ⟨_, List.getElem?_eq_getElem hi⟩
      have hi' : ((i : Int) < (l.length : Int)) := by omega
      have hix := q346 hi
      have hw := q100 (n := i) (by omega)
      have hln := q295 l ⟨H, none⟩
      have e1 := q576 hx ⟨H, none⟩
      have hak := q489 hl hm hi H
      cases hb : endsB l from_ i with
      | true =>
        have hfound : y87 l from_ = (i : Int) := y291 _ _ _ ho.2 hb ho.1 (by omega)
        refine .inl ⟨_, ?_, .inr rfl⟩
        simp only [endsB, hx, Bool.and_eq_true, decide_eq_true_eq] at hb
        obtain ⟨h1, h2⟩ := hb
        simp only [twainref36_ended.loop2s, twainref36_ended.loop2, twainref36_ended.j1, Option.bind_some, Option.map_some, q9, y7, List.getD_cons_zero, List.getD_cons_succ, q27, q29, q30, q28, y27, q23, q31, y28, y25, q41, q14, decide_true, decide_false, Bool.not_true, Bool.not_false, y4, y14, ext20, ext21, ext30, ext31, ext32, if_true, q32, box_int, box_bool, box_slice, box_map, box_ptr, box_tSl, q18, store_int, store_bool, store_slice, store_map, store_ptr, store_tSl, q16, y19, q17, List.cons_append, List.nil_append, q34, List.length_cons, List.length_nil, Nat.zero_add, Nat.add_zero, Nat.reduceAdd, Nat.reduceLeDiff, Nat.le_refl, q10, q13, y8, y9, q11, y13, q22, q21, y16, q19, y43, q44, List.getElem?_cons_zero, List.getElem?_cons_succ, List.drop_zero, List.drop_succ_cons, List.take_zero, List.take_succ_cons, allCells_cons, allCells_nil, cellV_int, cellV_bool, cellV_string, cellV_ptr, cellV_slice, cellV_map, cellV_func, cellV_nilFunc, cellV_tSl, Bool.and_self, Bool.and_true, Bool.true_and, and_self, true_and, and_true, Bool.false_eq_true, if_false, lrefs_nil, lrefs_cons, vrefs_bool, vrefs_int, vrefs_string, vrefs_ptr, vrefs_ptr0, vrefs_slice, vrefs_slice0, vrefs_map, vrefs_tSl, vrefs_tPtr, vrefs_agg, q15, Int.reduceEq, Int.reduceLT, Int.reduceLE, y6, y5, y34, q33, hi', hix, hln, y83, e1, h1, hak, h2, hfound]
      | false =>
        refine .inr ⟨([tSl l.length (evR l), .int .i64 from_, .int .i64 ((i + 1 : Nat) : Int)], ⟨H, none⟩), (), ?_, q243 (by simp [y55]), by omega, fun j h1 h2 => ?_⟩
        · simp only [endsB, hx, Bool.and_eq_false_iff, decide_eq_false_iff_not] at hb
          by_cases h1 : x.kind = 1
          · have h2 : ¬ q142 l i = (from_ : Int) := by
              rcases hb with hb | hb
              · exact absurd h1 hb
              · exact hb
            simp only [twainref36_ended.loop2s, twainref36_ended.loop2, twainref36_ended.j1, twainref36_ended.j2, Option.bind_some, Option.map_some, q9, y7, List.getD_cons_zero, List.getD_cons_succ, q27, q29, q30, q28, y27, q23, q31, y28, y25, q41, q14, decide_true, decide_false, Bool.not_true, Bool.not_false, y4, y14, ext20, ext21, ext30, ext31, ext32, if_true, q32, box_int, box_bool, box_slice, box_map, box_ptr, box_tSl, q18, store_int, store_bool, store_slice, store_map, store_ptr, store_tSl, q16, y19, q17, List.cons_append, List.nil_append, q34, List.length_cons, List.length_nil, Nat.zero_add, Nat.add_zero, Nat.reduceAdd, Nat.reduceLeDiff, Nat.le_refl, q10, q13, y8, y9, q11, y13, q22, q21, y16, q19, y43, q44, List.getElem?_cons_zero, List.getElem?_cons_succ, List.drop_zero, List.drop_succ_cons, List.take_zero, List.take_succ_cons, allCells_cons, allCells_nil, cellV_int, cellV_bool, cellV_string, cellV_ptr, cellV_slice, cellV_map, cellV_func, cellV_nilFunc, cellV_tSl, Bool.and_self, Bool.and_true, Bool.true_and, and_self, true_and, and_true, Bool.false_eq_true, if_false, lrefs_nil, lrefs_cons, vrefs_bool, vrefs_int, vrefs_string, vrefs_ptr, vrefs_ptr0, vrefs_slice, vrefs_slice0, vrefs_map, vrefs_tSl, vrefs_tPtr, vrefs_agg, q15, Int.reduceEq, Int.reduceLT, Int.reduceLE, y6, y5, y34, q33, hi', hix, hln, y83, e1, h1, hak, h2, hw]
          · simp only [twainref36_ended.loop2s, twainref36_ended.loop2, twainref36_ended.j1, twainref36_ended.j2, Option.bind_some, Option.map_some, q9, y7, List.getD_cons_zero, List.getD_cons_succ, q27, q29, q30, q28, y27, q23, q31, y28, y25, q41, q14, decide_true, decide_false, Bool.not_true, Bool.not_false, y4, y14, ext20, ext21, ext30, ext31, ext32, if_true, q32, box_int, box_bool, box_slice, box_map, box_ptr, box_tSl, q18, store_int, store_bool, store_slice, store_map, store_ptr, store_tSl, q16, y19, q17, List.cons_append, List.nil_append, q34, List.length_cons, List.length_nil, Nat.zero_add, Nat.add_zero, Nat.reduceAdd, Nat.reduceLeDiff, Nat.le_refl, q10, q13, y8, y9, q11, y13, q22, q21, y16, q19, y43, q44, List.getElem?_cons_zero, List.getElem?_cons_succ, List.drop_zero, List.drop_succ_cons, List.take_zero, List.take_succ_cons, allCells_cons, allCells_nil, cellV_int, cellV_bool, cellV_string, cellV_ptr, cellV_slice, cellV_map, cellV_func, cellV_nilFunc, cellV_tSl, Bool.and_self, Bool.and_true, Bool.true_and, and_self, true_and, and_true, Bool.false_eq_true, if_false, lrefs_nil, lrefs_cons, vrefs_bool, vrefs_int, vrefs_string, vrefs_ptr, vrefs_ptr0, vrefs_slice, vrefs_slice0, vrefs_map, vrefs_tSl, vrefs_tPtr, vrefs_agg, q15, Int.reduceEq, Int.reduceLT, Int.reduceLE, y6, y5, y34, q33, hi', hix, hln, y83, e1, h1, hw]
        · by_cases hji : j = i
          · subst hji; exact hb
          · exact ho.2 j h1 (by omega))
    (fun _ ho => ⟨_, by simp only [twainref36_ended.loop2s, twainref36_ended.loop2, Option.bind_some, Option.map_some, q9, y7, List.getD_cons_zero, List.getD_cons_succ, q27, q29, q30, q28, y27, q23, q31, y28, y25, q41, q14, decide_true, decide_false, Bool.not_true, Bool.not_false, y4, y14, ext20, ext21, ext30, ext31, ext32, if_true, q32, box_int, box_bool, box_slice, box_map, box_ptr, box_tSl, q18, store_int, store_bool, store_slice, store_map, store_ptr, store_tSl, q16, y19, q17, List.cons_append, List.nil_append, q34, List.length_cons, List.length_nil, Nat.zero_add, Nat.add_zero, Nat.reduceAdd, Nat.reduceLeDiff, Nat.le_refl, q10, q13, y8, y9, q11, y13, q22, q21, y16, q19, y43, q44, List.getElem?_cons_zero, List.getElem?_cons_succ, List.drop_zero, List.drop_succ_cons, List.take_zero, List.take_succ_cons, allCells_cons, allCells_nil, cellV_int, cellV_bool, cellV_string, cellV_ptr, cellV_slice, cellV_map, cellV_func, cellV_nilFunc, cellV_tSl, Bool.and_self, Bool.and_true, Bool.true_and, and_self, true_and, and_true, Bool.false_eq_true, if_false, lrefs_nil, lrefs_cons, vrefs_bool, vrefs_int, vrefs_string, vrefs_ptr, vrefs_ptr0, vrefs_slice, vrefs_slice0, vrefs_map, vrefs_tSl, vrefs_tPtr, vrefs_agg, q15, Int.reduceEq, Int.reduceLT, Int.reduceLE, y6, y5, y34, q33, q295, Int.lt_irrefl], .inl ⟨rfl, q255 _ _ (fun j h1 h2 => ho.2 j h1 (by omega))⟩⟩)
    (l.length - (from_ + 1)) (from_ + 1) () ([tSl l.length (evR l), .int .i64 from_, .int .i64 ((from_ + 1 : Nat) : Int)], ⟨H, none⟩) (by omega) ⟨by omega, fun j h1 h2 => by omega⟩ (q243 (by simp [y55]))
  rw [q50, twainref36_ended.eq]
  rcases hr with ⟨rfl, h⟩ | rfl
  · simp only [twainref36_ended.sh, Option.bind_some, Option.map_some, q9, y7, List.getD_cons_zero, List.getD_cons_succ, q27, q29, q30, q28, y27, q23, q31, y28, y25, q41, q14, decide_true, decide_false, Bool.not_true, Bool.not_false, y4, y14, ext20, ext21, ext30, ext31, ext32, if_true, q32, box_int, box_bool, box_slice, box_map, box_ptr, box_tSl, q18, store_int, store_bool, store_slice, store_map, store_ptr, store_tSl, q16, y19, q17, List.cons_append, List.nil_append, q34, List.length_cons, List.length_nil, Nat.zero_add, Nat.add_zero, Nat.reduceAdd, Nat.reduceLeDiff, Nat.le_refl, q10, q13, y8, y9, q11, y13, q22, q21, y16, q19, y43, q44, List.getElem?_cons_zero, List.getElem?_cons_succ, List.drop_zero, List.drop_succ_cons, List.take_zero, List.take_succ_cons, allCells_cons, allCells_nil, cellV_int, cellV_bool, cellV_string, cellV_ptr, cellV_slice, cellV_map, cellV_func, cellV_nilFunc, cellV_tSl, Bool.and_self, Bool.and_true, Bool.true_and, and_self, true_and, and_true, Bool.false_eq_true, if_false, lrefs_nil, lrefs_cons, vrefs_bool, vrefs_int, vrefs_string, vrefs_ptr, vrefs_ptr0, vrefs_slice, vrefs_slice0, vrefs_map, vrefs_tSl, vrefs_tPtr, vrefs_agg, q15, Int.reduceEq, Int.reduceLT, Int.reduceLE, y6, y5, y34, q33, hw0, hlp, twainref36_ended.j4, h]
    exact y172 rfl rfl
  · simp only [twainref36_ended.sh, Option.bind_some, Option.map_some, q9, y7, List.getD_cons_zero, List.getD_cons_succ, q27, q29, q30, q28, y27, q23, q31, y28, y25, q41, q14, decide_true, decide_false, Bool.not_true, Bool.not_false, y4, y14, ext20, ext21, ext30, ext31, ext32, if_true, q32, box_int, box_bool, box_slice, box_map, box_ptr, box_tSl, q18, store_int, store_bool, store_slice, store_map, store_ptr, store_tSl, q16, y19, q17, List.cons_append, List.nil_append, q34, List.length_cons, List.length_nil, Nat.zero_add, Nat.add_zero, Nat.reduceAdd, Nat.reduceLeDiff, Nat.le_refl, q10, q13, y8, y9, q11, y13, q22, q21, y16, q19, y43, q44, List.getElem?_cons_zero, List.getElem?_cons_succ, List.drop_zero, List.drop_succ_cons, List.take_zero, List.take_succ_cons, allCells_cons, allCells_nil, cellV_int, cellV_bool, cellV_string, cellV_ptr, cellV_slice, cellV_map, cellV_func, cellV_nilFunc, cellV_tSl, Bool.and_self, Bool.and_true, Bool.true_and, and_self, true_and, and_true, Bool.false_eq_true, if_false, lrefs_nil, lrefs_cons, vrefs_bool, vrefs_int, vrefs_string, vrefs_ptr, vrefs_ptr0, vrefs_slice, vrefs_slice0, vrefs_map, vrefs_tSl, vrefs_tPtr, vrefs_agg, q15, Int.reduceEq, Int.reduceLT, Int.reduceLE, y6, y5, y34, q33, hw0, hlp]
    exact y172 rfl rfl

/-! ### Sectors -/

/-- the i'th sector of bytes; noughts, where there are not as many -/
def secI (b : List Int) (i : Nat) : List Int := if 16 * (i + 1) ≤ b.length then (b.drop (16 * i)).take 16 else List.replicate 16 0

theorem y228 (b : List Int) (i : Nat) : (secI b i).length = 16 := by
  unfold secI
  split
  · simp; omega
  · simp
theorem q417 {b : List Int} (hb : OkB b) (i : Nat) : ∀ x ∈ secI b i, 0 ≤ x ∧ x < 256 := by
  intro x hx
  unfold secI at hx
  split at hx
  · exact hb.2 x (List.mem_of_mem_drop (List.mem_of_mem_take hx))
  · simp at hx; omega
theorem y113 (b : List Int) : y35 (byt b) = true := by
  induction b with
  | nil => rfl
  | cons x xs ih => simpa [byt, y35] using ih
theorem y292 (b : List Int) : (byt b).all noSl = true := by
  induction b with
  | nil => rfl
  | cons x xs ih => simp only [byt, List.map_cons, List.all_cons, noSl, Bool.true_and]; exact ih
theorem q267 (b : List Int) (i : Nat) : (byt (secI b i)).length = 16 := by rw [y482, y228]
theorem y601 (b : List Int) (n : Nat) : (byt b).take n = byt (b.take n) := by simp [byt]
theorem byt_drop (b : List Int) (n : Nat) : (byt b).drop n = byt (b.drop n) := by simp [byt]

theorem ix_sec {bk o k : Nat} (hk : k < 16) : q37 PP y1 (.pointer (some ⟨bk, o, none⟩)) (.int .i64 (k : Int)) = some (.pointer (some ⟨bk, o + k, none⟩)) := by
  simp only [q37, y275, q330]
  rw [if_pos ⟨by omega, by omega⟩]
  simp [Addr.add]
theorem ix_byt {b : List Int} {k : Nat} (hk : k < b.length) : q37 PP q81 (tSl b.length (byt b)) (.int .i64 (k : Int)) = some (tPtr k (byt b).toArray) := by
  have := q189 (row := byt b) (j := .i64) q211 q330 hk
  simpa using this
theorem ld_byt {b : List Int} {k : Nat} {x : Int} (hk : b[k]? = some x) (st : AS) : aLoad false 1 st (tPtr k (byt b).toArray) = some (.int .u8 x) := by
  show tLoad false 1 k (byt b).toArray = _
  simp [tLoad, byt, hk]
theorem q384 (b : List Int) (st : AS) : aLen PP q81 (tSl b.length (byt b)) st = some (.int .i64 b.length) := q215 q211

theorem q378 {cs : List Value} {k : Nat} {v : Value} (h : k < cs.length) : y63 cs k [v] = cs.set k v := by
  unfold y63
  rw [List.set_eq_take_append_cons_drop, if_pos h]
  simp

def z16 : List Int := List.replicate 16 0
theorem q110 : z_api_Sector = byt z16 := rfl
theorem y150 : (byt z16).length = 16 := by simp [byt, z16]

theorem q532 {X : List Int} {k : Nat} {x : Int} (hX : X.length = 16) (hk : X[k]? = some x) : (byt (X.take k ++ List.replicate (16 - k) 0)).set k (.int .u8 x) = byt (X.take (k + 1) ++ List.replicate (16 - (k + 1)) 0) := by
  have hlt := q25 hk
  have h1 : List.replicate (16 - k) (0 : Int) = 0 :: List.replicate (16 - (k + 1)) 0 := by
    rw [show 16 - k = (16 - (k + 1)) + 1 by omega, List.replicate_succ]
  have h2 : (X.take k).length = k := by simp; omega
  rw [h1]
  unfold byt
  rw [List.map_append, List.set_append_right _ _ (by simp; omega)]
  have h3 : k - (List.map (Value.int .u8) (X.take k)).length = 0 := by rw [List.length_map, h2]; omega
  rw [h3, List.map_cons, List.set_cons_zero, List.take_add_one, hk]
  simp

theorem y542 {b : List Int} (hb : OkB b) {i : Nat} (hi : i ≤ 1073741824) (H : List Blk) : acall PP TT y97 [tSl b.length (byt b), .int .i64 i] H = some (.agg (byt (secI b i)).toArray, H, none) := by
  have hbl := hb.1
  rw [q50, twainref36_sector.eq]
  have hneg : ¬ ((i : Int) < 0) := by omega
  have w1 := q100 (n := i) (by omega)
  have w2 : IntKind.i64.wrap (16 * ((i + 1 : Nat) : Int)) = ((16 * (i + 1) : Nat) : Int) := by rw [q177 ⟨by omega, by omega⟩]; omega
  by_cases hc : 16 * (i + 1) ≤ b.length
  · have hlt : ¬ ((b.length : Int) < ((16 * (i + 1) : Nat) : Int)) := by omega
    have hX : ((b.drop (16 * i)).take 16).length = 16 := by simp; omega
    have hs : secI b i = (b.drop (16 * i)).take 16 := by simp [secI, hc]
    obtain ⟨r, hlp, hr⟩ := q148 (n0 := H.length) (step := twainref36_sector.loop5s (acall PP TT) loopG H.length) (len := 16) (σ := Unit)
      (fun k _ => ([tSl b.length (byt b), .int .i64 i, .pointer (some ⟨H.length, 0, none⟩), .pointer (some ⟨H.length + 1, 0, none⟩), .int .i64 k], ⟨H ++ [.cells (byt z16) y1 true, .cells (byt (((b.drop (16 * i)).take 16).take k ++ List.replicate (16 - k) 0)) y1 true], none⟩))
      (fun _ _ => True)
      (fun r => r = (.exit 0, [.pointer (some ⟨H.length, 0, none⟩), .pointer (some ⟨H.length + 1, 0, none⟩)], ⟨H ++ [.cells (byt z16) y1 true, .cells (byt (secI b i)) y1 true], none⟩))
      (fun k _ hk _ => by
        have hk' : ((k : Int) < 16) := by omega
        obtain ⟨x, hx⟩ : ∃ x, ((b.drop (16 * i)).take 16)[k]? = some x := ⟨_, List.getElem?_eq_getElem (by omega)⟩
        have hbx : b[16 * i + k]? = some x := by rw [List.getElem?_take, if_pos hk, List.getElem?_drop] at hx; exact hx
        have hbl2 := q25 hbx
        have w3 : IntKind.i64.wrap (16 * (i : Int)) = ((16 * i : Nat) : Int) := by rw [q177 ⟨by omega, by omega⟩]; omega
        have w4 : IntKind.i64.wrap (((16 * i : Nat) : Int) + (k : Int)) = ((16 * i + k : Nat) : Int) := by rw [q177 ⟨by omega, by omega⟩]; omega
        have w5 := q100 (n := k) (by omega)
        have hix := ix_byt hbl2
        have hld := fun st => ld_byt hbx st
        have hsx := fun bk o => ix_sec (bk := bk) (o := o) hk
        have hln : (byt (((b.drop (16 * i)).take 16).take k ++ List.replicate (16 - k) 0)).length = 16 := by rw [y482]; simp; omega
        have hst := q532 hX hx
        have hkl : k + 1 ≤ (byt (((b.drop (16 * i)).take 16).take k ++ List.replicate (16 - k) 0)).length := by omega
        have hput := q378 (cs := byt (((b.drop (16 * i)).take 16).take k ++ List.replicate (16 - k) 0)) (k := k) (v := .int .u8 x) (by omega)
        rw [hst] at hput
        refine .inr ?_
        apply Exists.intro
        refine ⟨(), ?_, ?_, trivial⟩
        · simp only [twainref36_sector.loop5s, twainref36_sector.loop5, Option.bind_some, Option.map_some, q9, y7, List.getD_cons_zero, List.getD_cons_succ, q27, q29, q30, q28, y27, q23, q31, y28, y25, q41, q14, decide_true, decide_false, Bool.not_true, Bool.not_false, y4, y14, ext20, ext21, ext30, ext31, ext32, if_true, q32, box_int, box_bool, box_slice, box_map, box_ptr, box_tSl, q18, store_int, store_bool, store_slice, store_map, store_ptr, store_tSl, q16, y19, q17, List.cons_append, List.nil_append, q34, List.length_cons, List.length_nil, Nat.zero_add, Nat.add_zero, Nat.reduceAdd, Nat.reduceLeDiff, Nat.le_refl, q10, q13, y8, y9, q11, y13, q22, q21, y16, q19, y43, q44, List.getElem?_cons_zero, List.getElem?_cons_succ, List.drop_zero, List.drop_succ_cons, List.take_zero, List.take_succ_cons, allCells_cons, allCells_nil, cellV_int, cellV_bool, cellV_string, cellV_ptr, cellV_slice, cellV_map, cellV_func, cellV_nilFunc, cellV_tSl, Bool.and_self, Bool.and_true, Bool.true_and, and_self, true_and, and_true, Bool.false_eq_true, if_false, lrefs_nil, lrefs_cons, vrefs_bool, vrefs_int, vrefs_string, vrefs_ptr, vrefs_ptr0, vrefs_slice, vrefs_slice0, vrefs_map, vrefs_tSl, vrefs_tPtr, vrefs_agg, q15, Int.reduceEq, Int.reduceLT, Int.reduceLE, y6, y5, y34, q33, hk', w3, w4, hix, hld, hsx, hkl, hput, w5]
          rfl
        · exact q131 [[], []] [0, 1] [0, 1] rfl rfl (by simp [y84]) (by simp [q61, y84]) (by simp [lren, vren, q125, q105, q87, q65, y84]) (by simp [y142, q90, y84]))
      (fun _ _ => ⟨_, by simp only [twainref36_sector.loop5s, twainref36_sector.loop5, Option.bind_some, Option.map_some, q9, y7, List.getD_cons_zero, List.getD_cons_succ, q27, q29, q30, q28, y27, q23, q31, y28, y25, q41, q14, decide_true, decide_false, Bool.not_true, Bool.not_false, y4, y14, ext20, ext21, ext30, ext31, ext32, if_true, q32, box_int, box_bool, box_slice, box_map, box_ptr, box_tSl, q18, store_int, store_bool, store_slice, store_map, store_ptr, store_tSl, q16, y19, q17, List.cons_append, List.nil_append, q34, List.length_cons, List.length_nil, Nat.zero_add, Nat.add_zero, Nat.reduceAdd, Nat.reduceLeDiff, Nat.le_refl, q10, q13, y8, y9, q11, y13, q22, q21, y16, q19, y43, q44, List.getElem?_cons_zero, List.getElem?_cons_succ, List.drop_zero, List.drop_succ_cons, List.take_zero, List.take_succ_cons, allCells_cons, allCells_nil, cellV_int, cellV_bool, cellV_string, cellV_ptr, cellV_slice, cellV_map, cellV_func, cellV_nilFunc, cellV_tSl, Bool.and_self, Bool.and_true, Bool.true_and, and_self, true_and, and_true, Bool.false_eq_true, if_false, lrefs_nil, lrefs_cons, vrefs_bool, vrefs_int, vrefs_string, vrefs_ptr, vrefs_ptr0, vrefs_slice, vrefs_slice0, vrefs_map, vrefs_tSl, vrefs_tPtr, vrefs_agg, q15, Int.reduceEq, Int.reduceLT, Int.reduceLE, y6, y5, y34, q33, show ¬ (((16 : Nat) : Int) < 16) by decide]; rfl, by simp [hs, List.take_of_length_le (Nat.le_of_eq hX)]⟩)
      16 0 () ([tSl b.length (byt b), .int .i64 i, .pointer (some ⟨H.length, 0, none⟩), .pointer (some ⟨H.length + 1, 0, none⟩), .int .i64 0], ⟨H ++ [.cells (byt z16) y1 true, .cells (byt z16) y1 true], none⟩) (by omega) trivial
      (q131 [[], []] [0, 1] [0, 1] rfl rfl (by simp [y84]) (by simp [q61, y84]) (by simp [lren, vren, q125, q105, q87, q65, y84]) (by simp [y142, q90, y84, z16]))
    subst hr
    simp only [twainref36_sector.sh, twainref36_sector.j0, twainref36_sector.j1, twainref36_sector.j4, Option.bind_some, Option.map_some, q9, y7, List.getD_cons_zero, List.getD_cons_succ, q27, q29, q30, q28, y27, q23, q31, y28, y25, q41, q14, decide_true, decide_false, Bool.not_true, Bool.not_false, y4, y14, ext20, ext21, ext30, ext31, ext32, if_true, q32, box_int, box_bool, box_slice, box_map, box_ptr, box_tSl, q18, store_int, store_bool, store_slice, store_map, store_ptr, store_tSl, q16, y19, q17, List.cons_append, List.nil_append, q34, List.length_cons, List.length_nil, Nat.zero_add, Nat.add_zero, Nat.reduceAdd, Nat.reduceLeDiff, Nat.le_refl, q10, q13, y8, y9, q11, y13, q22, q21, y16, q19, y43, q44, List.getElem?_cons_zero, List.getElem?_cons_succ, List.drop_zero, List.drop_succ_cons, List.take_zero, List.take_succ_cons, allCells_cons, allCells_nil, cellV_int, cellV_bool, cellV_string, cellV_ptr, cellV_slice, cellV_map, cellV_func, cellV_nilFunc, cellV_tSl, Bool.and_self, Bool.and_true, Bool.true_and, and_self, true_and, and_true, Bool.false_eq_true, if_false, lrefs_nil, lrefs_cons, vrefs_bool, vrefs_int, vrefs_string, vrefs_ptr, vrefs_ptr0, vrefs_slice, vrefs_slice0, vrefs_map, vrefs_tSl, vrefs_tPtr, vrefs_agg, q15, Int.reduceEq, Int.reduceLT, Int.reduceLE, y6, y5, y34, q33, hneg, q384, w1, w2, hlt, q70, q110, y113, hlp, y150, q267, List.take_of_length_le, y15, y84]
    refine y100 ?_ ?_ rfl
    · simp [flatV, y292]
    · simp [y84]
  · have hlt : ((b.length : Int) < ((16 * (i + 1) : Nat) : Int)) := by omega
    have hs : secI b i = z16 := by simp [secI, hc, z16]
    simp only [twainref36_sector.sh, twainref36_sector.j0, twainref36_sector.j1, Option.bind_some, Option.map_some, q9, y7, List.getD_cons_zero, List.getD_cons_succ, q27, q29, q30, q28, y27, q23, q31, y28, y25, q41, q14, decide_true, decide_false, Bool.not_true, Bool.not_false, y4, y14, ext20, ext21, ext30, ext31, ext32, if_true, q32, box_int, box_bool, box_slice, box_map, box_ptr, box_tSl, q18, store_int, store_bool, store_slice, store_map, store_ptr, store_tSl, q16, y19, q17, List.cons_append, List.nil_append, q34, List.length_cons, List.length_nil, Nat.zero_add, Nat.add_zero, Nat.reduceAdd, Nat.reduceLeDiff, Nat.le_refl, q10, q13, y8, y9, q11, y13, q22, q21, y16, q19, y43, q44, List.getElem?_cons_zero, List.getElem?_cons_succ, List.drop_zero, List.drop_succ_cons, List.take_zero, List.take_succ_cons, allCells_cons, allCells_nil, cellV_int, cellV_bool, cellV_string, cellV_ptr, cellV_slice, cellV_map, cellV_func, cellV_nilFunc, cellV_tSl, Bool.and_self, Bool.and_true, Bool.true_and, and_self, true_and, and_true, Bool.false_eq_true, if_false, lrefs_nil, lrefs_cons, vrefs_bool, vrefs_int, vrefs_string, vrefs_ptr, vrefs_ptr0, vrefs_slice, vrefs_slice0, vrefs_map, vrefs_tSl, vrefs_tPtr, vrefs_agg, q15, Int.reduceEq, Int.reduceLT, Int.reduceLE, y6, y5, y34, q33, hneg, q384, w1, w2, hlt, q70, q110, y113, y150, List.take_of_length_le, y15, y84, hs]
    refine y100 ?_ ?_ rfl
    · simp [flatV, y292]
    · simp [y84]

end
end Go.Proofs.Ytfinilnkempofaa

end
