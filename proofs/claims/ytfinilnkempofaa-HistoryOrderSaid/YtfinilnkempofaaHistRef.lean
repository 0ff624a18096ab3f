/- The document's askings and endings: what the code says. -/
import Derived.Test.YtfinilnkempofaaHistEv
set_option linter.all false
set_option linter.unusedVariables false
set_option linter.unusedSimpArgs false
set_option linter.unnecessarySimpa false
namespace Go.Proofs.Ytfinilnkempofaa
open Go Go.Am

/-- is x the asking of y? -/
def asksB (x y : Ev) : Bool := decide (x.kind = 0) && decide (x.who = y.who) && decide (x.ticket = y.ticket)
/-- the first asking of y among the first events -/
def askedI (l : List Ev) (at_ : Nat) : Int := match l[at_]? with
  | some y => match (l.take at_).findIdx? fun x => asksB x y with
    | some i => (i : Int)
    | none => -1
  | none => -1

theorem findIdx_take {α : Type} (p : α → Bool) : ∀ (l : List α) (n i : Nat), (∀ j x, j < i → l[j]? = some x → p x = false) → (∀ x, l[i]? = some x → p x = true) → i < n → i < l.length → (l.take n).findIdx? p = some i
  | [], n, i, h, hp, hi, hl => by simp at hl
  | x :: xs, 0, i, h, hp, hi, hl => by omega
  | x :: xs, n + 1, 0, h, hp, hi, hl => by simp [List.findIdx?_cons, hp x rfl]
  | x :: xs, n + 1, i + 1, h, hp, hi, hl => by
    have hx := h 0 x (by omega) rfl
    have ih := findIdx_take p xs n i (fun j y hj hy => h (j + 1) y (by omega) (by simpa using hy)) (fun y hy => hp y (by simpa using hy)) (by omega) (by simpa using hl)
    simp [List.findIdx?_cons, hx, ih]

theorem findIdx_none {α : Type} (p : α → Bool) (l : List α) (n : Nat) (h : ∀ j x, j < n → l[j]? = some x → p x = false) : (l.take n).findIdx? p = none := by
  rw [List.findIdx?_eq_none_iff]
  intro x hx
  obtain ⟨j, hj⟩ := List.getElem?_of_mem hx
  rw [List.getElem?_take] at hj
  split at hj
  · rename_i hjn
    simpa using h j x hjn hj
  · simp at hj

section
variable {l : List Ev}

theorem asked_ok (hl : OkEvs l) (hm : l.length < 1000000) {at_ : Nat} (hat : at_ < l.length) (H : List Blk) : acall PP TT n_twainref36_asked [tSl l.length (evR l), .int .i64 at_] H = some (.int .i64 (askedI l at_), H, none) := by
  obtain ⟨y, hy⟩ : ∃ y, l[at_]? = some y := ⟨_, List.getElem?_eq_getElem hat⟩
  have hixa := ix_ref hat
  obtain ⟨r, hlp, hr⟩ := loop_rule (n0 := H.length) (step := twainref36_asked.loop2s (acall PP TT) loopG H.length) (len := at_) (σ := Unit) (fun i _ => ([tSl l.length (evR l), .int .i64 at_, .int .i64 i], ⟨H, none⟩))
    (fun i _ => ∀ j x, j < i → l[j]? = some x → asksB x y = false)
    (fun r => (r = (.exit 0, [unk], ⟨H, none⟩) ∧ askedI l at_ = -1) ∨ r = (.ret, [.int .i64 (askedI l at_)], ⟨H, none⟩))
    (fun i _ hi ho => by
      have hil : i < l.length := by omega
      obtain ⟨x, hx⟩ : ∃ x, l[i]? = some x := ⟨_, List.getElem?_eq_getElem hil⟩
      have hi' : ((i : Int) < (at_ : Int)) := by omega
      have hix := ix_ref hil
      have hw := wrap_succ (n := i) (by omega)
      have e1 := ev_kind hx ⟨H, none⟩
      have e2 := ev_who hx ⟨H, none⟩
      have e3 := ev_ticket hx ⟨H, none⟩
      have e4 := ev_who hy ⟨H, none⟩
      have e5 := ev_ticket hy ⟨H, none⟩
      cases hb : asksB x y with
      | true =>
        have hfound : askedI l at_ = (i : Int) := by
          unfold askedI
          rw [hy]
          simp only [findIdx_take (fun x => asksB x y) l at_ i ho (fun z hz => by rw [hx] at hz; simp at hz; subst hz; exact hb) hi hil]
        refine .inl ⟨_, ?_, .inr rfl⟩
        simp only [asksB, Bool.and_eq_true, decide_eq_true_eq] at hb
        obtain ⟨⟨h1, h2⟩, h3⟩ := hb
        simp only [twainref36_asked.loop2s, twainref36_asked.loop2, twainref36_asked.j1, Option.bind_some, Option.map_some, bcase_true, bcase_false, List.getD_cons_zero, List.getD_cons_succ, bin_add, bin_sub, bin_mul, bin_eql, bin_neq, bin_lss, bin_leq, bin_gtr, bin_geq, un_not, pick_bool, decide_true, decide_false, Bool.not_true, Bool.not_false, joinEsc_none, oneOf_one, ext20, ext21, ext30, ext31, ext32, if_true, box_lit, box_int, box_bool, box_slice, box_map, box_ptr, box_tSl, store_lit, store_int, store_bool, store_slice, store_map, store_ptr, store_tSl, load_one, load_agg, app_cons2, List.cons_append, List.nil_append, len_app, List.length_cons, List.length_nil, Nat.zero_add, Nat.add_zero, Nat.reduceAdd, Nat.reduceLeDiff, Nat.le_refl, cellAt_app0, cellAt_app, cellsAt_app0, cellsAt_app, storeL_own0, storeL_own, cellAt_z, cellAt_s, cellsAt_z, cellsAt_s, putB_z, putB_s, List.getElem?_cons_zero, List.getElem?_cons_succ, List.drop_zero, List.drop_succ_cons, List.take_zero, List.take_succ_cons, allCells_cons, allCells_nil, cellV_int, cellV_bool, cellV_string, cellV_ptr, cellV_slice, cellV_map, cellV_func, cellV_nilFunc, cellV_tSl, Bool.and_self, Bool.and_true, Bool.true_and, and_self, true_and, and_true, Bool.false_eq_true, if_false, lrefs_nil, lrefs_cons, vrefs_bool, vrefs_int, vrefs_string, vrefs_ptr, vrefs_ptr0, vrefs_slice, vrefs_slice0, vrefs_map, vrefs_tSl, vrefs_tPtr, vrefs_agg, escOf_nil, Int.reduceEq, Int.reduceLT, Int.reduceLE, putCells_one0, putCells_succ, max_int, min_int, hi', hix, hixa, ft_twainref34_Event_0, ft_twainref34_Event_1, ft_twainref34_Event_2, e1, e2, e3, e4, e5, h1, h2, h3, hfound]
      | false =>
        refine .inr ⟨([tSl l.length (evR l), .int .i64 at_, .int .i64 ((i + 1 : Nat) : Int)], ⟨H, none⟩), (), ?_, gc_nil (by simp [evR_refs]), fun j z hj hz => ?_⟩
        · have hcase : x.kind ≠ 0 ∨ (x.kind = 0 ∧ x.who ≠ y.who) ∨ (x.kind = 0 ∧ x.who = y.who ∧ x.ticket ≠ y.ticket) := by
            simp only [asksB, Bool.and_eq_false_iff, decide_eq_false_iff_not] at hb
            by_cases h1 : x.kind = 0 <;> by_cases h2 : x.who = y.who <;> simp_all
          rcases hcase with h1 | ⟨h1, h2⟩ | ⟨h1, h2, h3⟩
          · simp only [twainref36_asked.loop2s, twainref36_asked.loop2, twainref36_asked.j1, twainref36_asked.j2, Option.bind_some, Option.map_some, bcase_true, bcase_false, List.getD_cons_zero, List.getD_cons_succ, bin_add, bin_sub, bin_mul, bin_eql, bin_neq, bin_lss, bin_leq, bin_gtr, bin_geq, un_not, pick_bool, decide_true, decide_false, Bool.not_true, Bool.not_false, joinEsc_none, oneOf_one, ext20, ext21, ext30, ext31, ext32, if_true, box_lit, box_int, box_bool, box_slice, box_map, box_ptr, box_tSl, store_lit, store_int, store_bool, store_slice, store_map, store_ptr, store_tSl, load_one, load_agg, app_cons2, List.cons_append, List.nil_append, len_app, List.length_cons, List.length_nil, Nat.zero_add, Nat.add_zero, Nat.reduceAdd, Nat.reduceLeDiff, Nat.le_refl, cellAt_app0, cellAt_app, cellsAt_app0, cellsAt_app, storeL_own0, storeL_own, cellAt_z, cellAt_s, cellsAt_z, cellsAt_s, putB_z, putB_s, List.getElem?_cons_zero, List.getElem?_cons_succ, List.drop_zero, List.drop_succ_cons, List.take_zero, List.take_succ_cons, allCells_cons, allCells_nil, cellV_int, cellV_bool, cellV_string, cellV_ptr, cellV_slice, cellV_map, cellV_func, cellV_nilFunc, cellV_tSl, Bool.and_self, Bool.and_true, Bool.true_and, and_self, true_and, and_true, Bool.false_eq_true, if_false, lrefs_nil, lrefs_cons, vrefs_bool, vrefs_int, vrefs_string, vrefs_ptr, vrefs_ptr0, vrefs_slice, vrefs_slice0, vrefs_map, vrefs_tSl, vrefs_tPtr, vrefs_agg, escOf_nil, Int.reduceEq, Int.reduceLT, Int.reduceLE, putCells_one0, putCells_succ, max_int, min_int, hi', hix, hixa, ft_twainref34_Event_0, ft_twainref34_Event_1, ft_twainref34_Event_2, e1, e2, e3, e4, e5, h1, hw]
          · simp only [twainref36_asked.loop2s, twainref36_asked.loop2, twainref36_asked.j1, twainref36_asked.j2, Option.bind_some, Option.map_some, bcase_true, bcase_false, List.getD_cons_zero, List.getD_cons_succ, bin_add, bin_sub, bin_mul, bin_eql, bin_neq, bin_lss, bin_leq, bin_gtr, bin_geq, un_not, pick_bool, decide_true, decide_false, Bool.not_true, Bool.not_false, joinEsc_none, oneOf_one, ext20, ext21, ext30, ext31, ext32, if_true, box_lit, box_int, box_bool, box_slice, box_map, box_ptr, box_tSl, store_lit, store_int, store_bool, store_slice, store_map, store_ptr, store_tSl, load_one, load_agg, app_cons2, List.cons_append, List.nil_append, len_app, List.length_cons, List.length_nil, Nat.zero_add, Nat.add_zero, Nat.reduceAdd, Nat.reduceLeDiff, Nat.le_refl, cellAt_app0, cellAt_app, cellsAt_app0, cellsAt_app, storeL_own0, storeL_own, cellAt_z, cellAt_s, cellsAt_z, cellsAt_s, putB_z, putB_s, List.getElem?_cons_zero, List.getElem?_cons_succ, List.drop_zero, List.drop_succ_cons, List.take_zero, List.take_succ_cons, allCells_cons, allCells_nil, cellV_int, cellV_bool, cellV_string, cellV_ptr, cellV_slice, cellV_map, cellV_func, cellV_nilFunc, cellV_tSl, Bool.and_self, Bool.and_true, Bool.true_and, and_self, true_and, and_true, Bool.false_eq_true, if_false, lrefs_nil, lrefs_cons, vrefs_bool, vrefs_int, vrefs_string, vrefs_ptr, vrefs_ptr0, vrefs_slice, vrefs_slice0, vrefs_map, vrefs_tSl, vrefs_tPtr, vrefs_agg, escOf_nil, Int.reduceEq, Int.reduceLT, Int.reduceLE, putCells_one0, putCells_succ, max_int, min_int, hi', hix, hixa, ft_twainref34_Event_0, ft_twainref34_Event_1, ft_twainref34_Event_2, e1, e2, e3, e4, e5, h1, h2, hw]
          · simp only [twainref36_asked.loop2s, twainref36_asked.loop2, twainref36_asked.j1, twainref36_asked.j2, Option.bind_some, Option.map_some, bcase_true, bcase_false, List.getD_cons_zero, List.getD_cons_succ, bin_add, bin_sub, bin_mul, bin_eql, bin_neq, bin_lss, bin_leq, bin_gtr, bin_geq, un_not, pick_bool, decide_true, decide_false, Bool.not_true, Bool.not_false, joinEsc_none, oneOf_one, ext20, ext21, ext30, ext31, ext32, if_true, box_lit, box_int, box_bool, box_slice, box_map, box_ptr, box_tSl, store_lit, store_int, store_bool, store_slice, store_map, store_ptr, store_tSl, load_one, load_agg, app_cons2, List.cons_append, List.nil_append, len_app, List.length_cons, List.length_nil, Nat.zero_add, Nat.add_zero, Nat.reduceAdd, Nat.reduceLeDiff, Nat.le_refl, cellAt_app0, cellAt_app, cellsAt_app0, cellsAt_app, storeL_own0, storeL_own, cellAt_z, cellAt_s, cellsAt_z, cellsAt_s, putB_z, putB_s, List.getElem?_cons_zero, List.getElem?_cons_succ, List.drop_zero, List.drop_succ_cons, List.take_zero, List.take_succ_cons, allCells_cons, allCells_nil, cellV_int, cellV_bool, cellV_string, cellV_ptr, cellV_slice, cellV_map, cellV_func, cellV_nilFunc, cellV_tSl, Bool.and_self, Bool.and_true, Bool.true_and, and_self, true_and, and_true, Bool.false_eq_true, if_false, lrefs_nil, lrefs_cons, vrefs_bool, vrefs_int, vrefs_string, vrefs_ptr, vrefs_ptr0, vrefs_slice, vrefs_slice0, vrefs_map, vrefs_tSl, vrefs_tPtr, vrefs_agg, escOf_nil, Int.reduceEq, Int.reduceLT, Int.reduceLE, putCells_one0, putCells_succ, max_int, min_int, hi', hix, hixa, ft_twainref34_Event_0, ft_twainref34_Event_1, ft_twainref34_Event_2, e1, e2, e3, e4, e5, h1, h2, h3, hw]
        · by_cases hji : j = i
          · subst hji; rw [hx] at hz; simp at hz; subst hz; exact hb
          · exact ho j z (by omega) hz)
    (fun _ ho => ⟨_, by simp only [twainref36_asked.loop2s, twainref36_asked.loop2, Option.bind_some, Option.map_some, bcase_true, bcase_false, List.getD_cons_zero, List.getD_cons_succ, bin_add, bin_sub, bin_mul, bin_eql, bin_neq, bin_lss, bin_leq, bin_gtr, bin_geq, un_not, pick_bool, decide_true, decide_false, Bool.not_true, Bool.not_false, joinEsc_none, oneOf_one, ext20, ext21, ext30, ext31, ext32, if_true, box_lit, box_int, box_bool, box_slice, box_map, box_ptr, box_tSl, store_lit, store_int, store_bool, store_slice, store_map, store_ptr, store_tSl, load_one, load_agg, app_cons2, List.cons_append, List.nil_append, len_app, List.length_cons, List.length_nil, Nat.zero_add, Nat.add_zero, Nat.reduceAdd, Nat.reduceLeDiff, Nat.le_refl, cellAt_app0, cellAt_app, cellsAt_app0, cellsAt_app, storeL_own0, storeL_own, cellAt_z, cellAt_s, cellsAt_z, cellsAt_s, putB_z, putB_s, List.getElem?_cons_zero, List.getElem?_cons_succ, List.drop_zero, List.drop_succ_cons, List.take_zero, List.take_succ_cons, allCells_cons, allCells_nil, cellV_int, cellV_bool, cellV_string, cellV_ptr, cellV_slice, cellV_map, cellV_func, cellV_nilFunc, cellV_tSl, Bool.and_self, Bool.and_true, Bool.true_and, and_self, true_and, and_true, Bool.false_eq_true, if_false, lrefs_nil, lrefs_cons, vrefs_bool, vrefs_int, vrefs_string, vrefs_ptr, vrefs_ptr0, vrefs_slice, vrefs_slice0, vrefs_map, vrefs_tSl, vrefs_tPtr, vrefs_agg, escOf_nil, Int.reduceEq, Int.reduceLT, Int.reduceLE, putCells_one0, putCells_succ, max_int, min_int, Int.lt_irrefl], .inl ⟨rfl, by
      unfold askedI
      rw [hy]
      simp only [findIdx_none (fun x => asksB x y) l at_ ho]⟩⟩)
    at_ 0 () ([tSl l.length (evR l), .int .i64 at_, .int .i64 0], ⟨H, none⟩) (by omega) (fun j x hj => by omega) (gc_nil (by simp [evR_refs]))
  rw [acall_eq, twainref36_asked.eq]
  rcases hr with ⟨rfl, h⟩ | rfl
  · simp only [twainref36_asked.sh, hlp, Option.bind_some, Option.map_some, bcase_true, bcase_false, List.getD_cons_zero, List.getD_cons_succ, bin_add, bin_sub, bin_mul, bin_eql, bin_neq, bin_lss, bin_leq, bin_gtr, bin_geq, un_not, pick_bool, decide_true, decide_false, Bool.not_true, Bool.not_false, joinEsc_none, oneOf_one, ext20, ext21, ext30, ext31, ext32, if_true, box_lit, box_int, box_bool, box_slice, box_map, box_ptr, box_tSl, store_lit, store_int, store_bool, store_slice, store_map, store_ptr, store_tSl, load_one, load_agg, app_cons2, List.cons_append, List.nil_append, len_app, List.length_cons, List.length_nil, Nat.zero_add, Nat.add_zero, Nat.reduceAdd, Nat.reduceLeDiff, Nat.le_refl, cellAt_app0, cellAt_app, cellsAt_app0, cellsAt_app, storeL_own0, storeL_own, cellAt_z, cellAt_s, cellsAt_z, cellsAt_s, putB_z, putB_s, List.getElem?_cons_zero, List.getElem?_cons_succ, List.drop_zero, List.drop_succ_cons, List.take_zero, List.take_succ_cons, allCells_cons, allCells_nil, cellV_int, cellV_bool, cellV_string, cellV_ptr, cellV_slice, cellV_map, cellV_func, cellV_nilFunc, cellV_tSl, Bool.and_self, Bool.and_true, Bool.true_and, and_self, true_and, and_true, Bool.false_eq_true, if_false, lrefs_nil, lrefs_cons, vrefs_bool, vrefs_int, vrefs_string, vrefs_ptr, vrefs_ptr0, vrefs_slice, vrefs_slice0, vrefs_map, vrefs_tSl, vrefs_tPtr, vrefs_agg, escOf_nil, Int.reduceEq, Int.reduceLT, Int.reduceLE, putCells_one0, putCells_succ, max_int, min_int, twainref36_asked.j4, h]
    exact fin_lit0 rfl rfl
  · simp only [twainref36_asked.sh, hlp, Option.bind_some, Option.map_some, bcase_true, bcase_false, List.getD_cons_zero, List.getD_cons_succ, bin_add, bin_sub, bin_mul, bin_eql, bin_neq, bin_lss, bin_leq, bin_gtr, bin_geq, un_not, pick_bool, decide_true, decide_false, Bool.not_true, Bool.not_false, joinEsc_none, oneOf_one, ext20, ext21, ext30, ext31, ext32, if_true, box_lit, box_int, box_bool, box_slice, box_map, box_ptr, box_tSl, store_lit, store_int, store_bool, store_slice, store_map, store_ptr, store_tSl, load_one, load_agg, app_cons2, List.cons_append, List.nil_append, len_app, List.length_cons, List.length_nil, Nat.zero_add, Nat.add_zero, Nat.reduceAdd, Nat.reduceLeDiff, Nat.le_refl, cellAt_app0, cellAt_app, cellsAt_app0, cellsAt_app, storeL_own0, storeL_own, cellAt_z, cellAt_s, cellsAt_z, cellsAt_s, putB_z, putB_s, List.getElem?_cons_zero, List.getElem?_cons_succ, List.drop_zero, List.drop_succ_cons, List.take_zero, List.take_succ_cons, allCells_cons, allCells_nil, cellV_int, cellV_bool, cellV_string, cellV_ptr, cellV_slice, cellV_map, cellV_func, cellV_nilFunc, cellV_tSl, Bool.and_self, Bool.and_true, Bool.true_and, and_self, true_and, and_true, Bool.false_eq_true, if_false, lrefs_nil, lrefs_cons, vrefs_bool, vrefs_int, vrefs_string, vrefs_ptr, vrefs_ptr0, vrefs_slice, vrefs_slice0, vrefs_map, vrefs_tSl, vrefs_tPtr, vrefs_agg, escOf_nil, Int.reduceEq, Int.reduceLT, Int.reduceLE, putCells_one0, putCells_succ, max_int, min_int]
    exact fin_lit0 rfl rfl

end
end Go.Proofs.Ytfinilnkempofaa
