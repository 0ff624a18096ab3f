/- What is open, as the program says it; what is odd, as the document says it. -/
import Derived.Test.YtfinilnkempofaaHistOpen
set_option linter.all false
set_option linter.unusedVariables false
set_option linter.unusedSimpArgs false
set_option linter.unnecessarySimpa false
namespace Go.Proofs.Ytfinilnkempofaa
open Go Go.Am

/-- the blocks of the loop: the row, the pairs, their maps -/
def blkP (n0 : Nat) (A : List Int) (s : PS) : List Blk := match A with
  | [] => [.cells [.map (some (n0 + 1)), .map (some (n0 + 2)), .bool s.odd] t_history_pairs true, mapA s, mapE s]
  | a :: tl => [.cells (ints (a :: tl)) t_int true, .cells [.map (some (n0 + 2)), .map (some (n0 + 3)), .bool s.odd] t_history_pairs true, mapA s, mapE s]
def ptrP (n0 : Nat) (A : List Int) : Value := match A with
  | [] => .pointer (some ⟨n0, 0, none⟩)
  | _ :: _ => .pointer (some ⟨n0 + 1, 0, none⟩)

/-- is event n asked, and not ended, by the pairs? -/
def pOpenB (l : List Ev) (n : Nat) : Bool := match l[n]? with
  | some x => decide (x.kind = 0) && decide (toI (pairS l l.length) n = -1)
  | none => false

section
variable {l : List Ev} {H : List Blk}

def oFr (n0 : Nat) (l : List Ev) (A : List Int) (n : Nat) : List Value := [rowO n0 A, ptrP n0 A, tSl l.length (evR l), .int .i64 l.length, .int .i64 n]

theorem open_gc (A : List Int) (s : PS) (n : Nat) (x : Ev) : gc H.length (oFr H.length l A n) ⟨H ++ (blkP H.length A s ++ [.cells (evc x) t_world_Event true]), none⟩ = (oFr H.length l A n, ⟨H ++ blkP H.length A s, none⟩) := by
  cases A with
  | nil => exact gc_own [[1, 2], [], [], []] [0] [0, 1, 2] rfl rfl (by simp [oFr, rowO, ptrP, evR_refs]) (by simp [blkP, blkRefs_cells, evc_refs, mapA_refs, mapE_refs]) (by simp [oFr, rowO, ptrP, lren, vren, rn_own, rn_own0, findIx, vren_none, evR_refs]) (by simp [blkP, renBlk_cells, lren, vren, rn_own, rn_own0, findIx, mapA_ren, mapE_ren])
  | cons a tl => exact gc_own [[], [2, 3], [], [], []] [0, 1] [0, 1, 2, 3] rfl rfl (by simp [oFr, rowO, ptrP, evR_refs]) (by simp [blkP, blkRefs_cells, evc_refs, mapA_refs, mapE_refs, ints_refs]) (by simp [oFr, rowO, ptrP, lren, vren, rn_own, rn_own0, findIx, vren_none, evR_refs]) (by simp [blkP, renBlk_cells, lren, vren, rn_own, rn_own0, findIx, mapA_ren, mapE_ren, lren_none, ints_refs])

theorem open_gc2 (A : List Int) (s : PS) (n : Nat) (x : Ev) (v : Int) : gc H.length [.slice (some ⟨H.length + ((blkP H.length A s).length + 2), 0, none⟩) (A.length + 1) UNK, ptrP H.length A, tSl l.length (evR l), .int .i64 l.length, .int .i64 n] ⟨H ++ ((match A with | [] => blkP H.length A s | _ :: _ => (blkP H.length A s).set 0 .dead) ++ [.cells (evc x) t_world_Event true, .cells [.int .i64 v] t_int true, .cells (ints (A ++ [v])) t_int true]), none⟩ = (oFr H.length l (A ++ [v]) n, ⟨H ++ blkP H.length (A ++ [v]) s, none⟩) := by
  cases A with
  | nil => exact gc_own [[1, 2], [], [], [], [], []] [5, 0] [5, 0, 1, 2] rfl rfl (by simp [blkP, ptrP, evR_refs]) (by simp [blkP, blkRefs_cells, evc_refs, mapA_refs, mapE_refs]) (by simp [oFr, blkP, rowO, ptrP, lren, vren, rn_own, rn_own0, findIx, vren_none, evR_refs]) (by simp [blkP, renBlk_cells, lren, vren, rn_own, rn_own0, findIx, mapA_ren, mapE_ren])
  | cons a tl => exact gc_own [[], [2, 3], [], [], [], [], []] [6, 1] [6, 1, 2, 3] rfl rfl (by simp [blkP, ptrP, evR_refs]) (by simp [blkP, blkRefs_cells, blkRefs_dead, evc_refs, mapA_refs, mapE_refs, ints_refs]) (by simp [oFr, blkP, rowO, ptrP, lren, vren, rn_own, rn_own0, findIx, vren_none, evR_refs]) (by simp [blkP, renBlk_cells, lren, vren, rn_own, rn_own0, findIx, mapA_ren, mapE_ren, lren_none, ints_refs])

theorem open_step (hl : OkEvs l) (hm : l.length < 60000) {n : Nat} (hn : n < l.length) {x : Ev} (hx : l[n]? = some x) {A : List Int} (hlen : A.length ≤ n) : ∃ vs st,
    history_Open.loop4s (acall PP TT) loopG H.length (oFr H.length l A n, ⟨H ++ blkP H.length A (pairS l l.length), none⟩) = some (.inl (vs, st)) ∧
      gc H.length vs st = (oFr H.length l (if pOpenB l n = true then A ++ [(n : Int)] else A) (n + 1), ⟨H ++ blkP H.length (if pOpenB l n = true then A ++ [(n : Int)] else A) (pairS l l.length), none⟩) := by
  have hn' : ((n : Int) < (l.length : Int)) := by omega
  have hix := ix_wld hn
  have hld := fun st => ev_load hx st
  have hw := wrap_succ (n := n) (by omega)
  have hk0 : (evc x)[0]? = some (.int .i64 x.kind) := by simp [evc]
  have hs := pairS_ok hl l.length (Nat.le_refl _)
  have hob : pOpenB l n = (decide (x.kind = 0) && decide (toI (pairS l l.length) n = -1)) := by simp [pOpenB, hx]
  have hp0 := fun (L : List Blk) (o : Bool) (hb : L[2]? = some (mapE (pairS l l.length))) => pto_ok (a := H.length + 1) (b := H.length + 2) (o := o) (H1 := H ++ L) hs (by omega) (show n < 1000000 by omega) (by rw [get_app]; exact hb)
  have hp1 := fun (L : List Blk) (o : Bool) (hb : L[3]? = some (mapE (pairS l l.length))) => pto_ok (a := H.length + 2) (b := H.length + 3) (o := o) (H1 := H ++ L) hs (by omega) (show n < 1000000 by omega) (by rw [get_app]; exact hb)
  generalize pairS l l.length = s at hob hp0 hp1
  cases hb : pOpenB l n with
  | true =>
    rw [hob, Bool.and_eq_true, decide_eq_true_eq, decide_eq_true_eq] at hb
    obtain ⟨h1, h2⟩ := hb
    simp only [if_true]
    refine ⟨_, _, ?_, open_gc2 A s (n + 1) x n⟩
    cases A with
    | nil => simp only [history_Open.loop4s, history_Open.loop4, history_Open.j1, history_Open.j2, oFr, rowO, ptrP, blkP, Option.bind_some, Option.map_some, bcase_true, bcase_false, List.getD_cons_zero, List.getD_cons_succ, bin_add, bin_sub, bin_mul, bin_eql, bin_neq, bin_lss, bin_leq, bin_gtr, bin_geq, un_not, pick_bool, decide_true, decide_false, Bool.not_true, Bool.not_false, joinEsc_none, oneOf_one, ext20, ext21, ext30, ext31, ext32, if_true, box_lit, box_int, box_bool, box_slice, box_map, box_ptr, box_tSl, store_lit, store_int, store_bool, store_slice, store_map, store_ptr, store_tSl, load_one, load_agg, app_cons2, List.cons_append, List.nil_append, len_app, List.length_cons, List.length_nil, Nat.zero_add, Nat.add_zero, Nat.reduceAdd, Nat.reduceLeDiff, Nat.le_refl, cellAt_app0, cellAt_app, cellsAt_app0, cellsAt_app, storeL_own0, storeL_own, cellAt_z, cellAt_s, cellsAt_z, cellsAt_s, putB_z, putB_s, List.getElem?_cons_zero, List.getElem?_cons_succ, List.drop_zero, List.drop_succ_cons, List.take_zero, List.take_succ_cons, allCells_cons, allCells_nil, cellV_int, cellV_bool, cellV_string, cellV_ptr, cellV_slice, cellV_map, cellV_func, cellV_nilFunc, cellV_tSl, Bool.and_self, Bool.and_true, Bool.true_and, and_self, true_and, and_true, Bool.false_eq_true, if_false, lrefs_nil, lrefs_cons, vrefs_bool, vrefs_int, vrefs_string, vrefs_ptr, vrefs_ptr0, vrefs_slice, vrefs_slice0, vrefs_map, vrefs_tSl, vrefs_tPtr, vrefs_agg, escOf_nil, Int.reduceEq, Int.reduceLT, Int.reduceLE, putCells_one0, putCells_succ, max_int, min_int, hn', hix, hld, zg_world_Event, zl_world_Event, za_world_Event, evc_len, evc_cells, evc_refs, putCells_all, hk0, fa_world_Event_0, hp0, h1, h2, push_int_nil, hw, List.append_nil, List.map_cons, List.map_nil]
    | cons a tl =>
      have hpi := fun (L : List Blk) (e : Option Nat) (v : Int) (R : Type) (F : Value → AS → Option R) (hk : L[0]? = some (.cells (ints (a :: tl)) t_int true)) => push_int (H := H) (A := a :: tl) (by omega) (e := e) (v := v) (F := F) hk
      simp only [List.length_cons, List.map_cons] at hpi
      simp only [history_Open.loop4s, history_Open.loop4, history_Open.j1, history_Open.j2, oFr, rowO, ptrP, blkP, Option.bind_some, Option.map_some, bcase_true, bcase_false, List.getD_cons_zero, List.getD_cons_succ, bin_add, bin_sub, bin_mul, bin_eql, bin_neq, bin_lss, bin_leq, bin_gtr, bin_geq, un_not, pick_bool, decide_true, decide_false, Bool.not_true, Bool.not_false, joinEsc_none, oneOf_one, ext20, ext21, ext30, ext31, ext32, if_true, box_lit, box_int, box_bool, box_slice, box_map, box_ptr, box_tSl, store_lit, store_int, store_bool, store_slice, store_map, store_ptr, store_tSl, load_one, load_agg, app_cons2, List.cons_append, List.nil_append, len_app, List.length_cons, List.length_nil, Nat.zero_add, Nat.add_zero, Nat.reduceAdd, Nat.reduceLeDiff, Nat.le_refl, cellAt_app0, cellAt_app, cellsAt_app0, cellsAt_app, storeL_own0, storeL_own, cellAt_z, cellAt_s, cellsAt_z, cellsAt_s, putB_z, putB_s, List.getElem?_cons_zero, List.getElem?_cons_succ, List.drop_zero, List.drop_succ_cons, List.take_zero, List.take_succ_cons, allCells_cons, allCells_nil, cellV_int, cellV_bool, cellV_string, cellV_ptr, cellV_slice, cellV_map, cellV_func, cellV_nilFunc, cellV_tSl, Bool.and_self, Bool.and_true, Bool.true_and, and_self, true_and, and_true, Bool.false_eq_true, if_false, lrefs_nil, lrefs_cons, vrefs_bool, vrefs_int, vrefs_string, vrefs_ptr, vrefs_ptr0, vrefs_slice, vrefs_slice0, vrefs_map, vrefs_tSl, vrefs_tPtr, vrefs_agg, escOf_nil, Int.reduceEq, Int.reduceLT, Int.reduceLE, putCells_one0, putCells_succ, max_int, min_int, hn', hix, hld, zg_world_Event, zl_world_Event, za_world_Event, evc_len, evc_cells, evc_refs, putCells_all, hk0, fa_world_Event_0, hp1, h1, h2, hpi, hw, List.append_nil, List.set_cons_zero, List.map_append, List.map_cons, List.map_nil]
  | false =>
    simp only [Bool.false_eq_true, if_false]
    refine ⟨_, _, ?_, open_gc A s (n + 1) x⟩
    rw [hob, Bool.and_eq_false_iff, decide_eq_false_iff_not, decide_eq_false_iff_not] at hb
    by_cases h1 : x.kind = 0
    · have h2 : ¬ toI s n = -1 := by
        rcases hb with hb | hb
        · exact absurd h1 hb
        · exact hb
      cases A <;> simp only [history_Open.loop4s, history_Open.loop4, history_Open.j1, history_Open.j2, oFr, rowO, ptrP, blkP, Option.bind_some, Option.map_some, bcase_true, bcase_false, List.getD_cons_zero, List.getD_cons_succ, bin_add, bin_sub, bin_mul, bin_eql, bin_neq, bin_lss, bin_leq, bin_gtr, bin_geq, un_not, pick_bool, decide_true, decide_false, Bool.not_true, Bool.not_false, joinEsc_none, oneOf_one, ext20, ext21, ext30, ext31, ext32, if_true, box_lit, box_int, box_bool, box_slice, box_map, box_ptr, box_tSl, store_lit, store_int, store_bool, store_slice, store_map, store_ptr, store_tSl, load_one, load_agg, app_cons2, List.cons_append, List.nil_append, len_app, List.length_cons, List.length_nil, Nat.zero_add, Nat.add_zero, Nat.reduceAdd, Nat.reduceLeDiff, Nat.le_refl, cellAt_app0, cellAt_app, cellsAt_app0, cellsAt_app, storeL_own0, storeL_own, cellAt_z, cellAt_s, cellsAt_z, cellsAt_s, putB_z, putB_s, List.getElem?_cons_zero, List.getElem?_cons_succ, List.drop_zero, List.drop_succ_cons, List.take_zero, List.take_succ_cons, allCells_cons, allCells_nil, cellV_int, cellV_bool, cellV_string, cellV_ptr, cellV_slice, cellV_map, cellV_func, cellV_nilFunc, cellV_tSl, Bool.and_self, Bool.and_true, Bool.true_and, and_self, true_and, and_true, Bool.false_eq_true, if_false, lrefs_nil, lrefs_cons, vrefs_bool, vrefs_int, vrefs_string, vrefs_ptr, vrefs_ptr0, vrefs_slice, vrefs_slice0, vrefs_map, vrefs_tSl, vrefs_tPtr, vrefs_agg, escOf_nil, Int.reduceEq, Int.reduceLT, Int.reduceLE, putCells_one0, putCells_succ, max_int, min_int, hn', hix, hld, zg_world_Event, zl_world_Event, za_world_Event, evc_len, evc_cells, evc_refs, putCells_all, hk0, fa_world_Event_0, hp0, hp1, h1, h2, hw]
    · cases A <;> simp only [history_Open.loop4s, history_Open.loop4, history_Open.j1, history_Open.j2, oFr, rowO, ptrP, blkP, Option.bind_some, Option.map_some, bcase_true, bcase_false, List.getD_cons_zero, List.getD_cons_succ, bin_add, bin_sub, bin_mul, bin_eql, bin_neq, bin_lss, bin_leq, bin_gtr, bin_geq, un_not, pick_bool, decide_true, decide_false, Bool.not_true, Bool.not_false, joinEsc_none, oneOf_one, ext20, ext21, ext30, ext31, ext32, if_true, box_lit, box_int, box_bool, box_slice, box_map, box_ptr, box_tSl, store_lit, store_int, store_bool, store_slice, store_map, store_ptr, store_tSl, load_one, load_agg, app_cons2, List.cons_append, List.nil_append, len_app, List.length_cons, List.length_nil, Nat.zero_add, Nat.add_zero, Nat.reduceAdd, Nat.reduceLeDiff, Nat.le_refl, cellAt_app0, cellAt_app, cellsAt_app0, cellsAt_app, storeL_own0, storeL_own, cellAt_z, cellAt_s, cellsAt_z, cellsAt_s, putB_z, putB_s, List.getElem?_cons_zero, List.getElem?_cons_succ, List.drop_zero, List.drop_succ_cons, List.take_zero, List.take_succ_cons, allCells_cons, allCells_nil, cellV_int, cellV_bool, cellV_string, cellV_ptr, cellV_slice, cellV_map, cellV_func, cellV_nilFunc, cellV_tSl, Bool.and_self, Bool.and_true, Bool.true_and, and_self, true_and, and_true, Bool.false_eq_true, if_false, lrefs_nil, lrefs_cons, vrefs_bool, vrefs_int, vrefs_string, vrefs_ptr, vrefs_ptr0, vrefs_slice, vrefs_slice0, vrefs_map, vrefs_tSl, vrefs_tPtr, vrefs_agg, escOf_nil, Int.reduceEq, Int.reduceLT, Int.reduceLE, putCells_one0, putCells_succ, max_int, min_int, hn', hix, hld, zg_world_Event, zl_world_Event, za_world_Event, evc_len, evc_cells, evc_refs, putCells_all, hk0, fa_world_Event_0, h1, hw]

theorem open_ok (hl : OkEvs l) (hm : l.length < 60000) (H : List Blk) : acall PP TT n_history_Open [tSl l.length (evR l)] H = some (tSl (openL (pOpenB l) l.length).length (ints (openL (pOpenB l) l.length)), H, none) := by
  have hlast : ¬ ((l.length : Int) < (l.length : Int)) := Int.lt_irrefl _
  have hg0 : gc H.length [.slice none 0 0, .pointer (some ⟨H.length + 2, 0, none⟩), tSl l.length (evR l), .int .i64 l.length, .int .i64 0] ⟨H ++ [mapA (pairS l l.length), mapE (pairS l l.length), .cells [.map (some H.length), .map (some (H.length + 1)), .bool (pairS l l.length).odd] t_history_pairs true], none⟩ = (oFr H.length l [] 0, ⟨H ++ blkP H.length [] (pairS l l.length), none⟩) :=
    gc_own [[], [], [0, 1]] [2] [2, 0, 1] rfl rfl (by simp [evR_refs]) (by simp [blkRefs_cells, mapA_refs, mapE_refs]) (by simp [oFr, rowO, ptrP, lren, vren, rn_own, rn_own0, findIx, vren_none, evR_refs]) (by simp [blkP, renBlk_cells, lren, vren, rn_own, rn_own0, findIx, mapA_ren, mapE_ren])
  obtain ⟨r, hlp, hr⟩ := loop_r (n0 := H.length) (step := history_Open.loop4s (acall PP TT) loopG H.length) (len := l.length) (σ := Unit)
    (fun n _ => (oFr H.length l (openL (pOpenB l) n) n, ⟨H ++ blkP H.length (openL (pOpenB l) n) (pairS l l.length), none⟩))
    (fun _ _ => True) (fun r => r = (.exit 0, [rowO H.length (openL (pOpenB l) l.length)], ⟨H ++ blkP H.length (openL (pOpenB l) l.length) (pairS l l.length), none⟩))
    (fun n _ hn _ => by
      obtain ⟨x, hx⟩ : ∃ x, l[n]? = some x := ⟨_, List.getElem?_eq_getElem hn⟩
      obtain ⟨vs, st, h1, h2⟩ := open_step (H := H) hl hm hn hx (openL_len (pOpenB l) n)
      exact .inr ⟨vs, st, (), h1, h2, trivial⟩)
    (fun _ _ => ⟨_, by simp only [history_Open.loop4s, history_Open.loop4, oFr, Option.bind_some, Option.map_some, bcase_true, bcase_false, List.getD_cons_zero, List.getD_cons_succ, bin_add, bin_sub, bin_mul, bin_eql, bin_neq, bin_lss, bin_leq, bin_gtr, bin_geq, un_not, pick_bool, decide_true, decide_false, Bool.not_true, Bool.not_false, joinEsc_none, oneOf_one, ext20, ext21, ext30, ext31, ext32, if_true, box_lit, box_int, box_bool, box_slice, box_map, box_ptr, box_tSl, store_lit, store_int, store_bool, store_slice, store_map, store_ptr, store_tSl, load_one, load_agg, app_cons2, List.cons_append, List.nil_append, len_app, List.length_cons, List.length_nil, Nat.zero_add, Nat.add_zero, Nat.reduceAdd, Nat.reduceLeDiff, Nat.le_refl, cellAt_app0, cellAt_app, cellsAt_app0, cellsAt_app, storeL_own0, storeL_own, cellAt_z, cellAt_s, cellsAt_z, cellsAt_s, putB_z, putB_s, List.getElem?_cons_zero, List.getElem?_cons_succ, List.drop_zero, List.drop_succ_cons, List.take_zero, List.take_succ_cons, allCells_cons, allCells_nil, cellV_int, cellV_bool, cellV_string, cellV_ptr, cellV_slice, cellV_map, cellV_func, cellV_nilFunc, cellV_tSl, Bool.and_self, Bool.and_true, Bool.true_and, and_self, true_and, and_true, Bool.false_eq_true, if_false, lrefs_nil, lrefs_cons, vrefs_bool, vrefs_int, vrefs_string, vrefs_ptr, vrefs_ptr0, vrefs_slice, vrefs_slice0, vrefs_map, vrefs_tSl, vrefs_tPtr, vrefs_agg, escOf_nil, Int.reduceEq, Int.reduceLT, Int.reduceLE, putCells_one0, putCells_succ, max_int, min_int, hlast], rfl⟩)
    l.length 0 () _ _ (by omega) trivial hg0
  subst hr
  have hesc : escOf none (H.length + 2) [H.length, H.length + 1] = none := by
    simp only [escOf]
    rw [if_neg (by omega), if_neg (by omega)]
  rw [acall_eq, history_Open.eq]
  simp only [history_Open.sh, paired_ok hl (show l.length < 1000000 by omega), zg_history_pairs, z_history_pairs, ln_wld, Option.bind_some, Option.map_some, bcase_true, bcase_false, List.getD_cons_zero, List.getD_cons_succ, bin_add, bin_sub, bin_mul, bin_eql, bin_neq, bin_lss, bin_leq, bin_gtr, bin_geq, un_not, pick_bool, decide_true, decide_false, Bool.not_true, Bool.not_false, joinEsc_none, oneOf_one, ext20, ext21, ext30, ext31, ext32, if_true, box_lit, box_int, box_bool, box_slice, box_map, box_ptr, box_tSl, store_lit, store_int, store_bool, store_slice, store_map, store_ptr, store_tSl, load_one, load_agg, app_cons2, List.cons_append, List.nil_append, len_app, List.length_cons, List.length_nil, Nat.zero_add, Nat.add_zero, Nat.reduceAdd, Nat.reduceLeDiff, Nat.le_refl, cellAt_app0, cellAt_app, cellsAt_app0, cellsAt_app, storeL_own0, storeL_own, cellAt_z, cellAt_s, cellsAt_z, cellsAt_s, putB_z, putB_s, List.getElem?_cons_zero, List.getElem?_cons_succ, List.drop_zero, List.drop_succ_cons, List.take_zero, List.take_succ_cons, allCells_cons, allCells_nil, cellV_int, cellV_bool, cellV_string, cellV_ptr, cellV_slice, cellV_map, cellV_func, cellV_nilFunc, cellV_tSl, Bool.and_self, Bool.and_true, Bool.true_and, and_self, true_and, and_true, Bool.false_eq_true, if_false, lrefs_nil, lrefs_cons, vrefs_bool, vrefs_int, vrefs_string, vrefs_ptr, vrefs_ptr0, vrefs_slice, vrefs_slice0, vrefs_map, vrefs_tSl, vrefs_tPtr, vrefs_agg, escOf_nil, Int.reduceEq, Int.reduceLT, Int.reduceLE, putCells_one0, putCells_succ, max_int, min_int, putCells_all, hesc, hlp, history_Open.j4]
  generalize openL (pOpenB l) l.length = A
  cases A with
  | nil => exact fin_nil rfl
  | cons a tl => exact fin_row0 (sz := 1) rfl sz_int (by simp) (ints_flat _) (ints_refs _) rfl

end
end Go.Proofs.Ytfinilnkempofaa
