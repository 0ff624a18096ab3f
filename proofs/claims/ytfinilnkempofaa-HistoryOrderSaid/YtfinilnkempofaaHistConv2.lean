/- Rows turned into others of the same cells; rows alike. -/
import Derived.Test.YtfinilnkempofaaHistConv
set_option linter.all false
set_option linter.unusedVariables false
set_option linter.unusedSimpArgs false
set_option linter.unnecessarySimpa false
namespace Go.Proofs.Ytfinilnkempofaa
open Go Go.Am

theorem bsl_wev (x : Ev) (H : List Blk) (e : Option Nat) : bsl PP t_L_world_Event 1 [0] [.agg (evc x).toArray] ⟨H, e⟩ = some (.slice (some ⟨H.length, 0, none⟩) 1 1, ⟨H ++ [.cells (evc x) t_world_Event true], e⟩) := by
  unfold bsl
  have hfl : frzL (frz PP 0 8) [Value.agg (evc x).toArray] H = ([Value.agg (evc x).toArray], H) := frzL_flatV _ _ _ _ (by simp [flatV, evc_flat])
  simp only [hfl]
  refine Eq.trans (b := some (aRow t_world_Event (evc x) 1 1 ⟨H, e⟩)) ?_ rfl
  clear hfl
  kernel_rfl

theorem evR_snoc (l : List Ev) (x : Ev) : evR l ++ evc x = evR (l ++ [x]) := by simp [evR, evs]
theorem evR_flat (l : List Ev) : (evR l).all noSl = true := (evs_rows l).fflat
theorem evR_len (l : List Ev) : (evR l).length = l.length * 8 := by
  have := (evs_rows l).flen
  simpa [evR, evs_len] using this

section
variable {l : List Ev} {H : List Blk}

theorem push_ev_nil {L : List Blk} {e : Option Nat} {x : Ev} {R : Type} {F : Value → AS → Option R} :
    ((bsl PP t_L_world_Event 1 [0] [.agg (evc x).toArray] ⟨H ++ L, e⟩).bind fun q => eBuiltin PP .append #[t_L_world_Event, t_L_world_Event] [.slice none 0 0, q.1] q.2 F) = F (.slice (some ⟨H.length + (L.length + 1), 0, none⟩) 1 UNK) ⟨H ++ (L ++ [.cells (evc x) t_world_Event true, .cells (evc x) t_world_Event true]), e⟩ :=
  push_nil el_L_world_Event (evc_len x) (bsl_wev x)
theorem push_ev {A : List Ev} (hm : A.length ≤ 65535) {L : List Blk} {e : Option Nat} {x : Ev} {R : Type} {F : Value → AS → Option R} (hk : L[0]? = some (.cells (evR A) t_world_Event true)) :
    ((bsl PP t_L_world_Event 1 [0] [.agg (evc x).toArray] ⟨H ++ L, e⟩).bind fun q => eBuiltin PP .append #[t_L_world_Event, t_L_world_Event] [.slice (some ⟨H.length, 0, none⟩) A.length UNK, q.1] q.2 F) = F (.slice (some ⟨H.length + (L.length + 1), 0, none⟩) (A.length + 1) UNK) ⟨H ++ (L.set 0 .dead ++ [.cells (evc x) t_world_Event true, .cells (evR (A ++ [x])) t_world_Event true]), e⟩ := by
  rw [← evR_snoc]
  exact push_more0 el_L_world_Event (evc_len x) (bsl_wev x) hk (evR_len A) hm

def rowW (n0 : Nat) (A : List Ev) : Value := match A with | [] => .slice none 0 0 | _ :: tl => .slice (some ⟨n0, 0, none⟩) (tl.length + 1) UNK
def blkW (A : List Ev) : List Blk := match A with | [] => [] | a :: tl => [.cells (evR (a :: tl)) t_world_Event true]

theorem take_snoc {α : Type} {l : List α} {n : Nat} {x : α} (hx : l[n]? = some x) : l.take (n + 1) = l.take n ++ [x] := by
  rw [List.take_add_one, hx]; rfl

theorem raw_ok (hm : l.length < 60000) (H : List Blk) : acall PP TT n_twainlaw36_Raw [tSl l.length (evR l)] H = some (tSl l.length (evR l), H, none) := by
  have hlast : ¬ ((l.length : Int) < (l.length : Int)) := Int.lt_irrefl _
  obtain ⟨r, hlp, hr⟩ := loop_r (n0 := H.length) (step := twainlaw36_Raw.loop3s (acall PP TT) loopG H.length) (len := l.length) (σ := Unit)
    (fun n _ => ([rowW H.length (l.take n), tSl l.length (evR l), .int .i64 l.length, .int .i64 n], ⟨H ++ blkW (l.take n), none⟩))
    (fun _ _ => True) (fun r => r = (.exit 0, [rowW H.length l], ⟨H ++ blkW l, none⟩))
    (fun n _ hn _ => by
      obtain ⟨x, hx⟩ : ∃ x, l[n]? = some x := ⟨_, List.getElem?_eq_getElem hn⟩
      have hn' : ((n : Int) < (l.length : Int)) := by omega
      have hix := ix_ref hn
      have hld := fun st => ev_load hx st
      have hw := wrap_succ (n := n) (by omega)
      have htk : (evc x).take 8 = evc x := List.take_of_length_le (by simp [evc_len])
      have hlen : (l.take n).length ≤ 65535 := by simp; omega
      rw [take_snoc hx]
      generalize l.take n = A at hlen
      refine .inr ?_
      cases A with
      | nil =>
        refine ⟨[.slice (some ⟨H.length + 2, 0, none⟩) 1 UNK, tSl l.length (evR l), .int .i64 l.length, .int .i64 ((n + 1 : Nat) : Int)], ⟨H ++ [.cells (evc x) t_twainref34_Event true, .cells (evc x) t_world_Event true, .cells (evc x) t_world_Event true], none⟩, (), ?_, ?_, trivial⟩
        · simp only [twainlaw36_Raw.loop3s, twainlaw36_Raw.loop3, rowW, blkW, Option.bind_some, Option.map_some, bcase_true, bcase_false, List.getD_cons_zero, List.getD_cons_succ, bin_add, bin_sub, bin_mul, bin_eql, bin_neq, bin_lss, bin_leq, bin_gtr, bin_geq, un_not, pick_bool, decide_true, decide_false, Bool.not_true, Bool.not_false, joinEsc_none, oneOf_one, ext20, ext21, ext30, ext31, ext32, if_true, box_lit, box_int, box_bool, box_slice, box_map, box_ptr, box_tSl, store_lit, store_int, store_bool, store_slice, store_map, store_ptr, store_tSl, load_one, load_agg, app_cons2, List.cons_append, List.nil_append, len_app, List.length_cons, List.length_nil, Nat.zero_add, Nat.add_zero, Nat.reduceAdd, Nat.reduceLeDiff, Nat.le_refl, cellAt_app0, cellAt_app, cellsAt_app0, cellsAt_app, storeL_own0, storeL_own, cellAt_z, cellAt_s, cellsAt_z, cellsAt_s, putB_z, putB_s, List.getElem?_cons_zero, List.getElem?_cons_succ, List.drop_zero, List.drop_succ_cons, List.take_zero, List.take_succ_cons, allCells_cons, allCells_nil, cellV_int, cellV_bool, cellV_string, cellV_ptr, cellV_slice, cellV_map, cellV_func, cellV_nilFunc, cellV_tSl, Bool.and_self, Bool.and_true, Bool.true_and, and_self, true_and, and_true, Bool.false_eq_true, if_false, lrefs_nil, lrefs_cons, vrefs_bool, vrefs_int, vrefs_string, vrefs_ptr, vrefs_ptr0, vrefs_slice, vrefs_slice0, vrefs_map, vrefs_tSl, vrefs_tPtr, vrefs_agg, escOf_nil, Int.reduceEq, Int.reduceLT, Int.reduceLE, putCells_one0, putCells_succ, max_int, min_int, hn', hix, hld, zg_twainref34_Event, zl_twainref34_Event, za_twainref34_Event, evc_len, evc_cells, evc_refs, putCells_all, htk, push_ev_nil, hw, List.append_nil]
        · exact gc_own [[], [], []] [2] [2] rfl rfl (by simp [evR_refs]) (by simp [blkRefs_cells, evc_refs]) (by simp [rowW, lren, vren, rn_own, findIx, vren_none, evR_refs]) (by simp [blkW, renBlk_cells, lren_none, evc_refs, evR, evs])
      | cons a tl =>
        have hpn := fun (L : List Blk) (e : Option Nat) (R : Type) (F : Value → AS → Option R) (hk : L[0]? = some (.cells (evR (a :: tl)) t_world_Event true)) => push_ev (H := H) hlen (L := L) (e := e) (x := x) (F := F) hk
        simp only [List.length_cons] at hpn
        refine ⟨[.slice (some ⟨H.length + 3, 0, none⟩) (tl.length + 1 + 1) UNK, tSl l.length (evR l), .int .i64 l.length, .int .i64 ((n + 1 : Nat) : Int)], ⟨H ++ [.dead, .cells (evc x) t_twainref34_Event true, .cells (evc x) t_world_Event true, .cells (evR (a :: tl ++ [x])) t_world_Event true], none⟩, (), ?_, ?_, trivial⟩
        · simp only [twainlaw36_Raw.loop3s, twainlaw36_Raw.loop3, rowW, blkW, Option.bind_some, Option.map_some, bcase_true, bcase_false, List.getD_cons_zero, List.getD_cons_succ, bin_add, bin_sub, bin_mul, bin_eql, bin_neq, bin_lss, bin_leq, bin_gtr, bin_geq, un_not, pick_bool, decide_true, decide_false, Bool.not_true, Bool.not_false, joinEsc_none, oneOf_one, ext20, ext21, ext30, ext31, ext32, if_true, box_lit, box_int, box_bool, box_slice, box_map, box_ptr, box_tSl, store_lit, store_int, store_bool, store_slice, store_map, store_ptr, store_tSl, load_one, load_agg, app_cons2, List.cons_append, List.nil_append, len_app, List.length_cons, List.length_nil, Nat.zero_add, Nat.add_zero, Nat.reduceAdd, Nat.reduceLeDiff, Nat.le_refl, cellAt_app0, cellAt_app, cellsAt_app0, cellsAt_app, storeL_own0, storeL_own, cellAt_z, cellAt_s, cellsAt_z, cellsAt_s, putB_z, putB_s, List.getElem?_cons_zero, List.getElem?_cons_succ, List.drop_zero, List.drop_succ_cons, List.take_zero, List.take_succ_cons, allCells_cons, allCells_nil, cellV_int, cellV_bool, cellV_string, cellV_ptr, cellV_slice, cellV_map, cellV_func, cellV_nilFunc, cellV_tSl, Bool.and_self, Bool.and_true, Bool.true_and, and_self, true_and, and_true, Bool.false_eq_true, if_false, lrefs_nil, lrefs_cons, vrefs_bool, vrefs_int, vrefs_string, vrefs_ptr, vrefs_ptr0, vrefs_slice, vrefs_slice0, vrefs_map, vrefs_tSl, vrefs_tPtr, vrefs_agg, escOf_nil, Int.reduceEq, Int.reduceLT, Int.reduceLE, putCells_one0, putCells_succ, max_int, min_int, hn', hix, hld, zg_twainref34_Event, zl_twainref34_Event, za_twainref34_Event, evc_len, evc_cells, evc_refs, putCells_all, htk, hpn, hw, List.append_nil, List.set_cons_zero]
        · exact gc_own [[], [], [], []] [3] [3] rfl rfl (by simp [evR_refs]) (by simp [blkRefs_cells, blkRefs_dead, evc_refs, evR_refs]) (by simp [rowW, lren, vren, rn_own, findIx, vren_none, evR_refs]) (by simp [blkW, renBlk_cells, lren_none, evR_refs]))
    (fun _ _ => ⟨_, by simp only [twainlaw36_Raw.loop3s, twainlaw36_Raw.loop3, Option.bind_some, Option.map_some, bcase_true, bcase_false, List.getD_cons_zero, List.getD_cons_succ, bin_add, bin_sub, bin_mul, bin_eql, bin_neq, bin_lss, bin_leq, bin_gtr, bin_geq, un_not, pick_bool, decide_true, decide_false, Bool.not_true, Bool.not_false, joinEsc_none, oneOf_one, ext20, ext21, ext30, ext31, ext32, if_true, box_lit, box_int, box_bool, box_slice, box_map, box_ptr, box_tSl, store_lit, store_int, store_bool, store_slice, store_map, store_ptr, store_tSl, load_one, load_agg, app_cons2, List.cons_append, List.nil_append, len_app, List.length_cons, List.length_nil, Nat.zero_add, Nat.add_zero, Nat.reduceAdd, Nat.reduceLeDiff, Nat.le_refl, cellAt_app0, cellAt_app, cellsAt_app0, cellsAt_app, storeL_own0, storeL_own, cellAt_z, cellAt_s, cellsAt_z, cellsAt_s, putB_z, putB_s, List.getElem?_cons_zero, List.getElem?_cons_succ, List.drop_zero, List.drop_succ_cons, List.take_zero, List.take_succ_cons, allCells_cons, allCells_nil, cellV_int, cellV_bool, cellV_string, cellV_ptr, cellV_slice, cellV_map, cellV_func, cellV_nilFunc, cellV_tSl, Bool.and_self, Bool.and_true, Bool.true_and, and_self, true_and, and_true, Bool.false_eq_true, if_false, lrefs_nil, lrefs_cons, vrefs_bool, vrefs_int, vrefs_string, vrefs_ptr, vrefs_ptr0, vrefs_slice, vrefs_slice0, vrefs_map, vrefs_tSl, vrefs_tPtr, vrefs_agg, escOf_nil, Int.reduceEq, Int.reduceLT, Int.reduceLE, putCells_one0, putCells_succ, max_int, min_int, hlast, List.take_length], rfl⟩)
    l.length 0 () [.slice none 0 0, tSl l.length (evR l), .int .i64 l.length, .int .i64 0] ⟨H, none⟩ (by omega) trivial (by
      have := gc_nil (H := H) (vs := [.slice none 0 0, tSl l.length (evR l), .int .i64 l.length, .int .i64 0]) (by simp [evR_refs])
      simpa [rowW, blkW] using this)
  subst hr
  rw [acall_eq, twainlaw36_Raw.eq]
  simp only [twainlaw36_Raw.sh, ln_ref, Option.bind_some, Option.map_some, bcase_true, bcase_false, List.getD_cons_zero, List.getD_cons_succ, bin_add, bin_sub, bin_mul, bin_eql, bin_neq, bin_lss, bin_leq, bin_gtr, bin_geq, un_not, pick_bool, decide_true, decide_false, Bool.not_true, Bool.not_false, joinEsc_none, oneOf_one, ext20, ext21, ext30, ext31, ext32, if_true, box_lit, box_int, box_bool, box_slice, box_map, box_ptr, box_tSl, store_lit, store_int, store_bool, store_slice, store_map, store_ptr, store_tSl, load_one, load_agg, app_cons2, List.cons_append, List.nil_append, len_app, List.length_cons, List.length_nil, Nat.zero_add, Nat.add_zero, Nat.reduceAdd, Nat.reduceLeDiff, Nat.le_refl, cellAt_app0, cellAt_app, cellsAt_app0, cellsAt_app, storeL_own0, storeL_own, cellAt_z, cellAt_s, cellsAt_z, cellsAt_s, putB_z, putB_s, List.getElem?_cons_zero, List.getElem?_cons_succ, List.drop_zero, List.drop_succ_cons, List.take_zero, List.take_succ_cons, allCells_cons, allCells_nil, cellV_int, cellV_bool, cellV_string, cellV_ptr, cellV_slice, cellV_map, cellV_func, cellV_nilFunc, cellV_tSl, Bool.and_self, Bool.and_true, Bool.true_and, and_self, true_and, and_true, Bool.false_eq_true, if_false, lrefs_nil, lrefs_cons, vrefs_bool, vrefs_int, vrefs_string, vrefs_ptr, vrefs_ptr0, vrefs_slice, vrefs_slice0, vrefs_map, vrefs_tSl, vrefs_tPtr, vrefs_agg, escOf_nil, Int.reduceEq, Int.reduceLT, Int.reduceLE, putCells_one0, putCells_succ, max_int, min_int, hlp, twainlaw36_Raw.j2]
  cases l with
  | nil =>
    have := fin_nil (P := PP) (H0 := H) (l := []) (e := none) rfl
    simpa [rowW, blkW, evR, evs] using this
  | cons a tl => exact fin_row0 (sz := 8) rfl sz_world_Event (evR_len _) (evR_flat _) (evR_refs _) rfl

end

section
variable {A B : List Hop} {H : List Blk}

theorem ix_pop {k : Nat} (hk : k < A.length) : aIndexAddr PP t_L_history_Op (tSl A.length (hopR A)) (.int .i64 (k : Int)) = some (tPtr (k * 19) (hopR A).toArray) := tsl_index u_L_history_Op sz_history_Op hk
theorem ix_rop {k : Nat} (hk : k < A.length) : aIndexAddr PP t_L_twainref36_Op (tSl A.length (hopR A)) (.int .i64 (k : Int)) = some (tPtr (k * 19) (hopR A).toArray) := tsl_index u_L_twainref36_Op sz_twainref36_Op hk
theorem ln_pop (A : List Hop) (st : AS) : aLen PP t_L_history_Op (tSl A.length (hopR A)) st = some (.int .i64 A.length) := tsl_len u_L_history_Op
theorem ln_rop (A : List Hop) (st : AS) : aLen PP t_L_twainref36_Op (tSl A.length (hopR A)) st = some (.int .i64 A.length) := tsl_len u_L_twainref36_Op
theorem hop_load (hA : OkHops A) {k : Nat} {x : Hop} (hx : A[k]? = some x) (st : AS) : aLoad true 19 st (tPtr (k * 19) (hopR A).toArray) = some (.agg (opk x).toArray) := tptr_load (hops_rows hA) (by simp [hx])

theorem conv_ok (hA : OkHops A) (hm : A.length < 60000) (H : List Blk) : acall PP TT n_twainlaw36_Ops [tSl A.length (hopR A)] H = some (tSl A.length (hopR A), H, none) := by
  have hlast : ¬ ((A.length : Int) < (A.length : Int)) := Int.lt_irrefl _
  obtain ⟨r, hlp, hr⟩ := loop_r (n0 := H.length) (step := twainlaw36_Ops.loop3s (acall PP TT) loopG H.length) (len := A.length) (σ := Unit)
    (fun n _ => ([rowH H.length (A.take n), tSl A.length (hopR A), .int .i64 A.length, .int .i64 n], ⟨H ++ blkH t_twainref36_Op (A.take n), none⟩))
    (fun _ _ => True) (fun r => r = (.exit 0, [rowH H.length A], ⟨H ++ blkH t_twainref36_Op A, none⟩))
    (fun n _ hn _ => by
      obtain ⟨x, hx⟩ : ∃ x, A[n]? = some x := ⟨_, List.getElem?_eq_getElem hn⟩
      have hxo := hA x (List.mem_of_getElem? hx)
      have hn' : ((n : Int) < (A.length : Int)) := by omega
      have hix := ix_pop hn
      have hld := fun st => hop_load hA hx st
      have hw := wrap_succ (n := n) (by omega)
      have hxl := opk_len hxo.v.1
      have htk : (opk x).take 19 = opk x := List.take_of_length_le (by omega)
      have hlen : (A.take n).length ≤ 65535 := by simp; omega
      have hBo : OkHops (A.take n) := fun y hy => hA y (List.mem_of_mem_take hy)
      rw [take_snoc hx]
      generalize A.take n = B at hlen hBo
      refine .inr ?_
      cases B with
      | nil =>
        have hpn := fun (L : List Blk) (e : Option Nat) (R : Type) (F : Value → AS → Option R) => push_rop_nil (H := H) (L := L) (e := e) (x := x) hxo.v.1 (F := F)
        refine ⟨[.slice (some ⟨H.length + 2, 0, none⟩) 1 UNK, tSl A.length (hopR A), .int .i64 A.length, .int .i64 ((n + 1 : Nat) : Int)], ⟨H ++ [.cells (opk x) t_history_Op true, .cells (opk x) t_twainref36_Op true, .cells (opk x) t_twainref36_Op true], none⟩, (), ?_, ?_, trivial⟩
        · simp only [twainlaw36_Ops.loop3s, twainlaw36_Ops.loop3, rowH, blkH, Option.bind_some, Option.map_some, bcase_true, bcase_false, List.getD_cons_zero, List.getD_cons_succ, bin_add, bin_sub, bin_mul, bin_eql, bin_neq, bin_lss, bin_leq, bin_gtr, bin_geq, un_not, pick_bool, decide_true, decide_false, Bool.not_true, Bool.not_false, joinEsc_none, oneOf_one, ext20, ext21, ext30, ext31, ext32, if_true, box_lit, box_int, box_bool, box_slice, box_map, box_ptr, box_tSl, store_lit, store_int, store_bool, store_slice, store_map, store_ptr, store_tSl, load_one, load_agg, app_cons2, List.cons_append, List.nil_append, len_app, List.length_cons, List.length_nil, Nat.zero_add, Nat.add_zero, Nat.reduceAdd, Nat.reduceLeDiff, Nat.le_refl, cellAt_app0, cellAt_app, cellsAt_app0, cellsAt_app, storeL_own0, storeL_own, cellAt_z, cellAt_s, cellsAt_z, cellsAt_s, putB_z, putB_s, List.getElem?_cons_zero, List.getElem?_cons_succ, List.drop_zero, List.drop_succ_cons, List.take_zero, List.take_succ_cons, allCells_cons, allCells_nil, cellV_int, cellV_bool, cellV_string, cellV_ptr, cellV_slice, cellV_map, cellV_func, cellV_nilFunc, cellV_tSl, Bool.and_self, Bool.and_true, Bool.true_and, and_self, true_and, and_true, Bool.false_eq_true, if_false, lrefs_nil, lrefs_cons, vrefs_bool, vrefs_int, vrefs_string, vrefs_ptr, vrefs_ptr0, vrefs_slice, vrefs_slice0, vrefs_map, vrefs_tSl, vrefs_tPtr, vrefs_agg, escOf_nil, Int.reduceEq, Int.reduceLT, Int.reduceLE, putCells_one0, putCells_succ, max_int, min_int, hn', hix, hld, zg_history_Op, zl_history_Op, za_history_Op, hxl, opk_cells, opk_refs, putCells_all, htk, hpn, hw, List.append_nil]
        · exact gc_own [[], [], []] [2] [2] rfl rfl (by simp [hopR_refs]) (by simp [blkRefs_cells, opk_refs]) (by simp [rowH, lren, vren, rn_own, findIx, vren_none, hopR_refs]) (by simp [blkH, renBlk_cells, lren_none, opk_refs, hopR])
      | cons a tl =>
        have hpn := fun (L : List Blk) (e : Option Nat) (R : Type) (F : Value → AS → Option R) (hk : L[0]? = some (.cells (hopR (a :: tl)) t_twainref36_Op true)) => push_rop (H := H) hBo hlen (L := L) (e := e) (x := x) hxo.v.1 (F := F) hk
        simp only [List.length_cons] at hpn
        refine ⟨[.slice (some ⟨H.length + 3, 0, none⟩) (tl.length + 1 + 1) UNK, tSl A.length (hopR A), .int .i64 A.length, .int .i64 ((n + 1 : Nat) : Int)], ⟨H ++ [.dead, .cells (opk x) t_history_Op true, .cells (opk x) t_twainref36_Op true, .cells (hopR (a :: tl ++ [x])) t_twainref36_Op true], none⟩, (), ?_, ?_, trivial⟩
        · simp only [twainlaw36_Ops.loop3s, twainlaw36_Ops.loop3, rowH, blkH, Option.bind_some, Option.map_some, bcase_true, bcase_false, List.getD_cons_zero, List.getD_cons_succ, bin_add, bin_sub, bin_mul, bin_eql, bin_neq, bin_lss, bin_leq, bin_gtr, bin_geq, un_not, pick_bool, decide_true, decide_false, Bool.not_true, Bool.not_false, joinEsc_none, oneOf_one, ext20, ext21, ext30, ext31, ext32, if_true, box_lit, box_int, box_bool, box_slice, box_map, box_ptr, box_tSl, store_lit, store_int, store_bool, store_slice, store_map, store_ptr, store_tSl, load_one, load_agg, app_cons2, List.cons_append, List.nil_append, len_app, List.length_cons, List.length_nil, Nat.zero_add, Nat.add_zero, Nat.reduceAdd, Nat.reduceLeDiff, Nat.le_refl, cellAt_app0, cellAt_app, cellsAt_app0, cellsAt_app, storeL_own0, storeL_own, cellAt_z, cellAt_s, cellsAt_z, cellsAt_s, putB_z, putB_s, List.getElem?_cons_zero, List.getElem?_cons_succ, List.drop_zero, List.drop_succ_cons, List.take_zero, List.take_succ_cons, allCells_cons, allCells_nil, cellV_int, cellV_bool, cellV_string, cellV_ptr, cellV_slice, cellV_map, cellV_func, cellV_nilFunc, cellV_tSl, Bool.and_self, Bool.and_true, Bool.true_and, and_self, true_and, and_true, Bool.false_eq_true, if_false, lrefs_nil, lrefs_cons, vrefs_bool, vrefs_int, vrefs_string, vrefs_ptr, vrefs_ptr0, vrefs_slice, vrefs_slice0, vrefs_map, vrefs_tSl, vrefs_tPtr, vrefs_agg, escOf_nil, Int.reduceEq, Int.reduceLT, Int.reduceLE, putCells_one0, putCells_succ, max_int, min_int, hn', hix, hld, zg_history_Op, zl_history_Op, za_history_Op, hxl, opk_cells, opk_refs, putCells_all, htk, hpn, hw, List.append_nil, List.set_cons_zero]
        · exact gc_own [[], [], [], []] [3] [3] rfl rfl (by simp [hopR_refs]) (by simp [blkRefs_cells, blkRefs_dead, opk_refs, hopR_refs]) (by simp [rowH, lren, vren, rn_own, findIx, vren_none, hopR_refs]) (by simp [blkH, renBlk_cells, lren_none, hopR_refs]))
    (fun _ _ => ⟨_, by simp only [twainlaw36_Ops.loop3s, twainlaw36_Ops.loop3, Option.bind_some, Option.map_some, bcase_true, bcase_false, List.getD_cons_zero, List.getD_cons_succ, bin_add, bin_sub, bin_mul, bin_eql, bin_neq, bin_lss, bin_leq, bin_gtr, bin_geq, un_not, pick_bool, decide_true, decide_false, Bool.not_true, Bool.not_false, joinEsc_none, oneOf_one, ext20, ext21, ext30, ext31, ext32, if_true, box_lit, box_int, box_bool, box_slice, box_map, box_ptr, box_tSl, store_lit, store_int, store_bool, store_slice, store_map, store_ptr, store_tSl, load_one, load_agg, app_cons2, List.cons_append, List.nil_append, len_app, List.length_cons, List.length_nil, Nat.zero_add, Nat.add_zero, Nat.reduceAdd, Nat.reduceLeDiff, Nat.le_refl, cellAt_app0, cellAt_app, cellsAt_app0, cellsAt_app, storeL_own0, storeL_own, cellAt_z, cellAt_s, cellsAt_z, cellsAt_s, putB_z, putB_s, List.getElem?_cons_zero, List.getElem?_cons_succ, List.drop_zero, List.drop_succ_cons, List.take_zero, List.take_succ_cons, allCells_cons, allCells_nil, cellV_int, cellV_bool, cellV_string, cellV_ptr, cellV_slice, cellV_map, cellV_func, cellV_nilFunc, cellV_tSl, Bool.and_self, Bool.and_true, Bool.true_and, and_self, true_and, and_true, Bool.false_eq_true, if_false, lrefs_nil, lrefs_cons, vrefs_bool, vrefs_int, vrefs_string, vrefs_ptr, vrefs_ptr0, vrefs_slice, vrefs_slice0, vrefs_map, vrefs_tSl, vrefs_tPtr, vrefs_agg, escOf_nil, Int.reduceEq, Int.reduceLT, Int.reduceLE, putCells_one0, putCells_succ, max_int, min_int, hlast, List.take_length], rfl⟩)
    A.length 0 () [.slice none 0 0, tSl A.length (hopR A), .int .i64 A.length, .int .i64 0] ⟨H, none⟩ (by omega) trivial (by
      have := gc_nil (H := H) (vs := [.slice none 0 0, tSl A.length (hopR A), .int .i64 A.length, .int .i64 0]) (by simp [hopR_refs])
      simpa [rowH, blkH] using this)
  subst hr
  rw [acall_eq, twainlaw36_Ops.eq]
  simp only [twainlaw36_Ops.sh, ln_pop, Option.bind_some, Option.map_some, bcase_true, bcase_false, List.getD_cons_zero, List.getD_cons_succ, bin_add, bin_sub, bin_mul, bin_eql, bin_neq, bin_lss, bin_leq, bin_gtr, bin_geq, un_not, pick_bool, decide_true, decide_false, Bool.not_true, Bool.not_false, joinEsc_none, oneOf_one, ext20, ext21, ext30, ext31, ext32, if_true, box_lit, box_int, box_bool, box_slice, box_map, box_ptr, box_tSl, store_lit, store_int, store_bool, store_slice, store_map, store_ptr, store_tSl, load_one, load_agg, app_cons2, List.cons_append, List.nil_append, len_app, List.length_cons, List.length_nil, Nat.zero_add, Nat.add_zero, Nat.reduceAdd, Nat.reduceLeDiff, Nat.le_refl, cellAt_app0, cellAt_app, cellsAt_app0, cellsAt_app, storeL_own0, storeL_own, cellAt_z, cellAt_s, cellsAt_z, cellsAt_s, putB_z, putB_s, List.getElem?_cons_zero, List.getElem?_cons_succ, List.drop_zero, List.drop_succ_cons, List.take_zero, List.take_succ_cons, allCells_cons, allCells_nil, cellV_int, cellV_bool, cellV_string, cellV_ptr, cellV_slice, cellV_map, cellV_func, cellV_nilFunc, cellV_tSl, Bool.and_self, Bool.and_true, Bool.true_and, and_self, true_and, and_true, Bool.false_eq_true, if_false, lrefs_nil, lrefs_cons, vrefs_bool, vrefs_int, vrefs_string, vrefs_ptr, vrefs_ptr0, vrefs_slice, vrefs_slice0, vrefs_map, vrefs_tSl, vrefs_tPtr, vrefs_agg, escOf_nil, Int.reduceEq, Int.reduceLT, Int.reduceLE, putCells_one0, putCells_succ, max_int, min_int, hlp, twainlaw36_Ops.j2]
  cases A with
  | nil =>
    have := fin_nil (P := PP) (H0 := H) (l := []) (e := none) rfl
    simpa [rowH, blkH, hopR] using this
  | cons a tl => exact fin_row0 (sz := 19) rfl sz_twainref36_Op (hopR_len hA) (hopR_flat _) (hopR_refs _) rfl

theorem flatOp : FlatAgg PP t_twainref36_Op := ⟨by kernel_rfl, by kernel_rfl, by kernel_rfl⟩
theorem tokOp {x : Hop} (h : OkHop x) : TOk PP t_twainref36_Op (opk x) := by
  have := TOk.struct' (P := PP) (ps := [[.bool x.w], byt x.v, [.int .i64 x.f], [.int .i64 x.t]]) us_twainref36_Op ty_twainref36_Op ⟨.bool x.w u_bool, tokSec h.v.1 h.v.2, tokInt h.f, tokInt h.t, trivial⟩
  simpa [opk] using this

/-- the very same rows are told so -/
theorem same_ok (hA : OkHops A) (hm : A.length < 60000) (H : List Blk) : acall PP TT n_twainref36_Same [tSl A.length (hopR A), tSl A.length (hopR A)] H = some (.bool true, H, none) := by
  have hlast : ¬ ((A.length : Int) < (A.length : Int)) := Int.lt_irrefl _
  obtain ⟨r, hlp, hr⟩ := loop_r (n0 := H.length) (step := twainref36_Same.loop4s (acall PP TT) loopG H.length) (len := A.length) (σ := Unit)
    (fun n _ => ([tSl A.length (hopR A), tSl A.length (hopR A), .int .i64 A.length, .int .i64 n], ⟨H, none⟩))
    (fun _ _ => True) (fun r => r = (.exit 0, [unk], ⟨H, none⟩))
    (fun n _ hn _ => by
      obtain ⟨x, hx⟩ : ∃ x, A[n]? = some x := ⟨_, List.getElem?_eq_getElem hn⟩
      have hxo := hA x (List.mem_of_getElem? hx)
      have hn' : ((n : Int) < (A.length : Int)) := by omega
      have hix := ix_rop hn
      have hld := fun st => hop_load hA hx st
      have hw := wrap_succ (n := n) (by omega)
      have hne := bin_neq_flat (ox := .tmp 19) (oy := .tmp 23) flatOp (tokOp hxo) (tokOp hxo)
      simp only [decide_true, Bool.not_true] at hne
      refine .inr ⟨[tSl A.length (hopR A), tSl A.length (hopR A), .int .i64 A.length, .int .i64 ((n + 1 : Nat) : Int)], ⟨H, none⟩, (), ?_, gc_nil (by simp [hopR_refs]), trivial⟩
      simp only [twainref36_Same.loop4s, twainref36_Same.loop4, Option.bind_some, Option.map_some, bcase_true, bcase_false, List.getD_cons_zero, List.getD_cons_succ, bin_add, bin_sub, bin_mul, bin_eql, bin_neq, bin_lss, bin_leq, bin_gtr, bin_geq, un_not, pick_bool, decide_true, decide_false, Bool.not_true, Bool.not_false, joinEsc_none, oneOf_one, ext20, ext21, ext30, ext31, ext32, if_true, box_lit, box_int, box_bool, box_slice, box_map, box_ptr, box_tSl, store_lit, store_int, store_bool, store_slice, store_map, store_ptr, store_tSl, load_one, load_agg, app_cons2, List.cons_append, List.nil_append, len_app, List.length_cons, List.length_nil, Nat.zero_add, Nat.add_zero, Nat.reduceAdd, Nat.reduceLeDiff, Nat.le_refl, cellAt_app0, cellAt_app, cellsAt_app0, cellsAt_app, storeL_own0, storeL_own, cellAt_z, cellAt_s, cellsAt_z, cellsAt_s, putB_z, putB_s, List.getElem?_cons_zero, List.getElem?_cons_succ, List.drop_zero, List.drop_succ_cons, List.take_zero, List.take_succ_cons, allCells_cons, allCells_nil, cellV_int, cellV_bool, cellV_string, cellV_ptr, cellV_slice, cellV_map, cellV_func, cellV_nilFunc, cellV_tSl, Bool.and_self, Bool.and_true, Bool.true_and, and_self, true_and, and_true, Bool.false_eq_true, if_false, lrefs_nil, lrefs_cons, vrefs_bool, vrefs_int, vrefs_string, vrefs_ptr, vrefs_ptr0, vrefs_slice, vrefs_slice0, vrefs_map, vrefs_tSl, vrefs_tPtr, vrefs_agg, escOf_nil, Int.reduceEq, Int.reduceLT, Int.reduceLE, putCells_one0, putCells_succ, max_int, min_int, hn', hix, hld, hne, hw])
    (fun _ _ => ⟨_, by simp only [twainref36_Same.loop4s, twainref36_Same.loop4, Option.bind_some, Option.map_some, bcase_true, bcase_false, List.getD_cons_zero, List.getD_cons_succ, bin_add, bin_sub, bin_mul, bin_eql, bin_neq, bin_lss, bin_leq, bin_gtr, bin_geq, un_not, pick_bool, decide_true, decide_false, Bool.not_true, Bool.not_false, joinEsc_none, oneOf_one, ext20, ext21, ext30, ext31, ext32, if_true, box_lit, box_int, box_bool, box_slice, box_map, box_ptr, box_tSl, store_lit, store_int, store_bool, store_slice, store_map, store_ptr, store_tSl, load_one, load_agg, app_cons2, List.cons_append, List.nil_append, len_app, List.length_cons, List.length_nil, Nat.zero_add, Nat.add_zero, Nat.reduceAdd, Nat.reduceLeDiff, Nat.le_refl, cellAt_app0, cellAt_app, cellsAt_app0, cellsAt_app, storeL_own0, storeL_own, cellAt_z, cellAt_s, cellsAt_z, cellsAt_s, putB_z, putB_s, List.getElem?_cons_zero, List.getElem?_cons_succ, List.drop_zero, List.drop_succ_cons, List.take_zero, List.take_succ_cons, allCells_cons, allCells_nil, cellV_int, cellV_bool, cellV_string, cellV_ptr, cellV_slice, cellV_map, cellV_func, cellV_nilFunc, cellV_tSl, Bool.and_self, Bool.and_true, Bool.true_and, and_self, true_and, and_true, Bool.false_eq_true, if_false, lrefs_nil, lrefs_cons, vrefs_bool, vrefs_int, vrefs_string, vrefs_ptr, vrefs_ptr0, vrefs_slice, vrefs_slice0, vrefs_map, vrefs_tSl, vrefs_tPtr, vrefs_agg, escOf_nil, Int.reduceEq, Int.reduceLT, Int.reduceLE, putCells_one0, putCells_succ, max_int, min_int, hlast], rfl⟩)
    A.length 0 () _ _ (by omega) trivial (gc_nil (H := H) (vs := [tSl A.length (hopR A), tSl A.length (hopR A), .int .i64 A.length, .int .i64 0]) (by simp [hopR_refs]))
  subst hr
  rw [acall_eq, twainref36_Same.eq]
  simp only [twainref36_Same.sh, ln_rop, Option.bind_some, Option.map_some, bcase_true, bcase_false, List.getD_cons_zero, List.getD_cons_succ, bin_add, bin_sub, bin_mul, bin_eql, bin_neq, bin_lss, bin_leq, bin_gtr, bin_geq, un_not, pick_bool, decide_true, decide_false, Bool.not_true, Bool.not_false, joinEsc_none, oneOf_one, ext20, ext21, ext30, ext31, ext32, if_true, box_lit, box_int, box_bool, box_slice, box_map, box_ptr, box_tSl, store_lit, store_int, store_bool, store_slice, store_map, store_ptr, store_tSl, load_one, load_agg, app_cons2, List.cons_append, List.nil_append, len_app, List.length_cons, List.length_nil, Nat.zero_add, Nat.add_zero, Nat.reduceAdd, Nat.reduceLeDiff, Nat.le_refl, cellAt_app0, cellAt_app, cellsAt_app0, cellsAt_app, storeL_own0, storeL_own, cellAt_z, cellAt_s, cellsAt_z, cellsAt_s, putB_z, putB_s, List.getElem?_cons_zero, List.getElem?_cons_succ, List.drop_zero, List.drop_succ_cons, List.take_zero, List.take_succ_cons, allCells_cons, allCells_nil, cellV_int, cellV_bool, cellV_string, cellV_ptr, cellV_slice, cellV_map, cellV_func, cellV_nilFunc, cellV_tSl, Bool.and_self, Bool.and_true, Bool.true_and, and_self, true_and, and_true, Bool.false_eq_true, if_false, lrefs_nil, lrefs_cons, vrefs_bool, vrefs_int, vrefs_string, vrefs_ptr, vrefs_ptr0, vrefs_slice, vrefs_slice0, vrefs_map, vrefs_tSl, vrefs_tPtr, vrefs_agg, escOf_nil, Int.reduceEq, Int.reduceLT, Int.reduceLE, putCells_one0, putCells_succ, max_int, min_int, hlp, twainref36_Same.j2]
  exact fin_lit0 rfl rfl

theorem ints_same (L : List Int) (hm : L.length < 60000) (H : List Blk) : acall PP TT n_twainref01_Ints [tSl L.length (ints L), tSl L.length (ints L)] H = some (.bool true, H, none) := by
  have hlast : ¬ ((L.length : Int) < (L.length : Int)) := Int.lt_irrefl _
  obtain ⟨r, hlp, hr⟩ := loop_r (n0 := H.length) (step := twainref01_Ints.loop4s (acall PP TT) loopG H.length) (len := L.length) (σ := Unit)
    (fun n _ => ([tSl L.length (ints L), tSl L.length (ints L), .int .i64 L.length, .int .i64 n], ⟨H, none⟩))
    (fun _ _ => True) (fun r => r = (.exit 0, [unk], ⟨H, none⟩))
    (fun n _ hn _ => by
      obtain ⟨x, hx⟩ : ∃ x, L[n]? = some x := ⟨_, List.getElem?_eq_getElem hn⟩
      have hn' : ((n : Int) < (L.length : Int)) := by omega
      have hix : aIndexAddr PP t_L_int (tSl L.length (ints L)) (.int .i64 (n : Int)) = some (tPtr n (ints L).toArray) := by
        have := tsl_index (row := ints L) (j := .i64) u_L_int sz_int hn
        simpa using this
      have hld : ∀ st, aLoad false 1 st (tPtr n (ints L).toArray) = some (.int .i64 x) := fun st => by
        show tLoad false 1 n (ints L).toArray = _
        simp [tLoad, hx]
      have hw := wrap_succ (n := n) (by omega)
      refine .inr ⟨[tSl L.length (ints L), tSl L.length (ints L), .int .i64 L.length, .int .i64 ((n + 1 : Nat) : Int)], ⟨H, none⟩, (), ?_, gc_nil (by simp [ints_refs]), trivial⟩
      simp only [twainref01_Ints.loop4s, twainref01_Ints.loop4, Option.bind_some, Option.map_some, bcase_true, bcase_false, List.getD_cons_zero, List.getD_cons_succ, bin_add, bin_sub, bin_mul, bin_eql, bin_neq, bin_lss, bin_leq, bin_gtr, bin_geq, un_not, pick_bool, decide_true, decide_false, Bool.not_true, Bool.not_false, joinEsc_none, oneOf_one, ext20, ext21, ext30, ext31, ext32, if_true, box_lit, box_int, box_bool, box_slice, box_map, box_ptr, box_tSl, store_lit, store_int, store_bool, store_slice, store_map, store_ptr, store_tSl, load_one, load_agg, app_cons2, List.cons_append, List.nil_append, len_app, List.length_cons, List.length_nil, Nat.zero_add, Nat.add_zero, Nat.reduceAdd, Nat.reduceLeDiff, Nat.le_refl, cellAt_app0, cellAt_app, cellsAt_app0, cellsAt_app, storeL_own0, storeL_own, cellAt_z, cellAt_s, cellsAt_z, cellsAt_s, putB_z, putB_s, List.getElem?_cons_zero, List.getElem?_cons_succ, List.drop_zero, List.drop_succ_cons, List.take_zero, List.take_succ_cons, allCells_cons, allCells_nil, cellV_int, cellV_bool, cellV_string, cellV_ptr, cellV_slice, cellV_map, cellV_func, cellV_nilFunc, cellV_tSl, Bool.and_self, Bool.and_true, Bool.true_and, and_self, true_and, and_true, Bool.false_eq_true, if_false, lrefs_nil, lrefs_cons, vrefs_bool, vrefs_int, vrefs_string, vrefs_ptr, vrefs_ptr0, vrefs_slice, vrefs_slice0, vrefs_map, vrefs_tSl, vrefs_tPtr, vrefs_agg, escOf_nil, Int.reduceEq, Int.reduceLT, Int.reduceLE, putCells_one0, putCells_succ, max_int, min_int, hn', hix, hld, hw])
    (fun _ _ => ⟨_, by simp only [twainref01_Ints.loop4s, twainref01_Ints.loop4, Option.bind_some, Option.map_some, bcase_true, bcase_false, List.getD_cons_zero, List.getD_cons_succ, bin_add, bin_sub, bin_mul, bin_eql, bin_neq, bin_lss, bin_leq, bin_gtr, bin_geq, un_not, pick_bool, decide_true, decide_false, Bool.not_true, Bool.not_false, joinEsc_none, oneOf_one, ext20, ext21, ext30, ext31, ext32, if_true, box_lit, box_int, box_bool, box_slice, box_map, box_ptr, box_tSl, store_lit, store_int, store_bool, store_slice, store_map, store_ptr, store_tSl, load_one, load_agg, app_cons2, List.cons_append, List.nil_append, len_app, List.length_cons, List.length_nil, Nat.zero_add, Nat.add_zero, Nat.reduceAdd, Nat.reduceLeDiff, Nat.le_refl, cellAt_app0, cellAt_app, cellsAt_app0, cellsAt_app, storeL_own0, storeL_own, cellAt_z, cellAt_s, cellsAt_z, cellsAt_s, putB_z, putB_s, List.getElem?_cons_zero, List.getElem?_cons_succ, List.drop_zero, List.drop_succ_cons, List.take_zero, List.take_succ_cons, allCells_cons, allCells_nil, cellV_int, cellV_bool, cellV_string, cellV_ptr, cellV_slice, cellV_map, cellV_func, cellV_nilFunc, cellV_tSl, Bool.and_self, Bool.and_true, Bool.true_and, and_self, true_and, and_true, Bool.false_eq_true, if_false, lrefs_nil, lrefs_cons, vrefs_bool, vrefs_int, vrefs_string, vrefs_ptr, vrefs_ptr0, vrefs_slice, vrefs_slice0, vrefs_map, vrefs_tSl, vrefs_tPtr, vrefs_agg, escOf_nil, Int.reduceEq, Int.reduceLT, Int.reduceLE, putCells_one0, putCells_succ, max_int, min_int, hlast], rfl⟩)
    L.length 0 () _ _ (by omega) trivial (gc_nil (H := H) (vs := [tSl L.length (ints L), tSl L.length (ints L), .int .i64 L.length, .int .i64 0]) (by simp [ints_refs]))
  subst hr
  have hln : ∀ st, aLen PP t_L_int (tSl L.length (ints L)) st = some (.int .i64 L.length) := fun st => tsl_len u_L_int
  rw [acall_eq, twainref01_Ints.eq]
  simp only [twainref01_Ints.sh, hln, Option.bind_some, Option.map_some, bcase_true, bcase_false, List.getD_cons_zero, List.getD_cons_succ, bin_add, bin_sub, bin_mul, bin_eql, bin_neq, bin_lss, bin_leq, bin_gtr, bin_geq, un_not, pick_bool, decide_true, decide_false, Bool.not_true, Bool.not_false, joinEsc_none, oneOf_one, ext20, ext21, ext30, ext31, ext32, if_true, box_lit, box_int, box_bool, box_slice, box_map, box_ptr, box_tSl, store_lit, store_int, store_bool, store_slice, store_map, store_ptr, store_tSl, load_one, load_agg, app_cons2, List.cons_append, List.nil_append, len_app, List.length_cons, List.length_nil, Nat.zero_add, Nat.add_zero, Nat.reduceAdd, Nat.reduceLeDiff, Nat.le_refl, cellAt_app0, cellAt_app, cellsAt_app0, cellsAt_app, storeL_own0, storeL_own, cellAt_z, cellAt_s, cellsAt_z, cellsAt_s, putB_z, putB_s, List.getElem?_cons_zero, List.getElem?_cons_succ, List.drop_zero, List.drop_succ_cons, List.take_zero, List.take_succ_cons, allCells_cons, allCells_nil, cellV_int, cellV_bool, cellV_string, cellV_ptr, cellV_slice, cellV_map, cellV_func, cellV_nilFunc, cellV_tSl, Bool.and_self, Bool.and_true, Bool.true_and, and_self, true_and, and_true, Bool.false_eq_true, if_false, lrefs_nil, lrefs_cons, vrefs_bool, vrefs_int, vrefs_string, vrefs_ptr, vrefs_ptr0, vrefs_slice, vrefs_slice0, vrefs_map, vrefs_tSl, vrefs_tPtr, vrefs_agg, escOf_nil, Int.reduceEq, Int.reduceLT, Int.reduceLE, putCells_one0, putCells_succ, max_int, min_int, hlp, twainref01_Ints.j2]
  exact fin_lit0 rfl rfl

end
end Go.Proofs.Ytfinilnkempofaa
