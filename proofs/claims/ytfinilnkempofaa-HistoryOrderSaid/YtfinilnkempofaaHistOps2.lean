/- What happened to a sector: the document's code. -/
import Derived.Test.YtfinilnkempofaaHistOps
set_option linter.all false
set_option linter.unusedVariables false
set_option linter.unusedSimpArgs false
set_option linter.unnecessarySimpa false
namespace Go.Proofs.Ytfinilnkempofaa
open Go Go.Am

def blkH (ty : TypeId) (A : List Hop) : List Blk := match A with | [] => [] | a :: tl => [.cells (hopR (a :: tl)) ty true]
def rFr (n0 : Nat) (l : List Ev) (at_ : Int) (A : List Hop) (n : Nat) : List Value := [tSl l.length (evR l), .int .i64 at_, rowH n0 A, tSl l.length (evR l), .int .i64 l.length, .int .i64 n]

section
variable {l : List Ev} {H : List Blk}

theorem rops_gc (ty : TypeId) (at_ : Int) (A : List Hop) (n : Nat) (G : List Blk) (hG : ∀ b ∈ G, blkRefs b = []) : gc H.length (rFr H.length l at_ A n) ⟨H ++ (blkH ty A ++ G), none⟩ = (rFr H.length l at_ A n, ⟨H ++ blkH ty A, none⟩) := by
  have hg : G.map blkRefs = (G.map fun _ => []).map (List.map (H.length + ·)) := by
    rw [List.map_map]
    exact List.map_congr_left fun b hb => by simp [hG b hb]
  cases A with
  | nil => exact gc_own (G.map fun _ => []) [] [] rfl rfl (by simp [rFr, rowH, evR_refs]) (by simpa [blkH] using hg) (by simp [rFr, rowH, lren, vren, vren_none, evR_refs]) (by simp [blkH])
  | cons a tl => exact gc_own ([] :: G.map fun _ => []) [0] [0] rfl rfl (by simp [rFr, rowH, evR_refs]) (by simp only [blkH, List.cons_append, List.nil_append, List.map_cons, hg, blkRefs_cells, hopR_refs, List.map_nil]) (by simp [rFr, rowH, lren, vren, rn_own0, findIx, vren_none, evR_refs]) (by simp [blkH, renBlk_cells, lren_none, hopR_refs])

theorem rops_gc2 (ty : TypeId) (at_ : Int) (A : List Hop) (x : Hop) (n : Nat) (G : List Blk) (hG : ∀ b ∈ G, blkRefs b = []) :
    gc H.length [tSl l.length (evR l), .int .i64 at_, .slice (some ⟨H.length + G.length, 0, none⟩) (A.length + 1) UNK, tSl l.length (evR l), .int .i64 l.length, .int .i64 n] ⟨H ++ (G ++ [.cells (hopR (A ++ [x])) ty true]), none⟩ = (rFr H.length l at_ (A ++ [x]) n, ⟨H ++ blkH ty (A ++ [x]), none⟩) := by
  have hg : G.map blkRefs = (G.map fun _ => []).map (List.map (H.length + ·)) := by
    rw [List.map_map]
    exact List.map_congr_left fun b hb => by simp [hG b hb]
  have hrow : rowH H.length (A ++ [x]) = .slice (some ⟨H.length, 0, none⟩) (A.length + 1) UNK ∧ blkH ty (A ++ [x]) = [.cells (hopR (A ++ [x])) ty true] := by
    cases A with
    | nil => exact ⟨rfl, rfl⟩
    | cons a tl => exact ⟨by simp [rowH], rfl⟩
  have hd : (G.map (fun _ => ([] : List Nat)) ++ [[]]).getD G.length [] = [] := by
    simp only [List.getD]
    rw [List.getElem?_append_right (by simp)]
    simp
  refine gc_own ((G.map fun _ => []) ++ [[]]) [G.length] [G.length] (by simp [reachR, hd]) rfl (by simp [evR_refs]) ?_ (by simp [rFr, hrow.1, lren, vren, rn_own, findIx, vren_none, evR_refs]) ?_
  · rw [List.map_append, List.map_append, hg]
    congr 1
    simp only [List.map_cons, List.map_nil, blkRefs_cells, hopR_refs]
  · rw [hrow.2]
    have hget : (G ++ [Blk.cells (hopR (A ++ [x])) ty true]).getD G.length .dead = .cells (hopR (A ++ [x])) ty true := by
      simp only [List.getD]
      rw [List.getElem?_append_right (Nat.le_refl _)]
      simp
    simp only [List.map_cons, List.map_nil]
    rw [hget, renBlk_cells, lren_none (hopR_refs _)]

theorem rops_step (hl : OkEvs l) (hm : l.length < 60000) {at_ : Int} (hat : isI at_) {n : Nat} (hn : n < l.length) {x : Ev} (hx : l[n]? = some x) {A : List Hop} (hA : OkHops A) (hlen : A.length ≤ n) : ∃ vs st,
    twainref36_Ops.loop3s (acall PP TT) loopG H.length (rFr H.length l at_ A n, ⟨H ++ blkH t_twainref36_Op A, none⟩) = some (.inl (vs, st)) ∧
      gc H.length vs st = (rFr H.length l at_ (match opD (endedI l) l at_ n with | some y => A ++ [y] | none => A) (n + 1), ⟨H ++ blkH t_twainref36_Op (match opD (endedI l) l at_ n with | some y => A ++ [y] | none => A), none⟩) := by
  have hxo := hl x (List.mem_of_getElem? hx)
  have hn' : ((n : Int) < (l.length : Int)) := by omega
  have hix := ix_ref hn
  have hld := fun st => ev_load hx st
  have hw := wrap_succ (n := n) (by omega)
  have f0 : (evc x)[0]? = some (.int .i64 x.kind) := by simp [evc]
  have f3 : (evc x)[3]? = some (.int .i64 x.rk) := by simp [evc]
  have f4 : (evc x)[4]? = some (.int .i64 x.off) := by simp [evc]
  have f6 : (evc x)[6]? = some (tSl x.rd.length (byt x.rd)) := by simp [evc]
  have fsp : ((evc x).drop 4).take 2 = [.int .i64 x.off, .int .i64 x.len] := by simp [evc]
  have hov := fun H => roverlap_ok x.off x.len at_ 1 H
  have hed := fun H => ended_ok hl (by omega) hn H
  have hEi := endedI_isI (l := l) (by omega) n
  have skip : opD (endedI l) l at_ n = none → ∀ G : List Blk, (∀ b ∈ G, blkRefs b = []) → twainref36_Ops.loop3s (acall PP TT) loopG H.length (rFr H.length l at_ A n, ⟨H ++ blkH t_twainref36_Op A, none⟩) = some (.inl (rFr H.length l at_ A (n + 1), ⟨H ++ (blkH t_twainref36_Op A ++ G), none⟩)) → ∃ vs st,
      twainref36_Ops.loop3s (acall PP TT) loopG H.length (rFr H.length l at_ A n, ⟨H ++ blkH t_twainref36_Op A, none⟩) = some (.inl (vs, st)) ∧
        gc H.length vs st = (rFr H.length l at_ (match opD (endedI l) l at_ n with | some y => A ++ [y] | none => A) (n + 1), ⟨H ++ blkH t_twainref36_Op (match opD (endedI l) l at_ n with | some y => A ++ [y] | none => A), none⟩) := by
    intro hd G hG hs
    rw [hd]
    exact ⟨_, _, hs, rops_gc _ at_ A (n + 1) G hG⟩
  have hgE : ∀ b ∈ [Blk.cells (evc x) t_twainref34_Event true], blkRefs b = [] := fun b hb => by simp at hb; subst hb; simp [blkRefs_cells, evc_refs]
  by_cases k0 : x.kind = 0
  case neg =>
    refine skip (by simp [opD, hx, touchB, k0]) [.cells (evc x) t_twainref34_Event true] hgE ?_
    cases A <;> simp only [twainref36_Ops.loop3s, twainref36_Ops.loop3, twainref36_Ops.j1, twainref36_Ops.j4, rFr, rowH, blkH, Option.bind_some, Option.map_some, bcase_true, bcase_false, List.getD_cons_zero, List.getD_cons_succ, bin_add, bin_sub, bin_mul, bin_eql, bin_neq, bin_lss, bin_leq, bin_gtr, bin_geq, un_not, pick_bool, decide_true, decide_false, Bool.not_true, Bool.not_false, joinEsc_none, oneOf_one, ext20, ext21, ext30, ext31, ext32, if_true, box_lit, box_int, box_bool, box_slice, box_map, box_ptr, box_tSl, store_lit, store_int, store_bool, store_slice, store_map, store_ptr, store_tSl, load_one, load_agg, app_cons2, List.cons_append, List.nil_append, len_app, List.length_cons, List.length_nil, Nat.zero_add, Nat.add_zero, Nat.reduceAdd, Nat.reduceLeDiff, Nat.le_refl, cellAt_app0, cellAt_app, cellsAt_app0, cellsAt_app, storeL_own0, storeL_own, cellAt_z, cellAt_s, cellsAt_z, cellsAt_s, putB_z, putB_s, List.getElem?_cons_zero, List.getElem?_cons_succ, List.drop_zero, List.drop_succ_cons, List.take_zero, List.take_succ_cons, allCells_cons, allCells_nil, cellV_int, cellV_bool, cellV_string, cellV_ptr, cellV_slice, cellV_map, cellV_func, cellV_nilFunc, cellV_tSl, Bool.and_self, Bool.and_true, Bool.true_and, and_self, true_and, and_true, Bool.false_eq_true, if_false, lrefs_nil, lrefs_cons, vrefs_bool, vrefs_int, vrefs_string, vrefs_ptr, vrefs_ptr0, vrefs_slice, vrefs_slice0, vrefs_map, vrefs_tSl, vrefs_tPtr, vrefs_agg, escOf_nil, Int.reduceEq, Int.reduceLT, Int.reduceLE, putCells_one0, putCells_succ, max_int, min_int, hn', hix, hld, zg_twainref34_Event, zl_twainref34_Event, za_twainref34_Event, evc_len, evc_cells, evc_refs, putCells_all, f0, fa_twainref34_Event_0, k0, hw]
  by_cases k1 : x.rk < 0
  · refine skip (by
      have h1 : ¬ x.rk = 0 := by omega
      have h2 : ¬ x.rk = 1 := by omega
      simp [opD, hx, touchB, h1, h2]) [.cells (evc x) t_twainref34_Event true] hgE ?_
    cases A <;> simp only [twainref36_Ops.loop3s, twainref36_Ops.loop3, twainref36_Ops.j1, twainref36_Ops.j4, rFr, rowH, blkH, Option.bind_some, Option.map_some, bcase_true, bcase_false, List.getD_cons_zero, List.getD_cons_succ, bin_add, bin_sub, bin_mul, bin_eql, bin_neq, bin_lss, bin_leq, bin_gtr, bin_geq, un_not, pick_bool, decide_true, decide_false, Bool.not_true, Bool.not_false, joinEsc_none, oneOf_one, ext20, ext21, ext30, ext31, ext32, if_true, box_lit, box_int, box_bool, box_slice, box_map, box_ptr, box_tSl, store_lit, store_int, store_bool, store_slice, store_map, store_ptr, store_tSl, load_one, load_agg, app_cons2, List.cons_append, List.nil_append, len_app, List.length_cons, List.length_nil, Nat.zero_add, Nat.add_zero, Nat.reduceAdd, Nat.reduceLeDiff, Nat.le_refl, cellAt_app0, cellAt_app, cellsAt_app0, cellsAt_app, storeL_own0, storeL_own, cellAt_z, cellAt_s, cellsAt_z, cellsAt_s, putB_z, putB_s, List.getElem?_cons_zero, List.getElem?_cons_succ, List.drop_zero, List.drop_succ_cons, List.take_zero, List.take_succ_cons, allCells_cons, allCells_nil, cellV_int, cellV_bool, cellV_string, cellV_ptr, cellV_slice, cellV_map, cellV_func, cellV_nilFunc, cellV_tSl, Bool.and_self, Bool.and_true, Bool.true_and, and_self, true_and, and_true, Bool.false_eq_true, if_false, lrefs_nil, lrefs_cons, vrefs_bool, vrefs_int, vrefs_string, vrefs_ptr, vrefs_ptr0, vrefs_slice, vrefs_slice0, vrefs_map, vrefs_tSl, vrefs_tPtr, vrefs_agg, escOf_nil, Int.reduceEq, Int.reduceLT, Int.reduceLE, putCells_one0, putCells_succ, max_int, min_int, hn', hix, hld, zg_twainref34_Event, zl_twainref34_Event, za_twainref34_Event, evc_len, evc_cells, evc_refs, putCells_all, f0, f3, fa_twainref34_Event_0, fa_twainref34_Event_3, fa_api_Request_0, k0, k1, hw]
  by_cases k2 : 1 < x.rk
  · refine skip (by
      have h1 : ¬ x.rk = 0 := by omega
      have h2 : ¬ x.rk = 1 := by omega
      simp [opD, hx, touchB, h1, h2]) [.cells (evc x) t_twainref34_Event true] hgE ?_
    cases A <;> simp only [twainref36_Ops.loop3s, twainref36_Ops.loop3, twainref36_Ops.j1, twainref36_Ops.j4, rFr, rowH, blkH, Option.bind_some, Option.map_some, bcase_true, bcase_false, List.getD_cons_zero, List.getD_cons_succ, bin_add, bin_sub, bin_mul, bin_eql, bin_neq, bin_lss, bin_leq, bin_gtr, bin_geq, un_not, pick_bool, decide_true, decide_false, Bool.not_true, Bool.not_false, joinEsc_none, oneOf_one, ext20, ext21, ext30, ext31, ext32, if_true, box_lit, box_int, box_bool, box_slice, box_map, box_ptr, box_tSl, store_lit, store_int, store_bool, store_slice, store_map, store_ptr, store_tSl, load_one, load_agg, app_cons2, List.cons_append, List.nil_append, len_app, List.length_cons, List.length_nil, Nat.zero_add, Nat.add_zero, Nat.reduceAdd, Nat.reduceLeDiff, Nat.le_refl, cellAt_app0, cellAt_app, cellsAt_app0, cellsAt_app, storeL_own0, storeL_own, cellAt_z, cellAt_s, cellsAt_z, cellsAt_s, putB_z, putB_s, List.getElem?_cons_zero, List.getElem?_cons_succ, List.drop_zero, List.drop_succ_cons, List.take_zero, List.take_succ_cons, allCells_cons, allCells_nil, cellV_int, cellV_bool, cellV_string, cellV_ptr, cellV_slice, cellV_map, cellV_func, cellV_nilFunc, cellV_tSl, Bool.and_self, Bool.and_true, Bool.true_and, and_self, true_and, and_true, Bool.false_eq_true, if_false, lrefs_nil, lrefs_cons, vrefs_bool, vrefs_int, vrefs_string, vrefs_ptr, vrefs_ptr0, vrefs_slice, vrefs_slice0, vrefs_map, vrefs_tSl, vrefs_tPtr, vrefs_agg, escOf_nil, Int.reduceEq, Int.reduceLT, Int.reduceLE, putCells_one0, putCells_succ, max_int, min_int, hn', hix, hld, zg_twainref34_Event, zl_twainref34_Event, za_twainref34_Event, evc_len, evc_cells, evc_refs, putCells_all, f0, f3, fa_twainref34_Event_0, fa_twainref34_Event_3, fa_api_Request_0, k0, k1, k2, hw]
  cases hmt : meetB x.off x.len at_ 1 with
  | false =>
    refine skip (by simp [opD, hx, touchB, hmt]) [.cells (evc x) t_twainref34_Event true] hgE ?_
    cases A <;> simp only [twainref36_Ops.loop3s, twainref36_Ops.loop3, twainref36_Ops.j1, twainref36_Ops.j4, rFr, rowH, blkH, Option.bind_some, Option.map_some, bcase_true, bcase_false, List.getD_cons_zero, List.getD_cons_succ, bin_add, bin_sub, bin_mul, bin_eql, bin_neq, bin_lss, bin_leq, bin_gtr, bin_geq, un_not, pick_bool, decide_true, decide_false, Bool.not_true, Bool.not_false, joinEsc_none, oneOf_one, ext20, ext21, ext30, ext31, ext32, if_true, box_lit, box_int, box_bool, box_slice, box_map, box_ptr, box_tSl, store_lit, store_int, store_bool, store_slice, store_map, store_ptr, store_tSl, load_one, load_agg, app_cons2, List.cons_append, List.nil_append, len_app, List.length_cons, List.length_nil, Nat.zero_add, Nat.add_zero, Nat.reduceAdd, Nat.reduceLeDiff, Nat.le_refl, cellAt_app0, cellAt_app, cellsAt_app0, cellsAt_app, storeL_own0, storeL_own, cellAt_z, cellAt_s, cellsAt_z, cellsAt_s, putB_z, putB_s, List.getElem?_cons_zero, List.getElem?_cons_succ, List.drop_zero, List.drop_succ_cons, List.take_zero, List.take_succ_cons, allCells_cons, allCells_nil, cellV_int, cellV_bool, cellV_string, cellV_ptr, cellV_slice, cellV_map, cellV_func, cellV_nilFunc, cellV_tSl, Bool.and_self, Bool.and_true, Bool.true_and, and_self, true_and, and_true, Bool.false_eq_true, if_false, lrefs_nil, lrefs_cons, vrefs_bool, vrefs_int, vrefs_string, vrefs_ptr, vrefs_ptr0, vrefs_slice, vrefs_slice0, vrefs_map, vrefs_tSl, vrefs_tPtr, vrefs_agg, escOf_nil, Int.reduceEq, Int.reduceLT, Int.reduceLE, putCells_one0, putCells_succ, max_int, min_int, hn', hix, hld, zg_twainref34_Event, zl_twainref34_Event, za_twainref34_Event, evc_len, evc_cells, evc_refs, putCells_all, f0, f3, fsp, fa_twainref34_Event_0, fa_twainref34_Event_3, fa_api_Request_0, fa_api_Request_1, bd_span2, hov, hmt, k0, k1, k2, hw]
  | true =>
    have hin := meet_in hmt
    have htb : touchB x at_ = true := by
      have h1 : x.rk = 0 ∨ x.rk = 1 := by omega
      simp [touchB, k0, h1, hmt]
    have hsub : IntKind.i64.wrap (at_ - x.off) = (((at_ - x.off).toNat : Nat) : Int) := by rw [wrap_in ⟨by omega, by omega⟩]; omega
    have hse := fun b hb H => sector_ok (b := b) hb (i := (at_ - x.off).toNat) (by omega) H
    have hz := z16_n
    by_cases k3 : x.rk = 1
    · -- a write
      have hd : opD (endedI l) l at_ n = some ⟨true, secI x.rd (at_ - x.off).toNat, n, endedI l n⟩ := by simp [opD, hx, htb, k3]
      rw [hd]
      simp only
      have hwl : (secI x.rd (at_ - x.off).toNat).length = 16 := secI_len _ _
      have hput := opk_put (x := ⟨true, z16, n, endedI l n⟩) hz hwl
      have h9 := opk_len (x := ⟨true, z16, (n : Int), endedI l n⟩) hz
      have h9' := opk_len (x := ⟨true, secI x.rd (at_ - x.off).toNat, (n : Int), endedI l n⟩) hwl
      have hw0 := opk_w ⟨true, z16, (n : Int), endedI l n⟩
      refine ⟨_, _, ?_, rops_gc2 t_twainref36_Op at_ A ⟨true, secI x.rd (at_ - x.off).toNat, n, endedI l n⟩ (n + 1) ((match A with | [] => [] | _ :: _ => [Blk.dead]) ++ [.cells (evc x) t_twainref34_Event true, .cells (opk ⟨true, secI x.rd (at_ - x.off).toNat, n, endedI l n⟩) t_twainref36_Op true, .cells (opk ⟨true, secI x.rd (at_ - x.off).toNat, n, endedI l n⟩) t_twainref36_Op true]) ?_⟩
      · cases A with
        | nil =>
          have hpn := fun (L : List Blk) (e : Option Nat) (R : Type) (F : Value → AS → Option R) => push_rop_nil (H := H) (L := L) (e := e) (x := ⟨true, secI x.rd (at_ - x.off).toNat, n, endedI l n⟩) hwl (F := F)
          simp only [twainref36_Ops.loop3s, twainref36_Ops.loop3, twainref36_Ops.j1, twainref36_Ops.j2, twainref36_Ops.j3, twainref36_Ops.j4, rFr, rowH, blkH, Option.bind_some, Option.map_some, bcase_true, bcase_false, List.getD_cons_zero, List.getD_cons_succ, bin_add, bin_sub, bin_mul, bin_eql, bin_neq, bin_lss, bin_leq, bin_gtr, bin_geq, un_not, pick_bool, decide_true, decide_false, Bool.not_true, Bool.not_false, joinEsc_none, oneOf_one, ext20, ext21, ext30, ext31, ext32, if_true, box_lit, box_int, box_bool, box_slice, box_map, box_ptr, box_tSl, store_lit, store_int, store_bool, store_slice, store_map, store_ptr, store_tSl, load_one, load_agg, app_cons2, List.cons_append, List.nil_append, len_app, List.length_cons, List.length_nil, Nat.zero_add, Nat.add_zero, Nat.reduceAdd, Nat.reduceLeDiff, Nat.le_refl, cellAt_app0, cellAt_app, cellsAt_app0, cellsAt_app, storeL_own0, storeL_own, cellAt_z, cellAt_s, cellsAt_z, cellsAt_s, putB_z, putB_s, List.getElem?_cons_zero, List.getElem?_cons_succ, List.drop_zero, List.drop_succ_cons, List.take_zero, List.take_succ_cons, allCells_cons, allCells_nil, cellV_int, cellV_bool, cellV_string, cellV_ptr, cellV_slice, cellV_map, cellV_func, cellV_nilFunc, cellV_tSl, Bool.and_self, Bool.and_true, Bool.true_and, and_self, true_and, and_true, Bool.false_eq_true, if_false, lrefs_nil, lrefs_cons, vrefs_bool, vrefs_int, vrefs_string, vrefs_ptr, vrefs_ptr0, vrefs_slice, vrefs_slice0, vrefs_map, vrefs_tSl, vrefs_tPtr, vrefs_agg, escOf_nil, Int.reduceEq, Int.reduceLT, Int.reduceLE, putCells_one0, putCells_succ, max_int, min_int, hn', hix, hld, zg_twainref34_Event, zl_twainref34_Event, za_twainref34_Event, zg_twainref36_Op, zl_twainref36_Op, za_twainref36_Op, evc_len, evc_cells, evc_refs, putCells_all, f0, f3, f4, f6, fsp, fa_twainref34_Event_0, fa_twainref34_Event_3, fa_api_Request_0, fa_api_Request_1, fa_api_Request_2, fa_api_Span_0, fa_twainref36_Op_0, fa_twainref36_Op_1, bd_span2, bd_rop, hov, hmt, hed, k0, k1, k2, k3, hw, veq_int, beq_st, opk_cells, opk_refs, h9, h9', hw0, hsub, hse _ hxo.rd, hput, byt_sec, byt_cells, byt_refs, hpn, List.append_nil, List.take_of_length_le, hopR, List.map_cons, List.map_nil, List.flatten_cons, List.flatten_nil]
        | cons a tl =>
          have hpn := fun (L : List Blk) (e : Option Nat) (R : Type) (F : Value → AS → Option R) (hk : L[0]? = some (.cells (hopR (a :: tl)) t_twainref36_Op true)) => push_rop (H := H) hA (by omega) (L := L) (e := e) (x := ⟨true, secI x.rd (at_ - x.off).toNat, n, endedI l n⟩) hwl (F := F) hk
          simp only [List.length_cons] at hpn
          simp only [twainref36_Ops.loop3s, twainref36_Ops.loop3, twainref36_Ops.j1, twainref36_Ops.j2, twainref36_Ops.j3, twainref36_Ops.j4, rFr, rowH, blkH, Option.bind_some, Option.map_some, bcase_true, bcase_false, List.getD_cons_zero, List.getD_cons_succ, bin_add, bin_sub, bin_mul, bin_eql, bin_neq, bin_lss, bin_leq, bin_gtr, bin_geq, un_not, pick_bool, decide_true, decide_false, Bool.not_true, Bool.not_false, joinEsc_none, oneOf_one, ext20, ext21, ext30, ext31, ext32, if_true, box_lit, box_int, box_bool, box_slice, box_map, box_ptr, box_tSl, store_lit, store_int, store_bool, store_slice, store_map, store_ptr, store_tSl, load_one, load_agg, app_cons2, List.cons_append, List.nil_append, len_app, List.length_cons, List.length_nil, Nat.zero_add, Nat.add_zero, Nat.reduceAdd, Nat.reduceLeDiff, Nat.le_refl, cellAt_app0, cellAt_app, cellsAt_app0, cellsAt_app, storeL_own0, storeL_own, cellAt_z, cellAt_s, cellsAt_z, cellsAt_s, putB_z, putB_s, List.getElem?_cons_zero, List.getElem?_cons_succ, List.drop_zero, List.drop_succ_cons, List.take_zero, List.take_succ_cons, allCells_cons, allCells_nil, cellV_int, cellV_bool, cellV_string, cellV_ptr, cellV_slice, cellV_map, cellV_func, cellV_nilFunc, cellV_tSl, Bool.and_self, Bool.and_true, Bool.true_and, and_self, true_and, and_true, Bool.false_eq_true, if_false, lrefs_nil, lrefs_cons, vrefs_bool, vrefs_int, vrefs_string, vrefs_ptr, vrefs_ptr0, vrefs_slice, vrefs_slice0, vrefs_map, vrefs_tSl, vrefs_tPtr, vrefs_agg, escOf_nil, Int.reduceEq, Int.reduceLT, Int.reduceLE, putCells_one0, putCells_succ, max_int, min_int, hn', hix, hld, zg_twainref34_Event, zl_twainref34_Event, za_twainref34_Event, zg_twainref36_Op, zl_twainref36_Op, za_twainref36_Op, evc_len, evc_cells, evc_refs, putCells_all, f0, f3, f4, f6, fsp, fa_twainref34_Event_0, fa_twainref34_Event_3, fa_api_Request_0, fa_api_Request_1, fa_api_Request_2, fa_api_Span_0, fa_twainref36_Op_0, fa_twainref36_Op_1, bd_span2, bd_rop, hov, hmt, hed, k0, k1, k2, k3, hw, veq_int, beq_st, opk_cells, opk_refs, h9, h9', hw0, hsub, hse _ hxo.rd, hput, byt_sec, byt_cells, byt_refs, hpn, List.append_nil, List.take_of_length_le, List.set_cons_zero]
      · intro b hb
        cases A <;> simp at hb <;> (try rcases hb with rfl | rfl | rfl) <;> (try rcases hb with rfl | rfl) <;> simp [blkRefs_cells, blkRefs_dead, evc_refs, opk_refs]
    · -- a read
      have k4 : x.rk = 0 := by omega
      by_cases k5 : endedI l n < 0
      · have hw0 := opk_w ⟨false, z16, (n : Int), endedI l n⟩
        have ht0 := opk_t (x := ⟨false, z16, (n : Int), endedI l n⟩) hz
        have h9 := opk_len (x := ⟨false, z16, (n : Int), endedI l n⟩) hz
        refine skip (by simp [opD, hx, htb, k3, k5]) [.cells (evc x) t_twainref34_Event true, .cells (opk ⟨false, z16, n, endedI l n⟩) t_twainref36_Op true] (fun b hb => by simp at hb; rcases hb with rfl | rfl <;> simp [blkRefs_cells, evc_refs, opk_refs]) ?_
        cases A <;> simp only [twainref36_Ops.loop3s, twainref36_Ops.loop3, twainref36_Ops.j1, twainref36_Ops.j2, twainref36_Ops.j3, twainref36_Ops.j4, rFr, rowH, blkH, Option.bind_some, Option.map_some, bcase_true, bcase_false, List.getD_cons_zero, List.getD_cons_succ, bin_add, bin_sub, bin_mul, bin_eql, bin_neq, bin_lss, bin_leq, bin_gtr, bin_geq, un_not, pick_bool, decide_true, decide_false, Bool.not_true, Bool.not_false, joinEsc_none, oneOf_one, ext20, ext21, ext30, ext31, ext32, if_true, box_lit, box_int, box_bool, box_slice, box_map, box_ptr, box_tSl, store_lit, store_int, store_bool, store_slice, store_map, store_ptr, store_tSl, load_one, load_agg, app_cons2, List.cons_append, List.nil_append, len_app, List.length_cons, List.length_nil, Nat.zero_add, Nat.add_zero, Nat.reduceAdd, Nat.reduceLeDiff, Nat.le_refl, cellAt_app0, cellAt_app, cellsAt_app0, cellsAt_app, storeL_own0, storeL_own, cellAt_z, cellAt_s, cellsAt_z, cellsAt_s, putB_z, putB_s, List.getElem?_cons_zero, List.getElem?_cons_succ, List.drop_zero, List.drop_succ_cons, List.take_zero, List.take_succ_cons, allCells_cons, allCells_nil, cellV_int, cellV_bool, cellV_string, cellV_ptr, cellV_slice, cellV_map, cellV_func, cellV_nilFunc, cellV_tSl, Bool.and_self, Bool.and_true, Bool.true_and, and_self, true_and, and_true, Bool.false_eq_true, if_false, lrefs_nil, lrefs_cons, vrefs_bool, vrefs_int, vrefs_string, vrefs_ptr, vrefs_ptr0, vrefs_slice, vrefs_slice0, vrefs_map, vrefs_tSl, vrefs_tPtr, vrefs_agg, escOf_nil, Int.reduceEq, Int.reduceLT, Int.reduceLE, putCells_one0, putCells_succ, max_int, min_int, hn', hix, hld, zg_twainref34_Event, zl_twainref34_Event, za_twainref34_Event, zg_twainref36_Op, zl_twainref36_Op, za_twainref36_Op, evc_len, evc_cells, evc_refs, putCells_all, f0, f3, f4, f6, fsp, fa_twainref34_Event_0, fa_twainref34_Event_3, fa_api_Request_0, fa_api_Request_1, fa_api_Request_2, fa_api_Span_0, fa_twainref36_Op_0, fa_twainref36_Op_3, bd_span2, bd_rop, hov, hmt, hed, k0, k1, k2, k3, k4, k5, hw, veq_int, beq_st, opk_cells, opk_refs, h9, hw0, ht0]
      · obtain ⟨m, hEm⟩ : ∃ m : Nat, endedI l n = (m : Int) := ⟨(endedI l n).toNat, by omega⟩
        have hml : m < l.length := by omega
        obtain ⟨y, hy⟩ : ∃ y, l[m]? = some y := ⟨_, List.getElem?_eq_getElem hml⟩
        have hyo := hl y (List.mem_of_getElem? hy)
        have hixm := ix_ref hml
        have hyd := fun st => ev_d hy st
        have hd : opD (endedI l) l at_ n = some ⟨false, secI y.d (at_ - x.off).toNat, n, endedI l n⟩ := by simp [opD, hx, htb, k3, k5, hEm, hy]
        rw [hd]
        simp only
        rw [hEm] at k5 hed
        rw [hEm]
        have hwl : (secI y.d (at_ - x.off).toNat).length = 16 := secI_len _ _
        have hput := opk_put (x := ⟨false, z16, n, (m : Int)⟩) hz hwl
        have h9 := opk_len (x := ⟨false, z16, (n : Int), (m : Int)⟩) hz
        have h9' := opk_len (x := ⟨false, secI y.d (at_ - x.off).toNat, (n : Int), (m : Int)⟩) hwl
        have hw0 := opk_w ⟨false, z16, (n : Int), (m : Int)⟩
        have ht0 := opk_t (x := ⟨false, z16, (n : Int), (m : Int)⟩) hz
        refine ⟨_, _, ?_, rops_gc2 t_twainref36_Op at_ A ⟨false, secI y.d (at_ - x.off).toNat, n, m⟩ (n + 1) ((match A with | [] => [] | _ :: _ => [Blk.dead]) ++ [.cells (evc x) t_twainref34_Event true, .cells (opk ⟨false, secI y.d (at_ - x.off).toNat, n, m⟩) t_twainref36_Op true, .cells (opk ⟨false, secI y.d (at_ - x.off).toNat, n, m⟩) t_twainref36_Op true]) ?_⟩
        · cases A with
          | nil =>
            have hpn := fun (L : List Blk) (e : Option Nat) (R : Type) (F : Value → AS → Option R) => push_rop_nil (H := H) (L := L) (e := e) (x := ⟨false, secI y.d (at_ - x.off).toNat, n, (m : Int)⟩) hwl (F := F)
            simp only [twainref36_Ops.loop3s, twainref36_Ops.loop3, twainref36_Ops.j1, twainref36_Ops.j2, twainref36_Ops.j3, twainref36_Ops.j4, rFr, rowH, blkH, Option.bind_some, Option.map_some, bcase_true, bcase_false, List.getD_cons_zero, List.getD_cons_succ, bin_add, bin_sub, bin_mul, bin_eql, bin_neq, bin_lss, bin_leq, bin_gtr, bin_geq, un_not, pick_bool, decide_true, decide_false, Bool.not_true, Bool.not_false, joinEsc_none, oneOf_one, ext20, ext21, ext30, ext31, ext32, if_true, box_lit, box_int, box_bool, box_slice, box_map, box_ptr, box_tSl, store_lit, store_int, store_bool, store_slice, store_map, store_ptr, store_tSl, load_one, load_agg, app_cons2, List.cons_append, List.nil_append, len_app, List.length_cons, List.length_nil, Nat.zero_add, Nat.add_zero, Nat.reduceAdd, Nat.reduceLeDiff, Nat.le_refl, cellAt_app0, cellAt_app, cellsAt_app0, cellsAt_app, storeL_own0, storeL_own, cellAt_z, cellAt_s, cellsAt_z, cellsAt_s, putB_z, putB_s, List.getElem?_cons_zero, List.getElem?_cons_succ, List.drop_zero, List.drop_succ_cons, List.take_zero, List.take_succ_cons, allCells_cons, allCells_nil, cellV_int, cellV_bool, cellV_string, cellV_ptr, cellV_slice, cellV_map, cellV_func, cellV_nilFunc, cellV_tSl, Bool.and_self, Bool.and_true, Bool.true_and, and_self, true_and, and_true, Bool.false_eq_true, if_false, lrefs_nil, lrefs_cons, vrefs_bool, vrefs_int, vrefs_string, vrefs_ptr, vrefs_ptr0, vrefs_slice, vrefs_slice0, vrefs_map, vrefs_tSl, vrefs_tPtr, vrefs_agg, escOf_nil, Int.reduceEq, Int.reduceLT, Int.reduceLE, putCells_one0, putCells_succ, max_int, min_int, hn', hix, hld, hixm, ft_twainref34_Event_4, hyd, zg_twainref34_Event, zl_twainref34_Event, za_twainref34_Event, zg_twainref36_Op, zl_twainref36_Op, za_twainref36_Op, evc_len, evc_cells, evc_refs, putCells_all, f0, f3, f4, f6, fsp, fa_twainref34_Event_0, fa_twainref34_Event_3, fa_api_Request_0, fa_api_Request_1, fa_api_Request_2, fa_api_Span_0, fa_twainref36_Op_0, fa_twainref36_Op_1, fa_twainref36_Op_3, bd_span2, bd_rop, hov, hmt, hed, k0, k1, k2, k3, k4, k5, hw, veq_int, beq_st, opk_cells, opk_refs, h9, h9', hw0, ht0, hsub, hse _ hyo.d, hput, byt_sec, byt_cells, byt_refs, hpn, List.append_nil, List.take_of_length_le, hopR, List.map_cons, List.map_nil, List.flatten_cons, List.flatten_nil]
          | cons a tl =>
            have hpn := fun (L : List Blk) (e : Option Nat) (R : Type) (F : Value → AS → Option R) (hk : L[0]? = some (.cells (hopR (a :: tl)) t_twainref36_Op true)) => push_rop (H := H) hA (by omega) (L := L) (e := e) (x := ⟨false, secI y.d (at_ - x.off).toNat, n, (m : Int)⟩) hwl (F := F) hk
            simp only [List.length_cons] at hpn
            simp only [twainref36_Ops.loop3s, twainref36_Ops.loop3, twainref36_Ops.j1, twainref36_Ops.j2, twainref36_Ops.j3, twainref36_Ops.j4, rFr, rowH, blkH, Option.bind_some, Option.map_some, bcase_true, bcase_false, List.getD_cons_zero, List.getD_cons_succ, bin_add, bin_sub, bin_mul, bin_eql, bin_neq, bin_lss, bin_leq, bin_gtr, bin_geq, un_not, pick_bool, decide_true, decide_false, Bool.not_true, Bool.not_false, joinEsc_none, oneOf_one, ext20, ext21, ext30, ext31, ext32, if_true, box_lit, box_int, box_bool, box_slice, box_map, box_ptr, box_tSl, store_lit, store_int, store_bool, store_slice, store_map, store_ptr, store_tSl, load_one, load_agg, app_cons2, List.cons_append, List.nil_append, len_app, List.length_cons, List.length_nil, Nat.zero_add, Nat.add_zero, Nat.reduceAdd, Nat.reduceLeDiff, Nat.le_refl, cellAt_app0, cellAt_app, cellsAt_app0, cellsAt_app, storeL_own0, storeL_own, cellAt_z, cellAt_s, cellsAt_z, cellsAt_s, putB_z, putB_s, List.getElem?_cons_zero, List.getElem?_cons_succ, List.drop_zero, List.drop_succ_cons, List.take_zero, List.take_succ_cons, allCells_cons, allCells_nil, cellV_int, cellV_bool, cellV_string, cellV_ptr, cellV_slice, cellV_map, cellV_func, cellV_nilFunc, cellV_tSl, Bool.and_self, Bool.and_true, Bool.true_and, and_self, true_and, and_true, Bool.false_eq_true, if_false, lrefs_nil, lrefs_cons, vrefs_bool, vrefs_int, vrefs_string, vrefs_ptr, vrefs_ptr0, vrefs_slice, vrefs_slice0, vrefs_map, vrefs_tSl, vrefs_tPtr, vrefs_agg, escOf_nil, Int.reduceEq, Int.reduceLT, Int.reduceLE, putCells_one0, putCells_succ, max_int, min_int, hn', hix, hld, hixm, ft_twainref34_Event_4, hyd, zg_twainref34_Event, zl_twainref34_Event, za_twainref34_Event, zg_twainref36_Op, zl_twainref36_Op, za_twainref36_Op, evc_len, evc_cells, evc_refs, putCells_all, f0, f3, f4, f6, fsp, fa_twainref34_Event_0, fa_twainref34_Event_3, fa_api_Request_0, fa_api_Request_1, fa_api_Request_2, fa_api_Span_0, fa_twainref36_Op_0, fa_twainref36_Op_1, fa_twainref36_Op_3, bd_span2, bd_rop, hov, hmt, hed, k0, k1, k2, k3, k4, k5, hw, veq_int, beq_st, opk_cells, opk_refs, h9, h9', hw0, ht0, hsub, hse _ hyo.d, hput, byt_sec, byt_cells, byt_refs, hpn, List.append_nil, List.take_of_length_le, List.set_cons_zero]
        · intro b hb
          cases A <;> simp at hb <;> (try rcases hb with rfl | rfl | rfl) <;> (try rcases hb with rfl | rfl) <;> simp [blkRefs_cells, blkRefs_dead, evc_refs, opk_refs]

theorem rops_ok (hl : OkEvs l) (hm : l.length < 60000) {at_ : Int} (hat : isI at_) (H : List Blk) : acall PP TT n_twainref36_Ops [tSl l.length (evR l), .int .i64 at_] H = some (tSl (opsL (endedI l) l at_ l.length).length (hopR (opsL (endedI l) l at_ l.length)), H, none) := by
  have hlast : ¬ ((l.length : Int) < (l.length : Int)) := Int.lt_irrefl _
  have hE : ∀ n, isI (endedI l n) := fun n => (endedI_isI (by omega) n).1
  have hok := opsL_ok (E := endedI l) hl (by omega) hE at_
  obtain ⟨r, hlp, hr⟩ := loop_r (n0 := H.length) (step := twainref36_Ops.loop3s (acall PP TT) loopG H.length) (len := l.length) (σ := Unit)
    (fun n _ => (rFr H.length l at_ (opsL (endedI l) l at_ n) n, ⟨H ++ blkH t_twainref36_Op (opsL (endedI l) l at_ n), none⟩))
    (fun _ _ => True) (fun r => r = (.exit 0, [rowH H.length (opsL (endedI l) l at_ l.length)], ⟨H ++ blkH t_twainref36_Op (opsL (endedI l) l at_ l.length), none⟩))
    (fun n _ hn _ => by
      obtain ⟨x, hx⟩ : ∃ x, l[n]? = some x := ⟨_, List.getElem?_eq_getElem hn⟩
      obtain ⟨vs, st, h1, h2⟩ := rops_step (H := H) hl hm hat hn hx (hok n).1 (hok n).2
      exact .inr ⟨vs, st, (), h1, h2, trivial⟩)
    (fun _ _ => ⟨_, by simp only [twainref36_Ops.loop3s, twainref36_Ops.loop3, rFr, Option.bind_some, Option.map_some, bcase_true, bcase_false, List.getD_cons_zero, List.getD_cons_succ, bin_add, bin_sub, bin_mul, bin_eql, bin_neq, bin_lss, bin_leq, bin_gtr, bin_geq, un_not, pick_bool, decide_true, decide_false, Bool.not_true, Bool.not_false, joinEsc_none, oneOf_one, ext20, ext21, ext30, ext31, ext32, if_true, box_lit, box_int, box_bool, box_slice, box_map, box_ptr, box_tSl, store_lit, store_int, store_bool, store_slice, store_map, store_ptr, store_tSl, load_one, load_agg, app_cons2, List.cons_append, List.nil_append, len_app, List.length_cons, List.length_nil, Nat.zero_add, Nat.add_zero, Nat.reduceAdd, Nat.reduceLeDiff, Nat.le_refl, cellAt_app0, cellAt_app, cellsAt_app0, cellsAt_app, storeL_own0, storeL_own, cellAt_z, cellAt_s, cellsAt_z, cellsAt_s, putB_z, putB_s, List.getElem?_cons_zero, List.getElem?_cons_succ, List.drop_zero, List.drop_succ_cons, List.take_zero, List.take_succ_cons, allCells_cons, allCells_nil, cellV_int, cellV_bool, cellV_string, cellV_ptr, cellV_slice, cellV_map, cellV_func, cellV_nilFunc, cellV_tSl, Bool.and_self, Bool.and_true, Bool.true_and, and_self, true_and, and_true, Bool.false_eq_true, if_false, lrefs_nil, lrefs_cons, vrefs_bool, vrefs_int, vrefs_string, vrefs_ptr, vrefs_ptr0, vrefs_slice, vrefs_slice0, vrefs_map, vrefs_tSl, vrefs_tPtr, vrefs_agg, escOf_nil, Int.reduceEq, Int.reduceLT, Int.reduceLE, putCells_one0, putCells_succ, max_int, min_int, hlast], rfl⟩)
    l.length 0 () [tSl l.length (evR l), .int .i64 at_, .slice none 0 0, tSl l.length (evR l), .int .i64 l.length, .int .i64 0] ⟨H, none⟩ (by omega) trivial (by
      have := gc_nil (H := H) (vs := [tSl l.length (evR l), .int .i64 at_, .slice none 0 0, tSl l.length (evR l), .int .i64 l.length, .int .i64 0]) (by simp [evR_refs])
      simpa [opsL, rFr, rowH, blkH] using this)
  subst hr
  rw [acall_eq, twainref36_Ops.eq]
  simp only [twainref36_Ops.sh, ln_ref, Option.bind_some, Option.map_some, bcase_true, bcase_false, List.getD_cons_zero, List.getD_cons_succ, bin_add, bin_sub, bin_mul, bin_eql, bin_neq, bin_lss, bin_leq, bin_gtr, bin_geq, un_not, pick_bool, decide_true, decide_false, Bool.not_true, Bool.not_false, joinEsc_none, oneOf_one, ext20, ext21, ext30, ext31, ext32, if_true, box_lit, box_int, box_bool, box_slice, box_map, box_ptr, box_tSl, store_lit, store_int, store_bool, store_slice, store_map, store_ptr, store_tSl, load_one, load_agg, app_cons2, List.cons_append, List.nil_append, len_app, List.length_cons, List.length_nil, Nat.zero_add, Nat.add_zero, Nat.reduceAdd, Nat.reduceLeDiff, Nat.le_refl, cellAt_app0, cellAt_app, cellsAt_app0, cellsAt_app, storeL_own0, storeL_own, cellAt_z, cellAt_s, cellsAt_z, cellsAt_s, putB_z, putB_s, List.getElem?_cons_zero, List.getElem?_cons_succ, List.drop_zero, List.drop_succ_cons, List.take_zero, List.take_succ_cons, allCells_cons, allCells_nil, cellV_int, cellV_bool, cellV_string, cellV_ptr, cellV_slice, cellV_map, cellV_func, cellV_nilFunc, cellV_tSl, Bool.and_self, Bool.and_true, Bool.true_and, and_self, true_and, and_true, Bool.false_eq_true, if_false, lrefs_nil, lrefs_cons, vrefs_bool, vrefs_int, vrefs_string, vrefs_ptr, vrefs_ptr0, vrefs_slice, vrefs_slice0, vrefs_map, vrefs_tSl, vrefs_tPtr, vrefs_agg, escOf_nil, Int.reduceEq, Int.reduceLT, Int.reduceLE, putCells_one0, putCells_succ, max_int, min_int, hlp, twainref36_Ops.j6]
  have hA := (hok l.length).1
  generalize opsL (endedI l) l at_ l.length = A at hA
  cases A with
  | nil =>
    have := fin_nil (P := PP) (H0 := H) (l := []) (e := none) rfl
    simpa [rowH, blkH, hopR] using this
  | cons a tl => exact fin_row0 (sz := 19) rfl sz_twainref36_Op (hopR_len hA) (hopR_flat _) (hopR_refs _) rfl

end
end Go.Proofs.Ytfinilnkempofaa
