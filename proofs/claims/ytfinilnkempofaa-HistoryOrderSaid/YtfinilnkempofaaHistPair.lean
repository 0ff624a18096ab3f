/- The program's pairs: its loop. -/
import Derived.Test.YtfinilnkempofaaHistProg
set_option linter.all false
set_option linter.unusedVariables false
set_option linter.unusedSimpArgs false
set_option linter.unnecessarySimpa false
namespace Go.Proofs.Ytfinilnkempofaa
open Go Go.Am

theorem veq_map (a : Nat) : veq (.map (some a)) (.map (some a)) = true := by simp [veq]
theorem veq_int (k : IntKind) (a : Int) : veq (.int k a) (.int k a) = true := by simp [veq]

/-- the pairs under way, as the loop has them -/
def zP : Blk := .cells [.map none, .map none, .bool false] t_history_pairs true
def pB (n0 : Nat) (odd : Bool) : Blk := .cells [.map (some (n0 + 2)), .map (some (n0 + 3)), .bool odd] t_history_pairs true
def pFr (n0 : Nat) (l : List Ev) (n : Nat) : List Value := [.pointer (some ⟨n0, 0, none⟩), .pointer (some ⟨n0 + 1, 0, none⟩), tSl l.length (evR l), .int .i64 l.length, .int .i64 n]
def pHp (n0 : Nat) (s : PS) : List Blk := [zP, pB n0 s.odd, mapA s, mapE s]

section
variable {l : List Ev} {H : List Blk}

theorem pair_gc (s : PS) (n : Nat) (x : Ev) : gc H.length (pFr H.length l n) ⟨H ++ (pHp H.length s ++ [.cells (evc x) t_world_Event true]), none⟩ = (pFr H.length l n, ⟨H ++ pHp H.length s, none⟩) :=
  gc_own [[], [2, 3], [], [], []] [0, 1] [0, 1, 2, 3] rfl rfl (by simp [pFr, evR_refs]) (by simp [pHp, zP, pB, mapA_refs, mapE_refs, blkRefs_cells, evc_refs])
    (by simp [pFr, lren, vren, rn_own, rn_own0, findIx, vren_none, evR_refs]) (by simp [pHp, zP, pB, renBlk_cells, lren, vren, rn_own, rn_own0, findIx, mapA_ren, mapE_ren])

theorem lk_at' {s : PS} {L : List Blk} {e : Option Nat} {n : Nat} (h : OkPS n s) {w t : Int} (hw : isI w) (ht : isI t) (hb : L[2]? = some (mapA s)) :
    aLookup PP t_M_history_key_int (.map (some (H.length + 2))) (keyV w t) true ⟨H ++ L, e⟩ = some (.tuple #[.int .i64 (((lookA s.A w t).getD 0 : Nat) : Int), .bool (lookA s.A w t).isSome]) := lk_at h hw ht hb
theorem up_at' {s : PS} {L : List Blk} {e : Option Nat} {n : Nat} (h : OkPS n s) {w t : Int} {i : Nat} (hw : isI w) (ht : isI t) (hnew : lookA s.A w t = none) (hb : L[2]? = some (mapA s)) :
    aMapUpdate PP t_M_history_key_int (.map (some (H.length + 2))) (keyV w t) (.int .i64 i) ⟨H ++ L, e⟩ = some ⟨H ++ L.set 2 (mapA ⟨s.A ++ [((w, t), i)], s.E, s.odd⟩), e⟩ := by
  rw [up_at h hw ht hb hnew]
  simp [mapA]
theorem lk_en' {s : PS} {L : List Blk} {e : Option Nat} {n m : Nat} (h : OkPS n s) (hn : n < 1000000) (hm : m < 1000000) (hb : L[3]? = some (mapE s)) :
    aLookup PP t_M_int_int (.map (some (H.length + 3))) (.int .i64 m) true ⟨H ++ L, e⟩ = some (.tuple #[.int .i64 (((lookE s.E m).getD 0 : Nat) : Int), .bool (lookE s.E m).isSome]) := lk_en h hm hn hb
theorem up_en' {s : PS} {L : List Blk} {e : Option Nat} {n m i : Nat} (h : OkPS n s) (hn : n < 1000000) (hm : m < 1000000) (hnew : lookE s.E m = none) (hb : L[3]? = some (mapE s)) :
    aMapUpdate PP t_M_int_int (.map (some (H.length + 3))) (.int .i64 m) (.int .i64 i) ⟨H ++ L, e⟩ = some ⟨H ++ L.set 3 (mapE ⟨s.A, s.E ++ [(m, i)], s.odd⟩), e⟩ := by
  rw [up_en h hm hn hb hnew]
  simp [mapE]

theorem pair_step (hl : OkEvs l) (hm : l.length < 1000000) {n : Nat} (hn : n < l.length) {x : Ev} (hx : l[n]? = some x) :
    history_paired.loop3s (acall PP TT) loopG H.length (pFr H.length l n, ⟨H ++ pHp H.length (pairS l n), none⟩) = some (.inl (pFr H.length l (n + 1), ⟨H ++ (pHp H.length (pairS l (n + 1)) ++ [.cells (evc x) t_world_Event true]), none⟩)) := by
  have hxo := hl x (List.mem_of_getElem? hx)
  have hok := pairS_ok hl n (by omega)
  have hs1 : pairS l (n + 1) = pstep (pairS l n) n x := by simp [pairS, hx]
  rw [hs1]
  generalize pairS l n = s at hok
  obtain ⟨A, E, odd⟩ := s
  have hn' : ((n : Int) < (l.length : Int)) := by omega
  have hix := ix_wld hn
  have hld := fun st => ev_load hx st
  have hw := wrap_succ (n := n) (by omega)
  have htk : (evc x).take 8 = evc x := List.take_of_length_le (by simp [evc_len])
  have hk0 : (evc x)[0]? = some (.int .i64 x.kind) := by simp [evc]
  have hof := fun H => of_ok x H
  have hla := fun (L : List Blk) (e : Option Nat) (hb : L[2]? = some (mapA ⟨A, E, odd⟩)) => lk_at' (H := H) (e := e) hok hxo.who hxo.ticket hb
  by_cases k0 : x.kind = 0
  · cases hf : lookA A x.who x.ticket with
    | some m =>
      have hp : pstep ⟨A, E, odd⟩ n x = ⟨A, E, true⟩ := by simp [pstep, k0, hf]
      rw [hp]
      simp only [hf, Option.getD_some, Option.isSome_some] at hla
      cases odd <;>
      · simp only [history_paired.loop3s, history_paired.loop3, history_paired.j1, history_paired.j4, pFr, pHp, zP, pB, Option.bind_some, Option.map_some, bcase_true, bcase_false, List.getD_cons_zero, List.getD_cons_succ, bin_add, bin_sub, bin_mul, bin_eql, bin_neq, bin_lss, bin_leq, bin_gtr, bin_geq, un_not, pick_bool, decide_true, decide_false, Bool.not_true, Bool.not_false, joinEsc_none, oneOf_one, ext20, ext21, ext30, ext31, ext32, if_true, box_lit, box_int, box_bool, box_slice, box_map, box_ptr, box_tSl, store_lit, store_int, store_bool, store_slice, store_map, store_ptr, store_tSl, load_one, load_agg, app_cons2, List.cons_append, List.nil_append, len_app, List.length_cons, List.length_nil, Nat.zero_add, Nat.add_zero, Nat.reduceAdd, Nat.reduceLeDiff, Nat.le_refl, cellAt_app0, cellAt_app, cellsAt_app0, cellsAt_app, storeL_own0, storeL_own, cellAt_z, cellAt_s, cellsAt_z, cellsAt_s, putB_z, putB_s, List.getElem?_cons_zero, List.getElem?_cons_succ, List.drop_zero, List.drop_succ_cons, List.take_zero, List.take_succ_cons, allCells_cons, allCells_nil, cellV_int, cellV_bool, cellV_string, cellV_ptr, cellV_slice, cellV_map, cellV_func, cellV_nilFunc, cellV_tSl, Bool.and_self, Bool.and_true, Bool.true_and, and_self, true_and, and_true, Bool.false_eq_true, if_false, lrefs_nil, lrefs_cons, vrefs_bool, vrefs_int, vrefs_string, vrefs_ptr, vrefs_ptr0, vrefs_slice, vrefs_slice0, vrefs_map, vrefs_tSl, vrefs_tPtr, vrefs_agg, escOf_nil, Int.reduceEq, Int.reduceLT, Int.reduceLE, putCells_one0, putCells_succ, max_int, min_int, hn', hix, hld, zg_world_Event, zl_world_Event, za_world_Event, evc_len, evc_cells, evc_refs, putCells_all, htk, hk0, fa_history_pairs_0, fa_history_pairs_2, fa_world_Event_0, hof, hla, veq_map, beq_st, k0, hw, List.append_nil]
        try rfl
    | none =>
      have hp : pstep ⟨A, E, odd⟩ n x = ⟨A ++ [((x.who, x.ticket), n)], E, odd⟩ := by simp [pstep, k0, hf]
      rw [hp]
      simp only [hf, Option.getD_none, Option.isSome_none] at hla
      have hup := fun (L : List Blk) (e : Option Nat) (hb : L[2]? = some (mapA ⟨A, E, odd⟩)) => up_at' (H := H) (e := e) (i := n) hok hxo.who hxo.ticket hf hb
      cases odd <;>
      · simp only [history_paired.loop3s, history_paired.loop3, history_paired.j1, history_paired.j4, pFr, pHp, zP, pB, Option.bind_some, Option.map_some, bcase_true, bcase_false, List.getD_cons_zero, List.getD_cons_succ, bin_add, bin_sub, bin_mul, bin_eql, bin_neq, bin_lss, bin_leq, bin_gtr, bin_geq, un_not, pick_bool, decide_true, decide_false, Bool.not_true, Bool.not_false, joinEsc_none, oneOf_one, ext20, ext21, ext30, ext31, ext32, if_true, box_lit, box_int, box_bool, box_slice, box_map, box_ptr, box_tSl, store_lit, store_int, store_bool, store_slice, store_map, store_ptr, store_tSl, load_one, load_agg, app_cons2, List.cons_append, List.nil_append, len_app, List.length_cons, List.length_nil, Nat.zero_add, Nat.add_zero, Nat.reduceAdd, Nat.reduceLeDiff, Nat.le_refl, cellAt_app0, cellAt_app, cellsAt_app0, cellsAt_app, storeL_own0, storeL_own, cellAt_z, cellAt_s, cellsAt_z, cellsAt_s, putB_z, putB_s, List.getElem?_cons_zero, List.getElem?_cons_succ, List.drop_zero, List.drop_succ_cons, List.take_zero, List.take_succ_cons, allCells_cons, allCells_nil, cellV_int, cellV_bool, cellV_string, cellV_ptr, cellV_slice, cellV_map, cellV_func, cellV_nilFunc, cellV_tSl, Bool.and_self, Bool.and_true, Bool.true_and, and_self, true_and, and_true, Bool.false_eq_true, if_false, lrefs_nil, lrefs_cons, vrefs_bool, vrefs_int, vrefs_string, vrefs_ptr, vrefs_ptr0, vrefs_slice, vrefs_slice0, vrefs_map, vrefs_tSl, vrefs_tPtr, vrefs_agg, escOf_nil, Int.reduceEq, Int.reduceLT, Int.reduceLE, putCells_one0, putCells_succ, max_int, min_int, hn', hix, hld, zg_world_Event, zl_world_Event, za_world_Event, evc_len, evc_cells, evc_refs, putCells_all, htk, hk0, fa_history_pairs_0, fa_history_pairs_2, fa_world_Event_0, hof, hla, hup, veq_map, beq_st, k0, hw, List.append_nil, List.set_cons_succ, List.set_cons_zero]
        try rfl
  · by_cases k1 : x.kind = 1
    · cases hf : lookA A x.who x.ticket with
      | none =>
        have hp : pstep ⟨A, E, odd⟩ n x = ⟨A, E, true⟩ := by simp [pstep, k0, k1, hf]
        rw [hp]
        simp only [hf, Option.getD_none, Option.isSome_none] at hla
        have hle := fun (L : List Blk) (e : Option Nat) (hb : L[3]? = some (mapE ⟨A, E, odd⟩)) => lk_en' (H := H) (e := e) hok (by omega) (m := 0) (by omega) hb
        cases odd <;>
        · simp only [history_paired.loop3s, history_paired.loop3, history_paired.j1, history_paired.j2, history_paired.j3, history_paired.j4, pFr, pHp, zP, pB, Option.bind_some, Option.map_some, bcase_true, bcase_false, List.getD_cons_zero, List.getD_cons_succ, bin_add, bin_sub, bin_mul, bin_eql, bin_neq, bin_lss, bin_leq, bin_gtr, bin_geq, un_not, pick_bool, decide_true, decide_false, Bool.not_true, Bool.not_false, joinEsc_none, oneOf_one, ext20, ext21, ext30, ext31, ext32, if_true, box_lit, box_int, box_bool, box_slice, box_map, box_ptr, box_tSl, store_lit, store_int, store_bool, store_slice, store_map, store_ptr, store_tSl, load_one, load_agg, app_cons2, List.cons_append, List.nil_append, len_app, List.length_cons, List.length_nil, Nat.zero_add, Nat.add_zero, Nat.reduceAdd, Nat.reduceLeDiff, Nat.le_refl, cellAt_app0, cellAt_app, cellsAt_app0, cellsAt_app, storeL_own0, storeL_own, cellAt_z, cellAt_s, cellsAt_z, cellsAt_s, putB_z, putB_s, List.getElem?_cons_zero, List.getElem?_cons_succ, List.drop_zero, List.drop_succ_cons, List.take_zero, List.take_succ_cons, allCells_cons, allCells_nil, cellV_int, cellV_bool, cellV_string, cellV_ptr, cellV_slice, cellV_map, cellV_func, cellV_nilFunc, cellV_tSl, Bool.and_self, Bool.and_true, Bool.true_and, and_self, true_and, and_true, Bool.false_eq_true, if_false, lrefs_nil, lrefs_cons, vrefs_bool, vrefs_int, vrefs_string, vrefs_ptr, vrefs_ptr0, vrefs_slice, vrefs_slice0, vrefs_map, vrefs_tSl, vrefs_tPtr, vrefs_agg, escOf_nil, Int.reduceEq, Int.reduceLT, Int.reduceLE, putCells_one0, putCells_succ, max_int, min_int, hn', hix, hld, zg_world_Event, zl_world_Event, za_world_Event, evc_len, evc_cells, evc_refs, putCells_all, htk, hk0, fa_history_pairs_0, fa_history_pairs_1, fa_history_pairs_2, fa_world_Event_0, hof, hla, hle, veq_map, beq_st, k1, hw, List.append_nil]
          try rfl
      | some m =>
        simp only [hf, Option.getD_some, Option.isSome_some] at hla
        have hmn : m < n := (hok.a _ (lookA_mem hf)).2.2
        have hle := fun (L : List Blk) (e : Option Nat) (hb : L[3]? = some (mapE ⟨A, E, odd⟩)) => lk_en' (H := H) (e := e) hok (by omega) (m := m) (by omega) hb
        cases hg : lookE E m with
        | some q =>
          have hp : pstep ⟨A, E, odd⟩ n x = ⟨A, E, true⟩ := by simp [pstep, k0, k1, hf, hg]
          rw [hp]
          simp only [hg, Option.getD_some, Option.isSome_some] at hle
          cases odd <;>
          · simp only [history_paired.loop3s, history_paired.loop3, history_paired.j1, history_paired.j2, history_paired.j3, history_paired.j4, pFr, pHp, zP, pB, Option.bind_some, Option.map_some, bcase_true, bcase_false, List.getD_cons_zero, List.getD_cons_succ, bin_add, bin_sub, bin_mul, bin_eql, bin_neq, bin_lss, bin_leq, bin_gtr, bin_geq, un_not, pick_bool, decide_true, decide_false, Bool.not_true, Bool.not_false, joinEsc_none, oneOf_one, ext20, ext21, ext30, ext31, ext32, if_true, box_lit, box_int, box_bool, box_slice, box_map, box_ptr, box_tSl, store_lit, store_int, store_bool, store_slice, store_map, store_ptr, store_tSl, load_one, load_agg, app_cons2, List.cons_append, List.nil_append, len_app, List.length_cons, List.length_nil, Nat.zero_add, Nat.add_zero, Nat.reduceAdd, Nat.reduceLeDiff, Nat.le_refl, cellAt_app0, cellAt_app, cellsAt_app0, cellsAt_app, storeL_own0, storeL_own, cellAt_z, cellAt_s, cellsAt_z, cellsAt_s, putB_z, putB_s, List.getElem?_cons_zero, List.getElem?_cons_succ, List.drop_zero, List.drop_succ_cons, List.take_zero, List.take_succ_cons, allCells_cons, allCells_nil, cellV_int, cellV_bool, cellV_string, cellV_ptr, cellV_slice, cellV_map, cellV_func, cellV_nilFunc, cellV_tSl, Bool.and_self, Bool.and_true, Bool.true_and, and_self, true_and, and_true, Bool.false_eq_true, if_false, lrefs_nil, lrefs_cons, vrefs_bool, vrefs_int, vrefs_string, vrefs_ptr, vrefs_ptr0, vrefs_slice, vrefs_slice0, vrefs_map, vrefs_tSl, vrefs_tPtr, vrefs_agg, escOf_nil, Int.reduceEq, Int.reduceLT, Int.reduceLE, putCells_one0, putCells_succ, max_int, min_int, hn', hix, hld, zg_world_Event, zl_world_Event, za_world_Event, evc_len, evc_cells, evc_refs, putCells_all, htk, hk0, fa_history_pairs_0, fa_history_pairs_1, fa_history_pairs_2, fa_world_Event_0, hof, hla, hle, veq_map, beq_st, k1, hw, List.append_nil]
            try rfl
        | none =>
          have hp : pstep ⟨A, E, odd⟩ n x = ⟨A, E ++ [(m, n)], odd⟩ := by simp [pstep, k0, k1, hf, hg]
          rw [hp]
          simp only [hg, Option.getD_none, Option.isSome_none] at hle
          have hup := fun (L : List Blk) (e : Option Nat) (hb : L[3]? = some (mapE ⟨A, E, odd⟩)) => up_en' (H := H) (e := e) (i := n) hok (by omega) (m := m) (by omega) hg hb
          cases odd <;>
          · simp only [history_paired.loop3s, history_paired.loop3, history_paired.j1, history_paired.j2, history_paired.j3, history_paired.j4, pFr, pHp, zP, pB, Option.bind_some, Option.map_some, bcase_true, bcase_false, List.getD_cons_zero, List.getD_cons_succ, bin_add, bin_sub, bin_mul, bin_eql, bin_neq, bin_lss, bin_leq, bin_gtr, bin_geq, un_not, pick_bool, decide_true, decide_false, Bool.not_true, Bool.not_false, joinEsc_none, oneOf_one, ext20, ext21, ext30, ext31, ext32, if_true, box_lit, box_int, box_bool, box_slice, box_map, box_ptr, box_tSl, store_lit, store_int, store_bool, store_slice, store_map, store_ptr, store_tSl, load_one, load_agg, app_cons2, List.cons_append, List.nil_append, len_app, List.length_cons, List.length_nil, Nat.zero_add, Nat.add_zero, Nat.reduceAdd, Nat.reduceLeDiff, Nat.le_refl, cellAt_app0, cellAt_app, cellsAt_app0, cellsAt_app, storeL_own0, storeL_own, cellAt_z, cellAt_s, cellsAt_z, cellsAt_s, putB_z, putB_s, List.getElem?_cons_zero, List.getElem?_cons_succ, List.drop_zero, List.drop_succ_cons, List.take_zero, List.take_succ_cons, allCells_cons, allCells_nil, cellV_int, cellV_bool, cellV_string, cellV_ptr, cellV_slice, cellV_map, cellV_func, cellV_nilFunc, cellV_tSl, Bool.and_self, Bool.and_true, Bool.true_and, and_self, true_and, and_true, Bool.false_eq_true, if_false, lrefs_nil, lrefs_cons, vrefs_bool, vrefs_int, vrefs_string, vrefs_ptr, vrefs_ptr0, vrefs_slice, vrefs_slice0, vrefs_map, vrefs_tSl, vrefs_tPtr, vrefs_agg, escOf_nil, Int.reduceEq, Int.reduceLT, Int.reduceLE, putCells_one0, putCells_succ, max_int, min_int, hn', hix, hld, zg_world_Event, zl_world_Event, za_world_Event, evc_len, evc_cells, evc_refs, putCells_all, htk, hk0, fa_history_pairs_0, fa_history_pairs_1, fa_history_pairs_2, fa_world_Event_0, hof, hla, hle, hup, veq_map, beq_st, k1, hw, List.append_nil, List.set_cons_succ, List.set_cons_zero]
            try rfl
    · have hp : pstep ⟨A, E, odd⟩ n x = ⟨A, E, odd⟩ := by simp [pstep, k0, k1]
      rw [hp]
      simp only [history_paired.loop3s, history_paired.loop3, history_paired.j1, history_paired.j4, pFr, pHp, zP, pB, Option.bind_some, Option.map_some, bcase_true, bcase_false, List.getD_cons_zero, List.getD_cons_succ, bin_add, bin_sub, bin_mul, bin_eql, bin_neq, bin_lss, bin_leq, bin_gtr, bin_geq, un_not, pick_bool, decide_true, decide_false, Bool.not_true, Bool.not_false, joinEsc_none, oneOf_one, ext20, ext21, ext30, ext31, ext32, if_true, box_lit, box_int, box_bool, box_slice, box_map, box_ptr, box_tSl, store_lit, store_int, store_bool, store_slice, store_map, store_ptr, store_tSl, load_one, load_agg, app_cons2, List.cons_append, List.nil_append, len_app, List.length_cons, List.length_nil, Nat.zero_add, Nat.add_zero, Nat.reduceAdd, Nat.reduceLeDiff, Nat.le_refl, cellAt_app0, cellAt_app, cellsAt_app0, cellsAt_app, storeL_own0, storeL_own, cellAt_z, cellAt_s, cellsAt_z, cellsAt_s, putB_z, putB_s, List.getElem?_cons_zero, List.getElem?_cons_succ, List.drop_zero, List.drop_succ_cons, List.take_zero, List.take_succ_cons, allCells_cons, allCells_nil, cellV_int, cellV_bool, cellV_string, cellV_ptr, cellV_slice, cellV_map, cellV_func, cellV_nilFunc, cellV_tSl, Bool.and_self, Bool.and_true, Bool.true_and, and_self, true_and, and_true, Bool.false_eq_true, if_false, lrefs_nil, lrefs_cons, vrefs_bool, vrefs_int, vrefs_string, vrefs_ptr, vrefs_ptr0, vrefs_slice, vrefs_slice0, vrefs_map, vrefs_tSl, vrefs_tPtr, vrefs_agg, escOf_nil, Int.reduceEq, Int.reduceLT, Int.reduceLE, putCells_one0, putCells_succ, max_int, min_int, hn', hix, hld, zg_world_Event, zl_world_Event, za_world_Event, evc_len, evc_cells, evc_refs, putCells_all, htk, hk0, fa_history_pairs_0, fa_history_pairs_2, fa_world_Event_0, hof, hla, veq_map, beq_st, k0, k1, hw, List.append_nil]

end
end Go.Proofs.Ytfinilnkempofaa
