/- A part of the proof: RegOrd4. Its conditions: none. -/
import Derived.Test.YtfinilnkempofaaRegOrd3
import Derived.Test.YtfinilnkempofaaRegFitsLaw
set_option linter.all false
set_option linter.unusedVariables false
set_option linter.unusedSimpArgs false
set_option linter.unnecessarySimpa false
namespace Go.Proofs.Ytfinilnkempofaa
open Go Go.Am Go.Reg
namespace RO

theorem right_long {l : List Op1} (hm : 60 < l.length) (H : List Blk) {u : List Value} (hu : TOk PP t_api_Sector u) :
    acall PP TT n_register_Right [tSl l.length (opsC l), .agg u.toArray] H = some (.tuple #[.bool false, .int .i64 11], H, none) := by
  obtain ⟨u1, u2, u3⟩ := sec_cells hu
  have hll : ∀ st, aLen PP t_L_history_Op (tSl l.length (opsC l)) st = some (.int .i64 l.length) := fun st => tsl_len u_L_history_Op
  have hg : (l.length : Int) > 60 := by omega
  rw [acall_eq, register_Right.eq]
  simp only [register_Right.sh, Option.bind_some, Option.map_some, bcase_true, bcase_false, List.getD_cons_zero, List.getD_cons_succ, bin_add, bin_sub, bin_mul, bin_eql, bin_neq, bin_lss, bin_leq, bin_gtr, bin_geq, un_not, pick_bool, decide_true, decide_false, Bool.not_true, Bool.not_false, joinEsc_none, oneOf_one, ext20, ext21, ext30, ext31, ext32, if_true, box_lit, box_int, box_bool, box_slice, box_map, box_ptr, box_tSl, store_lit, store_int, store_bool, store_slice, store_map, store_ptr, store_tSl, load_one, load_agg, app_cons2, List.cons_append, List.nil_append, len_app, List.length_cons, List.length_nil, Nat.zero_add, Nat.add_zero, Nat.reduceAdd, Nat.reduceLeDiff, Nat.le_refl, cellAt_app0, cellAt_app, cellsAt_app0, cellsAt_app, storeL_own0, storeL_own, cellAt_z, cellAt_s, cellsAt_z, cellsAt_s, putB_z, putB_s, List.getElem?_cons_zero, List.getElem?_cons_succ, List.drop_zero, List.drop_succ_cons, List.take_zero, List.take_succ_cons, allCells_cons, allCells_nil, cellV_int, cellV_bool, cellV_string, cellV_ptr, cellV_slice, cellV_map, cellV_func, cellV_nilFunc, cellV_tSl, Bool.and_self, Bool.and_true, Bool.true_and, and_self, true_and, and_true, Bool.false_eq_true, if_false, lrefs_nil, lrefs_cons, vrefs_bool, vrefs_int, vrefs_string, vrefs_ptr, vrefs_ptr0, vrefs_slice, vrefs_slice0, vrefs_map, vrefs_tSl, vrefs_tPtr, vrefs_agg, escOf_nil, Int.reduceEq, Int.reduceLT, Int.reduceLE, putCells_one0, putCells_succ, max_int, min_int, u1, hll, hg]
  exact fin_lit rfl rfl rfl

theorem jf (H0 : List Blk) {L : List Op1} (hL : OkOps L) : jFrz PP H0.length [rowV H0 L 0] ⟨H0 ++ rowB L, none⟩ true = ([tSl L.length (opsC L)], ⟨H0 ++ (if L = [] then [] else [.dead]), none⟩) := by
  by_cases h : L = []
  · subst h; rfl
  · rw [rowV_cons h, rowB_ne h, if_neg h]
    have := frz_own0 (P := PP) (H0 := H0) (l := [.cells (opsC L) t_history_Op true]) (q := 7) (n := L.length) (c := UNK) (sz := 19) (cs := opsC L) (t := t_history_Op) rfl sz_history_Op (opsC_len hL) (opsC_cells hL).2
    simp only [jFrz, frzL, Nat.add_zero]
    rw [this]
    rfl

theorem zTok : TOk PP t_api_Sector z_api_Sector := by
  have h8 : PP.underlying t_uint8 = some (.int .u8) := by kernel_rfl
  have h := TOk.array (P := PP) (t := t_api_Sector) (n := 16) (e := t_uint8) (List.replicate 16 [.int .u8 0]) u_api_Sector (by simp) (fun p hp => by
    rw [List.eq_of_mem_replicate hp]
    exact .int 0 h8 ⟨by decide, by decide⟩)
  exact h
theorem zBld : aBuild PP t_api_Sector [] = some (.agg z_api_Sector.toArray) := by kernel_rfl

theorem orders_law {vals : List (List Value)} {rds : List Bool} {more : List Op1} (hv : ∀ v ∈ vals, TOk PP t_api_Sector v) (hmo : OkOps more) :
    saysTrue (acall PP TT n_twainlaw37_RegisterOrders [tSl vals.length vals.flatten, tSl rds.length (bls rds), tSl more.length (opsC more)] []) = true := by
  have hla : ∀ st, aLen PP t_L_api_Sector (tSl vals.length vals.flatten) st = some (.int .i64 vals.length) := fun st => tsl_len u_L_api_Sector
  have hlb : ∀ st, aLen PP t_L_bool (tSl rds.length (bls rds)) st = some (.int .i64 rds.length) := fun st => tsl_len u_L_bool
  have hlm : ∀ st, aLen PP t_L_twainref36_Op (tSl more.length (opsC more)) st = some (.int .i64 more.length) := fun st => tsl_len u_L_twainref36_Op
  rw [acall_eq, twainlaw37_RegisterOrders.eq]
  by_cases h1 : (vals.length : Int) > 30
  · simp only [twainlaw37_RegisterOrders.sh, twainlaw37_RegisterOrders.j0, Option.bind_some, Option.map_some, bcase_true, bcase_false, List.getD_cons_zero, List.getD_cons_succ, bin_add, bin_sub, bin_mul, bin_eql, bin_neq, bin_lss, bin_leq, bin_gtr, bin_geq, un_not, pick_bool, decide_true, decide_false, Bool.not_true, Bool.not_false, joinEsc_none, oneOf_one, ext20, ext21, ext30, ext31, ext32, if_true, box_lit, box_int, box_bool, box_slice, box_map, box_ptr, box_tSl, store_lit, store_int, store_bool, store_slice, store_map, store_ptr, store_tSl, load_one, load_agg, app_cons2, List.cons_append, List.nil_append, len_app, List.length_cons, List.length_nil, Nat.zero_add, Nat.add_zero, Nat.reduceAdd, Nat.reduceLeDiff, Nat.le_refl, cellAt_app0, cellAt_app, cellsAt_app0, cellsAt_app, storeL_own0, storeL_own, cellAt_z, cellAt_s, cellsAt_z, cellsAt_s, putB_z, putB_s, List.getElem?_cons_zero, List.getElem?_cons_succ, List.drop_zero, List.drop_succ_cons, List.take_zero, List.take_succ_cons, allCells_cons, allCells_nil, cellV_int, cellV_bool, cellV_string, cellV_ptr, cellV_slice, cellV_map, cellV_func, cellV_nilFunc, cellV_tSl, Bool.and_self, Bool.and_true, Bool.true_and, and_self, true_and, and_true, Bool.false_eq_true, if_false, lrefs_nil, lrefs_cons, vrefs_bool, vrefs_int, vrefs_string, vrefs_ptr, vrefs_ptr0, vrefs_slice, vrefs_slice0, vrefs_map, vrefs_tSl, vrefs_tPtr, vrefs_agg, escOf_nil, Int.reduceEq, Int.reduceLT, Int.reduceLE, putCells_one0, putCells_succ, max_int, min_int, hla, h1, twainlaw37_lives.eq]
    exact says_fin
  by_cases h2 : (rds.length : Int) > 30
  · simp only [twainlaw37_RegisterOrders.sh, twainlaw37_RegisterOrders.j0, Option.bind_some, Option.map_some, bcase_true, bcase_false, List.getD_cons_zero, List.getD_cons_succ, bin_add, bin_sub, bin_mul, bin_eql, bin_neq, bin_lss, bin_leq, bin_gtr, bin_geq, un_not, pick_bool, decide_true, decide_false, Bool.not_true, Bool.not_false, joinEsc_none, oneOf_one, ext20, ext21, ext30, ext31, ext32, if_true, box_lit, box_int, box_bool, box_slice, box_map, box_ptr, box_tSl, store_lit, store_int, store_bool, store_slice, store_map, store_ptr, store_tSl, load_one, load_agg, app_cons2, List.cons_append, List.nil_append, len_app, List.length_cons, List.length_nil, Nat.zero_add, Nat.add_zero, Nat.reduceAdd, Nat.reduceLeDiff, Nat.le_refl, cellAt_app0, cellAt_app, cellsAt_app0, cellsAt_app, storeL_own0, storeL_own, cellAt_z, cellAt_s, cellsAt_z, cellsAt_s, putB_z, putB_s, List.getElem?_cons_zero, List.getElem?_cons_succ, List.drop_zero, List.drop_succ_cons, List.take_zero, List.take_succ_cons, allCells_cons, allCells_nil, cellV_int, cellV_bool, cellV_string, cellV_ptr, cellV_slice, cellV_map, cellV_func, cellV_nilFunc, cellV_tSl, Bool.and_self, Bool.and_true, Bool.true_and, and_self, true_and, and_true, Bool.false_eq_true, if_false, lrefs_nil, lrefs_cons, vrefs_bool, vrefs_int, vrefs_string, vrefs_ptr, vrefs_ptr0, vrefs_slice, vrefs_slice0, vrefs_map, vrefs_tSl, vrefs_tPtr, vrefs_agg, escOf_nil, Int.reduceEq, Int.reduceLT, Int.reduceLE, putCells_one0, putCells_succ, max_int, min_int, hla, hlb, h1, h2, twainlaw37_lives.eq]
    exact says_fin
  by_cases h3 : (more.length : Int) > 6
  · simp only [twainlaw37_RegisterOrders.sh, twainlaw37_RegisterOrders.j0, Option.bind_some, Option.map_some, bcase_true, bcase_false, List.getD_cons_zero, List.getD_cons_succ, bin_add, bin_sub, bin_mul, bin_eql, bin_neq, bin_lss, bin_leq, bin_gtr, bin_geq, un_not, pick_bool, decide_true, decide_false, Bool.not_true, Bool.not_false, joinEsc_none, oneOf_one, ext20, ext21, ext30, ext31, ext32, if_true, box_lit, box_int, box_bool, box_slice, box_map, box_ptr, box_tSl, store_lit, store_int, store_bool, store_slice, store_map, store_ptr, store_tSl, load_one, load_agg, app_cons2, List.cons_append, List.nil_append, len_app, List.length_cons, List.length_nil, Nat.zero_add, Nat.add_zero, Nat.reduceAdd, Nat.reduceLeDiff, Nat.le_refl, cellAt_app0, cellAt_app, cellsAt_app0, cellsAt_app, storeL_own0, storeL_own, cellAt_z, cellAt_s, cellsAt_z, cellsAt_s, putB_z, putB_s, List.getElem?_cons_zero, List.getElem?_cons_succ, List.drop_zero, List.drop_succ_cons, List.take_zero, List.take_succ_cons, allCells_cons, allCells_nil, cellV_int, cellV_bool, cellV_string, cellV_ptr, cellV_slice, cellV_map, cellV_func, cellV_nilFunc, cellV_tSl, Bool.and_self, Bool.and_true, Bool.true_and, and_self, true_and, and_true, Bool.false_eq_true, if_false, lrefs_nil, lrefs_cons, vrefs_bool, vrefs_int, vrefs_string, vrefs_ptr, vrefs_ptr0, vrefs_slice, vrefs_slice0, vrefs_map, vrefs_tSl, vrefs_tPtr, vrefs_agg, escOf_nil, Int.reduceEq, Int.reduceLT, Int.reduceLE, putCells_one0, putCells_succ, max_int, min_int, hla, hlb, hlm, h1, h2, h3, twainlaw37_lives.eq]
    exact says_fin
  have hmr := opsC_refs hmo
  have hn : vals.length ≤ 30 := by omega
  have hok := seqA_okk (rds := rds) hv vals.length hn
  have hln := seqA_len vals rds vals.length
  have hpz : putCells z_api_Sector 0 z_api_Sector = z_api_Sector := putCells_all rfl
  have hvr := vals_refs hv
  have hg0 : gc ([] : List Blk).length (vs6 vals rds more (.slice none 0 0) (.pointer (some ⟨0, 0, none⟩)) 0) ⟨[] ++ [.cells z_api_Sector t_api_Sector true], none⟩ = S6 vals rds more [] 0 z_api_Sector :=
    gc_own (R := [[]]) [0] [0] rfl rfl (by simp [vs6, hmr, hvr, bls_refs]) (by simp [blkRefs_cells, (sec_cells zTok).2.1]) (by simp [S6, vs6, seqA, rowV, rowB, lren, vren, rn_own0, findIx, vren_none, hmr, hvr, bls_refs]) (by simp [S6, seqA, rowB, renBlk_cells, lren_none (sec_cells zTok).2.1])
  obtain ⟨r, hlp, x, hxo, rfl⟩ := loop6 (rds := rds) (more := more) hv hn [] hmr zTok hg0
  have hg1 : gc ([] : List Blk).length [rowV [] (seqA vals rds vals.length) 0, tSl more.length (opsC more), .int .i64 more.length, .int .i64 0] ⟨[] ++ (rowB (seqA vals rds vals.length) ++ [.cells x t_api_Sector true]), none⟩ = S14 more [] (seqA vals rds vals.length) 0 := by
    by_cases hA : seqA vals rds vals.length = []
    · rw [hA]
      exact gc_own (R := [[]]) [] [] rfl rfl (by simp [rowV, hmr]) (by simp [rowB, blkRefs_cells, (sec_cells hxo).2.1]) (by simp [S14, vs14, rowV, lren, vren, vren_none, hmr]) (by simp [S14, rowB])
    · rw [rowB_ne hA]
      exact gc14 [] hA hok hmr 0 [[], []] (by simp [blkRefs_cells, (sec_cells hxo).2.1, opsC_refs hok]) rfl rfl
  obtain ⟨r, hlp2, rfl⟩ := loop14 hmo (by omega) [] hok (by omega) hg1
  have okL : OkOps (seqA vals rds vals.length ++ more.map opn) := fun y hy => by
    rcases List.mem_append.1 hy with hy | hy
    · exact hok y hy
    · obtain ⟨q, hq, rfl⟩ := List.mem_map.1 hy
      exact opn_ok (hmo q hq)
  have hcomp := seq_comp (seqA_ok z_api_Sector vals rds vals.length).1 (B := more.map opn) (fun y hy => by
    obtain ⟨q, hq, rfl⟩ := List.mem_map.1 hy
    exact ⟨rfl, by simp only [opn]; omega⟩)
  generalize seqA vals rds vals.length ++ more.map opn = L at hlp2 okL hcomp
  have hj := jf [] okL
  have hll : ∀ st, aLen PP t_L_history_Op (tSl L.length (opsC L)) st = some (.int .i64 L.length) := fun st => tsl_len u_L_history_Op
  simp only [List.length_nil, List.nil_append] at hlp hlp2 hj
  change loopG.run 0 _ ([tSl rds.length (bls rds), tSl more.length (opsC more), Value.slice none 0 0, Value.pointer (some ⟨0, 0, none⟩), tSl vals.length vals.flatten, Value.int .i64 vals.length, Value.int .i64 0], ⟨[Blk.cells z_api_Sector t_api_Sector true], none⟩) = _ at hlp
  have e11 : aBin PP .eql t_api_Errno (.tmp 98) (.const (.int .i64 11)) (.int .i64 11) (.int .i64 11) = some (.bool true) := by kernel_rfl
  have e0 : aBin PP .eql t_api_Errno (.tmp 115) (.const (.int .i64 0)) (.int .i64 0) (.int .i64 0) = some (.bool true) := by kernel_rfl
  have hst : storeL ⟨[Blk.cells z_api_Sector t_api_Sector true], none⟩ 0 0 z_api_Sector = some ⟨[Blk.cells z_api_Sector t_api_Sector true], none⟩ := by kernel_rfl
  by_cases hg : (L.length : Int) > 60
  · have hrl := fun H => right_long (l := L) (by omega) H zTok
    simp only [twainlaw37_RegisterOrders.sh, twainlaw37_RegisterOrders.j0, twainlaw37_RegisterOrders.j1, twainlaw37_RegisterOrders.j6, twainlaw37_RegisterOrders.j9, Option.bind_some, Option.map_some, bcase_true, bcase_false, List.getD_cons_zero, List.getD_cons_succ, bin_add, bin_sub, bin_mul, bin_eql, bin_neq, bin_lss, bin_leq, bin_gtr, bin_geq, un_not, pick_bool, decide_true, decide_false, Bool.not_true, Bool.not_false, joinEsc_none, oneOf_one, ext20, ext21, ext30, ext31, ext32, if_true, box_lit, box_int, box_bool, box_slice, box_map, box_ptr, box_tSl, store_lit, store_int, store_bool, store_slice, store_map, store_ptr, store_tSl, load_one, load_agg, app_cons2, List.cons_append, List.nil_append, len_app, List.length_cons, List.length_nil, Nat.zero_add, Nat.add_zero, Nat.reduceAdd, Nat.reduceLeDiff, Nat.le_refl, cellAt_app0, cellAt_app, cellsAt_app0, cellsAt_app, storeL_own0, storeL_own, cellAt_z, cellAt_s, cellsAt_z, cellsAt_s, putB_z, putB_s, List.getElem?_cons_zero, List.getElem?_cons_succ, List.drop_zero, List.drop_succ_cons, List.take_zero, List.take_succ_cons, allCells_cons, allCells_nil, cellV_int, cellV_bool, cellV_string, cellV_ptr, cellV_slice, cellV_map, cellV_func, cellV_nilFunc, cellV_tSl, Bool.and_self, Bool.and_true, Bool.true_and, and_self, true_and, and_true, Bool.false_eq_true, if_false, lrefs_nil, lrefs_cons, vrefs_bool, vrefs_int, vrefs_string, vrefs_ptr, vrefs_ptr0, vrefs_slice, vrefs_slice0, vrefs_map, vrefs_tSl, vrefs_tPtr, vrefs_agg, escOf_nil, Int.reduceEq, Int.reduceLT, Int.reduceLE, putCells_one0, putCells_succ, max_int, min_int, hla, hlb, hlm, h1, h2, h3, zBld, zg_api_Sector, za_api_Sector, zl_api_Sector, hpz, (sec_cells zTok).2.1, hlp, hlp2, hj, hll, hg, twainlaw37_lives.eq, hrl, e11, hst]
    exact says_fin
  · obtain ⟨b1, o1, H2, e2, hright, hk2, ht1⟩ := right_ok okL (by omega) (if L = [] then [] else [.dead]) zTok
    obtain ⟨b2, o2, H3, e3, hord, hk3, ht2⟩ := order_ok okL (by omega) H2 zTok
    obtain ⟨r0, hr0⟩ := hcomp
    have hb1 : b1 = true := by
      cases b1 with
      | true => rfl
      | false => exact absurd hr0 ((ht1.no rfl).2 r0)
    have hb2 : b2 = true := by
      cases b2 with
      | true => rfl
      | false => exact absurd hr0 ((ht2.no rfl).2 r0)
    subst hb1 hb2
    obtain ⟨r, rfl, hr⟩ := ht2.yes rfl
    have hrl := comp_len _ _ _ hr
    have hini : RM.InI (ints r) := fun n hn => by
      have := RM.go1_in _ _ _ ((RM.prog_doc L z_api_Sector (ints r)).2 (comp_fits hr)).1 n hn
      omega
    obtain ⟨b5, hfits, hiff⟩ := RM.pfits_ok (row := ints r) okL (by omega) hini (by simp only [ints, List.length_map]; omega) H3 zTok
    have hb5 : b5 = true := hiff.2 (comp_fits hr)
    subst hb5
    have hrow : tSl r.length (rowC r) = tSl (ints r).length (nums (ints r)) := by simp [rowC, ints]
    rw [hrow] at hord
    simp only [twainlaw37_RegisterOrders.sh, twainlaw37_RegisterOrders.j0, twainlaw37_RegisterOrders.j1, twainlaw37_RegisterOrders.j6, twainlaw37_RegisterOrders.j9, Option.bind_some, Option.map_some, bcase_true, bcase_false, List.getD_cons_zero, List.getD_cons_succ, bin_add, bin_sub, bin_mul, bin_eql, bin_neq, bin_lss, bin_leq, bin_gtr, bin_geq, un_not, pick_bool, decide_true, decide_false, Bool.not_true, Bool.not_false, joinEsc_none, oneOf_one, ext20, ext21, ext30, ext31, ext32, if_true, box_lit, box_int, box_bool, box_slice, box_map, box_ptr, box_tSl, store_lit, store_int, store_bool, store_slice, store_map, store_ptr, store_tSl, load_one, load_agg, app_cons2, List.cons_append, List.nil_append, len_app, List.length_cons, List.length_nil, Nat.zero_add, Nat.add_zero, Nat.reduceAdd, Nat.reduceLeDiff, Nat.le_refl, cellAt_app0, cellAt_app, cellsAt_app0, cellsAt_app, storeL_own0, storeL_own, cellAt_z, cellAt_s, cellsAt_z, cellsAt_s, putB_z, putB_s, List.getElem?_cons_zero, List.getElem?_cons_succ, List.drop_zero, List.drop_succ_cons, List.take_zero, List.take_succ_cons, allCells_cons, allCells_nil, cellV_int, cellV_bool, cellV_string, cellV_ptr, cellV_slice, cellV_map, cellV_func, cellV_nilFunc, cellV_tSl, Bool.and_self, Bool.and_true, Bool.true_and, and_self, true_and, and_true, Bool.false_eq_true, if_false, lrefs_nil, lrefs_cons, vrefs_bool, vrefs_int, vrefs_string, vrefs_ptr, vrefs_ptr0, vrefs_slice, vrefs_slice0, vrefs_map, vrefs_tSl, vrefs_tPtr, vrefs_agg, escOf_nil, Int.reduceEq, Int.reduceLT, Int.reduceLE, putCells_one0, putCells_succ, max_int, min_int, hla, hlb, hlm, h1, h2, h3, zBld, zg_api_Sector, za_api_Sector, zl_api_Sector, hpz, (sec_cells zTok).2.1, hlp, hlp2, hj, hll, hg, twainlaw37_lives.eq, hright, hord, hfits, e0, hst]
    exact says_fin
end RO
end Go.Proofs.Ytfinilnkempofaa
