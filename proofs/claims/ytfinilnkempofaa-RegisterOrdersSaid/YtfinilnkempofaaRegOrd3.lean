/- A part of the proof: RegOrd3. Its conditions: none. -/
import Derived.Test.YtfinilnkempofaaRegOrd2
set_option linter.all false
set_option linter.unusedVariables false
set_option linter.unusedSimpArgs false
set_option linter.unnecessarySimpa false
namespace Go.Proofs.Ytfinilnkempofaa
open Go Go.Am Go.Reg
namespace RO

section
variable {more : List Op1} (hmo : OkOps more) (hn : more.length ≤ 6) (H0 : List Blk)

def opn (x : Op1) : Op1 := ⟨true, x.v, x.f, -1⟩
theorem opn_ok {x : Op1} (h : OkRw x) : OkRw (opn x) := by
  have h1 : IntKind.i64.min = -9223372036854775808 := by kernel_rfl
  have h2 : IntKind.i64.max = 9223372036854775807 := by kernel_rfl
  exact ⟨h.v, h.f, by rw [h1, h2]; simp only [opn]; omega⟩

def vs14 (more : List Op1) (rv : Value) (i : Nat) : List Value := [rv, tSl more.length (opsC more), .int .i64 more.length, .int .i64 i]
def S14 (more : List Op1) (H0 : List Blk) (A : List Op1) (i : Nat) : List Value × AS := (vs14 more (rowV H0 A 0) i, ⟨H0 ++ rowB A, none⟩)

theorem gc14 {A : List Op1} (hA : A ≠ []) (hok : OkOps A) (hmr : lrefs (opsC more) = []) {l : List Blk} {i : Nat} (k : Nat) (R : List (List Nat)) (hR : l.map blkRefs = R.map (List.map (H0.length + ·)))
    (hk : reachR R 64 [k] [] = some [k]) (h1 : l[k]? = some (.cells (opsC A) t_history_Op true)) :
    gc H0.length (vs14 more (rowV H0 A k) i) ⟨H0 ++ l, none⟩ = S14 more H0 A i := by
  unfold S14
  rw [rowV_cons hA, rowV_cons hA, rowB_ne hA]
  refine gc_own R [k] [k] hk rfl (by simp [vs14, hmr]) hR ?_ ?_
  · simp [vs14, lren, vren, rn_own, rn_own0, findIx, vren_none, hmr]
  · simp [List.getD, h1, renBlk_cells, lren_none (opsC_refs hok)]

include hmo hn
theorem step14 {A : List Op1} (hok : OkOps A) (hl : A.length ≤ 1000) {i : Nat} {y : Op1} (hy : more[i]? = some y) :
    ∃ (k : Nat) (l : List Blk), twainlaw37_RegisterOrders.loop14s (acall PP TT) loopG H0.length (S14 more H0 A i) = some (.inl (vs14 more (rowV H0 (A ++ [opn y]) k) (i + 1), ⟨H0 ++ l, none⟩)) ∧
      gc H0.length (vs14 more (rowV H0 (A ++ [opn y]) k) (i + 1)) ⟨H0 ++ l, none⟩ = S14 more H0 (A ++ [opn y]) (i + 1) := by
  have hi := lt_of_get hy
  have hyo := hmo y (List.mem_of_getElem? hy)
  have hi' : (i : Int) < (more.length : Int) := by omega
  have hmr := opsC_refs hmo
  have hix : aIndexAddr PP t_L_twainref36_Op (tSl more.length (opsC more)) (.int .i64 (i : Int)) = some (tPtr (i * 19) (opsC more).toArray) := tsl_index u_L_twainref36_Op sz_twainref36_Op hi
  have w5 : IntKind.i64.wrap ((i : Int) + 1) = ((i + 1 : Nat) : Int) := by rw [i64_wrap (by omega)]; omega
  have hal := (opc_cells hyo).1
  have hpa : putCells z_twainref36_Op 0 (opc y) = opc y := putCells_all (by rw [opc_len hyo, zl_twainref36_Op])
  have okn := opn_ok hyo
  have okA : OkOps (A ++ [opn y]) := hok.snoc okn
  have hbl : aBuild PP t_history_Op [(0, .bool true), (1, .agg y.v.toArray), (2, .int .i64 y.f), (3, .int .i64 (-1))] = some (.agg (opc (opn y)).toArray) := bld4 hyo.v true y.f (-1)
  have hty : ∀ (b : List Blk) (c : List Blk), b.length = 0 → True := fun _ _ _ => trivial
  by_cases hA : A = []
  · subst hA
    have hr1 : lrefs (opsC [opn y]) = [] := opsC_refs okA
    have hpush := fun {R : Type} (F : Value → AS → Option R) (l : List Blk) => push (H0 := H0) (l := l) (e := none) (A := []) (x := opn y) (fun _ h => by simp at h) okn (by simp) (k := 0) (fun h => absurd rfl h) (F := F)
    refine ⟨2, [.cells (opc y) t_twainref36_Op true, .cells (opc (opn y)) t_history_Op true, .cells (opsC ([] ++ [opn y])) t_history_Op true], ?_, gc14 H0 (by simp) okA hmr 2 [[], [], []] (by simp [blkRefs_cells, (opc_cells hyo).2.1, (opc_cells okn).2.1, hr1]) rfl rfl⟩
    simp only [twainlaw37_RegisterOrders.loop14s, twainlaw37_RegisterOrders.loop14, S14, vs14, Option.bind_some, Option.map_some, bcase_true, bcase_false, List.getD_cons_zero, List.getD_cons_succ, bin_add, bin_sub, bin_mul, bin_eql, bin_neq, bin_lss, bin_leq, bin_gtr, bin_geq, un_not, pick_bool, decide_true, decide_false, Bool.not_true, Bool.not_false, joinEsc_none, oneOf_one, ext20, ext21, ext30, ext31, ext32, if_true, box_lit, box_int, box_bool, box_slice, box_map, box_ptr, box_tSl, store_lit, store_int, store_bool, store_slice, store_map, store_ptr, store_tSl, load_one, load_agg, app_cons2, List.cons_append, List.nil_append, len_app, List.length_cons, List.length_nil, Nat.zero_add, Nat.add_zero, Nat.reduceAdd, Nat.reduceLeDiff, Nat.le_refl, cellAt_app0, cellAt_app, cellsAt_app0, cellsAt_app, storeL_own0, storeL_own, cellAt_z, cellAt_s, cellsAt_z, cellsAt_s, putB_z, putB_s, List.getElem?_cons_zero, List.getElem?_cons_succ, List.drop_zero, List.drop_succ_cons, List.take_zero, List.take_succ_cons, allCells_cons, allCells_nil, cellV_int, cellV_bool, cellV_string, cellV_ptr, cellV_slice, cellV_map, cellV_func, cellV_nilFunc, cellV_tSl, Bool.and_self, Bool.and_true, Bool.true_and, and_self, true_and, and_true, Bool.false_eq_true, if_false, lrefs_nil, lrefs_cons, vrefs_bool, vrefs_int, vrefs_string, vrefs_ptr, vrefs_ptr0, vrefs_slice, vrefs_slice0, vrefs_map, vrefs_tSl, vrefs_tPtr, vrefs_agg, escOf_nil, Int.reduceEq, Int.reduceLT, Int.reduceLE, putCells_one0, putCells_succ, max_int, min_int, hi', hix, RM.op_at hmo hy, zg_twainref36_Op, za_twainref36_Op, zl_twainref36_Op, opc_len hyo, hal, hpa, (opc_cells hyo).2.1, fa_twainref36_Op_1, fa_twainref36_Op_2, opc_v hyo, RM.opc_f hyo, hbl, w5, rowB, hpush]
  · have hpush := fun {R : Type} (F : Value → AS → Option R) (l : List Blk) (hk : l[0]? = some (.cells (opsC A) t_history_Op true)) => push (H0 := H0) (l := l) (e := none) (A := A) (x := opn y) hok okn (by omega) (k := 0) (fun _ => hk) (F := F)
    refine ⟨3, [.dead, .cells (opc y) t_twainref36_Op true, .cells (opc (opn y)) t_history_Op true, .cells (opsC (A ++ [opn y])) t_history_Op true], ?_, gc14 H0 (by simp) okA hmr 3 [[], [], [], []] (by simp [blkRefs_cells, blkRefs_dead, (opc_cells hyo).2.1, (opc_cells okn).2.1, opsC_refs okA]) rfl rfl⟩
    simp only [twainlaw37_RegisterOrders.loop14s, twainlaw37_RegisterOrders.loop14, S14, vs14, Option.bind_some, Option.map_some, bcase_true, bcase_false, List.getD_cons_zero, List.getD_cons_succ, bin_add, bin_sub, bin_mul, bin_eql, bin_neq, bin_lss, bin_leq, bin_gtr, bin_geq, un_not, pick_bool, decide_true, decide_false, Bool.not_true, Bool.not_false, joinEsc_none, oneOf_one, ext20, ext21, ext30, ext31, ext32, if_true, box_lit, box_int, box_bool, box_slice, box_map, box_ptr, box_tSl, store_lit, store_int, store_bool, store_slice, store_map, store_ptr, store_tSl, load_one, load_agg, app_cons2, List.cons_append, List.nil_append, len_app, List.length_cons, List.length_nil, Nat.zero_add, Nat.add_zero, Nat.reduceAdd, Nat.reduceLeDiff, Nat.le_refl, cellAt_app0, cellAt_app, cellsAt_app0, cellsAt_app, storeL_own0, storeL_own, cellAt_z, cellAt_s, cellsAt_z, cellsAt_s, putB_z, putB_s, List.getElem?_cons_zero, List.getElem?_cons_succ, List.drop_zero, List.drop_succ_cons, List.take_zero, List.take_succ_cons, allCells_cons, allCells_nil, cellV_int, cellV_bool, cellV_string, cellV_ptr, cellV_slice, cellV_map, cellV_func, cellV_nilFunc, cellV_tSl, Bool.and_self, Bool.and_true, Bool.true_and, and_self, true_and, and_true, Bool.false_eq_true, if_false, lrefs_nil, lrefs_cons, vrefs_bool, vrefs_int, vrefs_string, vrefs_ptr, vrefs_ptr0, vrefs_slice, vrefs_slice0, vrefs_map, vrefs_tSl, vrefs_tPtr, vrefs_agg, escOf_nil, Int.reduceEq, Int.reduceLT, Int.reduceLE, putCells_one0, putCells_succ, max_int, min_int, hi', hix, RM.op_at hmo hy, zg_twainref36_Op, za_twainref36_Op, zl_twainref36_Op, opc_len hyo, hal, hpa, (opc_cells hyo).2.1, fa_twainref36_Op_1, fa_twainref36_Op_2, opc_v hyo, RM.opc_f hyo, hbl, w5, rowB_ne hA, hA, hpush, List.set_cons_zero, List.set_cons_succ]

theorem loop14 {A : List Op1} (hok : OkOps A) (hl : A.length ≤ 60) {vs : List Value} {st : AS} (hX : gc H0.length vs st = S14 more H0 A 0) :
    ∃ r, loopG H0.length (twainlaw37_RegisterOrders.loop14s (acall PP TT) loopG H0.length) (vs, st) = some r ∧
      r = (.exit 2, [rowV H0 (A ++ more.map opn) 0], ⟨H0 ++ rowB (A ++ more.map opn), none⟩) := by
  have hokm : ∀ i, OkOps (A ++ (more.take i).map opn) := fun i x hx => by
    rcases List.mem_append.1 hx with hx | hx
    · exact hok x hx
    · obtain ⟨y, hy, rfl⟩ := List.mem_map.1 hx
      exact opn_ok (hmo y (List.mem_of_mem_take hy))
  refine loop_r (len := more.length) (fun i (_ : Unit) => S14 more H0 (A ++ (more.take i).map opn) i) (fun _ _ => True) _ (fun i _ hi _ => ?_) (fun _ _ => ?_) more.length 0 () vs st (by omega) trivial (by simpa using hX)
  · obtain ⟨y, hy⟩ : ∃ y, more[i]? = some y := ⟨_, List.getElem?_eq_getElem hi⟩
    obtain ⟨k, l, h1, h2⟩ := step14 hmo hn H0 (hokm i) (by simp; omega) hy
    have ht : A ++ (more.take (i + 1)).map opn = A ++ (more.take i).map opn ++ [opn y] := by rw [List.take_add_one, hy]; simp
    exact .inr ⟨_, _, (), h1, by rw [h2, ht], trivial⟩
  · have hlast : ¬ ((more.length : Int) < (more.length : Int)) := Int.lt_irrefl _
    refine ⟨_, ?_, rfl⟩
    simp only [twainlaw37_RegisterOrders.loop14s, twainlaw37_RegisterOrders.loop14, S14, vs14, Option.bind_some, Option.map_some, bcase_true, bcase_false, List.getD_cons_zero, List.getD_cons_succ, bin_add, bin_sub, bin_mul, bin_eql, bin_neq, bin_lss, bin_leq, bin_gtr, bin_geq, un_not, pick_bool, decide_true, decide_false, Bool.not_true, Bool.not_false, joinEsc_none, oneOf_one, ext20, ext21, ext30, ext31, ext32, if_true, box_lit, box_int, box_bool, box_slice, box_map, box_ptr, box_tSl, store_lit, store_int, store_bool, store_slice, store_map, store_ptr, store_tSl, load_one, load_agg, app_cons2, List.cons_append, List.nil_append, len_app, List.length_cons, List.length_nil, Nat.zero_add, Nat.add_zero, Nat.reduceAdd, Nat.reduceLeDiff, Nat.le_refl, cellAt_app0, cellAt_app, cellsAt_app0, cellsAt_app, storeL_own0, storeL_own, cellAt_z, cellAt_s, cellsAt_z, cellsAt_s, putB_z, putB_s, List.getElem?_cons_zero, List.getElem?_cons_succ, List.drop_zero, List.drop_succ_cons, List.take_zero, List.take_succ_cons, allCells_cons, allCells_nil, cellV_int, cellV_bool, cellV_string, cellV_ptr, cellV_slice, cellV_map, cellV_func, cellV_nilFunc, cellV_tSl, Bool.and_self, Bool.and_true, Bool.true_and, and_self, true_and, and_true, Bool.false_eq_true, if_false, lrefs_nil, lrefs_cons, vrefs_bool, vrefs_int, vrefs_string, vrefs_ptr, vrefs_ptr0, vrefs_slice, vrefs_slice0, vrefs_map, vrefs_tSl, vrefs_tPtr, vrefs_agg, escOf_nil, Int.reduceEq, Int.reduceLT, Int.reduceLE, putCells_one0, putCells_succ, max_int, min_int, hlast, List.take_length]
end
end RO
end Go.Proofs.Ytfinilnkempofaa
