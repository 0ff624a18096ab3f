/- A part of the proof: RegFitsLaw. Its conditions: none. -/
import Derived.Test.YtfinilnkempofaaRegMap4
import Derived.Test.YtfinilnkempofaaRegRaw
set_option linter.all false
set_option linter.unusedVariables false
set_option linter.unusedSimpArgs false
set_option linter.unnecessarySimpa false
namespace Go.Proofs.Ytfinilnkempofaa
open Go Go.Am Go.Reg
namespace RM

/-- an op, as an argument -/
theorem op_of {r : List Value} (h : TOk PP t_twainref36_Op r) : ∃ x : Rw (List Value), OkRw x ∧ r = opc x := by
  obtain ⟨ps, rfl, hps⟩ := h.struct_inv us_twainref36_Op
  rw [ty_twainref36_Op] at hps
  match ps, hps with
  | [a, b, c, d], ⟨ha, hb, hc, hd, _⟩ =>
    obtain ⟨w, rfl⟩ := ha.bool_inv u_bool
    obtain ⟨f, rfl, hf⟩ := hc.int_inv u_int
    obtain ⟨t, rfl, ht⟩ := hd.int_inv u_int
    exact ⟨⟨w, b, f, t⟩, ⟨hb, hf, ht⟩, by simp [opc]⟩

theorem ops_of : ∀ (rows : List (List Value)), (∀ r ∈ rows, TOk PP t_twainref36_Op r) → ∃ l : List (Rw (List Value)), OkOps l ∧ rows = l.map opc
  | [], _ => ⟨[], fun _ h => by simp at h, rfl⟩
  | r :: rows, h => by
    obtain ⟨x, hx, rfl⟩ := op_of (h r (by simp))
    obtain ⟨l, hl, rfl⟩ := ops_of rows (fun y hy => h y (by simp [hy]))
    refine ⟨x :: l, fun y hy => ?_, rfl⟩
    rcases List.mem_cons.1 hy with rfl | hy
    · exact hx
    · exact hl y hy

theorem ints_of : ∀ (rows : List (List Value)), (∀ r ∈ rows, TOk PP t_int r) → ∃ l : List Int, InI l ∧ rows = l.map fun n => [.int .i64 n]
  | [], _ => ⟨[], fun _ h => by simp at h, rfl⟩
  | r :: rows, h => by
    obtain ⟨n, rfl, hn⟩ := (h r (by simp)).int_inv u_int
    have h1 : IntKind.i64.min = -9223372036854775808 := by kernel_rfl
    have h2 : IntKind.i64.max = 9223372036854775807 := by kernel_rfl
    rw [h1, h2] at hn
    obtain ⟨l, hl, rfl⟩ := ints_of rows (fun y hy => h y (by simp [hy]))
    refine ⟨n :: l, fun y hy => ?_, rfl⟩
    rcases List.mem_cons.1 hy with rfl | hy
    · exact hn
    · exact hl y hy

theorem ints_flat (l : List Int) : (l.map fun n => [Value.int .i64 n]).flatten = nums l := by
  induction l with
  | nil => rfl
  | cons x xs ih => simpa [nums] using ih

theorem bin_eqlB (ox oy : Operand) (a b : Bool) : aBin PP .eql t_bool ox oy (.bool a) (.bool b) = some (.bool (decide (a = b))) := by cases a <;> cases b <;> kernel_rfl

theorem veq_sec {u : List Value} (h : TOk PP t_api_Sector u) : veq (.agg u.toArray) (.agg u.toArray) = true := by
  refine veq_agg u ?_
  obtain ⟨ps, rfl, hl, hp⟩ := h.array_inv qu_api_Sector
  have qu_uint8 : PP.underlying t_uint8 = some (.int .u8) := by kernel_rfl
  clear h hl
  induction ps with
  | nil => rfl
  | cons p ps ih =>
    obtain ⟨n, rfl, _⟩ := (hp p (by simp)).int_inv qu_uint8
    simp only [List.flatten_cons, List.cons_append, List.nil_append, List.all_cons, lit, Bool.true_and]
    exact ih (fun x hx => hp x (by simp [hx]))

theorem fits_law {l : List (Rw (List Value))} {row : List Int} (hl : OkOps l) (hr : InI row) {u : List Value} (hu : TOk PP t_api_Sector u) :
    saysTrue (acall PP TT n_twainlaw37_RegisterFits [tSl l.length (opsC l), .agg u.toArray, tSl row.length (nums row)] []) = true := by
  obtain ⟨u1, u2, u3⟩ := sec_cells hu
  have un := sec_len hu
  have htu : u.take 16 = u := List.take_of_length_le (by omega)
  have hln : ∀ st, aLen PP t_L_twainref36_Op (tSl l.length (opsC l)) st = some (.int .i64 l.length) := fun st => tsl_len u_L_twainref36_Op
  have hlr : ∀ st, aLen PP t_L_int (tSl row.length (nums row)) st = some (.int .i64 row.length) := fun st => tsl_len u_L_int
  have hlu : ∀ H : List Blk, H[0]? = some (.cells u t_api_Sector true) → cellsAt H 0 0 16 = some u := fun H h => by simp [cellsAt, h, un, htu]
  rw [acall_eq, twainlaw37_RegisterFits.eq]
  by_cases hm : (60 : Int) < (l.length : Int)
  · simp only [twainlaw37_RegisterFits.sh, twainlaw37_RegisterFits.j0, twainlaw37_RegisterFits.j1, Option.bind_some, Option.map_some, bcase_true, bcase_false, List.getD_cons_zero, List.getD_cons_succ, bin_add, bin_sub, bin_mul, bin_eql, bin_neq, bin_lss, bin_leq, bin_gtr, bin_geq, un_not, pick_bool, decide_true, decide_false, Bool.not_true, Bool.not_false, joinEsc_none, oneOf_one, ext20, ext21, ext30, ext31, ext32, if_true, box_lit, box_int, box_bool, box_slice, box_map, box_ptr, box_tSl, store_lit, store_int, store_bool, store_slice, store_map, store_ptr, store_tSl, load_one, load_agg, app_cons2, List.cons_append, List.nil_append, len_app, List.length_cons, List.length_nil, Nat.zero_add, Nat.add_zero, Nat.reduceAdd, Nat.reduceLeDiff, Nat.le_refl, cellAt_app0, cellAt_app, cellsAt_app0, cellsAt_app, storeL_own0, storeL_own, cellAt_z, cellAt_s, cellsAt_z, cellsAt_s, putB_z, putB_s, List.getElem?_cons_zero, List.getElem?_cons_succ, List.drop_zero, List.drop_succ_cons, List.take_zero, List.take_succ_cons, allCells_cons, allCells_nil, cellV_int, cellV_bool, cellV_string, cellV_ptr, cellV_slice, cellV_map, cellV_func, cellV_nilFunc, cellV_tSl, Bool.and_self, Bool.and_true, Bool.true_and, and_self, true_and, and_true, Bool.false_eq_true, if_false, lrefs_nil, lrefs_cons, vrefs_bool, vrefs_int, vrefs_string, vrefs_ptr, vrefs_ptr0, vrefs_slice, vrefs_slice0, vrefs_map, vrefs_tSl, vrefs_tPtr, vrefs_agg, escOf_nil, Int.reduceEq, Int.reduceLT, Int.reduceLE, putCells_one0, putCells_succ, max_int, min_int, box_agg u1, Option.bind_some, List.nil_append, hln, bin_gtr, hm, decide_true, bcase_true, twainlaw37_lives.eq]
    exact says_fin
  · by_cases hm2 : (80 : Int) < (row.length : Int)
    · simp only [twainlaw37_RegisterFits.sh, twainlaw37_RegisterFits.j0, twainlaw37_RegisterFits.j1, Option.bind_some, Option.map_some, bcase_true, bcase_false, List.getD_cons_zero, List.getD_cons_succ, bin_add, bin_sub, bin_mul, bin_eql, bin_neq, bin_lss, bin_leq, bin_gtr, bin_geq, un_not, pick_bool, decide_true, decide_false, Bool.not_true, Bool.not_false, joinEsc_none, oneOf_one, ext20, ext21, ext30, ext31, ext32, if_true, box_lit, box_int, box_bool, box_slice, box_map, box_ptr, box_tSl, store_lit, store_int, store_bool, store_slice, store_map, store_ptr, store_tSl, load_one, load_agg, app_cons2, List.cons_append, List.nil_append, len_app, List.length_cons, List.length_nil, Nat.zero_add, Nat.add_zero, Nat.reduceAdd, Nat.reduceLeDiff, Nat.le_refl, cellAt_app0, cellAt_app, cellsAt_app0, cellsAt_app, storeL_own0, storeL_own, cellAt_z, cellAt_s, cellsAt_z, cellsAt_s, putB_z, putB_s, List.getElem?_cons_zero, List.getElem?_cons_succ, List.drop_zero, List.drop_succ_cons, List.take_zero, List.take_succ_cons, allCells_cons, allCells_nil, cellV_int, cellV_bool, cellV_string, cellV_ptr, cellV_slice, cellV_map, cellV_func, cellV_nilFunc, cellV_tSl, Bool.and_self, Bool.and_true, Bool.true_and, and_self, true_and, and_true, Bool.false_eq_true, if_false, lrefs_nil, lrefs_cons, vrefs_bool, vrefs_int, vrefs_string, vrefs_ptr, vrefs_ptr0, vrefs_slice, vrefs_slice0, vrefs_map, vrefs_tSl, vrefs_tPtr, vrefs_agg, escOf_nil, Int.reduceEq, Int.reduceLT, Int.reduceLE, putCells_one0, putCells_succ, max_int, min_int, box_agg u1, List.nil_append, hln, hlr, hm, hm2, twainlaw37_lives.eq]
      exact says_fin
    · obtain ⟨H1, e1, hraw, h1⟩ := raw_ok hl (by omega) [Blk.cells u t_api_Sector true]
      have g1 : H1[0]? = some (.cells u t_api_Sector true) := by rw [h1 0 (by simp)]; rfl
      obtain ⟨b, hpf, hb⟩ := pfits_ok (row := row) hl (by omega) hr (by omega) H1 hu
      obtain ⟨b2, H2, e2, hdf, hf2, hb2⟩ := fits_ok (row := row) hl (by omega) (by omega) H1 hu
      have hbb : b = b2 := by
        cases b <;> cases b2 <;> simp_all
      subst hbb
      have hv := veq_sec hu
      simp only [twainlaw37_RegisterFits.sh, twainlaw37_RegisterFits.j0, twainlaw37_RegisterFits.j1, Option.bind_some, Option.map_some, bcase_true, bcase_false, List.getD_cons_zero, List.getD_cons_succ, bin_add, bin_sub, bin_mul, bin_eql, bin_neq, bin_lss, bin_leq, bin_gtr, bin_geq, un_not, pick_bool, decide_true, decide_false, Bool.not_true, Bool.not_false, joinEsc_none, oneOf_one, ext20, ext21, ext30, ext31, ext32, if_true, box_lit, box_int, box_bool, box_slice, box_map, box_ptr, box_tSl, store_lit, store_int, store_bool, store_slice, store_map, store_ptr, store_tSl, load_one, load_agg, app_cons2, List.cons_append, List.nil_append, len_app, List.length_cons, List.length_nil, Nat.zero_add, Nat.add_zero, Nat.reduceAdd, Nat.reduceLeDiff, Nat.le_refl, cellAt_app0, cellAt_app, cellsAt_app0, cellsAt_app, storeL_own0, storeL_own, cellAt_z, cellAt_s, cellsAt_z, cellsAt_s, putB_z, putB_s, List.getElem?_cons_zero, List.getElem?_cons_succ, List.drop_zero, List.drop_succ_cons, List.take_zero, List.take_succ_cons, allCells_cons, allCells_nil, cellV_int, cellV_bool, cellV_string, cellV_ptr, cellV_slice, cellV_map, cellV_func, cellV_nilFunc, cellV_tSl, Bool.and_self, Bool.and_true, Bool.true_and, and_self, true_and, and_true, Bool.false_eq_true, if_false, lrefs_nil, lrefs_cons, vrefs_bool, vrefs_int, vrefs_string, vrefs_ptr, vrefs_ptr0, vrefs_slice, vrefs_slice0, vrefs_map, vrefs_tSl, vrefs_tPtr, vrefs_agg, escOf_nil, Int.reduceEq, Int.reduceLT, Int.reduceLE, putCells_one0, putCells_succ, max_int, min_int, box_agg u1, List.nil_append, hln, hlr, hm, hm2, hraw, load_agg, hlu _ g1, hpf, hdf, hv, bin_eqlB, twainlaw37_lives.eq, hlu [Blk.cells u t_api_Sector true] rfl]
      exact says_fin
end RM
end Go.Proofs.Ytfinilnkempofaa
