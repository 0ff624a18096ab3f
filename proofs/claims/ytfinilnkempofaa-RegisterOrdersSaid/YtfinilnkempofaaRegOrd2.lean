/- A part of the proof: RegOrd2. Its conditions: none. -/
import Derived.Test.YtfinilnkempofaaRegOrd1
set_option linter.all false
set_option linter.unusedVariables false
set_option linter.unusedSimpArgs false
set_option linter.unnecessarySimpa false
namespace Go.Proofs.Ytfinilnkempofaa
open Go Go.Am Go.Reg
namespace RO

section
variable {vals : List (List Value)} {rds : List Bool} {more : List Op1} (hv : ∀ v ∈ vals, TOk PP t_api_Sector v) (hn : vals.length ≤ 30) (H0 : List Blk)

def bls (rds : List Bool) : List Value := rds.map .bool

theorem vals_rows {vals : List (List Value)} (hv : ∀ v ∈ vals, TOk PP t_api_Sector v) : RowsOf 16 vals :=
  ⟨fun r h => sec_len (hv r h), fun r h => (sec_cells (hv r h)).2.1, fun r h => (sec_cells (hv r h)).1, fun r h => (sec_cells (hv r h)).2.2⟩

theorem bl_at {i : Nat} {b : Bool} (h : rds[i]? = some b) (st : AS) (sz : Nat) : aLoad false sz st (tPtr (i * 1) (bls rds).toArray) = some (.bool b) := by
  show tLoad false sz (i * 1) (bls rds).toArray = _
  simp only [tLoad, Bool.false_eq_true, if_false, Nat.mul_one, bls, List.getElem?_map, h, Option.map_some]

/-- the loop's slots -/
def vs6 (vals : List (List Value)) (rds : List Bool) (more : List Op1) (rv pv : Value) (i : Nat) : List Value :=
  [tSl rds.length (bls rds), tSl more.length (opsC more), rv, pv, tSl vals.length vals.flatten, .int .i64 vals.length, .int .i64 i]

def S6 (vals : List (List Value)) (rds : List Bool) (more : List Op1) (H0 : List Blk) (i : Nat) (v : List Value) : List Value × AS :=
  (vs6 vals rds more (rowV H0 (seqA vals rds i) 0) (.pointer (some ⟨H0.length + (rowB (seqA vals rds i)).length, 0, none⟩)) i, ⟨H0 ++ (rowB (seqA vals rds i) ++ [.cells v t_api_Sector true]), none⟩)

theorem seqA_okk (hv : ∀ v ∈ vals, TOk PP t_api_Sector v) : ∀ i, i ≤ 30 → OkOps (seqA vals rds i)
  | 0, _ => fun x h => by simp [seqA] at h
  | i + 1, hi => by
    have ih := seqA_okk hv i (by omega)
    have h1 : IntKind.i64.min = -9223372036854775808 := by kernel_rfl
    have h2 : IntKind.i64.max = 9223372036854775807 := by kernel_rfl
    simp only [seqA]
    cases hx : vals[i]? with
    | none => exact ih
    | some x =>
      have hxo := hv x (List.mem_of_getElem? hx)
      intro y hy
      simp only at hy
      rcases List.mem_append.1 hy with hy | hy
      · exact ih y hy
      · have : y = ⟨true, x, 4 * i, 4 * i + 1⟩ ∨ y = ⟨false, x, 4 * i + 2, 4 * i + 3⟩ := by
          split at hy
          · simp at hy; exact hy
          · simp at hy; exact .inl hy
        rcases this with rfl | rfl
        · exact ⟨hxo, by rw [h1, h2]; simp only; omega, by rw [h1, h2]; simp only; omega⟩
        · exact ⟨hxo, by rw [h1, h2]; simp only; omega, by rw [h1, h2]; simp only; omega⟩

theorem rowB_ne {A : List Op1} (h : A ≠ []) : rowB A = [.cells (opsC A) t_history_Op true] := if_neg h

theorem bls_refs (rds : List Bool) : lrefs (bls rds) = [] := by
  induction rds with
  | nil => rfl
  | cons b r ih => simpa [bls] using ih

theorem gc6 {A : List Op1} (hA : A ≠ []) (hok : OkOps A) {x : List Value} (hx : lrefs x = []) (hmo : lrefs (opsC more) = []) (hvl : lrefs vals.flatten = []) {l : List Blk} {i : Nat} (k p : Nat) (R : List (List Nat)) (hR : l.map blkRefs = R.map (List.map (H0.length + ·)))
    (hk : reachR R 64 [k, p] [] = some [k, p]) (h1 : l[k]? = some (.cells (opsC A) t_history_Op true)) (h2 : l[p]? = some (.cells x t_api_Sector true)) (hkp : k ≠ p) :
    gc H0.length (vs6 vals rds more (rowV H0 A k) (.pointer (some ⟨H0.length + p, 0, none⟩)) i) ⟨H0 ++ l, none⟩ = (vs6 vals rds more (rowV H0 A 0) (.pointer (some ⟨H0.length + 1, 0, none⟩)) i, ⟨H0 ++ [.cells (opsC A) t_history_Op true, .cells x t_api_Sector true], none⟩) := by
  rw [rowV_cons hA, rowV_cons hA]
  refine gc_own R [k, p] [k, p] hk rfl (by simp [vs6, hmo, hvl, bls_refs]) hR ?_ ?_
  · simp [vs6, lren, vren, rn_own, rn_own0, findIx, vren_none, hmo, hvl, bls_refs, hkp, Ne.symm hkp]
  · simp [List.getD, h1, h2, renBlk_cells, lren_none hx, lren_none (opsC_refs hok)]

theorem vals_refs (hv : ∀ v ∈ vals, TOk PP t_api_Sector v) : lrefs vals.flatten = [] := (vals_rows hv).frefs

variable (hmr : lrefs (opsC more) = [])
include hv hn hmr
theorem step6 {i : Nat} {v : List Value} (hi : i < vals.length) (hvo : TOk PP t_api_Sector v) :
    ∃ (k p : Nat) (l : List Blk) (x : List Value), vals[i]? = some x ∧ TOk PP t_api_Sector x ∧
      twainlaw37_RegisterOrders.loop6s (acall PP TT) loopG H0.length (S6 vals rds more H0 i v) = some (.inl (vs6 vals rds more (rowV H0 (seqA vals rds (i + 1)) k) (.pointer (some ⟨H0.length + p, 0, none⟩)) (i + 1), ⟨H0 ++ l, none⟩)) ∧
      gc H0.length (vs6 vals rds more (rowV H0 (seqA vals rds (i + 1)) k) (.pointer (some ⟨H0.length + p, 0, none⟩)) (i + 1)) ⟨H0 ++ l, none⟩ = S6 vals rds more H0 (i + 1) x := by
  obtain ⟨x, hx⟩ : ∃ x, vals[i]? = some x := ⟨_, List.getElem?_eq_getElem hi⟩
  have hxo := hv x (List.mem_of_getElem? hx)
  have hi' : (i : Int) < (vals.length : Int) := by omega
  have hix : aIndexAddr PP t_L_api_Sector (tSl vals.length vals.flatten) (.int .i64 (i : Int)) = some (tPtr (i * 16) vals.flatten.toArray) := tsl_index u_L_api_Sector sz_api_Sector hi
  have hld : ∀ st, aLoad true 16 st (tPtr (i * 16) vals.flatten.toArray) = some (.agg x.toArray) := fun st => tptr_load (vals_rows hv) hx
  have hlb : ∀ st, aLen PP t_L_bool (tSl rds.length (bls rds)) st = some (.int .i64 rds.length) := fun st => tsl_len u_L_bool
  have w1 : IntKind.i64.wrap (4 * (i : Int)) = 4 * (i : Int) := i64_wrap (by omega)
  have w2 : IntKind.i64.wrap (4 * (i : Int) + 1) = 4 * (i : Int) + 1 := i64_wrap (by omega)
  have w3 : IntKind.i64.wrap (4 * (i : Int) + 2) = 4 * (i : Int) + 2 := i64_wrap (by omega)
  have w4 : IntKind.i64.wrap (4 * (i : Int) + 3) = 4 * (i : Int) + 3 := i64_wrap (by omega)
  have w5 : IntKind.i64.wrap ((i : Int) + 1) = ((i + 1 : Nat) : Int) := by rw [i64_wrap (by omega)]; omega
  have h1 : IntKind.i64.min = -9223372036854775808 := by kernel_rfl
  have h2 : IntKind.i64.max = 9223372036854775807 := by kernel_rfl
  have okw : OkRw (⟨true, x, 4 * i, 4 * i + 1⟩ : Op1) := ⟨hxo, by rw [h1, h2]; simp only; omega, by rw [h1, h2]; simp only; omega⟩
  have okr : OkRw (⟨false, x, 4 * i + 2, 4 * i + 3⟩ : Op1) := ⟨hxo, by rw [h1, h2]; simp only; omega, by rw [h1, h2]; simp only; omega⟩
  clear h1 h2
  obtain ⟨x1, x2, x3⟩ := sec_cells hxo
  have xn := sec_len hxo
  have vn := sec_len hvo
  have htx : x.take 16 = x := List.take_of_length_le (by omega)
  have hpz : putCells z_api_Sector 0 x = x := putCells_all (by rw [xn, zl_api_Sector])
  have hpv : putCells v 0 x = x := putCells_all (by omega)
  have hok := seqA_okk (rds := rds) hv i (by omega)
  have hln := seqA_len vals rds i
  have hnr : rds[i]? ≠ some true → seqA vals rds (i + 1) = seqA vals rds i ++ [⟨true, x, 4 * i, 4 * i + 1⟩] := fun h => by simp only [seqA, hx, if_neg h]
  have hyr : rds[i]? = some true → seqA vals rds (i + 1) = seqA vals rds i ++ [⟨true, x, 4 * i, 4 * i + 1⟩] ++ [⟨false, x, 4 * i + 2, 4 * i + 3⟩] := fun h => by simp [seqA, hx, if_pos h]
  have okA1 : OkOps (seqA vals rds i ++ [⟨true, x, 4 * i, 4 * i + 1⟩]) := hok.snoc okw
  have hl1 : (seqA vals rds i ++ [(⟨true, x, 4 * i, 4 * i + 1⟩ : Op1)]).length ≤ 65535 := by simp; omega
  have hvr := vals_refs hv
  have okn := seqA_okk (rds := rds) hv (i + 1) (by omega)
  have hvv := (sec_cells hvo).2.1
  by_cases hA : seqA vals rds i = []
  · have hpush := fun {R : Type} (F : Value → AS → Option R) (l : List Blk) => push (H0 := H0) (l := l) (e := none) (A := []) (x := (⟨true, x, 4 * i, 4 * i + 1⟩ : Op1)) (fun _ h => by simp at h) okw (by simp) (k := 0) (fun h => absurd rfl h) (F := F)
    have hpush2 := fun {R : Type} (F : Value → AS → Option R) (l : List Blk) (hk : l[3]? = some (.cells (opsC [(⟨true, x, 4 * i, 4 * i + 1⟩ : Op1)]) t_history_Op true)) => push (H0 := H0) (l := l) (e := none) (A := [(⟨true, x, 4 * i, 4 * i + 1⟩ : Op1)]) (x := (⟨false, x, 4 * i + 2, 4 * i + 3⟩ : Op1)) (fun y h => by simp at h; subst h; exact okw) okr (by simp) (k := 3) (fun _ => hk) (F := F)
    have hne1 : ([(⟨true, x, 4 * i, 4 * i + 1⟩ : Op1)] = []) = False := by simp
    have no : rds[i]? ≠ some true → (∀ b, rds[i]? = some b → b = false) → ∃ (k p : Nat) (l : List Blk) (x : List Value), vals[i]? = some x ∧ TOk PP t_api_Sector x ∧
        twainlaw37_RegisterOrders.loop6s (acall PP TT) loopG H0.length (S6 vals rds more H0 i v) = some (.inl (vs6 vals rds more (rowV H0 (seqA vals rds (i + 1)) k) (.pointer (some ⟨H0.length + p, 0, none⟩)) (i + 1), ⟨H0 ++ l, none⟩)) ∧
        gc H0.length (vs6 vals rds more (rowV H0 (seqA vals rds (i + 1)) k) (.pointer (some ⟨H0.length + p, 0, none⟩)) (i + 1)) ⟨H0 ++ l, none⟩ = S6 vals rds more H0 (i + 1) x := fun h1 h2 => by
      have hseq := hnr h1
      rw [hA] at hseq
      refine ⟨3, 0, [.cells x t_api_Sector true, .cells x t_api_Sector true, .cells (opc (⟨true, x, 4 * i, 4 * i + 1⟩ : Op1)) t_history_Op true, .cells (opsC (seqA vals rds (i + 1))) t_history_Op true], x, hx, hxo, ?_, ?_⟩
      · rw [hseq]
        by_cases hr : (i : Int) < (rds.length : Int)
        · obtain ⟨b, hb⟩ : ∃ b, rds[i]? = some b := ⟨_, List.getElem?_eq_getElem (by omega)⟩
          have := h2 b hb; subst this
          have hixb : aIndexAddr PP t_L_bool (tSl rds.length (bls rds)) (.int .i64 (i : Int)) = some (tPtr (i * 1) (bls rds).toArray) := tsl_index u_L_bool sz_bool (by omega)
          simp only [twainlaw37_RegisterOrders.loop6s, twainlaw37_RegisterOrders.loop6, twainlaw37_RegisterOrders.j3, twainlaw37_RegisterOrders.j4, S6, vs6, Option.bind_some, Option.map_some, bcase_true, bcase_false, List.getD_cons_zero, List.getD_cons_succ, bin_add, bin_sub, bin_mul, bin_eql, bin_neq, bin_lss, bin_leq, bin_gtr, bin_geq, un_not, pick_bool, decide_true, decide_false, Bool.not_true, Bool.not_false, joinEsc_none, oneOf_one, ext20, ext21, ext30, ext31, ext32, if_true, box_lit, box_int, box_bool, box_slice, box_map, box_ptr, box_tSl, store_lit, store_int, store_bool, store_slice, store_map, store_ptr, store_tSl, load_one, load_agg, app_cons2, List.cons_append, List.nil_append, len_app, List.length_cons, List.length_nil, Nat.zero_add, Nat.add_zero, Nat.reduceAdd, Nat.reduceLeDiff, Nat.le_refl, cellAt_app0, cellAt_app, cellsAt_app0, cellsAt_app, storeL_own0, storeL_own, cellAt_z, cellAt_s, cellsAt_z, cellsAt_s, putB_z, putB_s, List.getElem?_cons_zero, List.getElem?_cons_succ, List.drop_zero, List.drop_succ_cons, List.take_zero, List.take_succ_cons, allCells_cons, allCells_nil, cellV_int, cellV_bool, cellV_string, cellV_ptr, cellV_slice, cellV_map, cellV_func, cellV_nilFunc, cellV_tSl, Bool.and_self, Bool.and_true, Bool.true_and, and_self, true_and, and_true, Bool.false_eq_true, if_false, lrefs_nil, lrefs_cons, vrefs_bool, vrefs_int, vrefs_string, vrefs_ptr, vrefs_ptr0, vrefs_slice, vrefs_slice0, vrefs_map, vrefs_tSl, vrefs_tPtr, vrefs_agg, escOf_nil, Int.reduceEq, Int.reduceLT, Int.reduceLE, putCells_one0, putCells_succ, max_int, min_int, hi', hix, hld, hlb, hr, zg_api_Sector, za_api_Sector, zl_api_Sector, xn, x1, x2, vn, htx, hpz, hpv, w1, w2, w3, w4, w5, bld4 hxo, bld3 hxo, hA, rowB, hpush, hixb, bl_at hb]
        · simp only [twainlaw37_RegisterOrders.loop6s, twainlaw37_RegisterOrders.loop6, twainlaw37_RegisterOrders.j3, twainlaw37_RegisterOrders.j4, S6, vs6, Option.bind_some, Option.map_some, bcase_true, bcase_false, List.getD_cons_zero, List.getD_cons_succ, bin_add, bin_sub, bin_mul, bin_eql, bin_neq, bin_lss, bin_leq, bin_gtr, bin_geq, un_not, pick_bool, decide_true, decide_false, Bool.not_true, Bool.not_false, joinEsc_none, oneOf_one, ext20, ext21, ext30, ext31, ext32, if_true, box_lit, box_int, box_bool, box_slice, box_map, box_ptr, box_tSl, store_lit, store_int, store_bool, store_slice, store_map, store_ptr, store_tSl, load_one, load_agg, app_cons2, List.cons_append, List.nil_append, len_app, List.length_cons, List.length_nil, Nat.zero_add, Nat.add_zero, Nat.reduceAdd, Nat.reduceLeDiff, Nat.le_refl, cellAt_app0, cellAt_app, cellsAt_app0, cellsAt_app, storeL_own0, storeL_own, cellAt_z, cellAt_s, cellsAt_z, cellsAt_s, putB_z, putB_s, List.getElem?_cons_zero, List.getElem?_cons_succ, List.drop_zero, List.drop_succ_cons, List.take_zero, List.take_succ_cons, allCells_cons, allCells_nil, cellV_int, cellV_bool, cellV_string, cellV_ptr, cellV_slice, cellV_map, cellV_func, cellV_nilFunc, cellV_tSl, Bool.and_self, Bool.and_true, Bool.true_and, and_self, true_and, and_true, Bool.false_eq_true, if_false, lrefs_nil, lrefs_cons, vrefs_bool, vrefs_int, vrefs_string, vrefs_ptr, vrefs_ptr0, vrefs_slice, vrefs_slice0, vrefs_map, vrefs_tSl, vrefs_tPtr, vrefs_agg, escOf_nil, Int.reduceEq, Int.reduceLT, Int.reduceLE, putCells_one0, putCells_succ, max_int, min_int, hi', hix, hld, hlb, hr, zg_api_Sector, za_api_Sector, zl_api_Sector, xn, x1, x2, vn, htx, hpz, hpv, w1, w2, w3, w4, w5, bld4 hxo, bld3 hxo, hA, rowB, hpush]
      · rw [gc6 H0 (by rw [hseq]; simp) okn x2 hmr hvr 3 0 [[], [], [], []] (by simp [blkRefs_cells, blkRefs_dead, x2, hvv, (opc_cells okw).2.1, (opc_cells okr).2.1, opsC_refs okn]) rfl rfl rfl (by decide), S6, rowB_ne (by rw [hseq]; simp)]
        rfl
    cases hb : rds[i]? with
    | none => exact no (by rw [hb]; simp) (fun b h => by rw [hb] at h; simp at h)
    | some b =>
      cases b with
      | false => exact no (by rw [hb]; simp) (fun b h => by rw [hb] at h; simp at h; exact h)
      | true =>
        have hr : (i : Int) < (rds.length : Int) := by have := lt_of_get hb; omega
        have hixb : aIndexAddr PP t_L_bool (tSl rds.length (bls rds)) (.int .i64 (i : Int)) = some (tPtr (i * 1) (bls rds).toArray) := tsl_index u_L_bool sz_bool (by omega)
        have hseq := hyr hb
        rw [hA] at hseq
        simp only [List.nil_append, List.cons_append] at hseq
        refine ⟨5, 0, [.cells x t_api_Sector true, .cells x t_api_Sector true, .cells (opc (⟨true, x, 4 * i, 4 * i + 1⟩ : Op1)) t_history_Op true, .dead, .cells (opc (⟨false, x, 4 * i + 2, 4 * i + 3⟩ : Op1)) t_history_Op true, .cells (opsC (seqA vals rds (i + 1))) t_history_Op true], x, hx, hxo, ?_, ?_⟩
        · rw [hseq]
          simp only [twainlaw37_RegisterOrders.loop6s, twainlaw37_RegisterOrders.loop6, twainlaw37_RegisterOrders.j3, twainlaw37_RegisterOrders.j4, S6, vs6, Option.bind_some, Option.map_some, bcase_true, bcase_false, List.getD_cons_zero, List.getD_cons_succ, bin_add, bin_sub, bin_mul, bin_eql, bin_neq, bin_lss, bin_leq, bin_gtr, bin_geq, un_not, pick_bool, decide_true, decide_false, Bool.not_true, Bool.not_false, joinEsc_none, oneOf_one, ext20, ext21, ext30, ext31, ext32, if_true, box_lit, box_int, box_bool, box_slice, box_map, box_ptr, box_tSl, store_lit, store_int, store_bool, store_slice, store_map, store_ptr, store_tSl, load_one, load_agg, app_cons2, List.cons_append, List.nil_append, len_app, List.length_cons, List.length_nil, Nat.zero_add, Nat.add_zero, Nat.reduceAdd, Nat.reduceLeDiff, Nat.le_refl, cellAt_app0, cellAt_app, cellsAt_app0, cellsAt_app, storeL_own0, storeL_own, cellAt_z, cellAt_s, cellsAt_z, cellsAt_s, putB_z, putB_s, List.getElem?_cons_zero, List.getElem?_cons_succ, List.drop_zero, List.drop_succ_cons, List.take_zero, List.take_succ_cons, allCells_cons, allCells_nil, cellV_int, cellV_bool, cellV_string, cellV_ptr, cellV_slice, cellV_map, cellV_func, cellV_nilFunc, cellV_tSl, Bool.and_self, Bool.and_true, Bool.true_and, and_self, true_and, and_true, Bool.false_eq_true, if_false, lrefs_nil, lrefs_cons, vrefs_bool, vrefs_int, vrefs_string, vrefs_ptr, vrefs_ptr0, vrefs_slice, vrefs_slice0, vrefs_map, vrefs_tSl, vrefs_tPtr, vrefs_agg, escOf_nil, Int.reduceEq, Int.reduceLT, Int.reduceLE, putCells_one0, putCells_succ, max_int, min_int, hi', hix, hld, hlb, hr, zg_api_Sector, za_api_Sector, zl_api_Sector, xn, x1, x2, vn, htx, hpz, hpv, w1, w2, w3, w4, w5, bld4 hxo, bld3 hxo, hA, rowB, hpush, hpush2, hixb, bl_at hb, hne1, List.set_cons_zero, List.set_cons_succ]
        · rw [gc6 H0 (by rw [hseq]; simp) okn x2 hmr hvr 5 0 [[], [], [], [], [], []] (by simp [blkRefs_cells, blkRefs_dead, x2, hvv, (opc_cells okw).2.1, (opc_cells okr).2.1, opsC_refs okn]) rfl rfl rfl (by decide), S6, rowB_ne (by rw [hseq]; simp)]
          rfl
  · have hpush := fun {R : Type} (F : Value → AS → Option R) (l : List Blk) (hk : l[0]? = some (.cells (opsC (seqA vals rds i)) t_history_Op true)) => push (H0 := H0) (l := l) (e := none) (A := seqA vals rds i) (x := (⟨true, x, 4 * i, 4 * i + 1⟩ : Op1)) hok okw (by omega) (k := 0) (fun _ => hk) (F := F)
    have hpush2 := fun {R : Type} (F : Value → AS → Option R) (l : List Blk) (hk : l[4]? = some (.cells (opsC (seqA vals rds i ++ [(⟨true, x, 4 * i, 4 * i + 1⟩ : Op1)])) t_history_Op true)) => push (H0 := H0) (l := l) (e := none) (A := seqA vals rds i ++ [(⟨true, x, 4 * i, 4 * i + 1⟩ : Op1)]) (x := (⟨false, x, 4 * i + 2, 4 * i + 3⟩ : Op1)) okA1 okr hl1 (k := 4) (fun _ => hk) (F := F)
    have hne1 : (seqA vals rds i ++ [(⟨true, x, 4 * i, 4 * i + 1⟩ : Op1)] = []) = False := by simp
    have no : rds[i]? ≠ some true → (∀ b, rds[i]? = some b → b = false) → ∃ (k p : Nat) (l : List Blk) (x : List Value), vals[i]? = some x ∧ TOk PP t_api_Sector x ∧
        twainlaw37_RegisterOrders.loop6s (acall PP TT) loopG H0.length (S6 vals rds more H0 i v) = some (.inl (vs6 vals rds more (rowV H0 (seqA vals rds (i + 1)) k) (.pointer (some ⟨H0.length + p, 0, none⟩)) (i + 1), ⟨H0 ++ l, none⟩)) ∧
        gc H0.length (vs6 vals rds more (rowV H0 (seqA vals rds (i + 1)) k) (.pointer (some ⟨H0.length + p, 0, none⟩)) (i + 1)) ⟨H0 ++ l, none⟩ = S6 vals rds more H0 (i + 1) x := fun h1 h2 => by
      have hseq := hnr h1
      refine ⟨4, 1, [.dead, .cells x t_api_Sector true, .cells x t_api_Sector true, .cells (opc (⟨true, x, 4 * i, 4 * i + 1⟩ : Op1)) t_history_Op true, .cells (opsC (seqA vals rds (i + 1))) t_history_Op true], x, hx, hxo, ?_, ?_⟩
      · rw [hseq]
        by_cases hr : (i : Int) < (rds.length : Int)
        · obtain ⟨b, hb⟩ : ∃ b, rds[i]? = some b := ⟨_, List.getElem?_eq_getElem (by omega)⟩
          have := h2 b hb; subst this
          have hixb : aIndexAddr PP t_L_bool (tSl rds.length (bls rds)) (.int .i64 (i : Int)) = some (tPtr (i * 1) (bls rds).toArray) := tsl_index u_L_bool sz_bool (by omega)
          simp only [twainlaw37_RegisterOrders.loop6s, twainlaw37_RegisterOrders.loop6, twainlaw37_RegisterOrders.j3, twainlaw37_RegisterOrders.j4, S6, vs6, Option.bind_some, Option.map_some, bcase_true, bcase_false, List.getD_cons_zero, List.getD_cons_succ, bin_add, bin_sub, bin_mul, bin_eql, bin_neq, bin_lss, bin_leq, bin_gtr, bin_geq, un_not, pick_bool, decide_true, decide_false, Bool.not_true, Bool.not_false, joinEsc_none, oneOf_one, ext20, ext21, ext30, ext31, ext32, if_true, box_lit, box_int, box_bool, box_slice, box_map, box_ptr, box_tSl, store_lit, store_int, store_bool, store_slice, store_map, store_ptr, store_tSl, load_one, load_agg, app_cons2, List.cons_append, List.nil_append, len_app, List.length_cons, List.length_nil, Nat.zero_add, Nat.add_zero, Nat.reduceAdd, Nat.reduceLeDiff, Nat.le_refl, cellAt_app0, cellAt_app, cellsAt_app0, cellsAt_app, storeL_own0, storeL_own, cellAt_z, cellAt_s, cellsAt_z, cellsAt_s, putB_z, putB_s, List.getElem?_cons_zero, List.getElem?_cons_succ, List.drop_zero, List.drop_succ_cons, List.take_zero, List.take_succ_cons, allCells_cons, allCells_nil, cellV_int, cellV_bool, cellV_string, cellV_ptr, cellV_slice, cellV_map, cellV_func, cellV_nilFunc, cellV_tSl, Bool.and_self, Bool.and_true, Bool.true_and, and_self, true_and, and_true, Bool.false_eq_true, if_false, lrefs_nil, lrefs_cons, vrefs_bool, vrefs_int, vrefs_string, vrefs_ptr, vrefs_ptr0, vrefs_slice, vrefs_slice0, vrefs_map, vrefs_tSl, vrefs_tPtr, vrefs_agg, escOf_nil, Int.reduceEq, Int.reduceLT, Int.reduceLE, putCells_one0, putCells_succ, max_int, min_int, hi', hix, hld, hlb, hr, zg_api_Sector, za_api_Sector, zl_api_Sector, xn, x1, x2, vn, htx, hpz, hpv, w1, w2, w3, w4, w5, bld4 hxo, bld3 hxo, hA, rowB_ne hA, hpush, hixb, bl_at hb, List.set_cons_zero, List.set_cons_succ]
        · simp only [twainlaw37_RegisterOrders.loop6s, twainlaw37_RegisterOrders.loop6, twainlaw37_RegisterOrders.j3, twainlaw37_RegisterOrders.j4, S6, vs6, Option.bind_some, Option.map_some, bcase_true, bcase_false, List.getD_cons_zero, List.getD_cons_succ, bin_add, bin_sub, bin_mul, bin_eql, bin_neq, bin_lss, bin_leq, bin_gtr, bin_geq, un_not, pick_bool, decide_true, decide_false, Bool.not_true, Bool.not_false, joinEsc_none, oneOf_one, ext20, ext21, ext30, ext31, ext32, if_true, box_lit, box_int, box_bool, box_slice, box_map, box_ptr, box_tSl, store_lit, store_int, store_bool, store_slice, store_map, store_ptr, store_tSl, load_one, load_agg, app_cons2, List.cons_append, List.nil_append, len_app, List.length_cons, List.length_nil, Nat.zero_add, Nat.add_zero, Nat.reduceAdd, Nat.reduceLeDiff, Nat.le_refl, cellAt_app0, cellAt_app, cellsAt_app0, cellsAt_app, storeL_own0, storeL_own, cellAt_z, cellAt_s, cellsAt_z, cellsAt_s, putB_z, putB_s, List.getElem?_cons_zero, List.getElem?_cons_succ, List.drop_zero, List.drop_succ_cons, List.take_zero, List.take_succ_cons, allCells_cons, allCells_nil, cellV_int, cellV_bool, cellV_string, cellV_ptr, cellV_slice, cellV_map, cellV_func, cellV_nilFunc, cellV_tSl, Bool.and_self, Bool.and_true, Bool.true_and, and_self, true_and, and_true, Bool.false_eq_true, if_false, lrefs_nil, lrefs_cons, vrefs_bool, vrefs_int, vrefs_string, vrefs_ptr, vrefs_ptr0, vrefs_slice, vrefs_slice0, vrefs_map, vrefs_tSl, vrefs_tPtr, vrefs_agg, escOf_nil, Int.reduceEq, Int.reduceLT, Int.reduceLE, putCells_one0, putCells_succ, max_int, min_int, hi', hix, hld, hlb, hr, zg_api_Sector, za_api_Sector, zl_api_Sector, xn, x1, x2, vn, htx, hpz, hpv, w1, w2, w3, w4, w5, bld4 hxo, bld3 hxo, hA, rowB_ne hA, hpush, List.set_cons_zero, List.set_cons_succ]
      · rw [gc6 H0 (by rw [hseq]; simp) okn x2 hmr hvr 4 1 [[], [], [], [], []] (by simp [blkRefs_cells, blkRefs_dead, x2, hvv, (opc_cells okw).2.1, (opc_cells okr).2.1, opsC_refs okn]) rfl rfl rfl (by decide), S6, rowB_ne (by rw [hseq]; simp)]
        rfl
    cases hb : rds[i]? with
    | none => exact no (by rw [hb]; simp) (fun b h => by rw [hb] at h; simp at h)
    | some b =>
      cases b with
      | false => exact no (by rw [hb]; simp) (fun b h => by rw [hb] at h; simp at h; exact h)
      | true =>
        have hr : (i : Int) < (rds.length : Int) := by have := lt_of_get hb; omega
        have hixb : aIndexAddr PP t_L_bool (tSl rds.length (bls rds)) (.int .i64 (i : Int)) = some (tPtr (i * 1) (bls rds).toArray) := tsl_index u_L_bool sz_bool (by omega)
        have hseq := hyr hb
        refine ⟨6, 1, [.dead, .cells x t_api_Sector true, .cells x t_api_Sector true, .cells (opc (⟨true, x, 4 * i, 4 * i + 1⟩ : Op1)) t_history_Op true, .dead, .cells (opc (⟨false, x, 4 * i + 2, 4 * i + 3⟩ : Op1)) t_history_Op true, .cells (opsC (seqA vals rds (i + 1))) t_history_Op true], x, hx, hxo, ?_, ?_⟩
        · rw [hseq]
          simp only [twainlaw37_RegisterOrders.loop6s, twainlaw37_RegisterOrders.loop6, twainlaw37_RegisterOrders.j3, twainlaw37_RegisterOrders.j4, S6, vs6, Option.bind_some, Option.map_some, bcase_true, bcase_false, List.getD_cons_zero, List.getD_cons_succ, bin_add, bin_sub, bin_mul, bin_eql, bin_neq, bin_lss, bin_leq, bin_gtr, bin_geq, un_not, pick_bool, decide_true, decide_false, Bool.not_true, Bool.not_false, joinEsc_none, oneOf_one, ext20, ext21, ext30, ext31, ext32, if_true, box_lit, box_int, box_bool, box_slice, box_map, box_ptr, box_tSl, store_lit, store_int, store_bool, store_slice, store_map, store_ptr, store_tSl, load_one, load_agg, app_cons2, List.cons_append, List.nil_append, len_app, List.length_cons, List.length_nil, Nat.zero_add, Nat.add_zero, Nat.reduceAdd, Nat.reduceLeDiff, Nat.le_refl, cellAt_app0, cellAt_app, cellsAt_app0, cellsAt_app, storeL_own0, storeL_own, cellAt_z, cellAt_s, cellsAt_z, cellsAt_s, putB_z, putB_s, List.getElem?_cons_zero, List.getElem?_cons_succ, List.drop_zero, List.drop_succ_cons, List.take_zero, List.take_succ_cons, allCells_cons, allCells_nil, cellV_int, cellV_bool, cellV_string, cellV_ptr, cellV_slice, cellV_map, cellV_func, cellV_nilFunc, cellV_tSl, Bool.and_self, Bool.and_true, Bool.true_and, and_self, true_and, and_true, Bool.false_eq_true, if_false, lrefs_nil, lrefs_cons, vrefs_bool, vrefs_int, vrefs_string, vrefs_ptr, vrefs_ptr0, vrefs_slice, vrefs_slice0, vrefs_map, vrefs_tSl, vrefs_tPtr, vrefs_agg, escOf_nil, Int.reduceEq, Int.reduceLT, Int.reduceLE, putCells_one0, putCells_succ, max_int, min_int, hi', hix, hld, hlb, hr, zg_api_Sector, za_api_Sector, zl_api_Sector, xn, x1, x2, vn, htx, hpz, hpv, w1, w2, w3, w4, w5, bld4 hxo, bld3 hxo, hA, rowB_ne hA, hpush, hpush2, hixb, bl_at hb, hne1, List.set_cons_zero, List.set_cons_succ]
        · rw [gc6 H0 (by rw [hseq]; simp) okn x2 hmr hvr 6 1 [[], [], [], [], [], [], []] (by simp [blkRefs_cells, blkRefs_dead, x2, hvv, (opc_cells okw).2.1, (opc_cells okr).2.1, opsC_refs okn]) rfl rfl rfl (by decide), S6, rowB_ne (by rw [hseq]; simp)]
          rfl

theorem loop6 {v0 : List Value} (hv0 : TOk PP t_api_Sector v0) {vs : List Value} {st : AS} (hX : gc H0.length vs st = S6 vals rds more H0 0 v0) :
    ∃ r, loopG H0.length (twainlaw37_RegisterOrders.loop6s (acall PP TT) loopG H0.length) (vs, st) = some r ∧
      ∃ x, TOk PP t_api_Sector x ∧ r = (.exit 0, [tSl more.length (opsC more), rowV H0 (seqA vals rds vals.length) 0], ⟨H0 ++ (rowB (seqA vals rds vals.length) ++ [.cells x t_api_Sector true]), none⟩) := by
  refine loop_r (len := vals.length) (S6 vals rds more H0) (fun _ v => TOk PP t_api_Sector v) _ (fun i v hi ho => ?_) (fun v ho => ?_) vals.length 0 v0 vs st (by omega) hv0 hX
  · obtain ⟨k, p, l, x, _, h2, h3, h4⟩ := step6 (rds := rds) (more := more) hv hn H0 hmr hi ho
    exact .inr ⟨_, _, x, h3, h4, h2⟩
  · have hlast : ¬ ((vals.length : Int) < (vals.length : Int)) := Int.lt_irrefl _
    refine ⟨_, ?_, v, ho, rfl⟩
    simp only [twainlaw37_RegisterOrders.loop6s, twainlaw37_RegisterOrders.loop6, S6, vs6, Option.bind_some, Option.map_some, bcase_true, bcase_false, List.getD_cons_zero, List.getD_cons_succ, bin_add, bin_sub, bin_mul, bin_eql, bin_neq, bin_lss, bin_leq, bin_gtr, bin_geq, un_not, pick_bool, decide_true, decide_false, Bool.not_true, Bool.not_false, joinEsc_none, oneOf_one, ext20, ext21, ext30, ext31, ext32, if_true, box_lit, box_int, box_bool, box_slice, box_map, box_ptr, box_tSl, store_lit, store_int, store_bool, store_slice, store_map, store_ptr, store_tSl, load_one, load_agg, app_cons2, List.cons_append, List.nil_append, len_app, List.length_cons, List.length_nil, Nat.zero_add, Nat.add_zero, Nat.reduceAdd, Nat.reduceLeDiff, Nat.le_refl, cellAt_app0, cellAt_app, cellsAt_app0, cellsAt_app, storeL_own0, storeL_own, cellAt_z, cellAt_s, cellsAt_z, cellsAt_s, putB_z, putB_s, List.getElem?_cons_zero, List.getElem?_cons_succ, List.drop_zero, List.drop_succ_cons, List.take_zero, List.take_succ_cons, allCells_cons, allCells_nil, cellV_int, cellV_bool, cellV_string, cellV_ptr, cellV_slice, cellV_map, cellV_func, cellV_nilFunc, cellV_tSl, Bool.and_self, Bool.and_true, Bool.true_and, and_self, true_and, and_true, Bool.false_eq_true, if_false, lrefs_nil, lrefs_cons, vrefs_bool, vrefs_int, vrefs_string, vrefs_ptr, vrefs_ptr0, vrefs_slice, vrefs_slice0, vrefs_map, vrefs_tSl, vrefs_tPtr, vrefs_agg, escOf_nil, Int.reduceEq, Int.reduceLT, Int.reduceLE, putCells_one0, putCells_succ, max_int, min_int, hlast]
end
end RO
end Go.Proofs.Ytfinilnkempofaa
