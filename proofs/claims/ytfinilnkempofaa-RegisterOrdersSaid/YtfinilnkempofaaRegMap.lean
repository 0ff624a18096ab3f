/- A part of the proof: RegMap. Its conditions: none. -/
import Derived.Test.YtfinilnkempofaaRegFits
import Derived.Test.YtfinilnkempofaaRgOps
import Derived.Test.YtfinilnkempofaaAm23
set_option linter.all false
set_option linter.unusedVariables false
set_option linter.unusedSimpArgs false
set_option linter.unnecessarySimpa false
namespace Go.Proofs.Ytfinilnkempofaa
open Go Go.Am Go.Reg
namespace RM

def KR (p : Int × Nat) : Value := .int .i64 p.1
def VR (p : Int × Nat) : Value := .int .i64 p.2
def kcR (p : Int × Nat) : List Value := [.int .i64 p.1]
/-- the map behind so many places -/
def mapR (row : List Int) : Blk := .map (entries KR VR 0 row.zipIdx) row.zipIdx.length

theorem mapR_refs (row : List Int) : blkRefs (mapR row) = [] := entries_refs (fun _ => rfl) (fun _ => rfl) 0 _
theorem mapR_ren (σ : Nat → Nat) (row : List Int) : renBlk σ (mapR row) = mapR row := by
  unfold mapR
  simp only [renBlk]
  rw [entries_ren (fun _ => rfl) (fun _ => rfl)]

theorem flatInt : flatT PP 12 t_int = true := by kernel_rfl
theorem argInt (n : Int) : argV PP t_int [.int .i64 n] = .int .i64 n := by unfold argV; rw [u_int]; rfl
theorem tokInt {n : Int} (h : -9223372036854775808 ≤ n ∧ n ≤ 9223372036854775807) : TOk PP t_int [.int .i64 n] := by
  refine .int n u_int ?_
  have h1 : IntKind.i64.min = -9223372036854775808 := by kernel_rfl
  have h2 : IntKind.i64.max = 9223372036854775807 := by kernel_rfl
  rw [h1, h2]; exact h

def InI (row : List Int) : Prop := ∀ n ∈ row, -9223372036854775808 ≤ n ∧ n ≤ 9223372036854775807

theorem zip_mem {row : List Int} {p : Int × Nat} (h : p ∈ row.zipIdx) : row[p.2]? = some p.1 := by
  obtain ⟨a, b⟩ := p
  rw [List.mem_zipIdx_iff_getElem?] at h
  exact h

theorem zip_find (row : List Int) (n : Int) : (row.zipIdx.find? fun p => decide (p.1 = n)).isSome = decide (n ∈ row) := by
  rw [Bool.eq_iff_iff]
  simp only [List.find?_isSome, decide_eq_true_eq]
  constructor
  · rintro ⟨p, hp, rfl⟩
    exact List.mem_of_getElem? (zip_mem hp)
  · intro h
    obtain ⟨i, hi⟩ := List.mem_iff_getElem?.1 h
    exact ⟨(n, i), by rw [List.mem_zipIdx_iff_getElem?]; exact hi, rfl⟩

section
variable {row : List Int} (hr : InI row) {H0 : List Blk} {L : List Blk} {e : Option Nat}
include hr

theorem look_m {st : AS} {r : Nat} (hb : st.H[r]? = some (mapR row)) {n : Int} (hn : -9223372036854775808 ≤ n ∧ n ≤ 9223372036854775807) :
    aLookup PP t_M_int_int (.map (some r)) (.int .i64 n) true st = some (match row.zipIdx.find? fun p => decide (p.1 = n) with | some p => .tuple #[VR p, .bool true] | none => .tuple #[.int .i64 0, .bool false]) := by
  have := look_ent (P := PP) (K := KR) (V := VR) (kc := kcR) u_M_int_int zv_int rfl flatInt (st := st) (r := r) (c := row.zipIdx.length) (xs := row.zipIdx) (fun x _ => by rw [show kcR x = [.int .i64 x.1] from rfl, argInt]; rfl)
    (fun x hx => tokInt (hr _ (List.mem_of_getElem? (zip_mem hx)))) hb (q := [.int .i64 n]) (tokInt hn) (p := fun p => decide (p.1 = n)) (fun x _ => by simp [kcR])
  rw [argInt] at this
  rw [this]
  cases row.zipIdx.find? fun p => decide (p.1 = n) <;> rfl

theorem upd_m {st : AS} {r : Nat} (hb : st.H[r]? = some (mapR row)) {n : Int} (hn : -9223372036854775808 ≤ n ∧ n ≤ 9223372036854775807) (hno : n ∉ row) :
    aMapUpdate PP t_M_int_int (.map (some r)) (.int .i64 n) (.int .i64 row.length) st = some ⟨st.H.set r (mapR (row ++ [n])), st.esc⟩ := by
  have := upd_ent (P := PP) (K := KR) (V := VR) (kc := kcR) u_M_int_int flatInt (st := st) (r := r) (xs := row.zipIdx) (fun x _ => by rw [show kcR x = [.int .i64 x.1] from rfl, argInt]; rfl)
    (fun x hx => tokInt (hr _ (List.mem_of_getElem? (zip_mem hx)))) hb (x := (n, row.length)) (q := [.int .i64 n]) (v := .int .i64 row.length) (by rw [argInt]; rfl) rfl (tokInt hn) (fun y hy he => hno (by
      simp [kcR] at he; rw [← he]; exact List.mem_of_getElem? (zip_mem hy)))
  rw [argInt] at this
  rw [this]
  unfold mapR
  have h1 : (row ++ [n]).zipIdx = row.zipIdx ++ [(n, row.length)] := by simp [List.zipIdx_append]
  rw [h1]
  simp [escOf]
end

open Classical in
/-- the first loop: places, values -/
noncomputable def go1 (l : List (Rw (List Value))) : List Int → List Value → List Int → Bool
  | _, _, [] => true
  | done, v, n :: rs => match (if 0 ≤ n then l[n.toNat]? else none) with
    | none => false
    | some x => if n ∈ done then false else if x.w = true then go1 l (done ++ [n]) x.v rs else if x.v = v then go1 l (done ++ [n]) v rs else false

theorem nums_get (row : List Int) (i : Nat) : (nums row)[i]? = (row[i]?).map fun n => .int .i64 n := by simp [nums]

theorem int_at {row : List Int} {i : Nat} {n : Int} (h : row[i]? = some n) (st : AS) (sz : Nat) : aLoad false sz st (tPtr (i * 1) (nums row).toArray) = some (.int .i64 n) := by
  show tLoad false sz (i * 1) (nums row).toArray = _
  simp only [tLoad, Bool.false_eq_true, if_false, Nat.mul_one]
  rw [nums_get, h]; rfl

theorem ops_rows {l : List (Rw (List Value))} (hl : OkOps l) : RowsOf 19 (l.map opc) := by
  have key : ∀ r ∈ l.map opc, ∃ x, OkRw x ∧ r = opc x := fun r hr => by
    obtain ⟨x, hx, rfl⟩ := List.mem_map.1 hr
    exact ⟨x, hl x hx, rfl⟩
  exact ⟨fun r h => by obtain ⟨x, hx, rfl⟩ := key r h; exact opc_len hx, fun r h => by obtain ⟨x, hx, rfl⟩ := key r h; exact (opc_cells hx).2.1,
    fun r h => by obtain ⟨x, hx, rfl⟩ := key r h; exact (opc_cells hx).1, fun r h => by obtain ⟨x, hx, rfl⟩ := key r h; exact (opc_cells hx).2.2⟩

theorem op_at {l : List (Rw (List Value))} (hl : OkOps l) {k : Nat} {x : Rw (List Value)} (hx : l[k]? = some x) (st : AS) : aLoad true 19 st (tPtr (k * 19) (opsC l).toArray) = some (.agg (opc x).toArray) :=
  tptr_load (ops_rows hl) (by simp [hx])

theorem opc_w (x : Rw (List Value)) : (opc x)[0]? = some (.bool x.w) := rfl
theorem opc_f {x : Rw (List Value)} (h : OkRw x) : (opc x)[17]? = some (.int .i64 x.f) := by
  have := sec_len h.v
  simp [opc, List.getElem?_append, this]
theorem opc_t {x : Rw (List Value)} (h : OkRw x) : (opc x)[18]? = some (.int .i64 x.t) := by
  have := sec_len h.v
  simp [opc, List.getElem?_append, this]

section
variable {l : List (Rw (List Value))} {row : List Int} (hl : OkOps l) (hm : l.length < 1000000) (hr : InI row) (hrm : row.length < 1000000) (H0 : List Blk)

/-- the first loop's state -/
def S1 (l : List (Rw (List Value))) (row : List Int) (H0 : List Blk) (i : Nat) (v : List Value) : List Value × AS :=
  ([tSl l.length (opsC l), .map (some H0.length), .pointer (some ⟨H0.length + 1, 0, none⟩), tSl row.length (nums row), .int .i64 row.length, .int .i64 i], ⟨H0 ++ [mapR (row.take i), .cells v t_api_Sector true], none⟩)

theorem S1_gc {i : Nat} {v : List Value} (hv : lrefs v = []) (hl : OkOps l) (L : List Blk) (hL : ∀ b ∈ L, blkRefs b = []) : gc H0.length (S1 l row H0 i v).1 ⟨H0 ++ (mapR (row.take i) :: .cells v t_api_Sector true :: L), none⟩ = S1 l row H0 i v :=
  gc_own (R := [] :: [] :: L.map fun _ => []) [0, 1] [0, 1] rfl rfl (by simp [S1, opsC_refs hl, nums_refs])
    (by
      simp only [List.map_cons, mapR_refs, blkRefs_cells, hv, List.map_nil, List.map_map]
      congr 2
      exact List.map_congr_left fun b hb => by rw [hL b hb]; rfl)
    (by simp [S1, lren, vren, rn_own, rn_own0, findIx, vren_none, opsC_refs hl, nums_refs]) (by simp [renBlk_cells, mapR_ren, lren_none hv])

include hl hm hr hrm
theorem step1 {i : Nat} {v : List Value} (hi : i < row.length) (hv : TOk PP t_api_Sector v) : 
    (∃ r, register_Fits.loop4s (acall PP TT) loopG H0.length (S1 l row H0 i v) = some (.inr r) ∧ (∃ L, r = (.ret, [tSl l.length (opsC l), .bool false, .map (some H0.length)], ⟨H0 ++ L, none⟩)) ∧ go1 l (row.take i) v (row.drop i) = false) ∨
    (∃ L v', register_Fits.loop4s (acall PP TT) loopG H0.length (S1 l row H0 i v) = some (.inl ((S1 l row H0 (i + 1) v').1, ⟨H0 ++ (mapR (row.take (i + 1)) :: .cells v' t_api_Sector true :: L), none⟩)) ∧ TOk PP t_api_Sector v' ∧ (∀ b ∈ L, blkRefs b = []) ∧
      go1 l (row.take i) v (row.drop i) = go1 l (row.take (i + 1)) v' (row.drop (i + 1))) := by
  classical
  obtain ⟨n, hn⟩ : ∃ n, row[i]? = some n := ⟨_, List.getElem?_eq_getElem hi⟩
  have hin := hr n (List.mem_of_getElem? hn)
  have hdrop : row.drop i = n :: row.drop (i + 1) := by
    rw [List.drop_eq_getElem_cons hi]; congr 1
    rw [List.getElem?_eq_getElem hi] at hn; simpa using hn
  have htake : row.take (i + 1) = row.take i ++ [n] := by rw [List.take_succ, hn]; rfl
  have hlen : (row.take i).length = i := by simp; omega
  have hi' : (i : Int) < (row.length : Int) := by omega
  have hix : aIndexAddr PP t_L_int (tSl row.length (nums row)) (.int .i64 (i : Int)) = some (tPtr (i * 1) (nums row).toArray) := tsl_index u_L_int sz_int hi
  have hla : ∀ st, aLen PP t_L_history_Op (tSl l.length (opsC l)) st = some (.int .i64 l.length) := fun st => tsl_len u_L_history_Op
  obtain ⟨v1, v2, v3⟩ := sec_cells hv
  have vn := sec_len hv
  rw [hdrop]
  by_cases hneg : n < 0
  · refine .inl ⟨(.ret, [tSl l.length (opsC l), .bool false, .map (some H0.length)], ⟨H0 ++ [mapR (row.take i), .cells v t_api_Sector true], none⟩), ?_, ⟨_, rfl⟩, ?_⟩
    · simp only [register_Fits.loop4s, register_Fits.loop4, register_Fits.j1, S1, Option.bind_some, Option.map_some, bcase_true, bcase_false, List.getD_cons_zero, List.getD_cons_succ, bin_add, bin_sub, bin_mul, bin_eql, bin_neq, bin_lss, bin_leq, bin_gtr, bin_geq, un_not, pick_bool, decide_true, decide_false, Bool.not_true, Bool.not_false, joinEsc_none, oneOf_one, ext20, ext21, ext30, ext31, ext32, if_true, box_lit, box_int, box_bool, box_slice, box_map, box_ptr, box_tSl, store_lit, store_int, store_bool, store_slice, store_map, store_ptr, store_tSl, load_one, load_agg, app_cons2, List.cons_append, List.nil_append, len_app, List.length_cons, List.length_nil, Nat.zero_add, Nat.add_zero, Nat.reduceAdd, Nat.reduceLeDiff, Nat.le_refl, cellAt_app0, cellAt_app, cellsAt_app0, cellsAt_app, storeL_own0, storeL_own, cellAt_z, cellAt_s, cellsAt_z, cellsAt_s, putB_z, putB_s, List.getElem?_cons_zero, List.getElem?_cons_succ, List.drop_zero, List.drop_succ_cons, List.take_zero, List.take_succ_cons, allCells_cons, allCells_nil, cellV_int, cellV_bool, cellV_string, cellV_ptr, cellV_slice, cellV_map, cellV_func, cellV_nilFunc, cellV_tSl, Bool.and_self, Bool.and_true, Bool.true_and, and_self, true_and, and_true, Bool.false_eq_true, if_false, lrefs_nil, lrefs_cons, vrefs_bool, vrefs_int, vrefs_string, vrefs_ptr, vrefs_ptr0, vrefs_slice, vrefs_slice0, vrefs_map, vrefs_tSl, vrefs_tPtr, vrefs_agg, escOf_nil, Int.reduceEq, Int.reduceLT, Int.reduceLE, putCells_one0, putCells_succ, max_int, min_int, hi', hix, int_at hn, hneg]
    · have h0 : ¬ 0 ≤ n := by omega
      simp only [go1, h0, if_false]
  · obtain ⟨m, rfl⟩ : ∃ m : Nat, n = (m : Int) := ⟨n.toNat, by omega⟩
    by_cases hbig : (m : Int) ≥ (l.length : Int)
    · refine .inl ⟨(.ret, [tSl l.length (opsC l), .bool false, .map (some H0.length)], ⟨H0 ++ [mapR (row.take i), .cells v t_api_Sector true], none⟩), ?_, ⟨_, rfl⟩, ?_⟩
      · simp only [register_Fits.loop4s, register_Fits.loop4, register_Fits.j1, S1, Option.bind_some, Option.map_some, bcase_true, bcase_false, List.getD_cons_zero, List.getD_cons_succ, bin_add, bin_sub, bin_mul, bin_eql, bin_neq, bin_lss, bin_leq, bin_gtr, bin_geq, un_not, pick_bool, decide_true, decide_false, Bool.not_true, Bool.not_false, joinEsc_none, oneOf_one, ext20, ext21, ext30, ext31, ext32, if_true, box_lit, box_int, box_bool, box_slice, box_map, box_ptr, box_tSl, store_lit, store_int, store_bool, store_slice, store_map, store_ptr, store_tSl, load_one, load_agg, app_cons2, List.cons_append, List.nil_append, len_app, List.length_cons, List.length_nil, Nat.zero_add, Nat.add_zero, Nat.reduceAdd, Nat.reduceLeDiff, Nat.le_refl, cellAt_app0, cellAt_app, cellsAt_app0, cellsAt_app, storeL_own0, storeL_own, cellAt_z, cellAt_s, cellsAt_z, cellsAt_s, putB_z, putB_s, List.getElem?_cons_zero, List.getElem?_cons_succ, List.drop_zero, List.drop_succ_cons, List.take_zero, List.take_succ_cons, allCells_cons, allCells_nil, cellV_int, cellV_bool, cellV_string, cellV_ptr, cellV_slice, cellV_map, cellV_func, cellV_nilFunc, cellV_tSl, Bool.and_self, Bool.and_true, Bool.true_and, and_self, true_and, and_true, Bool.false_eq_true, if_false, lrefs_nil, lrefs_cons, vrefs_bool, vrefs_int, vrefs_string, vrefs_ptr, vrefs_ptr0, vrefs_slice, vrefs_slice0, vrefs_map, vrefs_tSl, vrefs_tPtr, vrefs_agg, escOf_nil, Int.reduceEq, Int.reduceLT, Int.reduceLE, putCells_one0, putCells_succ, max_int, min_int, hi', hix, int_at hn, hneg, hla, hbig]
      · have h0 : l[m]? = none := List.getElem?_eq_none (by omega)
        simp [go1, h0]
    · have hml : m < l.length := by omega
      obtain ⟨x, hx⟩ : ∃ x, l[m]? = some x := ⟨_, List.getElem?_eq_getElem hml⟩
      have hxo := hl x (List.mem_of_getElem? hx)
      have hx0 : (if 0 ≤ (m : Int) then l[(m : Int).toNat]? else none) = some x := by simp [hx]
      have hok : InI (row.take i) := fun k hk => hr k (List.mem_of_mem_take hk)
      have hlk := fun (L : List Blk) => look_m hok (st := ⟨H0 ++ (mapR (row.take i) :: L), none⟩) (r := H0.length) (by simp) hin
      by_cases hmem : (m : Int) ∈ row.take i
      · obtain ⟨p, hp⟩ : ∃ p, (row.take i).zipIdx.find? (fun p => decide (p.1 = (m : Int))) = some p := by
          have := zip_find (row.take i) (m : Int)
          simp only [hmem, decide_true] at this
          exact Option.isSome_iff_exists.1 this
        refine .inl ⟨(.ret, [tSl l.length (opsC l), .bool false, .map (some H0.length)], ⟨H0 ++ [mapR (row.take i), .cells v t_api_Sector true], none⟩), ?_, ⟨_, rfl⟩, ?_⟩
        · simp only [register_Fits.loop4s, register_Fits.loop4, register_Fits.j1, register_Fits.j3, S1, Option.bind_some, Option.map_some, bcase_true, bcase_false, List.getD_cons_zero, List.getD_cons_succ, bin_add, bin_sub, bin_mul, bin_eql, bin_neq, bin_lss, bin_leq, bin_gtr, bin_geq, un_not, pick_bool, decide_true, decide_false, Bool.not_true, Bool.not_false, joinEsc_none, oneOf_one, ext20, ext21, ext30, ext31, ext32, if_true, box_lit, box_int, box_bool, box_slice, box_map, box_ptr, box_tSl, store_lit, store_int, store_bool, store_slice, store_map, store_ptr, store_tSl, load_one, load_agg, app_cons2, List.cons_append, List.nil_append, len_app, List.length_cons, List.length_nil, Nat.zero_add, Nat.add_zero, Nat.reduceAdd, Nat.reduceLeDiff, Nat.le_refl, cellAt_app0, cellAt_app, cellsAt_app0, cellsAt_app, storeL_own0, storeL_own, cellAt_z, cellAt_s, cellsAt_z, cellsAt_s, putB_z, putB_s, List.getElem?_cons_zero, List.getElem?_cons_succ, List.drop_zero, List.drop_succ_cons, List.take_zero, List.take_succ_cons, allCells_cons, allCells_nil, cellV_int, cellV_bool, cellV_string, cellV_ptr, cellV_slice, cellV_map, cellV_func, cellV_nilFunc, cellV_tSl, Bool.and_self, Bool.and_true, Bool.true_and, and_self, true_and, and_true, Bool.false_eq_true, if_false, lrefs_nil, lrefs_cons, vrefs_bool, vrefs_int, vrefs_string, vrefs_ptr, vrefs_ptr0, vrefs_slice, vrefs_slice0, vrefs_map, vrefs_tSl, vrefs_tPtr, vrefs_agg, escOf_nil, Int.reduceEq, Int.reduceLT, Int.reduceLE, putCells_one0, putCells_succ, max_int, min_int, hi', hix, int_at hn, hneg, hla, hbig, hlk, hp]
        · simp only [go1, hx0, hmem, if_true]
      · have hnf : (row.take i).zipIdx.find? (fun p => decide (p.1 = (m : Int))) = none := by
          have := zip_find (row.take i) (m : Int)
          simp only [hmem, decide_false] at this
          exact Option.isSome_eq_false_iff.1 this |> Option.isNone_iff_eq_none.1
        have hup := fun (L : List Blk) => upd_m hok (st := ⟨H0 ++ (mapR (row.take i) :: L), none⟩) (r := H0.length) (by simp) hin hmem
        rw [hlen, ← htake] at hup
        have hset : ∀ (b c : Blk) (L : List Blk), (H0 ++ b :: L).set H0.length c = H0 ++ c :: L := fun b c L => by simp
        simp only [hset] at hup
        have hixo : aIndexAddr PP t_L_history_Op (tSl l.length (opsC l)) (.int .i64 (m : Int)) = some (tPtr (m * 19) (opsC l).toArray) := tsl_index u_L_history_Op sz_history_Op hml
        have hal := (opc_cells hxo).1
        have hpa : putCells z_history_Op 0 (opc x) = opc x := putCells_all (by rw [opc_len hxo, zl_history_Op])
        have hgo : ∀ rs, go1 l (row.take i) v ((m : Int) :: rs) = if x.w = true then go1 l (row.take (i + 1)) x.v rs else if x.v = v then go1 l (row.take (i + 1)) v rs else false := fun rs => by
          simp only [go1, hx0, hmem, if_false, htake]
        obtain ⟨x1, x2, x3⟩ := sec_cells hxo.v
        have xn := sec_len hxo.v
        have hwr : IntKind.i64.wrap ((i : Int) + 1) = ((i + 1 : Nat) : Int) := by rw [i64_wrap (by omega)]; omega
        have htv : v.take 16 = v := List.take_of_length_le (by omega)
        have hne := bin_neq_flat (ox := .tmp 58) (oy := .tmp 59) qflat_api_Sector hxo.v hv
        cases hw : x.w with
        | true =>
          have hput : putCells v 0 x.v = x.v := putCells_all (by omega)
          refine .inr ⟨[.cells (opc x) t_history_Op true], x.v, ?_, hxo.v, by simp [blkRefs_cells, (opc_cells hxo).2.1], ?_⟩
          · simp only [register_Fits.loop4s, register_Fits.loop4, register_Fits.j1, register_Fits.j3, register_Fits.j2, S1, Option.bind_some, Option.map_some, bcase_true, bcase_false, List.getD_cons_zero, List.getD_cons_succ, bin_add, bin_sub, bin_mul, bin_eql, bin_neq, bin_lss, bin_leq, bin_gtr, bin_geq, un_not, pick_bool, decide_true, decide_false, Bool.not_true, Bool.not_false, joinEsc_none, oneOf_one, ext20, ext21, ext30, ext31, ext32, if_true, box_lit, box_int, box_bool, box_slice, box_map, box_ptr, box_tSl, store_lit, store_int, store_bool, store_slice, store_map, store_ptr, store_tSl, load_one, load_agg, app_cons2, List.cons_append, List.nil_append, len_app, List.length_cons, List.length_nil, Nat.zero_add, Nat.add_zero, Nat.reduceAdd, Nat.reduceLeDiff, Nat.le_refl, cellAt_app0, cellAt_app, cellsAt_app0, cellsAt_app, storeL_own0, storeL_own, cellAt_z, cellAt_s, cellsAt_z, cellsAt_s, putB_z, putB_s, List.getElem?_cons_zero, List.getElem?_cons_succ, List.drop_zero, List.drop_succ_cons, List.take_zero, List.take_succ_cons, allCells_cons, allCells_nil, cellV_int, cellV_bool, cellV_string, cellV_ptr, cellV_slice, cellV_map, cellV_func, cellV_nilFunc, cellV_tSl, Bool.and_self, Bool.and_true, Bool.true_and, and_self, true_and, and_true, Bool.false_eq_true, if_false, lrefs_nil, lrefs_cons, vrefs_bool, vrefs_int, vrefs_string, vrefs_ptr, vrefs_ptr0, vrefs_slice, vrefs_slice0, vrefs_map, vrefs_tSl, vrefs_tPtr, vrefs_agg, escOf_nil, Int.reduceEq, Int.reduceLT, Int.reduceLE, putCells_one0, putCells_succ, max_int, min_int, hi', hix, int_at hn, hneg, hla, hbig, hlk, hnf, hup, hixo, op_at hl hx, zg_history_Op, za_history_Op, zl_history_Op, opc_len hxo, hal, hpa, fa_history_Op_0, fa_history_Op_1, opc_w, hw, opc_v hxo, vn, xn, x1, hput, hwr, (opc_cells hxo).2.1, x2]
          · rw [hgo, hw, if_pos rfl]
        | false =>
          by_cases hval : x.v = v
          · simp only [hval, decide_true, Bool.not_true] at hne
            refine .inr ⟨[.cells (opc x) t_history_Op true], v, ?_, hv, by simp [blkRefs_cells, (opc_cells hxo).2.1], ?_⟩
            · simp only [register_Fits.loop4s, register_Fits.loop4, register_Fits.j1, register_Fits.j3, register_Fits.j2, S1, Option.bind_some, Option.map_some, bcase_true, bcase_false, List.getD_cons_zero, List.getD_cons_succ, bin_add, bin_sub, bin_mul, bin_eql, bin_neq, bin_lss, bin_leq, bin_gtr, bin_geq, un_not, pick_bool, decide_true, decide_false, Bool.not_true, Bool.not_false, joinEsc_none, oneOf_one, ext20, ext21, ext30, ext31, ext32, if_true, box_lit, box_int, box_bool, box_slice, box_map, box_ptr, box_tSl, store_lit, store_int, store_bool, store_slice, store_map, store_ptr, store_tSl, load_one, load_agg, app_cons2, List.cons_append, List.nil_append, len_app, List.length_cons, List.length_nil, Nat.zero_add, Nat.add_zero, Nat.reduceAdd, Nat.reduceLeDiff, Nat.le_refl, cellAt_app0, cellAt_app, cellsAt_app0, cellsAt_app, storeL_own0, storeL_own, cellAt_z, cellAt_s, cellsAt_z, cellsAt_s, putB_z, putB_s, List.getElem?_cons_zero, List.getElem?_cons_succ, List.drop_zero, List.drop_succ_cons, List.take_zero, List.take_succ_cons, allCells_cons, allCells_nil, cellV_int, cellV_bool, cellV_string, cellV_ptr, cellV_slice, cellV_map, cellV_func, cellV_nilFunc, cellV_tSl, Bool.and_self, Bool.and_true, Bool.true_and, and_self, true_and, and_true, Bool.false_eq_true, if_false, lrefs_nil, lrefs_cons, vrefs_bool, vrefs_int, vrefs_string, vrefs_ptr, vrefs_ptr0, vrefs_slice, vrefs_slice0, vrefs_map, vrefs_tSl, vrefs_tPtr, vrefs_agg, escOf_nil, Int.reduceEq, Int.reduceLT, Int.reduceLE, putCells_one0, putCells_succ, max_int, min_int, hi', hix, int_at hn, hneg, hla, hbig, hlk, hnf, hup, hixo, op_at hl hx, zg_history_Op, za_history_Op, zl_history_Op, opc_len hxo, hal, hpa, fa_history_Op_0, fa_history_Op_1, opc_w, hw, opc_v hxo, vn, htv, hwr, (opc_cells hxo).2.1, hval, hne]
            · rw [hgo, hw, if_neg (by simp), if_pos hval]
          · simp only [hval, decide_false, Bool.not_false] at hne
            refine .inl ⟨(.ret, [tSl l.length (opsC l), .bool false, .map (some H0.length)], ⟨H0 ++ [mapR (row.take (i + 1)), .cells v t_api_Sector true, .cells (opc x) t_history_Op true], none⟩), ?_, ⟨_, rfl⟩, ?_⟩
            · simp only [register_Fits.loop4s, register_Fits.loop4, register_Fits.j1, register_Fits.j3, register_Fits.j2, S1, Option.bind_some, Option.map_some, bcase_true, bcase_false, List.getD_cons_zero, List.getD_cons_succ, bin_add, bin_sub, bin_mul, bin_eql, bin_neq, bin_lss, bin_leq, bin_gtr, bin_geq, un_not, pick_bool, decide_true, decide_false, Bool.not_true, Bool.not_false, joinEsc_none, oneOf_one, ext20, ext21, ext30, ext31, ext32, if_true, box_lit, box_int, box_bool, box_slice, box_map, box_ptr, box_tSl, store_lit, store_int, store_bool, store_slice, store_map, store_ptr, store_tSl, load_one, load_agg, app_cons2, List.cons_append, List.nil_append, len_app, List.length_cons, List.length_nil, Nat.zero_add, Nat.add_zero, Nat.reduceAdd, Nat.reduceLeDiff, Nat.le_refl, cellAt_app0, cellAt_app, cellsAt_app0, cellsAt_app, storeL_own0, storeL_own, cellAt_z, cellAt_s, cellsAt_z, cellsAt_s, putB_z, putB_s, List.getElem?_cons_zero, List.getElem?_cons_succ, List.drop_zero, List.drop_succ_cons, List.take_zero, List.take_succ_cons, allCells_cons, allCells_nil, cellV_int, cellV_bool, cellV_string, cellV_ptr, cellV_slice, cellV_map, cellV_func, cellV_nilFunc, cellV_tSl, Bool.and_self, Bool.and_true, Bool.true_and, and_self, true_and, and_true, Bool.false_eq_true, if_false, lrefs_nil, lrefs_cons, vrefs_bool, vrefs_int, vrefs_string, vrefs_ptr, vrefs_ptr0, vrefs_slice, vrefs_slice0, vrefs_map, vrefs_tSl, vrefs_tPtr, vrefs_agg, escOf_nil, Int.reduceEq, Int.reduceLT, Int.reduceLE, putCells_one0, putCells_succ, max_int, min_int, hi', hix, int_at hn, hneg, hla, hbig, hlk, hnf, hup, hixo, op_at hl hx, zg_history_Op, za_history_Op, zl_history_Op, opc_len hxo, hal, hpa, fa_history_Op_0, fa_history_Op_1, opc_w, hw, opc_v hxo, vn, htv, hwr, (opc_cells hxo).2.1, hne]
            · rw [hgo, hw, if_neg (by simp), if_neg hval]

theorem loop1 {u : List Value} (hu : TOk PP t_api_Sector u) (L : List Blk) (hL : ∀ b ∈ L, blkRefs b = []) {vs : List Value} {st : AS} (hX : gc H0.length vs st = S1 l row H0 0 u) :
    ∃ r, loopG H0.length (register_Fits.loop4s (acall PP TT) loopG H0.length) (vs, st) = some r ∧
      ((∃ L, r = (.ret, [tSl l.length (opsC l), .bool false, .map (some H0.length)], ⟨H0 ++ L, none⟩) ∧ go1 l [] u row = false) ∨
       (∃ v, TOk PP t_api_Sector v ∧ r = (.exit 0, [tSl l.length (opsC l), unk, .map (some H0.length)], ⟨H0 ++ [mapR row, .cells v t_api_Sector true], none⟩) ∧ go1 l [] u row = true)) := by
  refine loop_r (len := row.length) (S1 l row H0) (fun i v => TOk PP t_api_Sector v ∧ go1 l [] u row = go1 l (row.take i) v (row.drop i)) _ (fun i v hi ⟨hv, hg⟩ => ?_) (fun v ⟨hv, hg⟩ => ?_) row.length 0 u vs st (by omega) ⟨hu, by simp⟩ hX
  · rcases step1 hl hm hr hrm H0 hi hv with ⟨r, h1, ⟨L, h2⟩, h3⟩ | ⟨L, v', h1, h2, h3, h4⟩
    · exact .inl ⟨r, h1, .inl ⟨L, h2, by rw [hg, h3]⟩⟩
    · exact .inr ⟨_, _, v', h1, S1_gc (row := row) H0 (i := i + 1) (sec_cells h2).2.1 hl L h3, h2, by rw [hg, h4]⟩
  · have hlast : ¬ ((row.length : Int) < (row.length : Int)) := Int.lt_irrefl _
    refine ⟨_, ?_, .inr ⟨v, hv, rfl, ?_⟩⟩
    · simp only [register_Fits.loop4s, register_Fits.loop4, S1, Option.bind_some, Option.map_some, bcase_true, bcase_false, List.getD_cons_zero, List.getD_cons_succ, bin_add, bin_sub, bin_mul, bin_eql, bin_neq, bin_lss, bin_leq, bin_gtr, bin_geq, un_not, pick_bool, decide_true, decide_false, Bool.not_true, Bool.not_false, joinEsc_none, oneOf_one, ext20, ext21, ext30, ext31, ext32, if_true, box_lit, box_int, box_bool, box_slice, box_map, box_ptr, box_tSl, store_lit, store_int, store_bool, store_slice, store_map, store_ptr, store_tSl, load_one, load_agg, app_cons2, List.cons_append, List.nil_append, len_app, List.length_cons, List.length_nil, Nat.zero_add, Nat.add_zero, Nat.reduceAdd, Nat.reduceLeDiff, Nat.le_refl, cellAt_app0, cellAt_app, cellsAt_app0, cellsAt_app, storeL_own0, storeL_own, cellAt_z, cellAt_s, cellsAt_z, cellsAt_s, putB_z, putB_s, List.getElem?_cons_zero, List.getElem?_cons_succ, List.drop_zero, List.drop_succ_cons, List.take_zero, List.take_succ_cons, allCells_cons, allCells_nil, cellV_int, cellV_bool, cellV_string, cellV_ptr, cellV_slice, cellV_map, cellV_func, cellV_nilFunc, cellV_tSl, Bool.and_self, Bool.and_true, Bool.true_and, and_self, true_and, and_true, Bool.false_eq_true, if_false, lrefs_nil, lrefs_cons, vrefs_bool, vrefs_int, vrefs_string, vrefs_ptr, vrefs_ptr0, vrefs_slice, vrefs_slice0, vrefs_map, vrefs_tSl, vrefs_tPtr, vrefs_agg, escOf_nil, Int.reduceEq, Int.reduceLT, Int.reduceLE, putCells_one0, putCells_succ, max_int, min_int, hlast, List.take_length]
    · rw [hg]; simp [go1]
end
end RM
end Go.Proofs.Ytfinilnkempofaa
