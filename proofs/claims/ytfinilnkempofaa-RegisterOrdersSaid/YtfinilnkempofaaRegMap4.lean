/- A part of the proof: RegMap4. Its conditions: none. -/
import Derived.Test.YtfinilnkempofaaRegMap3
set_option linter.all false
set_option linter.unusedVariables false
set_option linter.unusedSimpArgs false
set_option linter.unnecessarySimpa false
namespace Go.Proofs.Ytfinilnkempofaa
open Go Go.Am Go.Reg
namespace RM

theorem place_find (n : Int) : ∀ (row : List Int) (i : Nat), placeFrom row n i = match (row.zipIdx i).find? fun p => decide (p.1 = n) with | some p => (p.2 : Int) | none => -1
  | [], i => rfl
  | x :: xs, i => by
    simp only [placeFrom, List.zipIdx_cons, List.find?_cons]
    by_cases h : x = n
    · simp [h]
    · simp only [h, if_false, decide_false]
      exact place_find n xs (i + 1)

theorem place_at (row : List Int) (k : Nat) : placeFrom row (k : Int) 0 = match at_ row k with | some p => (p : Int) | none => -1 := by
  rw [place_find]
  unfold at_
  cases row.zipIdx.find? fun p => decide (p.1 = (k : Int)) <;> rfl

theorem go1_in {l : List (Rw (List Value))} : ∀ (rs done : List Int) (v : List Value), go1 l done v rs = true → ∀ n ∈ rs, 0 ≤ n ∧ n < l.length
  | [], _, _, _, n, hn => by simp at hn
  | m :: rs, done, v, h, n, hn => by
    classical
    simp only [go1] at h
    cases hx : (if 0 ≤ m then l[m.toNat]? else none) with
    | none => rw [hx] at h; simp at h
    | some x =>
      rw [hx] at h
      simp only at h
      have hm : 0 ≤ m ∧ m < l.length := by
        split at hx
        · rename_i h0
          have := lt_of_get hx
          omega
        · simp at hx
      rcases List.mem_cons.1 hn with rfl | hn
      · exact hm
      · split at h
        · simp at h
        · split at h
          · exact go1_in rs _ _ h n hn
          · split at h
            · exact go1_in rs _ _ h n hn
            · simp at h

theorem place_pre {pre rs : List Int} {n : Int} : ∀ (i : Nat), placeFrom (pre ++ n :: rs) n i = ((i + pre.length : Nat) : Int) ↔ n ∉ pre := by
  induction pre with
  | nil => intro i; simp [placeFrom]
  | cons x xs ih =>
    intro i
    simp only [List.cons_append, placeFrom]
    by_cases h : x = n
    · subst h
      simp; omega
    · simp only [h, if_false, List.length_cons]
      have := ih (i + 1)
      rw [show i + 1 + xs.length = i + (xs.length + 1) by omega] at this
      rw [this]
      simp [Ne.symm h]

/-- what must stand ahead does -/
def sits (l : List (Rw (List Value))) (row : List Int) (j : Nat) : Prop :=
  ∀ n x, row[j]? = some n → l[n.toNat]? = some x → ∀ (k : Nat) y, l[k]? = some y → aheadR y x = true → 0 ≤ placeFrom row (k : Int) 0 ∧ placeFrom row (k : Int) 0 ≤ (j : Int)

theorem fits_go {l : List (Rw (List Value))} {row : List Int} : ∀ (rs pre : List Int) (u : List Value), row = pre ++ rs → (FitsGo l row pre.length u rs ↔ go1 l pre u rs = true ∧ ∀ j, pre.length ≤ j → sits l row j)
  | [], pre, u, h => by
    simp only [FitsGo, go1, true_iff, true_and]
    intro j hj n x hn
    subst h
    have := lt_of_get hn
    simp at this; omega
  | n :: rs, pre, u, h => by
    classical
    have hrow : row[pre.length]? = some n := by rw [h]; simp
    have hpl : placeFrom row n 0 = (pre.length : Int) ↔ n ∉ pre := by
      have := place_pre (pre := pre) (rs := rs) (n := n) 0
      rw [h]; simpa using this
    have ih := fun v => fits_go (l := l) (row := row) rs (pre ++ [n]) v (by rw [h]; simp)
    simp only [List.length_append, List.length_singleton] at ih
    have hsit : (∀ j, pre.length ≤ j → sits l row j) ↔ sits l row pre.length ∧ ∀ j, pre.length + 1 ≤ j → sits l row j :=
      ⟨fun g => ⟨g _ (Nat.le_refl _), fun j hj => g j (by omega)⟩, fun g j hj => by
        by_cases he : j = pre.length
        · subst he; exact g.1
        · exact g.2 j (by omega)⟩
    simp only [FitsGo]
    constructor
    · rintro ⟨x, h0, hx, hp, hv, hs, hrest⟩
      have hx0 : (if 0 ≤ n then l[n.toNat]? else none) = some x := by simp [h0, hx]
      obtain ⟨g1, g2⟩ := (ih _).1 hrest
      refine ⟨?_, hsit.2 ⟨fun n' x' hn' hx' => by rw [hrow] at hn'; simp at hn'; subst hn'; rw [hx] at hx'; simp at hx'; subst hx'; exact hs, g2⟩⟩
      simp only [go1, hx0, hpl.1 hp, if_false]
      cases hw : x.w with
      | true => simp only [hw, if_true] at g1 ⊢; exact g1
      | false => simp only [hw, Bool.false_eq_true, if_false, hv hw, if_true] at g1 ⊢; exact g1
    · rintro ⟨hg, hs⟩
      obtain ⟨hs0, hs1⟩ := hsit.1 hs
      simp only [go1] at hg
      cases hx0 : (if 0 ≤ n then l[n.toNat]? else none) with
      | none => rw [hx0] at hg; simp at hg
      | some x =>
        rw [hx0] at hg
        simp only at hg
        obtain ⟨h0, hx⟩ : 0 ≤ n ∧ l[n.toNat]? = some x := by
          split at hx0
          · rename_i h0; exact ⟨h0, hx0⟩
          · simp at hx0
        split at hg
        · simp at hg
        · rename_i hni
          refine ⟨x, h0, hx, hpl.2 hni, ?_, hs0 n x hrow hx, (ih _).2 ⟨?_, hs1⟩⟩
          · intro hw
            rw [if_neg (by simp [hw])] at hg
            split at hg
            · assumption
            · simp at hg
          · cases hw : x.w with
            | true => simp only [hw, if_true] at hg ⊢; exact hg
            | false =>
              simp only [hw, Bool.false_eq_true, if_false] at hg ⊢
              split at hg
              · exact hg
              · simp at hg

/-- what the program asks is what the document asks -/
theorem prog_doc (l : List (Rw (List Value))) (u : List Value) (row : List Int) : (go1 l [] u row = true ∧ ∀ k, k < l.length → ¬ gone l row k ∧ ∀ j, ¬ bad l row k j) ↔ FitsDoc l u row := by
  have h0 := fits_go (l := l) (row := row) row [] u rfl
  simp only [List.length_nil, Nat.zero_le, true_implies] at h0
  unfold FitsDoc
  rw [h0, and_assoc]
  refine and_congr_right fun _ => ?_
  constructor
  · intro h
    refine ⟨fun j n x hn hx k y hy ha => ?_, fun k x hx hmx => ?_⟩
    · obtain ⟨_, hb⟩ := h k (lt_of_get hy)
      simp only [aheadR, Bool.and_eq_true, decide_eq_true_eq] at ha
      rw [place_at]
      cases hat : at_ row k with
      | none => exact absurd ⟨y, n, x, hy, hn, hx, ha.1, ha.2, fun p hp => by rw [hat] at hp; simp at hp⟩ (hb j)
      | some p =>
        simp only
        by_cases hpj : p ≤ j
        · omega
        · exact absurd ⟨y, n, x, hy, hn, hx, ha.1, ha.2, fun q hq => by rw [hat] at hq; simp at hq; omega⟩ (hb j)
    · obtain ⟨hg, _⟩ := h k (lt_of_get hx)
      rw [← place_mem row (k : Int) 0, place_at]
      cases hat : at_ row k with
      | some p => simp
      | none =>
        refine absurd ⟨x, hx, hat, ?_⟩ hg
        simp only [mustR, Bool.or_eq_true, Bool.not_eq_true', decide_eq_true_eq] at hmx
        exact hmx
  · rintro ⟨h1, h2⟩ k hk
    refine ⟨fun ⟨y, hy, hat, hm⟩ => ?_, fun j ⟨y, n, x, hy, hn, hx, a1, a2, a3⟩ => ?_⟩
    · have := h2 k y hy (by simp only [mustR, Bool.or_eq_true, Bool.not_eq_true', decide_eq_true_eq]; exact hm)
      rw [← place_mem row (k : Int) 0, place_at, hat] at this
      simp at this
    · have := h1 j n x hn hx k y hy (by simp only [aheadR, Bool.and_eq_true, decide_eq_true_eq]; exact ⟨a1, a2⟩)
      rw [place_at] at this
      cases hat : at_ row k with
      | none => rw [hat] at this; simp at this
      | some p => rw [hat] at this; simp only at this; have := a3 p hat; omega

theorem pfits_ok {l : List (Rw (List Value))} {row : List Int} (hl : OkOps l) (hm : l.length < 1000000) (hr : InI row) (hrm : row.length < 1000000) (H0 : List Blk) {u : List Value} (hu : TOk PP t_api_Sector u) :
    ∃ b : Bool, acall PP TT n_register_Fits [tSl l.length (opsC l), .agg u.toArray, tSl row.length (nums row)] H0 = some (.bool b, H0, none) ∧ (b = true ↔ FitsDoc l u row) := by
  obtain ⟨u1, u2, u3⟩ := sec_cells hu
  have un := sec_len hu
  have htu : u.take 16 = u := List.take_of_length_le (by omega)
  have hpz : putCells z_api_Sector 0 u = u := putCells_all (by rw [un, zl_api_Sector])
  have hm0 : mapR [] = .map [] 0 := rfl
  have hlr : ∀ st, aLen PP t_L_int (tSl row.length (nums row)) st = some (.int .i64 row.length) := fun st => tsl_len u_L_int
  have hll : ∀ st, aLen PP t_L_history_Op (tSl l.length (opsC l)) st = some (.int .i64 l.length) := fun st => tsl_len u_L_history_Op
  have hg0 : gc H0.length [tSl l.length (opsC l), .map (some (H0.length + 1)), .pointer (some ⟨H0.length + 2, 0, none⟩), tSl row.length (nums row), .int .i64 row.length, .int .i64 0] ⟨H0 ++ [.cells u t_api_Sector true, .map [] 0, .cells u t_api_Sector true], none⟩ = S1 l row H0 0 u :=
    gc_own (R := [[], [], []]) [1, 2] [1, 2] rfl rfl (by simp [opsC_refs hl, nums_refs]) (by simp [blkRefs_cells, u2]; try simp [blkRefs])
      (by simp [S1, lren, vren, rn_own, rn_own0, findIx, vren_none, opsC_refs hl, nums_refs]) (by simp [S1, renBlk_cells, lren_none u2, hm0]; try simp [renBlk])
  obtain ⟨r, hlp, hres⟩ := loop1 (row := row) hl hm hr hrm H0 hu [] (by simp) hg0
  rcases hres with ⟨L, rfl, hgo⟩ | ⟨v, hv, rfl, hgo⟩
  · refine ⟨false, ?_, by simp only [Bool.false_eq_true, false_iff]; intro hd; rw [← prog_doc, hgo] at hd; simp at hd⟩
    rw [acall_eq, register_Fits.eq]
    simp only [register_Fits.sh, Option.bind_some, Option.map_some, bcase_true, bcase_false, List.getD_cons_zero, List.getD_cons_succ, bin_add, bin_sub, bin_mul, bin_eql, bin_neq, bin_lss, bin_leq, bin_gtr, bin_geq, un_not, pick_bool, decide_true, decide_false, Bool.not_true, Bool.not_false, joinEsc_none, oneOf_one, ext20, ext21, ext30, ext31, ext32, if_true, box_lit, box_int, box_bool, box_slice, box_map, box_ptr, box_tSl, store_lit, store_int, store_bool, store_slice, store_map, store_ptr, store_tSl, load_one, load_agg, app_cons2, List.cons_append, List.nil_append, len_app, List.length_cons, List.length_nil, Nat.zero_add, Nat.add_zero, Nat.reduceAdd, Nat.reduceLeDiff, Nat.le_refl, cellAt_app0, cellAt_app, cellsAt_app0, cellsAt_app, storeL_own0, storeL_own, cellAt_z, cellAt_s, cellsAt_z, cellsAt_s, putB_z, putB_s, List.getElem?_cons_zero, List.getElem?_cons_succ, List.drop_zero, List.drop_succ_cons, List.take_zero, List.take_succ_cons, allCells_cons, allCells_nil, cellV_int, cellV_bool, cellV_string, cellV_ptr, cellV_slice, cellV_map, cellV_func, cellV_nilFunc, cellV_tSl, Bool.and_self, Bool.and_true, Bool.true_and, and_self, true_and, and_true, Bool.false_eq_true, if_false, lrefs_nil, lrefs_cons, vrefs_bool, vrefs_int, vrefs_string, vrefs_ptr, vrefs_ptr0, vrefs_slice, vrefs_slice0, vrefs_map, vrefs_tSl, vrefs_tPtr, vrefs_agg, escOf_nil, Int.reduceEq, Int.reduceLT, Int.reduceLE, putCells_one0, putCells_succ, max_int, min_int, newBlk_app, newBlk_bare, un, u1, u2, htu, zg_api_Sector, za_api_Sector, zl_api_Sector, hpz, hlr, hlp]
    exact fin_lit rfl rfl rfl
  · have hin := go1_in row [] u hgo
    have hg1 : gc H0.length [tSl l.length (opsC l), .map (some H0.length), tSl l.length (opsC l), .int .i64 l.length, .int .i64 0] ⟨H0 ++ [mapR row, .cells v t_api_Sector true], none⟩ = S2 l row H0 0 :=
      gc_own (R := [[], []]) [0] [0] rfl rfl (by simp [opsC_refs hl]) (by simp [mapR_refs, blkRefs_cells, (sec_cells hv).2.1]) (by simp [lren, rn_own0, findIx, vren_none, opsC_refs hl, vren]) (by simp [mapR_ren])
    obtain ⟨r, hlp2, hres⟩ := loop2 hl hm hr hrm hin H0 hg1
    rcases hres with ⟨L, rfl, k, hk, hbad⟩ | ⟨rfl, hall⟩
    · refine ⟨false, ?_, by
        simp only [Bool.false_eq_true, false_iff]; intro hd; rw [← prog_doc] at hd
        obtain ⟨h1, h2⟩ := hd.2 k hk
        rcases hbad with h | ⟨j, h⟩
        · exact h1 h
        · exact h2 j h⟩
      rw [acall_eq, register_Fits.eq]
      simp only [register_Fits.sh, Option.bind_some, Option.map_some, bcase_true, bcase_false, List.getD_cons_zero, List.getD_cons_succ, bin_add, bin_sub, bin_mul, bin_eql, bin_neq, bin_lss, bin_leq, bin_gtr, bin_geq, un_not, pick_bool, decide_true, decide_false, Bool.not_true, Bool.not_false, joinEsc_none, oneOf_one, ext20, ext21, ext30, ext31, ext32, if_true, box_lit, box_int, box_bool, box_slice, box_map, box_ptr, box_tSl, store_lit, store_int, store_bool, store_slice, store_map, store_ptr, store_tSl, load_one, load_agg, app_cons2, List.cons_append, List.nil_append, len_app, List.length_cons, List.length_nil, Nat.zero_add, Nat.add_zero, Nat.reduceAdd, Nat.reduceLeDiff, Nat.le_refl, cellAt_app0, cellAt_app, cellsAt_app0, cellsAt_app, storeL_own0, storeL_own, cellAt_z, cellAt_s, cellsAt_z, cellsAt_s, putB_z, putB_s, List.getElem?_cons_zero, List.getElem?_cons_succ, List.drop_zero, List.drop_succ_cons, List.take_zero, List.take_succ_cons, allCells_cons, allCells_nil, cellV_int, cellV_bool, cellV_string, cellV_ptr, cellV_slice, cellV_map, cellV_func, cellV_nilFunc, cellV_tSl, Bool.and_self, Bool.and_true, Bool.true_and, and_self, true_and, and_true, Bool.false_eq_true, if_false, lrefs_nil, lrefs_cons, vrefs_bool, vrefs_int, vrefs_string, vrefs_ptr, vrefs_ptr0, vrefs_slice, vrefs_slice0, vrefs_map, vrefs_tSl, vrefs_tPtr, vrefs_agg, escOf_nil, Int.reduceEq, Int.reduceLT, Int.reduceLE, putCells_one0, putCells_succ, max_int, min_int, newBlk_app, newBlk_bare, un, u1, u2, htu, zg_api_Sector, za_api_Sector, zl_api_Sector, hpz, hlr, hlp, register_Fits.j5, hll, hlp2]
      exact fin_lit rfl rfl rfl
    · refine ⟨true, ?_, by simp only [true_iff]; rw [← prog_doc]; exact ⟨hgo, hall⟩⟩
      rw [acall_eq, register_Fits.eq]
      simp only [register_Fits.sh, Option.bind_some, Option.map_some, bcase_true, bcase_false, List.getD_cons_zero, List.getD_cons_succ, bin_add, bin_sub, bin_mul, bin_eql, bin_neq, bin_lss, bin_leq, bin_gtr, bin_geq, un_not, pick_bool, decide_true, decide_false, Bool.not_true, Bool.not_false, joinEsc_none, oneOf_one, ext20, ext21, ext30, ext31, ext32, if_true, box_lit, box_int, box_bool, box_slice, box_map, box_ptr, box_tSl, store_lit, store_int, store_bool, store_slice, store_map, store_ptr, store_tSl, load_one, load_agg, app_cons2, List.cons_append, List.nil_append, len_app, List.length_cons, List.length_nil, Nat.zero_add, Nat.add_zero, Nat.reduceAdd, Nat.reduceLeDiff, Nat.le_refl, cellAt_app0, cellAt_app, cellsAt_app0, cellsAt_app, storeL_own0, storeL_own, cellAt_z, cellAt_s, cellsAt_z, cellsAt_s, putB_z, putB_s, List.getElem?_cons_zero, List.getElem?_cons_succ, List.drop_zero, List.drop_succ_cons, List.take_zero, List.take_succ_cons, allCells_cons, allCells_nil, cellV_int, cellV_bool, cellV_string, cellV_ptr, cellV_slice, cellV_map, cellV_func, cellV_nilFunc, cellV_tSl, Bool.and_self, Bool.and_true, Bool.true_and, and_self, true_and, and_true, Bool.false_eq_true, if_false, lrefs_nil, lrefs_cons, vrefs_bool, vrefs_int, vrefs_string, vrefs_ptr, vrefs_ptr0, vrefs_slice, vrefs_slice0, vrefs_map, vrefs_tSl, vrefs_tPtr, vrefs_agg, escOf_nil, Int.reduceEq, Int.reduceLT, Int.reduceLE, putCells_one0, putCells_succ, max_int, min_int, newBlk_app, newBlk_bare, un, u1, u2, htu, zg_api_Sector, za_api_Sector, zl_api_Sector, hpz, hlr, hlp, register_Fits.j5, hll, hlp2, register_Fits.j14]
      exact fin_lit rfl rfl rfl
end RM
end Go.Proofs.Ytfinilnkempofaa
