/- The document's endings, and its sectors: what the code says. -/
import Derived.Test.YtfinilnkempofaaHistRef
import Derived.Test.YtfinilnkempofaaSpanT
set_option linter.all false
set_option linter.unusedVariables false
set_option linter.unusedSimpArgs false
set_option linter.unnecessarySimpa false
namespace Go.Proofs.Ytfinilnkempofaa
open Go Go.Am

/-- the first of some numbers, so many of them, that is so; -1: none -/
def firstN (p : Nat → Bool) : Nat → Nat → Int
  | _, 0 => -1
  | i, k + 1 => if p i = true then (i : Int) else firstN p (i + 1) k

theorem firstN_hit {p : Nat → Bool} : ∀ (k i m : Nat), (∀ j, i ≤ j → j < m → p j = false) → p m = true → i ≤ m → m < i + k → firstN p i k = (m : Int)
  | 0, i, m, _, _, h1, h2 => by omega
  | k + 1, i, m, h, hm, h1, h2 => by
    simp only [firstN]
    by_cases he : i = m
    · subst he; rw [if_pos hm]
    · rw [h i (Nat.le_refl _) (by omega)]
      simp only [Bool.false_eq_true, if_false]
      exact firstN_hit k (i + 1) m (fun j h3 h4 => h j (by omega) h4) hm (by omega) (by omega)

theorem firstN_none {p : Nat → Bool} : ∀ (k i : Nat), (∀ j, i ≤ j → j < i + k → p j = false) → firstN p i k = -1
  | 0, i, _ => rfl
  | k + 1, i, h => by
    simp only [firstN, h i (Nat.le_refl _) (by omega), Bool.false_eq_true, if_false]
    exact firstN_none k (i + 1) (fun j h3 h4 => h j (by omega) (by omega))

theorem firstN_spec {p : Nat → Bool} : ∀ (k i : Nat), (firstN p i k = -1 ∧ ∀ j, i ≤ j → j < i + k → p j = false) ∨ ∃ m : Nat, firstN p i k = (m : Int) ∧ i ≤ m ∧ m < i + k ∧ p m = true ∧ ∀ j, i ≤ j → j < m → p j = false
  | 0, i => .inl ⟨rfl, fun j h1 h2 => by omega⟩
  | k + 1, i => by
    cases hp : p i with
    | true => exact .inr ⟨i, by simp [firstN, hp], by omega, by omega, hp, fun j h1 h2 => by omega⟩
    | false =>
      have he : firstN p i (k + 1) = firstN p (i + 1) k := by simp [firstN, hp]
      rw [he]
      rcases firstN_spec (p := p) k (i + 1) with ⟨h1, h2⟩ | ⟨m, h1, h2, h3, h4, h5⟩
      · refine .inl ⟨h1, fun j h3 h4 => ?_⟩
        by_cases hj : j = i
        · subst hj; exact hp
        · exact h2 j (by omega) (by omega)
      · refine .inr ⟨m, h1, by omega, by omega, h4, fun j h6 h7 => ?_⟩
        by_cases hj : j = i
        · subst hj; exact hp
        · exact h5 j (by omega) h7

/-- is event i an end of what was asked at a place? -/
def endsB (l : List Ev) (from_ i : Nat) : Bool := match l[i]? with
  | some x => decide (x.kind = 1) && decide (askedI l i = (from_ : Int))
  | none => false
def endedI (l : List Ev) (from_ : Nat) : Int := firstN (endsB l from_) (from_ + 1) (l.length - (from_ + 1))

section
variable {l : List Ev}

theorem askedI_isI (hm : l.length < 1000000) (k : Nat) : isI (askedI l k) ∧ askedI l k < (l.length : Int) := by
  unfold askedI isI
  split
  · rename_i y hy
    split
    · rename_i i hi
      have := List.findIdx?_eq_some_iff_findIdx_eq.1 hi
      have h2 := this.1
      simp at h2
      omega
    · omega
  · omega

theorem ended_ok (hl : OkEvs l) (hm : l.length < 1000000) {from_ : Nat} (hf : from_ < l.length) (H : List Blk) : acall PP TT n_twainref36_ended [tSl l.length (evR l), .int .i64 from_] H = some (.int .i64 (endedI l from_), H, none) := by
  have hw0 := wrap_succ (n := from_) (by omega)
  obtain ⟨r, hlp, hr⟩ := loop_rule (n0 := H.length) (step := twainref36_ended.loop2s (acall PP TT) loopG H.length) (len := l.length) (σ := Unit) (fun i _ => ([tSl l.length (evR l), .int .i64 from_, .int .i64 i], ⟨H, none⟩))
    (fun i _ => from_ + 1 ≤ i ∧ ∀ j, from_ + 1 ≤ j → j < i → endsB l from_ j = false)
    (fun r => (r = (.exit 0, [unk], ⟨H, none⟩) ∧ endedI l from_ = -1) ∨ r = (.ret, [.int .i64 (endedI l from_)], ⟨H, none⟩))
    (fun i _ hi ho => by
      obtain ⟨x, hx⟩ : ∃ x, l[i]? = some x := ⟨_, List.getElem?_eq_getElem hi⟩
      have hi' : ((i : Int) < (l.length : Int)) := by omega
      have hix := ix_ref hi
      have hw := wrap_succ (n := i) (by omega)
      have hln := ln_ref l ⟨H, none⟩
      have e1 := ev_kind hx ⟨H, none⟩
      have hak := asked_ok hl hm hi H
      cases hb : endsB l from_ i with
      | true =>
        have hfound : endedI l from_ = (i : Int) := firstN_hit _ _ _ ho.2 hb ho.1 (by omega)
        refine .inl ⟨_, ?_, .inr rfl⟩
        simp only [endsB, hx, Bool.and_eq_true, decide_eq_true_eq] at hb
        obtain ⟨h1, h2⟩ := hb
        simp only [twainref36_ended.loop2s, twainref36_ended.loop2, twainref36_ended.j1, Option.bind_some, Option.map_some, bcase_true, bcase_false, List.getD_cons_zero, List.getD_cons_succ, bin_add, bin_sub, bin_mul, bin_eql, bin_neq, bin_lss, bin_leq, bin_gtr, bin_geq, un_not, pick_bool, decide_true, decide_false, Bool.not_true, Bool.not_false, joinEsc_none, oneOf_one, ext20, ext21, ext30, ext31, ext32, if_true, box_lit, box_int, box_bool, box_slice, box_map, box_ptr, box_tSl, store_lit, store_int, store_bool, store_slice, store_map, store_ptr, store_tSl, load_one, load_agg, app_cons2, List.cons_append, List.nil_append, len_app, List.length_cons, List.length_nil, Nat.zero_add, Nat.add_zero, Nat.reduceAdd, Nat.reduceLeDiff, Nat.le_refl, cellAt_app0, cellAt_app, cellsAt_app0, cellsAt_app, storeL_own0, storeL_own, cellAt_z, cellAt_s, cellsAt_z, cellsAt_s, putB_z, putB_s, List.getElem?_cons_zero, List.getElem?_cons_succ, List.drop_zero, List.drop_succ_cons, List.take_zero, List.take_succ_cons, allCells_cons, allCells_nil, cellV_int, cellV_bool, cellV_string, cellV_ptr, cellV_slice, cellV_map, cellV_func, cellV_nilFunc, cellV_tSl, Bool.and_self, Bool.and_true, Bool.true_and, and_self, true_and, and_true, Bool.false_eq_true, if_false, lrefs_nil, lrefs_cons, vrefs_bool, vrefs_int, vrefs_string, vrefs_ptr, vrefs_ptr0, vrefs_slice, vrefs_slice0, vrefs_map, vrefs_tSl, vrefs_tPtr, vrefs_agg, escOf_nil, Int.reduceEq, Int.reduceLT, Int.reduceLE, putCells_one0, putCells_succ, max_int, min_int, hi', hix, hln, ft_twainref34_Event_0, e1, h1, hak, h2, hfound]
      | false =>
        refine .inr ⟨([tSl l.length (evR l), .int .i64 from_, .int .i64 ((i + 1 : Nat) : Int)], ⟨H, none⟩), (), ?_, gc_nil (by simp [evR_refs]), by omega, fun j h1 h2 => ?_⟩
        · simp only [endsB, hx, Bool.and_eq_false_iff, decide_eq_false_iff_not] at hb
          by_cases h1 : x.kind = 1
          · have h2 : ¬ askedI l i = (from_ : Int) := by
              rcases hb with hb | hb
              · exact absurd h1 hb
              · exact hb
            simp only [twainref36_ended.loop2s, twainref36_ended.loop2, twainref36_ended.j1, twainref36_ended.j2, Option.bind_some, Option.map_some, bcase_true, bcase_false, List.getD_cons_zero, List.getD_cons_succ, bin_add, bin_sub, bin_mul, bin_eql, bin_neq, bin_lss, bin_leq, bin_gtr, bin_geq, un_not, pick_bool, decide_true, decide_false, Bool.not_true, Bool.not_false, joinEsc_none, oneOf_one, ext20, ext21, ext30, ext31, ext32, if_true, box_lit, box_int, box_bool, box_slice, box_map, box_ptr, box_tSl, store_lit, store_int, store_bool, store_slice, store_map, store_ptr, store_tSl, load_one, load_agg, app_cons2, List.cons_append, List.nil_append, len_app, List.length_cons, List.length_nil, Nat.zero_add, Nat.add_zero, Nat.reduceAdd, Nat.reduceLeDiff, Nat.le_refl, cellAt_app0, cellAt_app, cellsAt_app0, cellsAt_app, storeL_own0, storeL_own, cellAt_z, cellAt_s, cellsAt_z, cellsAt_s, putB_z, putB_s, List.getElem?_cons_zero, List.getElem?_cons_succ, List.drop_zero, List.drop_succ_cons, List.take_zero, List.take_succ_cons, allCells_cons, allCells_nil, cellV_int, cellV_bool, cellV_string, cellV_ptr, cellV_slice, cellV_map, cellV_func, cellV_nilFunc, cellV_tSl, Bool.and_self, Bool.and_true, Bool.true_and, and_self, true_and, and_true, Bool.false_eq_true, if_false, lrefs_nil, lrefs_cons, vrefs_bool, vrefs_int, vrefs_string, vrefs_ptr, vrefs_ptr0, vrefs_slice, vrefs_slice0, vrefs_map, vrefs_tSl, vrefs_tPtr, vrefs_agg, escOf_nil, Int.reduceEq, Int.reduceLT, Int.reduceLE, putCells_one0, putCells_succ, max_int, min_int, hi', hix, hln, ft_twainref34_Event_0, e1, h1, hak, h2, hw]
          · simp only [twainref36_ended.loop2s, twainref36_ended.loop2, twainref36_ended.j1, twainref36_ended.j2, Option.bind_some, Option.map_some, bcase_true, bcase_false, List.getD_cons_zero, List.getD_cons_succ, bin_add, bin_sub, bin_mul, bin_eql, bin_neq, bin_lss, bin_leq, bin_gtr, bin_geq, un_not, pick_bool, decide_true, decide_false, Bool.not_true, Bool.not_false, joinEsc_none, oneOf_one, ext20, ext21, ext30, ext31, ext32, if_true, box_lit, box_int, box_bool, box_slice, box_map, box_ptr, box_tSl, store_lit, store_int, store_bool, store_slice, store_map, store_ptr, store_tSl, load_one, load_agg, app_cons2, List.cons_append, List.nil_append, len_app, List.length_cons, List.length_nil, Nat.zero_add, Nat.add_zero, Nat.reduceAdd, Nat.reduceLeDiff, Nat.le_refl, cellAt_app0, cellAt_app, cellsAt_app0, cellsAt_app, storeL_own0, storeL_own, cellAt_z, cellAt_s, cellsAt_z, cellsAt_s, putB_z, putB_s, List.getElem?_cons_zero, List.getElem?_cons_succ, List.drop_zero, List.drop_succ_cons, List.take_zero, List.take_succ_cons, allCells_cons, allCells_nil, cellV_int, cellV_bool, cellV_string, cellV_ptr, cellV_slice, cellV_map, cellV_func, cellV_nilFunc, cellV_tSl, Bool.and_self, Bool.and_true, Bool.true_and, and_self, true_and, and_true, Bool.false_eq_true, if_false, lrefs_nil, lrefs_cons, vrefs_bool, vrefs_int, vrefs_string, vrefs_ptr, vrefs_ptr0, vrefs_slice, vrefs_slice0, vrefs_map, vrefs_tSl, vrefs_tPtr, vrefs_agg, escOf_nil, Int.reduceEq, Int.reduceLT, Int.reduceLE, putCells_one0, putCells_succ, max_int, min_int, hi', hix, hln, ft_twainref34_Event_0, e1, h1, hw]
        · by_cases hji : j = i
          · subst hji; exact hb
          · exact ho.2 j h1 (by omega))
    (fun _ ho => ⟨_, by simp only [twainref36_ended.loop2s, twainref36_ended.loop2, Option.bind_some, Option.map_some, bcase_true, bcase_false, List.getD_cons_zero, List.getD_cons_succ, bin_add, bin_sub, bin_mul, bin_eql, bin_neq, bin_lss, bin_leq, bin_gtr, bin_geq, un_not, pick_bool, decide_true, decide_false, Bool.not_true, Bool.not_false, joinEsc_none, oneOf_one, ext20, ext21, ext30, ext31, ext32, if_true, box_lit, box_int, box_bool, box_slice, box_map, box_ptr, box_tSl, store_lit, store_int, store_bool, store_slice, store_map, store_ptr, store_tSl, load_one, load_agg, app_cons2, List.cons_append, List.nil_append, len_app, List.length_cons, List.length_nil, Nat.zero_add, Nat.add_zero, Nat.reduceAdd, Nat.reduceLeDiff, Nat.le_refl, cellAt_app0, cellAt_app, cellsAt_app0, cellsAt_app, storeL_own0, storeL_own, cellAt_z, cellAt_s, cellsAt_z, cellsAt_s, putB_z, putB_s, List.getElem?_cons_zero, List.getElem?_cons_succ, List.drop_zero, List.drop_succ_cons, List.take_zero, List.take_succ_cons, allCells_cons, allCells_nil, cellV_int, cellV_bool, cellV_string, cellV_ptr, cellV_slice, cellV_map, cellV_func, cellV_nilFunc, cellV_tSl, Bool.and_self, Bool.and_true, Bool.true_and, and_self, true_and, and_true, Bool.false_eq_true, if_false, lrefs_nil, lrefs_cons, vrefs_bool, vrefs_int, vrefs_string, vrefs_ptr, vrefs_ptr0, vrefs_slice, vrefs_slice0, vrefs_map, vrefs_tSl, vrefs_tPtr, vrefs_agg, escOf_nil, Int.reduceEq, Int.reduceLT, Int.reduceLE, putCells_one0, putCells_succ, max_int, min_int, ln_ref, Int.lt_irrefl], .inl ⟨rfl, firstN_none _ _ (fun j h1 h2 => ho.2 j h1 (by omega))⟩⟩)
    (l.length - (from_ + 1)) (from_ + 1) () ([tSl l.length (evR l), .int .i64 from_, .int .i64 ((from_ + 1 : Nat) : Int)], ⟨H, none⟩) (by omega) ⟨by omega, fun j h1 h2 => by omega⟩ (gc_nil (by simp [evR_refs]))
  rw [acall_eq, twainref36_ended.eq]
  rcases hr with ⟨rfl, h⟩ | rfl
  · simp only [twainref36_ended.sh, Option.bind_some, Option.map_some, bcase_true, bcase_false, List.getD_cons_zero, List.getD_cons_succ, bin_add, bin_sub, bin_mul, bin_eql, bin_neq, bin_lss, bin_leq, bin_gtr, bin_geq, un_not, pick_bool, decide_true, decide_false, Bool.not_true, Bool.not_false, joinEsc_none, oneOf_one, ext20, ext21, ext30, ext31, ext32, if_true, box_lit, box_int, box_bool, box_slice, box_map, box_ptr, box_tSl, store_lit, store_int, store_bool, store_slice, store_map, store_ptr, store_tSl, load_one, load_agg, app_cons2, List.cons_append, List.nil_append, len_app, List.length_cons, List.length_nil, Nat.zero_add, Nat.add_zero, Nat.reduceAdd, Nat.reduceLeDiff, Nat.le_refl, cellAt_app0, cellAt_app, cellsAt_app0, cellsAt_app, storeL_own0, storeL_own, cellAt_z, cellAt_s, cellsAt_z, cellsAt_s, putB_z, putB_s, List.getElem?_cons_zero, List.getElem?_cons_succ, List.drop_zero, List.drop_succ_cons, List.take_zero, List.take_succ_cons, allCells_cons, allCells_nil, cellV_int, cellV_bool, cellV_string, cellV_ptr, cellV_slice, cellV_map, cellV_func, cellV_nilFunc, cellV_tSl, Bool.and_self, Bool.and_true, Bool.true_and, and_self, true_and, and_true, Bool.false_eq_true, if_false, lrefs_nil, lrefs_cons, vrefs_bool, vrefs_int, vrefs_string, vrefs_ptr, vrefs_ptr0, vrefs_slice, vrefs_slice0, vrefs_map, vrefs_tSl, vrefs_tPtr, vrefs_agg, escOf_nil, Int.reduceEq, Int.reduceLT, Int.reduceLE, putCells_one0, putCells_succ, max_int, min_int, hw0, hlp, twainref36_ended.j4, h]
    exact fin_lit0 rfl rfl
  · simp only [twainref36_ended.sh, Option.bind_some, Option.map_some, bcase_true, bcase_false, List.getD_cons_zero, List.getD_cons_succ, bin_add, bin_sub, bin_mul, bin_eql, bin_neq, bin_lss, bin_leq, bin_gtr, bin_geq, un_not, pick_bool, decide_true, decide_false, Bool.not_true, Bool.not_false, joinEsc_none, oneOf_one, ext20, ext21, ext30, ext31, ext32, if_true, box_lit, box_int, box_bool, box_slice, box_map, box_ptr, box_tSl, store_lit, store_int, store_bool, store_slice, store_map, store_ptr, store_tSl, load_one, load_agg, app_cons2, List.cons_append, List.nil_append, len_app, List.length_cons, List.length_nil, Nat.zero_add, Nat.add_zero, Nat.reduceAdd, Nat.reduceLeDiff, Nat.le_refl, cellAt_app0, cellAt_app, cellsAt_app0, cellsAt_app, storeL_own0, storeL_own, cellAt_z, cellAt_s, cellsAt_z, cellsAt_s, putB_z, putB_s, List.getElem?_cons_zero, List.getElem?_cons_succ, List.drop_zero, List.drop_succ_cons, List.take_zero, List.take_succ_cons, allCells_cons, allCells_nil, cellV_int, cellV_bool, cellV_string, cellV_ptr, cellV_slice, cellV_map, cellV_func, cellV_nilFunc, cellV_tSl, Bool.and_self, Bool.and_true, Bool.true_and, and_self, true_and, and_true, Bool.false_eq_true, if_false, lrefs_nil, lrefs_cons, vrefs_bool, vrefs_int, vrefs_string, vrefs_ptr, vrefs_ptr0, vrefs_slice, vrefs_slice0, vrefs_map, vrefs_tSl, vrefs_tPtr, vrefs_agg, escOf_nil, Int.reduceEq, Int.reduceLT, Int.reduceLE, putCells_one0, putCells_succ, max_int, min_int, hw0, hlp]
    exact fin_lit0 rfl rfl

/-! ### Sectors -/

/-- the i'th sector of bytes; noughts, where there are not as many -/
def secI (b : List Int) (i : Nat) : List Int := if 16 * (i + 1) ≤ b.length then (b.drop (16 * i)).take 16 else List.replicate 16 0

theorem secI_len (b : List Int) (i : Nat) : (secI b i).length = 16 := by
  unfold secI
  split
  · simp; omega
  · simp
theorem secI_ok {b : List Int} (hb : OkB b) (i : Nat) : ∀ x ∈ secI b i, 0 ≤ x ∧ x < 256 := by
  intro x hx
  unfold secI at hx
  split at hx
  · exact hb.2 x (List.mem_of_mem_drop (List.mem_of_mem_take hx))
  · simp at hx; omega
theorem byt_cells (b : List Int) : allCells (byt b) = true := by
  induction b with
  | nil => rfl
  | cons x xs ih => simpa [byt, allCells] using ih
theorem byt_flat (b : List Int) : (byt b).all noSl = true := by
  induction b with
  | nil => rfl
  | cons x xs ih => simp only [byt, List.map_cons, List.all_cons, noSl, Bool.true_and]; exact ih
theorem byt_sec (b : List Int) (i : Nat) : (byt (secI b i)).length = 16 := by rw [byt_len, secI_len]
theorem byt_take (b : List Int) (n : Nat) : (byt b).take n = byt (b.take n) := by simp [byt]
theorem byt_drop (b : List Int) (n : Nat) : (byt b).drop n = byt (b.drop n) := by simp [byt]

theorem ix_sec {bk o k : Nat} (hk : k < 16) : aIndexAddr PP t_api_Sector (.pointer (some ⟨bk, o, none⟩)) (.int .i64 (k : Int)) = some (.pointer (some ⟨bk, o + k, none⟩)) := by
  simp only [aIndexAddr, u_api_Sector, sz_uint8]
  rw [if_pos ⟨by omega, by omega⟩]
  simp [Addr.add]
theorem ix_byt {b : List Int} {k : Nat} (hk : k < b.length) : aIndexAddr PP t_L_uint8 (tSl b.length (byt b)) (.int .i64 (k : Int)) = some (tPtr k (byt b).toArray) := by
  have := tsl_index (row := byt b) (j := .i64) u_L_uint8 sz_uint8 hk
  simpa using this
theorem ld_byt {b : List Int} {k : Nat} {x : Int} (hk : b[k]? = some x) (st : AS) : aLoad false 1 st (tPtr k (byt b).toArray) = some (.int .u8 x) := by
  show tLoad false 1 k (byt b).toArray = _
  simp [tLoad, byt, hk]
theorem ln_byt (b : List Int) (st : AS) : aLen PP t_L_uint8 (tSl b.length (byt b)) st = some (.int .i64 b.length) := tsl_len u_L_uint8

theorem putCells_one {cs : List Value} {k : Nat} {v : Value} (h : k < cs.length) : putCells cs k [v] = cs.set k v := by
  unfold putCells
  rw [List.set_eq_take_append_cons_drop, if_pos h]
  simp

def z16 : List Int := List.replicate 16 0
theorem z16_cells : z_api_Sector = byt z16 := rfl
theorem z16_len : (byt z16).length = 16 := by simp [byt, z16]

theorem fill_step {X : List Int} {k : Nat} {x : Int} (hX : X.length = 16) (hk : X[k]? = some x) : (byt (X.take k ++ List.replicate (16 - k) 0)).set k (.int .u8 x) = byt (X.take (k + 1) ++ List.replicate (16 - (k + 1)) 0) := by
  have hlt := lt_of_get hk
  have h1 : List.replicate (16 - k) (0 : Int) = 0 :: List.replicate (16 - (k + 1)) 0 := by
    rw [show 16 - k = (16 - (k + 1)) + 1 by omega, List.replicate_succ]
  have h2 : (X.take k).length = k := by simp; omega
  rw [h1]
  unfold byt
  rw [List.map_append, List.set_append_right _ _ (by simp; omega)]
  have h3 : k - (List.map (Value.int .u8) (X.take k)).length = 0 := by rw [List.length_map, h2]; omega
  rw [h3, List.map_cons, List.set_cons_zero, List.take_add_one, hk]
  simp

theorem sector_ok {b : List Int} (hb : OkB b) {i : Nat} (hi : i ≤ 1073741824) (H : List Blk) : acall PP TT n_twainref36_sector [tSl b.length (byt b), .int .i64 i] H = some (.agg (byt (secI b i)).toArray, H, none) := by
  have hbl := hb.1
  rw [acall_eq, twainref36_sector.eq]
  have hneg : ¬ ((i : Int) < 0) := by omega
  have w1 := wrap_succ (n := i) (by omega)
  have w2 : IntKind.i64.wrap (16 * ((i + 1 : Nat) : Int)) = ((16 * (i + 1) : Nat) : Int) := by rw [wrap_in ⟨by omega, by omega⟩]; omega
  by_cases hc : 16 * (i + 1) ≤ b.length
  · have hlt : ¬ ((b.length : Int) < ((16 * (i + 1) : Nat) : Int)) := by omega
    have hX : ((b.drop (16 * i)).take 16).length = 16 := by simp; omega
    have hs : secI b i = (b.drop (16 * i)).take 16 := by simp [secI, hc]
    obtain ⟨r, hlp, hr⟩ := loop_rule (n0 := H.length) (step := twainref36_sector.loop5s (acall PP TT) loopG H.length) (len := 16) (σ := Unit)
      (fun k _ => ([tSl b.length (byt b), .int .i64 i, .pointer (some ⟨H.length, 0, none⟩), .pointer (some ⟨H.length + 1, 0, none⟩), .int .i64 k], ⟨H ++ [.cells (byt z16) t_api_Sector true, .cells (byt (((b.drop (16 * i)).take 16).take k ++ List.replicate (16 - k) 0)) t_api_Sector true], none⟩))
      (fun _ _ => True)
      (fun r => r = (.exit 0, [.pointer (some ⟨H.length, 0, none⟩), .pointer (some ⟨H.length + 1, 0, none⟩)], ⟨H ++ [.cells (byt z16) t_api_Sector true, .cells (byt (secI b i)) t_api_Sector true], none⟩))
      (fun k _ hk _ => by
        have hk' : ((k : Int) < 16) := by omega
        obtain ⟨x, hx⟩ : ∃ x, ((b.drop (16 * i)).take 16)[k]? = some x := ⟨_, List.getElem?_eq_getElem (by omega)⟩
        have hbx : b[16 * i + k]? = some x := by rw [List.getElem?_take, if_pos hk, List.getElem?_drop] at hx; exact hx
        have hbl2 := lt_of_get hbx
        have w3 : IntKind.i64.wrap (16 * (i : Int)) = ((16 * i : Nat) : Int) := by rw [wrap_in ⟨by omega, by omega⟩]; omega
        have w4 : IntKind.i64.wrap (((16 * i : Nat) : Int) + (k : Int)) = ((16 * i + k : Nat) : Int) := by rw [wrap_in ⟨by omega, by omega⟩]; omega
        have w5 := wrap_succ (n := k) (by omega)
        have hix := ix_byt hbl2
        have hld := fun st => ld_byt hbx st
        have hsx := fun bk o => ix_sec (bk := bk) (o := o) hk
        have hln : (byt (((b.drop (16 * i)).take 16).take k ++ List.replicate (16 - k) 0)).length = 16 := by rw [byt_len]; simp; omega
        have hst := fill_step hX hx
        have hkl : k + 1 ≤ (byt (((b.drop (16 * i)).take 16).take k ++ List.replicate (16 - k) 0)).length := by omega
        have hput := putCells_one (cs := byt (((b.drop (16 * i)).take 16).take k ++ List.replicate (16 - k) 0)) (k := k) (v := .int .u8 x) (by omega)
        rw [hst] at hput
        refine .inr ?_
        apply Exists.intro
        refine ⟨(), ?_, ?_, trivial⟩
        · simp only [twainref36_sector.loop5s, twainref36_sector.loop5, Option.bind_some, Option.map_some, bcase_true, bcase_false, List.getD_cons_zero, List.getD_cons_succ, bin_add, bin_sub, bin_mul, bin_eql, bin_neq, bin_lss, bin_leq, bin_gtr, bin_geq, un_not, pick_bool, decide_true, decide_false, Bool.not_true, Bool.not_false, joinEsc_none, oneOf_one, ext20, ext21, ext30, ext31, ext32, if_true, box_lit, box_int, box_bool, box_slice, box_map, box_ptr, box_tSl, store_lit, store_int, store_bool, store_slice, store_map, store_ptr, store_tSl, load_one, load_agg, app_cons2, List.cons_append, List.nil_append, len_app, List.length_cons, List.length_nil, Nat.zero_add, Nat.add_zero, Nat.reduceAdd, Nat.reduceLeDiff, Nat.le_refl, cellAt_app0, cellAt_app, cellsAt_app0, cellsAt_app, storeL_own0, storeL_own, cellAt_z, cellAt_s, cellsAt_z, cellsAt_s, putB_z, putB_s, List.getElem?_cons_zero, List.getElem?_cons_succ, List.drop_zero, List.drop_succ_cons, List.take_zero, List.take_succ_cons, allCells_cons, allCells_nil, cellV_int, cellV_bool, cellV_string, cellV_ptr, cellV_slice, cellV_map, cellV_func, cellV_nilFunc, cellV_tSl, Bool.and_self, Bool.and_true, Bool.true_and, and_self, true_and, and_true, Bool.false_eq_true, if_false, lrefs_nil, lrefs_cons, vrefs_bool, vrefs_int, vrefs_string, vrefs_ptr, vrefs_ptr0, vrefs_slice, vrefs_slice0, vrefs_map, vrefs_tSl, vrefs_tPtr, vrefs_agg, escOf_nil, Int.reduceEq, Int.reduceLT, Int.reduceLE, putCells_one0, putCells_succ, max_int, min_int, hk', w3, w4, hix, hld, hsx, hkl, hput, w5]
          rfl
        · exact gc_own [[], []] [0, 1] [0, 1] rfl rfl (by simp [byt_refs]) (by simp [blkRefs, byt_refs]) (by simp [lren, vren, rn_own, rn_own0, findIx, vren_none, byt_refs]) (by simp [renBlk, lren_none, byt_refs]))
      (fun _ _ => ⟨_, by simp only [twainref36_sector.loop5s, twainref36_sector.loop5, Option.bind_some, Option.map_some, bcase_true, bcase_false, List.getD_cons_zero, List.getD_cons_succ, bin_add, bin_sub, bin_mul, bin_eql, bin_neq, bin_lss, bin_leq, bin_gtr, bin_geq, un_not, pick_bool, decide_true, decide_false, Bool.not_true, Bool.not_false, joinEsc_none, oneOf_one, ext20, ext21, ext30, ext31, ext32, if_true, box_lit, box_int, box_bool, box_slice, box_map, box_ptr, box_tSl, store_lit, store_int, store_bool, store_slice, store_map, store_ptr, store_tSl, load_one, load_agg, app_cons2, List.cons_append, List.nil_append, len_app, List.length_cons, List.length_nil, Nat.zero_add, Nat.add_zero, Nat.reduceAdd, Nat.reduceLeDiff, Nat.le_refl, cellAt_app0, cellAt_app, cellsAt_app0, cellsAt_app, storeL_own0, storeL_own, cellAt_z, cellAt_s, cellsAt_z, cellsAt_s, putB_z, putB_s, List.getElem?_cons_zero, List.getElem?_cons_succ, List.drop_zero, List.drop_succ_cons, List.take_zero, List.take_succ_cons, allCells_cons, allCells_nil, cellV_int, cellV_bool, cellV_string, cellV_ptr, cellV_slice, cellV_map, cellV_func, cellV_nilFunc, cellV_tSl, Bool.and_self, Bool.and_true, Bool.true_and, and_self, true_and, and_true, Bool.false_eq_true, if_false, lrefs_nil, lrefs_cons, vrefs_bool, vrefs_int, vrefs_string, vrefs_ptr, vrefs_ptr0, vrefs_slice, vrefs_slice0, vrefs_map, vrefs_tSl, vrefs_tPtr, vrefs_agg, escOf_nil, Int.reduceEq, Int.reduceLT, Int.reduceLE, putCells_one0, putCells_succ, max_int, min_int, show ¬ (((16 : Nat) : Int) < 16) by decide]; rfl, by simp [hs, List.take_of_length_le (Nat.le_of_eq hX)]⟩)
      16 0 () ([tSl b.length (byt b), .int .i64 i, .pointer (some ⟨H.length, 0, none⟩), .pointer (some ⟨H.length + 1, 0, none⟩), .int .i64 0], ⟨H ++ [.cells (byt z16) t_api_Sector true, .cells (byt z16) t_api_Sector true], none⟩) (by omega) trivial
      (gc_own [[], []] [0, 1] [0, 1] rfl rfl (by simp [byt_refs]) (by simp [blkRefs, byt_refs]) (by simp [lren, vren, rn_own, rn_own0, findIx, vren_none, byt_refs]) (by simp [renBlk, lren_none, byt_refs, z16]))
    subst hr
    simp only [twainref36_sector.sh, twainref36_sector.j0, twainref36_sector.j1, twainref36_sector.j4, Option.bind_some, Option.map_some, bcase_true, bcase_false, List.getD_cons_zero, List.getD_cons_succ, bin_add, bin_sub, bin_mul, bin_eql, bin_neq, bin_lss, bin_leq, bin_gtr, bin_geq, un_not, pick_bool, decide_true, decide_false, Bool.not_true, Bool.not_false, joinEsc_none, oneOf_one, ext20, ext21, ext30, ext31, ext32, if_true, box_lit, box_int, box_bool, box_slice, box_map, box_ptr, box_tSl, store_lit, store_int, store_bool, store_slice, store_map, store_ptr, store_tSl, load_one, load_agg, app_cons2, List.cons_append, List.nil_append, len_app, List.length_cons, List.length_nil, Nat.zero_add, Nat.add_zero, Nat.reduceAdd, Nat.reduceLeDiff, Nat.le_refl, cellAt_app0, cellAt_app, cellsAt_app0, cellsAt_app, storeL_own0, storeL_own, cellAt_z, cellAt_s, cellsAt_z, cellsAt_s, putB_z, putB_s, List.getElem?_cons_zero, List.getElem?_cons_succ, List.drop_zero, List.drop_succ_cons, List.take_zero, List.take_succ_cons, allCells_cons, allCells_nil, cellV_int, cellV_bool, cellV_string, cellV_ptr, cellV_slice, cellV_map, cellV_func, cellV_nilFunc, cellV_tSl, Bool.and_self, Bool.and_true, Bool.true_and, and_self, true_and, and_true, Bool.false_eq_true, if_false, lrefs_nil, lrefs_cons, vrefs_bool, vrefs_int, vrefs_string, vrefs_ptr, vrefs_ptr0, vrefs_slice, vrefs_slice0, vrefs_map, vrefs_tSl, vrefs_tPtr, vrefs_agg, escOf_nil, Int.reduceEq, Int.reduceLT, Int.reduceLE, putCells_one0, putCells_succ, max_int, min_int, hneg, ln_byt, w1, w2, hlt, zg_api_Sector, z16_cells, byt_cells, hlp, z16_len, byt_sec, List.take_of_length_le, putCells_all, byt_refs]
    refine fin_lit ?_ ?_ rfl
    · simp [flatV, byt_flat]
    · simp [byt_refs]
  · have hlt : ((b.length : Int) < ((16 * (i + 1) : Nat) : Int)) := by omega
    have hs : secI b i = z16 := by simp [secI, hc, z16]
    simp only [twainref36_sector.sh, twainref36_sector.j0, twainref36_sector.j1, Option.bind_some, Option.map_some, bcase_true, bcase_false, List.getD_cons_zero, List.getD_cons_succ, bin_add, bin_sub, bin_mul, bin_eql, bin_neq, bin_lss, bin_leq, bin_gtr, bin_geq, un_not, pick_bool, decide_true, decide_false, Bool.not_true, Bool.not_false, joinEsc_none, oneOf_one, ext20, ext21, ext30, ext31, ext32, if_true, box_lit, box_int, box_bool, box_slice, box_map, box_ptr, box_tSl, store_lit, store_int, store_bool, store_slice, store_map, store_ptr, store_tSl, load_one, load_agg, app_cons2, List.cons_append, List.nil_append, len_app, List.length_cons, List.length_nil, Nat.zero_add, Nat.add_zero, Nat.reduceAdd, Nat.reduceLeDiff, Nat.le_refl, cellAt_app0, cellAt_app, cellsAt_app0, cellsAt_app, storeL_own0, storeL_own, cellAt_z, cellAt_s, cellsAt_z, cellsAt_s, putB_z, putB_s, List.getElem?_cons_zero, List.getElem?_cons_succ, List.drop_zero, List.drop_succ_cons, List.take_zero, List.take_succ_cons, allCells_cons, allCells_nil, cellV_int, cellV_bool, cellV_string, cellV_ptr, cellV_slice, cellV_map, cellV_func, cellV_nilFunc, cellV_tSl, Bool.and_self, Bool.and_true, Bool.true_and, and_self, true_and, and_true, Bool.false_eq_true, if_false, lrefs_nil, lrefs_cons, vrefs_bool, vrefs_int, vrefs_string, vrefs_ptr, vrefs_ptr0, vrefs_slice, vrefs_slice0, vrefs_map, vrefs_tSl, vrefs_tPtr, vrefs_agg, escOf_nil, Int.reduceEq, Int.reduceLT, Int.reduceLE, putCells_one0, putCells_succ, max_int, min_int, hneg, ln_byt, w1, w2, hlt, zg_api_Sector, z16_cells, byt_cells, z16_len, List.take_of_length_le, putCells_all, byt_refs, hs]
    refine fin_lit ?_ ?_ rfl
    · simp [flatV, byt_flat]
    · simp [byt_refs]

end
end Go.Proofs.Ytfinilnkempofaa
