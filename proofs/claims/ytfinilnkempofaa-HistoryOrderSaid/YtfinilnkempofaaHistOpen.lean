/- What is open, what is odd: what both codes say. -/
import Derived.Test.YtfinilnkempofaaHistPair
set_option linter.all false
set_option linter.unusedVariables false
set_option linter.unusedSimpArgs false
set_option linter.unnecessarySimpa false
namespace Go.Proofs.Ytfinilnkempofaa
open Go Go.Am

abbrev pairV (a b : Nat) (odd : Bool) : Value := .agg [Value.map (some a), Value.map (some b), Value.bool odd].toArray
def toI (s : PS) (i : Nat) : Int := match lookE s.E i with | some k => (k : Int) | none => -1

theorem bd_pairs (a b : Nat) : aBuild PP t_history_pairs [(0, .map (some a)), (1, .map (some b))] = some (pairV a b false) := by kernel_rfl
theorem fld_odd (a b : Nat) (o : Bool) : pureRun PP (Instr.field t_history_pairs (pairV a b o) 2) = some (.bool o) := by kernel_rfl

theorem ints_refs (l : List Int) : lrefs (l.map (Value.int .i64)) = [] := by
  induction l with
  | nil => rfl
  | cons x xs ih => simpa using ih
theorem ints_flat (l : List Int) : (l.map (Value.int .i64)).all noSl = true := by
  induction l with
  | nil => rfl
  | cons x xs ih => simp only [List.map_cons, List.all_cons, noSl, Bool.true_and]; exact ih
theorem bsl_int (v : Int) (H : List Blk) (e : Option Nat) : bsl PP t_L_int 1 [0] [.int .i64 v] ⟨H, e⟩ = some (.slice (some ⟨H.length, 0, none⟩) 1 1, ⟨H ++ [.cells [.int .i64 v] t_int true], e⟩) := by kernel_rfl

section
variable {l : List Ev} {H : List Blk}

theorem newBlk_own {n : List Blk} {e : Option Nat} (k : Blk) : newBlk ⟨H ++ n, e⟩ k = ⟨H ++ (n ++ [k]), e⟩ := newBlk_app k

theorem paired_ok (hl : OkEvs l) (hm : l.length < 1000000) (H : List Blk) : acall PP TT n_history_paired [tSl l.length (evR l)] H = some (pairV H.length (H.length + 1) (pairS l l.length).odd, H ++ [mapA (pairS l l.length), mapE (pairS l l.length)], none) := by
  have hlast : ¬ ((l.length : Int) < (l.length : Int)) := Int.lt_irrefl _
  have hg0 : gc H.length [.pointer (some ⟨H.length, 0, none⟩), .pointer (some ⟨H.length + 3, 0, none⟩), tSl l.length (evR l), .int .i64 l.length, .int .i64 0] ⟨H ++ [zP, .map [] 0, .map [] 0, .cells [.map (some (H.length + 1)), .map (some (H.length + 2)), .bool false] t_history_pairs true], none⟩ = (pFr H.length l 0, ⟨H ++ pHp H.length (pairS l 0), none⟩) :=
    gc_own [[], [], [], [1, 2]] [0, 3] [0, 3, 1, 2] rfl rfl (by simp [evR_refs]) (by simp [zP, blkRefs_cells]; try simp [blkRefs])
      (by simp [pFr, lren, vren, rn_own, rn_own0, findIx, vren_none, evR_refs]) (by simp [pHp, zP, pB, pairS, mapA, mapE, entries, renBlk_cells, lren, vren, rn_own, rn_own0, findIx]; try simp [renBlk])
  obtain ⟨r, hlp, hr⟩ := loop_rule (n0 := H.length) (step := history_paired.loop3s (acall PP TT) loopG H.length) (len := l.length) (σ := Unit) (fun n _ => (pFr H.length l n, ⟨H ++ pHp H.length (pairS l n), none⟩))
    (fun _ _ => True) (fun r => r = (.exit 0, [.pointer (some ⟨H.length, 0, none⟩), .pointer (some ⟨H.length + 1, 0, none⟩)], ⟨H ++ pHp H.length (pairS l l.length), none⟩))
    (fun n _ hn _ => by
      obtain ⟨x, hx⟩ : ∃ x, l[n]? = some x := ⟨_, List.getElem?_eq_getElem hn⟩
      exact .inr ⟨_, (), pair_step hl hm hn hx, pair_gc _ _ _, trivial⟩)
    (fun _ _ => ⟨_, by simp only [history_paired.loop3s, history_paired.loop3, pFr, Option.bind_some, Option.map_some, bcase_true, bcase_false, List.getD_cons_zero, List.getD_cons_succ, bin_add, bin_sub, bin_mul, bin_eql, bin_neq, bin_lss, bin_leq, bin_gtr, bin_geq, un_not, pick_bool, decide_true, decide_false, Bool.not_true, Bool.not_false, joinEsc_none, oneOf_one, ext20, ext21, ext30, ext31, ext32, if_true, box_lit, box_int, box_bool, box_slice, box_map, box_ptr, box_tSl, store_lit, store_int, store_bool, store_slice, store_map, store_ptr, store_tSl, load_one, load_agg, app_cons2, List.cons_append, List.nil_append, len_app, List.length_cons, List.length_nil, Nat.zero_add, Nat.add_zero, Nat.reduceAdd, Nat.reduceLeDiff, Nat.le_refl, cellAt_app0, cellAt_app, cellsAt_app0, cellsAt_app, storeL_own0, storeL_own, cellAt_z, cellAt_s, cellsAt_z, cellsAt_s, putB_z, putB_s, List.getElem?_cons_zero, List.getElem?_cons_succ, List.drop_zero, List.drop_succ_cons, List.take_zero, List.take_succ_cons, allCells_cons, allCells_nil, cellV_int, cellV_bool, cellV_string, cellV_ptr, cellV_slice, cellV_map, cellV_func, cellV_nilFunc, cellV_tSl, Bool.and_self, Bool.and_true, Bool.true_and, and_self, true_and, and_true, Bool.false_eq_true, if_false, lrefs_nil, lrefs_cons, vrefs_bool, vrefs_int, vrefs_string, vrefs_ptr, vrefs_ptr0, vrefs_slice, vrefs_slice0, vrefs_map, vrefs_tSl, vrefs_tPtr, vrefs_agg, escOf_nil, Int.reduceEq, Int.reduceLT, Int.reduceLE, putCells_one0, putCells_succ, max_int, min_int, hlast], rfl⟩)
    l.length 0 () ([.pointer (some ⟨H.length, 0, none⟩), .pointer (some ⟨H.length + 3, 0, none⟩), tSl l.length (evR l), .int .i64 l.length, .int .i64 0], ⟨H ++ [zP, .map [] 0, .map [] 0, .cells [.map (some (H.length + 1)), .map (some (H.length + 2)), .bool false] t_history_pairs true], none⟩) (by omega) trivial hg0
  subst hr
  have hg1 : gc H.length [pairV (H.length + 2) (H.length + 3) (pairS l l.length).odd] ⟨H ++ [.cells [.map (some (H.length + 2)), .map (some (H.length + 3)), .bool (pairS l l.length).odd] t_history_pairs true, pB H.length (pairS l l.length).odd, mapA (pairS l l.length), mapE (pairS l l.length)], some H.length⟩ = ([pairV H.length (H.length + 1) (pairS l l.length).odd], ⟨H ++ [mapA (pairS l l.length), mapE (pairS l l.length)], none⟩) :=
    gc_own [[2, 3], [2, 3], [], []] [2, 3] [2, 3] rfl (by simp [escOk]) (by simp) (by simp [pB, mapA_refs, mapE_refs, blkRefs_cells]) (by simp [lren, vren, aren, rn_own, rn_own0, findIx]) (by simp [mapA_ren, mapE_ren])
  rw [acall_eq, history_paired.eq]
  have hesc : escOf none (H.length + 3) [H.length + 1, H.length + 2] = none := by simp [escOf]
  have hesc2 : escOf none H.length [H.length + 2, H.length + 3] = some H.length := by simp [escOf, minO]
  have hb0 : ∀ e : Option Nat, (⟨H, e⟩ : AS) = ⟨H ++ [], e⟩ := fun e => by simp
  rw [zP] at hlp
  simp only [history_paired.sh, zg_history_pairs, z_history_pairs, Option.bind_some, Option.map_some, bcase_true, bcase_false, List.getD_cons_zero, List.getD_cons_succ, bin_add, bin_sub, bin_mul, bin_eql, bin_neq, bin_lss, bin_leq, bin_gtr, bin_geq, un_not, pick_bool, decide_true, decide_false, Bool.not_true, Bool.not_false, joinEsc_none, oneOf_one, ext20, ext21, ext30, ext31, ext32, if_true, box_lit, box_int, box_bool, box_slice, box_map, box_ptr, box_tSl, store_lit, store_int, store_bool, store_slice, store_map, store_ptr, store_tSl, load_one, load_agg, app_cons2, List.cons_append, List.nil_append, len_app, List.length_cons, List.length_nil, Nat.zero_add, Nat.add_zero, Nat.reduceAdd, Nat.reduceLeDiff, Nat.le_refl, cellAt_app0, cellAt_app, cellsAt_app0, cellsAt_app, storeL_own0, storeL_own, cellAt_z, cellAt_s, cellsAt_z, cellsAt_s, putB_z, putB_s, List.getElem?_cons_zero, List.getElem?_cons_succ, List.drop_zero, List.drop_succ_cons, List.take_zero, List.take_succ_cons, allCells_cons, allCells_nil, cellV_int, cellV_bool, cellV_string, cellV_ptr, cellV_slice, cellV_map, cellV_func, cellV_nilFunc, cellV_tSl, Bool.and_self, Bool.and_true, Bool.true_and, and_self, true_and, and_true, Bool.false_eq_true, if_false, lrefs_nil, lrefs_cons, vrefs_bool, vrefs_int, vrefs_string, vrefs_ptr, vrefs_ptr0, vrefs_slice, vrefs_slice0, vrefs_map, vrefs_tSl, vrefs_tPtr, vrefs_agg, escOf_nil, Int.reduceEq, Int.reduceLT, Int.reduceLE, putCells_one0, putCells_succ, max_int, min_int, newBlk_own, bd_pairs, putCells_all, ln_wld, List.append_nil, hesc, hlp, history_paired.j6, pHp, zP, pB, hesc2]
  exact fin_keep rfl hg1

theorem odd_ok (hl : OkEvs l) (hm : l.length < 1000000) (H : List Blk) : acall PP TT n_history_Odd [tSl l.length (evR l)] H = some (.bool (pairS l l.length).odd, H, none) := by
  rw [acall_eq, history_Odd.eq]
  simp only [history_Odd.sh, paired_ok hl hm, Option.bind_some, Option.map_some, bcase_true, bcase_false, List.getD_cons_zero, List.getD_cons_succ, bin_add, bin_sub, bin_mul, bin_eql, bin_neq, bin_lss, bin_leq, bin_gtr, bin_geq, un_not, pick_bool, decide_true, decide_false, Bool.not_true, Bool.not_false, joinEsc_none, oneOf_one, ext20, ext21, ext30, ext31, ext32, if_true, box_lit, box_int, box_bool, box_slice, box_map, box_ptr, box_tSl, store_lit, store_int, store_bool, store_slice, store_map, store_ptr, store_tSl, load_one, load_agg, app_cons2, List.cons_append, List.nil_append, len_app, List.length_cons, List.length_nil, Nat.zero_add, Nat.add_zero, Nat.reduceAdd, Nat.reduceLeDiff, Nat.le_refl, cellAt_app0, cellAt_app, cellsAt_app0, cellsAt_app, storeL_own0, storeL_own, cellAt_z, cellAt_s, cellsAt_z, cellsAt_s, putB_z, putB_s, List.getElem?_cons_zero, List.getElem?_cons_succ, List.drop_zero, List.drop_succ_cons, List.take_zero, List.take_succ_cons, allCells_cons, allCells_nil, cellV_int, cellV_bool, cellV_string, cellV_ptr, cellV_slice, cellV_map, cellV_func, cellV_nilFunc, cellV_tSl, Bool.and_self, Bool.and_true, Bool.true_and, and_self, true_and, and_true, Bool.false_eq_true, if_false, lrefs_nil, lrefs_cons, vrefs_bool, vrefs_int, vrefs_string, vrefs_ptr, vrefs_ptr0, vrefs_slice, vrefs_slice0, vrefs_map, vrefs_tSl, vrefs_tPtr, vrefs_agg, escOf_nil, Int.reduceEq, Int.reduceLT, Int.reduceLE, putCells_one0, putCells_succ, max_int, min_int, fld_odd]
  exact fin_lit rfl rfl rfl

theorem pto_ok {s : PS} {n m a b : Nat} {o : Bool} (hs : OkPS n s) (hn : n < 1000000) (hm : m < 1000000) {H1 : List Blk} (hb : H1[b]? = some (mapE s)) : acall PP TT n_history_pairs_to [pairV a b o, .int .i64 m] H1 = some (.int .i64 (toI s m), H1, none) := by
  have hlt := lt_of_get hb
  have hlk := fun (L : List Blk) (e : Option Nat) => look_ent (P := PP) (K := KE) (V := VE) (kc := kcE) u_M_int_int zv_int rfl flatInt (st := ⟨H1 ++ L, e⟩) (r := b) (c := s.E.length) (xs := s.E) (fun x hx => by rw [show kcE x = [.int .i64 x.1] from rfl, argInt]; rfl) (fun x hx => tokInt (by have := hs.e x hx; unfold isI; omega)) (by rw [List.getElem?_append_left hlt]; exact hb) (q := [.int .i64 m]) (tokInt (by unfold isI; omega)) (p := fun p => decide (p.1 = m)) (fun x _ => by
    simp [kcE]
    omega)
  rw [argInt] at hlk
  rw [acall_eq, history_pairs_to.eq]
  unfold toI lookE
  cases hf : s.E.find? fun p => decide (p.1 = m) with
  | none =>
    simp only [hf] at hlk
    simp only [history_pairs_to.sh, Option.bind_some, Option.map_some, bcase_true, bcase_false, List.getD_cons_zero, List.getD_cons_succ, bin_add, bin_sub, bin_mul, bin_eql, bin_neq, bin_lss, bin_leq, bin_gtr, bin_geq, un_not, pick_bool, decide_true, decide_false, Bool.not_true, Bool.not_false, joinEsc_none, oneOf_one, ext20, ext21, ext30, ext31, ext32, if_true, box_lit, box_int, box_bool, box_slice, box_map, box_ptr, box_tSl, store_lit, store_int, store_bool, store_slice, store_map, store_ptr, store_tSl, load_one, load_agg, app_cons2, List.cons_append, List.nil_append, len_app, List.length_cons, List.length_nil, Nat.zero_add, Nat.add_zero, Nat.reduceAdd, Nat.reduceLeDiff, Nat.le_refl, cellAt_app0, cellAt_app, cellsAt_app0, cellsAt_app, storeL_own0, storeL_own, cellAt_z, cellAt_s, cellsAt_z, cellsAt_s, putB_z, putB_s, List.getElem?_cons_zero, List.getElem?_cons_succ, List.drop_zero, List.drop_succ_cons, List.take_zero, List.take_succ_cons, allCells_cons, allCells_nil, cellV_int, cellV_bool, cellV_string, cellV_ptr, cellV_slice, cellV_map, cellV_func, cellV_nilFunc, cellV_tSl, Bool.and_self, Bool.and_true, Bool.true_and, and_self, true_and, and_true, Bool.false_eq_true, if_false, lrefs_nil, lrefs_cons, vrefs_bool, vrefs_int, vrefs_string, vrefs_ptr, vrefs_ptr0, vrefs_slice, vrefs_slice0, vrefs_map, vrefs_tSl, vrefs_tPtr, vrefs_agg, escOf_nil, Int.reduceEq, Int.reduceLT, Int.reduceLE, putCells_one0, putCells_succ, max_int, min_int, fa_history_pairs_1, hlk]
    exact fin_lit rfl rfl rfl
  | some q =>
    simp only [hf] at hlk
    simp only [history_pairs_to.sh, Option.bind_some, Option.map_some, bcase_true, bcase_false, List.getD_cons_zero, List.getD_cons_succ, bin_add, bin_sub, bin_mul, bin_eql, bin_neq, bin_lss, bin_leq, bin_gtr, bin_geq, un_not, pick_bool, decide_true, decide_false, Bool.not_true, Bool.not_false, joinEsc_none, oneOf_one, ext20, ext21, ext30, ext31, ext32, if_true, box_lit, box_int, box_bool, box_slice, box_map, box_ptr, box_tSl, store_lit, store_int, store_bool, store_slice, store_map, store_ptr, store_tSl, load_one, load_agg, app_cons2, List.cons_append, List.nil_append, len_app, List.length_cons, List.length_nil, Nat.zero_add, Nat.add_zero, Nat.reduceAdd, Nat.reduceLeDiff, Nat.le_refl, cellAt_app0, cellAt_app, cellsAt_app0, cellsAt_app, storeL_own0, storeL_own, cellAt_z, cellAt_s, cellsAt_z, cellsAt_s, putB_z, putB_s, List.getElem?_cons_zero, List.getElem?_cons_succ, List.drop_zero, List.drop_succ_cons, List.take_zero, List.take_succ_cons, allCells_cons, allCells_nil, cellV_int, cellV_bool, cellV_string, cellV_ptr, cellV_slice, cellV_map, cellV_func, cellV_nilFunc, cellV_tSl, Bool.and_self, Bool.and_true, Bool.true_and, and_self, true_and, and_true, Bool.false_eq_true, if_false, lrefs_nil, lrefs_cons, vrefs_bool, vrefs_int, vrefs_string, vrefs_ptr, vrefs_ptr0, vrefs_slice, vrefs_slice0, vrefs_map, vrefs_tSl, vrefs_tPtr, vrefs_agg, escOf_nil, Int.reduceEq, Int.reduceLT, Int.reduceLE, putCells_one0, putCells_succ, max_int, min_int, fa_history_pairs_1, hlk, VE]
    exact fin_lit rfl rfl rfl

/-! ### What is open -/

/-- the numbers that are so, of the first ones -/
def openL (p : Nat → Bool) : Nat → List Int
  | 0 => []
  | n + 1 => if p n = true then openL p n ++ [(n : Int)] else openL p n
theorem openL_len (p : Nat → Bool) : ∀ n, (openL p n).length ≤ n
  | 0 => by simp [openL]
  | n + 1 => by
    have := openL_len p n
    simp only [openL]
    split
    · simp; omega
    · omega

abbrev ints (A : List Int) : List Value := A.map (Value.int .i64)
def rowO (n0 : Nat) (A : List Int) : Value := match A with | [] => .slice none 0 0 | a :: tl => .slice (some ⟨n0, 0, none⟩) (tl.length + 1) UNK
def blkO (A : List Int) : List Blk := match A with | [] => [] | a :: tl => [.cells (ints (a :: tl)) t_int true]

/-- the end of such a loop -/
theorem fin_rowO (A : List Int) (L : List Blk) (e : Option Nat) (he : escOk H.length e = true) : fin PP false H.length [rowO H.length A] ⟨H ++ (blkO A ++ L), e⟩ = some (tSl A.length (ints A), H, none) := by
  cases A with
  | nil => exact fin_nil he
  | cons a tl => exact fin_row0 (sz := 1) rfl sz_int (by simp) (ints_flat _) (ints_refs _) he

/-- is event n asked, and not ended? -/
def rOpenB (l : List Ev) (n : Nat) : Bool := match l[n]? with
  | some x => decide (x.kind = 0) && decide (endedI l n < 0)
  | none => false

theorem endedI_isI (hm : l.length < 1000000) (k : Nat) : isI (endedI l k) ∧ endedI l k < (l.length : Int) ∧ -1 ≤ endedI l k := by
  unfold endedI isI
  rcases firstN_spec (p := endsB l k) (l.length - (k + 1)) (k + 1) with ⟨h, _⟩ | ⟨m, h, h1, h2, _⟩ <;> rw [h] <;> omega

theorem ropen_gc (A : List Int) (n : Nat) (x : Ev) : gc H.length [tSl l.length (evR l), rowO H.length A, tSl l.length (evR l), .int .i64 l.length, .int .i64 n] ⟨H ++ (blkO A ++ [.cells (evc x) t_twainref34_Event true]), none⟩ = ([tSl l.length (evR l), rowO H.length A, tSl l.length (evR l), .int .i64 l.length, .int .i64 n], ⟨H ++ blkO A, none⟩) := by
  cases A with
  | nil => exact gc_own [[]] [] [] rfl rfl (by simp [rowO, evR_refs]) (by simp [blkO, blkRefs_cells, evc_refs]) (by simp [rowO, lren, vren, vren_none, evR_refs]) (by simp [blkO])
  | cons a tl => exact gc_own [[], []] [0] [0] rfl rfl (by simp [rowO, evR_refs]) (by simp [blkO, blkRefs_cells, evc_refs, ints_refs]) (by simp [rowO, lren, vren, rn_own0, findIx, vren_none, evR_refs]) (by simp [blkO, renBlk_cells, lren, vren, lren_none, ints_refs])

theorem ropen_gc2 (A : List Int) (n : Nat) (x : Ev) (v : Int) : gc H.length [tSl l.length (evR l), .slice (some ⟨H.length + ((blkO A).length + 2), 0, none⟩) (A.length + 1) UNK, tSl l.length (evR l), .int .i64 l.length, .int .i64 n] ⟨H ++ ((match A with | [] => [] | a :: tl => [Blk.dead]) ++ [.cells (evc x) t_twainref34_Event true, .cells [.int .i64 v] t_int true, .cells (ints (A ++ [v])) t_int true]), none⟩ = ([tSl l.length (evR l), rowO H.length (A ++ [v]), tSl l.length (evR l), .int .i64 l.length, .int .i64 n], ⟨H ++ blkO (A ++ [v]), none⟩) := by
  cases A with
  | nil => exact gc_own [[], [], []] [2] [2] rfl rfl (by simp [blkO, evR_refs]) (by simp [blkRefs_cells, evc_refs]) (by simp [blkO, rowO, lren, vren, rn_own, findIx, vren_none, evR_refs]) (by simp [blkO, renBlk_cells, lren, vren])
  | cons a tl => exact gc_own [[], [], [], []] [3] [3] rfl rfl (by simp [blkO, evR_refs]) (by simp [blkRefs_cells, blkRefs_dead, evc_refs, ints_refs]) (by simp [blkO, rowO, lren, vren, rn_own, findIx, vren_none, evR_refs]) (by simp [blkO, renBlk_cells, lren, vren, lren_none, ints_refs])

theorem push_int_nil {L : List Blk} {e : Option Nat} {v : Int} {R : Type} {F : Value → AS → Option R} :
    ((bsl PP t_L_int 1 [0] [.int .i64 v] ⟨H ++ L, e⟩).bind fun q => eBuiltin PP .append #[t_L_int, t_L_int] [.slice none 0 0, q.1] q.2 F) = F (.slice (some ⟨H.length + (L.length + 1), 0, none⟩) 1 UNK) ⟨H ++ (L ++ [.cells [.int .i64 v] t_int true, .cells [.int .i64 v] t_int true]), e⟩ :=
  push_nil el_L_int rfl (bsl_int v)
theorem push_int {A : List Int} (hm : A.length ≤ 65535) {L : List Blk} {e : Option Nat} {v : Int} {R : Type} {F : Value → AS → Option R} (hk : L[0]? = some (.cells (ints A) t_int true)) :
    ((bsl PP t_L_int 1 [0] [.int .i64 v] ⟨H ++ L, e⟩).bind fun q => eBuiltin PP .append #[t_L_int, t_L_int] [.slice (some ⟨H.length, 0, none⟩) A.length UNK, q.1] q.2 F) = F (.slice (some ⟨H.length + (L.length + 1), 0, none⟩) (A.length + 1) UNK) ⟨H ++ (L.set 0 .dead ++ [.cells [.int .i64 v] t_int true, .cells (ints A ++ [.int .i64 v]) t_int true]), e⟩ :=
  push_more0 el_L_int rfl (bsl_int v) hk (by simp) hm

theorem ropen_ok (hl : OkEvs l) (hm : l.length < 60000) (H : List Blk) : acall PP TT n_twainref36_Open [tSl l.length (evR l)] H = some (tSl (openL (rOpenB l) l.length).length (ints (openL (rOpenB l) l.length)), H, none) := by
  have hlast : ¬ ((l.length : Int) < (l.length : Int)) := Int.lt_irrefl _
  obtain ⟨r, hlp, hr⟩ := loop_r (n0 := H.length) (step := twainref36_Open.loop3s (acall PP TT) loopG H.length) (len := l.length) (σ := Unit)
    (fun n _ => ([tSl l.length (evR l), rowO H.length (openL (rOpenB l) n), tSl l.length (evR l), .int .i64 l.length, .int .i64 n], ⟨H ++ blkO (openL (rOpenB l) n), none⟩))
    (fun _ _ => True) (fun r => r = (.exit 0, [rowO H.length (openL (rOpenB l) l.length)], ⟨H ++ blkO (openL (rOpenB l) l.length), none⟩))
    (fun n _ hn _ => by
      obtain ⟨x, hx⟩ : ∃ x, l[n]? = some x := ⟨_, List.getElem?_eq_getElem hn⟩
      have hn' : ((n : Int) < (l.length : Int)) := by omega
      have hix := ix_ref hn
      have hld := fun st => ev_load hx st
      have hw := wrap_succ (n := n) (by omega)
      have hk0 : (evc x)[0]? = some (.int .i64 x.kind) := by simp [evc]
      have hed := fun H => ended_ok hl (by omega) hn H
      have hlen := openL_len (rOpenB l) n
      have hob : rOpenB l n = (decide (x.kind = 0) && decide (endedI l n < 0)) := by simp [rOpenB, hx]
      have hnx : openL (rOpenB l) (n + 1) = if rOpenB l n = true then openL (rOpenB l) n ++ [(n : Int)] else openL (rOpenB l) n := rfl
      rw [hnx]
      generalize openL (rOpenB l) n = A at hlen
      refine .inr ?_
      cases hb : rOpenB l n with
      | true =>
        rw [hob, Bool.and_eq_true, decide_eq_true_eq, decide_eq_true_eq] at hb
        obtain ⟨h1, h2⟩ := hb
        simp only [if_true]
        refine ⟨_, _, (), ?_, ropen_gc2 A (n + 1) x n, trivial⟩
        cases A with
        | nil => simp only [twainref36_Open.loop3s, twainref36_Open.loop3, twainref36_Open.j1, twainref36_Open.j2, rowO, blkO, Option.bind_some, Option.map_some, bcase_true, bcase_false, List.getD_cons_zero, List.getD_cons_succ, bin_add, bin_sub, bin_mul, bin_eql, bin_neq, bin_lss, bin_leq, bin_gtr, bin_geq, un_not, pick_bool, decide_true, decide_false, Bool.not_true, Bool.not_false, joinEsc_none, oneOf_one, ext20, ext21, ext30, ext31, ext32, if_true, box_lit, box_int, box_bool, box_slice, box_map, box_ptr, box_tSl, store_lit, store_int, store_bool, store_slice, store_map, store_ptr, store_tSl, load_one, load_agg, app_cons2, List.cons_append, List.nil_append, len_app, List.length_cons, List.length_nil, Nat.zero_add, Nat.add_zero, Nat.reduceAdd, Nat.reduceLeDiff, Nat.le_refl, cellAt_app0, cellAt_app, cellsAt_app0, cellsAt_app, storeL_own0, storeL_own, cellAt_z, cellAt_s, cellsAt_z, cellsAt_s, putB_z, putB_s, List.getElem?_cons_zero, List.getElem?_cons_succ, List.drop_zero, List.drop_succ_cons, List.take_zero, List.take_succ_cons, allCells_cons, allCells_nil, cellV_int, cellV_bool, cellV_string, cellV_ptr, cellV_slice, cellV_map, cellV_func, cellV_nilFunc, cellV_tSl, Bool.and_self, Bool.and_true, Bool.true_and, and_self, true_and, and_true, Bool.false_eq_true, if_false, lrefs_nil, lrefs_cons, vrefs_bool, vrefs_int, vrefs_string, vrefs_ptr, vrefs_ptr0, vrefs_slice, vrefs_slice0, vrefs_map, vrefs_tSl, vrefs_tPtr, vrefs_agg, escOf_nil, Int.reduceEq, Int.reduceLT, Int.reduceLE, putCells_one0, putCells_succ, max_int, min_int, hn', hix, hld, zg_twainref34_Event, zl_twainref34_Event, za_twainref34_Event, evc_len, evc_cells, evc_refs, putCells_all, hk0, fa_twainref34_Event_0, hed, h1, h2, push_int_nil, hw, List.append_nil, List.map_cons, List.map_nil]
        | cons a tl =>
          have hpi := fun (L : List Blk) (e : Option Nat) (v : Int) (R : Type) (F : Value → AS → Option R) (hk : L[0]? = some (.cells (ints (a :: tl)) t_int true)) => push_int (H := H) (A := a :: tl) (by omega) (e := e) (v := v) (F := F) hk
          simp only [List.length_cons, List.map_cons] at hpi
          simp only [twainref36_Open.loop3s, twainref36_Open.loop3, twainref36_Open.j1, twainref36_Open.j2, rowO, blkO, Option.bind_some, Option.map_some, bcase_true, bcase_false, List.getD_cons_zero, List.getD_cons_succ, bin_add, bin_sub, bin_mul, bin_eql, bin_neq, bin_lss, bin_leq, bin_gtr, bin_geq, un_not, pick_bool, decide_true, decide_false, Bool.not_true, Bool.not_false, joinEsc_none, oneOf_one, ext20, ext21, ext30, ext31, ext32, if_true, box_lit, box_int, box_bool, box_slice, box_map, box_ptr, box_tSl, store_lit, store_int, store_bool, store_slice, store_map, store_ptr, store_tSl, load_one, load_agg, app_cons2, List.cons_append, List.nil_append, len_app, List.length_cons, List.length_nil, Nat.zero_add, Nat.add_zero, Nat.reduceAdd, Nat.reduceLeDiff, Nat.le_refl, cellAt_app0, cellAt_app, cellsAt_app0, cellsAt_app, storeL_own0, storeL_own, cellAt_z, cellAt_s, cellsAt_z, cellsAt_s, putB_z, putB_s, List.getElem?_cons_zero, List.getElem?_cons_succ, List.drop_zero, List.drop_succ_cons, List.take_zero, List.take_succ_cons, allCells_cons, allCells_nil, cellV_int, cellV_bool, cellV_string, cellV_ptr, cellV_slice, cellV_map, cellV_func, cellV_nilFunc, cellV_tSl, Bool.and_self, Bool.and_true, Bool.true_and, and_self, true_and, and_true, Bool.false_eq_true, if_false, lrefs_nil, lrefs_cons, vrefs_bool, vrefs_int, vrefs_string, vrefs_ptr, vrefs_ptr0, vrefs_slice, vrefs_slice0, vrefs_map, vrefs_tSl, vrefs_tPtr, vrefs_agg, escOf_nil, Int.reduceEq, Int.reduceLT, Int.reduceLE, putCells_one0, putCells_succ, max_int, min_int, hn', hix, hld, zg_twainref34_Event, zl_twainref34_Event, za_twainref34_Event, evc_len, evc_cells, evc_refs, putCells_all, hk0, fa_twainref34_Event_0, hed, h1, h2, hpi, hw, List.append_nil, List.set_cons_zero, List.map_append, List.map_cons, List.map_nil]
      | false =>
        simp only [Bool.false_eq_true, if_false]
        refine ⟨_, _, (), ?_, ropen_gc A (n + 1) x, trivial⟩
        rw [hob, Bool.and_eq_false_iff, decide_eq_false_iff_not, decide_eq_false_iff_not] at hb
        by_cases h1 : x.kind = 0
        · have h2 : ¬ endedI l n < 0 := by
            rcases hb with hb | hb
            · exact absurd h1 hb
            · exact hb
          cases A <;> simp only [twainref36_Open.loop3s, twainref36_Open.loop3, twainref36_Open.j1, twainref36_Open.j2, rowO, blkO, Option.bind_some, Option.map_some, bcase_true, bcase_false, List.getD_cons_zero, List.getD_cons_succ, bin_add, bin_sub, bin_mul, bin_eql, bin_neq, bin_lss, bin_leq, bin_gtr, bin_geq, un_not, pick_bool, decide_true, decide_false, Bool.not_true, Bool.not_false, joinEsc_none, oneOf_one, ext20, ext21, ext30, ext31, ext32, if_true, box_lit, box_int, box_bool, box_slice, box_map, box_ptr, box_tSl, store_lit, store_int, store_bool, store_slice, store_map, store_ptr, store_tSl, load_one, load_agg, app_cons2, List.cons_append, List.nil_append, len_app, List.length_cons, List.length_nil, Nat.zero_add, Nat.add_zero, Nat.reduceAdd, Nat.reduceLeDiff, Nat.le_refl, cellAt_app0, cellAt_app, cellsAt_app0, cellsAt_app, storeL_own0, storeL_own, cellAt_z, cellAt_s, cellsAt_z, cellsAt_s, putB_z, putB_s, List.getElem?_cons_zero, List.getElem?_cons_succ, List.drop_zero, List.drop_succ_cons, List.take_zero, List.take_succ_cons, allCells_cons, allCells_nil, cellV_int, cellV_bool, cellV_string, cellV_ptr, cellV_slice, cellV_map, cellV_func, cellV_nilFunc, cellV_tSl, Bool.and_self, Bool.and_true, Bool.true_and, and_self, true_and, and_true, Bool.false_eq_true, if_false, lrefs_nil, lrefs_cons, vrefs_bool, vrefs_int, vrefs_string, vrefs_ptr, vrefs_ptr0, vrefs_slice, vrefs_slice0, vrefs_map, vrefs_tSl, vrefs_tPtr, vrefs_agg, escOf_nil, Int.reduceEq, Int.reduceLT, Int.reduceLE, putCells_one0, putCells_succ, max_int, min_int, hn', hix, hld, zg_twainref34_Event, zl_twainref34_Event, za_twainref34_Event, evc_len, evc_cells, evc_refs, putCells_all, hk0, fa_twainref34_Event_0, hed, h1, h2, hw]
        · cases A <;> simp only [twainref36_Open.loop3s, twainref36_Open.loop3, twainref36_Open.j1, twainref36_Open.j2, rowO, blkO, Option.bind_some, Option.map_some, bcase_true, bcase_false, List.getD_cons_zero, List.getD_cons_succ, bin_add, bin_sub, bin_mul, bin_eql, bin_neq, bin_lss, bin_leq, bin_gtr, bin_geq, un_not, pick_bool, decide_true, decide_false, Bool.not_true, Bool.not_false, joinEsc_none, oneOf_one, ext20, ext21, ext30, ext31, ext32, if_true, box_lit, box_int, box_bool, box_slice, box_map, box_ptr, box_tSl, store_lit, store_int, store_bool, store_slice, store_map, store_ptr, store_tSl, load_one, load_agg, app_cons2, List.cons_append, List.nil_append, len_app, List.length_cons, List.length_nil, Nat.zero_add, Nat.add_zero, Nat.reduceAdd, Nat.reduceLeDiff, Nat.le_refl, cellAt_app0, cellAt_app, cellsAt_app0, cellsAt_app, storeL_own0, storeL_own, cellAt_z, cellAt_s, cellsAt_z, cellsAt_s, putB_z, putB_s, List.getElem?_cons_zero, List.getElem?_cons_succ, List.drop_zero, List.drop_succ_cons, List.take_zero, List.take_succ_cons, allCells_cons, allCells_nil, cellV_int, cellV_bool, cellV_string, cellV_ptr, cellV_slice, cellV_map, cellV_func, cellV_nilFunc, cellV_tSl, Bool.and_self, Bool.and_true, Bool.true_and, and_self, true_and, and_true, Bool.false_eq_true, if_false, lrefs_nil, lrefs_cons, vrefs_bool, vrefs_int, vrefs_string, vrefs_ptr, vrefs_ptr0, vrefs_slice, vrefs_slice0, vrefs_map, vrefs_tSl, vrefs_tPtr, vrefs_agg, escOf_nil, Int.reduceEq, Int.reduceLT, Int.reduceLE, putCells_one0, putCells_succ, max_int, min_int, hn', hix, hld, zg_twainref34_Event, zl_twainref34_Event, za_twainref34_Event, evc_len, evc_cells, evc_refs, putCells_all, hk0, fa_twainref34_Event_0, h1, hw])
    (fun _ _ => ⟨_, by simp only [twainref36_Open.loop3s, twainref36_Open.loop3, Option.bind_some, Option.map_some, bcase_true, bcase_false, List.getD_cons_zero, List.getD_cons_succ, bin_add, bin_sub, bin_mul, bin_eql, bin_neq, bin_lss, bin_leq, bin_gtr, bin_geq, un_not, pick_bool, decide_true, decide_false, Bool.not_true, Bool.not_false, joinEsc_none, oneOf_one, ext20, ext21, ext30, ext31, ext32, if_true, box_lit, box_int, box_bool, box_slice, box_map, box_ptr, box_tSl, store_lit, store_int, store_bool, store_slice, store_map, store_ptr, store_tSl, load_one, load_agg, app_cons2, List.cons_append, List.nil_append, len_app, List.length_cons, List.length_nil, Nat.zero_add, Nat.add_zero, Nat.reduceAdd, Nat.reduceLeDiff, Nat.le_refl, cellAt_app0, cellAt_app, cellsAt_app0, cellsAt_app, storeL_own0, storeL_own, cellAt_z, cellAt_s, cellsAt_z, cellsAt_s, putB_z, putB_s, List.getElem?_cons_zero, List.getElem?_cons_succ, List.drop_zero, List.drop_succ_cons, List.take_zero, List.take_succ_cons, allCells_cons, allCells_nil, cellV_int, cellV_bool, cellV_string, cellV_ptr, cellV_slice, cellV_map, cellV_func, cellV_nilFunc, cellV_tSl, Bool.and_self, Bool.and_true, Bool.true_and, and_self, true_and, and_true, Bool.false_eq_true, if_false, lrefs_nil, lrefs_cons, vrefs_bool, vrefs_int, vrefs_string, vrefs_ptr, vrefs_ptr0, vrefs_slice, vrefs_slice0, vrefs_map, vrefs_tSl, vrefs_tPtr, vrefs_agg, escOf_nil, Int.reduceEq, Int.reduceLT, Int.reduceLE, putCells_one0, putCells_succ, max_int, min_int, hlast], rfl⟩)
    l.length 0 () [tSl l.length (evR l), .slice none 0 0, tSl l.length (evR l), .int .i64 l.length, .int .i64 0] ⟨H, none⟩ (by omega) trivial (by
      have := gc_nil (H := H) (vs := [tSl l.length (evR l), .slice none 0 0, tSl l.length (evR l), .int .i64 l.length, .int .i64 0]) (by simp [evR_refs])
      simpa [openL, rowO, blkO] using this)
  subst hr
  rw [acall_eq, twainref36_Open.eq]
  simp only [twainref36_Open.sh, ln_ref, Option.bind_some, Option.map_some, bcase_true, bcase_false, List.getD_cons_zero, List.getD_cons_succ, bin_add, bin_sub, bin_mul, bin_eql, bin_neq, bin_lss, bin_leq, bin_gtr, bin_geq, un_not, pick_bool, decide_true, decide_false, Bool.not_true, Bool.not_false, joinEsc_none, oneOf_one, ext20, ext21, ext30, ext31, ext32, if_true, box_lit, box_int, box_bool, box_slice, box_map, box_ptr, box_tSl, store_lit, store_int, store_bool, store_slice, store_map, store_ptr, store_tSl, load_one, load_agg, app_cons2, List.cons_append, List.nil_append, len_app, List.length_cons, List.length_nil, Nat.zero_add, Nat.add_zero, Nat.reduceAdd, Nat.reduceLeDiff, Nat.le_refl, cellAt_app0, cellAt_app, cellsAt_app0, cellsAt_app, storeL_own0, storeL_own, cellAt_z, cellAt_s, cellsAt_z, cellsAt_s, putB_z, putB_s, List.getElem?_cons_zero, List.getElem?_cons_succ, List.drop_zero, List.drop_succ_cons, List.take_zero, List.take_succ_cons, allCells_cons, allCells_nil, cellV_int, cellV_bool, cellV_string, cellV_ptr, cellV_slice, cellV_map, cellV_func, cellV_nilFunc, cellV_tSl, Bool.and_self, Bool.and_true, Bool.true_and, and_self, true_and, and_true, Bool.false_eq_true, if_false, lrefs_nil, lrefs_cons, vrefs_bool, vrefs_int, vrefs_string, vrefs_ptr, vrefs_ptr0, vrefs_slice, vrefs_slice0, vrefs_map, vrefs_tSl, vrefs_tPtr, vrefs_agg, escOf_nil, Int.reduceEq, Int.reduceLT, Int.reduceLE, putCells_one0, putCells_succ, max_int, min_int, hlp, twainref36_Open.j4]
  have := fin_rowO (H := H) (openL (rOpenB l) l.length) [] none rfl
  simpa using this

end
end Go.Proofs.Ytfinilnkempofaa
