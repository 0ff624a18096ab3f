/- The program's pairs, and its sectors: what the code says. -/
import Derived.Test.YtfinilnkempofaaHistRef2
import Derived.Test.YtfinilnkempofaaAm26
set_option linter.all false
set_option linter.unusedVariables false
set_option linter.unusedSimpArgs false
set_option linter.unnecessarySimpa false
namespace Go.Proofs.Ytfinilnkempofaa
open Go Go.Am

theorem sl_sec (b : Nat) (st : AS) : aSlice PP t_api_Sector (.pointer (some ⟨b, 0, none⟩)) none none none st = some (.slice (some ⟨b, 0, none⟩) 16 16) := by kernel_rfl

theorem sl_byt {b : List Int} {i : Nat} (hi : i ≤ b.length) (hb : b.length < 1000000) (st : AS) : aSlice PP t_L_uint8 (tSl b.length (byt b)) (some (.int .i64 (i : Int))) none none st = some (tSl (b.length - i) (byt (b.drop i))) := by
  show aSlice PP t_L_uint8 (.iface b.length (.tuple (byt b).toArray)) _ _ _ st = _
  have hz : ((i : Int) : Int).toNat = i := by omega
  simp only [aSlice, u_L_uint8, sz_uint8, aBounds, UNK, if_true, Option.isSome_none]
  rw [if_pos (by omega)]
  simp only [hz]
  rw [if_pos ⟨hi, Nat.le_refl _, Nat.le_refl _, by simp, by omega⟩]
  simp only [tSlice, byt_len, List.size_toArray, UNK]
  rw [if_pos ⟨by omega, by omega⟩]
  have ht : List.take ((b.length - i) * 1) (List.drop (0 + i * 1) (byt b)) = byt (b.drop i) := by
    rw [List.take_of_length_le (by simp [byt])]
    simp [byt]
  rw [ht]

theorem copy_sec {b : List Int} {n bk : Nat} {st : AS} {R : Type} {k : Value → AS → Option R} (hn : n = b.length) (h16 : 16 ≤ n) :
    eBuiltin PP .copy #[t_L_uint8, t_L_uint8] [.slice (some ⟨bk, 0, none⟩) 16 16, tSl n (byt b)] st k = (storeL st bk 0 (byt (b.take 16))).bind fun s => k (.int .i64 16) s := by
  subst hn
  have hs : srcCells 1 st.H (tSl b.length (byt b)) = some (b.length, byt b) := by
    show srcCells 1 st.H (.iface b.length (.tuple (byt b).toArray)) = _
    simp [srcCells, tSrc, byt]
  have h0 : min b.length 16 = 16 := by omega
  simp only [eBuiltin, aCopy]
  have hu : (#[t_L_uint8, t_L_uint8] : Array TypeId)[0]? = some t_L_uint8 := rfl
  simp only [hu, u_L_uint8, sz_uint8, Option.getD_some, hs, h0]
  simp only [show ¬ (16 = 0) by decide, if_false, Nat.mul_one, byt_take]
  cases storeL st bk 0 (byt (b.take 16)) <;> rfl

theorem cut_ok {b : List Int} (hb : OkB b) {i : Nat} (hi : i ≤ 1073741824) (H : List Blk) : acall PP TT n_history_cut [tSl b.length (byt b), .int .i64 i] H = some (.agg (byt (secI b i)).toArray, H, none) := by
  have hbl := hb.1
  rw [acall_eq, history_cut.eq]
  have w1 : IntKind.i64.wrap ((i : Int) * 16) = ((16 * i : Nat) : Int) := by rw [wrap_in ⟨by omega, by omega⟩]; omega
  have w2 : IntKind.i64.wrap (((16 * i : Nat) : Int) + 16) = ((16 * i + 16 : Nat) : Int) := by rw [wrap_in ⟨by omega, by omega⟩]; omega
  have hge : (0 : Int) ≤ ((16 * i : Nat) : Int) := by omega
  by_cases hc : 16 * (i + 1) ≤ b.length
  · have hle : ((16 * i + 16 : Nat) : Int) ≤ (b.length : Int) := by omega
    have hs : secI b i = (b.drop (16 * i)).take 16 := by simp [secI, hc]
    have hsl := fun st => sl_byt (b := b) (i := 16 * i) (by omega) hbl st
    have hcp := fun {bk : Nat} {st : AS} {R : Type} {k : Value → AS → Option R} => copy_sec (b := b.drop (16 * i)) (n := b.length - 16 * i) (bk := bk) (st := st) (R := R) (k := k) (by simp) (by omega)
    rw [← hs] at hcp
    simp only [history_cut.sh, history_cut.j0, history_cut.j1, Option.bind_some, Option.map_some, bcase_true, bcase_false, List.getD_cons_zero, List.getD_cons_succ, bin_add, bin_sub, bin_mul, bin_eql, bin_neq, bin_lss, bin_leq, bin_gtr, bin_geq, un_not, pick_bool, decide_true, decide_false, Bool.not_true, Bool.not_false, joinEsc_none, oneOf_one, ext20, ext21, ext30, ext31, ext32, if_true, box_lit, box_int, box_bool, box_slice, box_map, box_ptr, box_tSl, store_lit, store_int, store_bool, store_slice, store_map, store_ptr, store_tSl, load_one, load_agg, app_cons2, List.cons_append, List.nil_append, len_app, List.length_cons, List.length_nil, Nat.zero_add, Nat.add_zero, Nat.reduceAdd, Nat.reduceLeDiff, Nat.le_refl, cellAt_app0, cellAt_app, cellsAt_app0, cellsAt_app, storeL_own0, storeL_own, cellAt_z, cellAt_s, cellsAt_z, cellsAt_s, putB_z, putB_s, List.getElem?_cons_zero, List.getElem?_cons_succ, List.drop_zero, List.drop_succ_cons, List.take_zero, List.take_succ_cons, allCells_cons, allCells_nil, cellV_int, cellV_bool, cellV_string, cellV_ptr, cellV_slice, cellV_map, cellV_func, cellV_nilFunc, cellV_tSl, Bool.and_self, Bool.and_true, Bool.true_and, and_self, true_and, and_true, Bool.false_eq_true, if_false, lrefs_nil, lrefs_cons, vrefs_bool, vrefs_int, vrefs_string, vrefs_ptr, vrefs_ptr0, vrefs_slice, vrefs_slice0, vrefs_map, vrefs_tSl, vrefs_tPtr, vrefs_agg, escOf_nil, Int.reduceEq, Int.reduceLT, Int.reduceLE, putCells_one0, putCells_succ, max_int, min_int, w1, w2, hge, hle, ln_byt, zg_api_Sector, z16_cells, byt_cells, sl_sec, hsl, hcp, byt_sec, z16_len, putCells_all, List.take_of_length_le, byt_refs]
    refine fin_lit ?_ ?_ rfl
    · simp [flatV, byt_flat]
    · simp [byt_refs]
  · have hle : ¬ ((16 * i + 16 : Nat) : Int) ≤ (b.length : Int) := by omega
    have hs : secI b i = z16 := by simp [secI, hc, z16]
    simp only [history_cut.sh, history_cut.j0, history_cut.j1, Option.bind_some, Option.map_some, bcase_true, bcase_false, List.getD_cons_zero, List.getD_cons_succ, bin_add, bin_sub, bin_mul, bin_eql, bin_neq, bin_lss, bin_leq, bin_gtr, bin_geq, un_not, pick_bool, decide_true, decide_false, Bool.not_true, Bool.not_false, joinEsc_none, oneOf_one, ext20, ext21, ext30, ext31, ext32, if_true, box_lit, box_int, box_bool, box_slice, box_map, box_ptr, box_tSl, store_lit, store_int, store_bool, store_slice, store_map, store_ptr, store_tSl, load_one, load_agg, app_cons2, List.cons_append, List.nil_append, len_app, List.length_cons, List.length_nil, Nat.zero_add, Nat.add_zero, Nat.reduceAdd, Nat.reduceLeDiff, Nat.le_refl, cellAt_app0, cellAt_app, cellsAt_app0, cellsAt_app, storeL_own0, storeL_own, cellAt_z, cellAt_s, cellsAt_z, cellsAt_s, putB_z, putB_s, List.getElem?_cons_zero, List.getElem?_cons_succ, List.drop_zero, List.drop_succ_cons, List.take_zero, List.take_succ_cons, allCells_cons, allCells_nil, cellV_int, cellV_bool, cellV_string, cellV_ptr, cellV_slice, cellV_map, cellV_func, cellV_nilFunc, cellV_tSl, Bool.and_self, Bool.and_true, Bool.true_and, and_self, true_and, and_true, Bool.false_eq_true, if_false, lrefs_nil, lrefs_cons, vrefs_bool, vrefs_int, vrefs_string, vrefs_ptr, vrefs_ptr0, vrefs_slice, vrefs_slice0, vrefs_map, vrefs_tSl, vrefs_tPtr, vrefs_agg, escOf_nil, Int.reduceEq, Int.reduceLT, Int.reduceLE, putCells_one0, putCells_succ, max_int, min_int, w1, w2, hge, hle, ln_byt, zg_api_Sector, z16_cells, byt_cells, z16_len, putCells_all, List.take_of_length_le, byt_refs, hs]
    refine fin_lit ?_ ?_ rfl
    · simp [flatV, byt_flat]
    · simp [byt_refs]

/-! ### Keys -/

abbrev keyV (w t : Int) : Value := .agg [Value.int .i64 w, Value.int .i64 t].toArray
theorem bd_key (x y : Int) : aBuild PP t_history_key [(0, .int .i64 x), (1, .int .i64 y)] = some (keyV x y) := by kernel_rfl

theorem of_ok (x : Ev) (H : List Blk) : acall PP TT n_history_of [.agg (evc x).toArray] H = some (keyV x.who x.ticket, H, none) := by
  rw [acall_eq, history_of.eq]
  simp only [history_of.sh, evc, Option.bind_some, Option.map_some, bcase_true, bcase_false, List.getD_cons_zero, List.getD_cons_succ, bin_add, bin_sub, bin_mul, bin_eql, bin_neq, bin_lss, bin_leq, bin_gtr, bin_geq, un_not, pick_bool, decide_true, decide_false, Bool.not_true, Bool.not_false, joinEsc_none, oneOf_one, ext20, ext21, ext30, ext31, ext32, if_true, box_lit, box_int, box_bool, box_slice, box_map, box_ptr, box_tSl, store_lit, store_int, store_bool, store_slice, store_map, store_ptr, store_tSl, load_one, load_agg, app_cons2, List.cons_append, List.nil_append, len_app, List.length_cons, List.length_nil, Nat.zero_add, Nat.add_zero, Nat.reduceAdd, Nat.reduceLeDiff, Nat.le_refl, cellAt_app0, cellAt_app, cellsAt_app0, cellsAt_app, storeL_own0, storeL_own, cellAt_z, cellAt_s, cellsAt_z, cellsAt_s, putB_z, putB_s, List.getElem?_cons_zero, List.getElem?_cons_succ, List.drop_zero, List.drop_succ_cons, List.take_zero, List.take_succ_cons, allCells_cons, allCells_nil, cellV_int, cellV_bool, cellV_string, cellV_ptr, cellV_slice, cellV_map, cellV_func, cellV_nilFunc, cellV_tSl, Bool.and_self, Bool.and_true, Bool.true_and, and_self, true_and, and_true, Bool.false_eq_true, if_false, lrefs_nil, lrefs_cons, vrefs_bool, vrefs_int, vrefs_string, vrefs_ptr, vrefs_ptr0, vrefs_slice, vrefs_slice0, vrefs_map, vrefs_tSl, vrefs_tPtr, vrefs_agg, escOf_nil, Int.reduceEq, Int.reduceLT, Int.reduceLE, putCells_one0, putCells_succ, max_int, min_int, fa_world_Event_1, fa_world_Event_2, zg_history_key, z_history_key, bd_key, putCells_all]
  exact fin_lit rfl rfl rfl

/-! ### Pairs -/

/-- what has been paired: the askings, the ends of some, and whether something was odd -/
structure PS where
  A : List ((Int × Int) × Nat)
  E : List (Nat × Nat)
  odd : Bool

def KA (p : (Int × Int) × Nat) : Value := keyV p.1.1 p.1.2
def VA (p : (Int × Int) × Nat) : Value := .int .i64 p.2
def KE (p : Nat × Nat) : Value := .int .i64 p.1
def VE (p : Nat × Nat) : Value := .int .i64 p.2
def lookA (A : List ((Int × Int) × Nat)) (w t : Int) : Option Nat := (A.find? fun p => decide (p.1 = (w, t))).map (·.2)
def lookE (E : List (Nat × Nat)) (n : Nat) : Option Nat := (E.find? fun p => decide (p.1 = n)).map (·.2)

def pstep (s : PS) (i : Nat) (x : Ev) : PS :=
  let f := lookA s.A x.who x.ticket
  if x.kind = 0 then
    match f with
    | some _ => { s with odd := true }
    | none => { s with A := s.A ++ [((x.who, x.ticket), i)] }
  else if x.kind = 1 then
    match f with
    | none => { s with odd := true }
    | some n => match lookE s.E n with
      | some _ => { s with odd := true }
      | none => { s with E := s.E ++ [(n, i)] }
  else s

def pairS (l : List Ev) : Nat → PS
  | 0 => ⟨[], [], false⟩
  | n + 1 => match l[n]? with
    | some x => pstep (pairS l n) n x
    | none => pairS l n

/-- what stands in it fits -/
structure OkPS (n : Nat) (s : PS) : Prop where
  a : ∀ p ∈ s.A, isI p.1.1 ∧ isI p.1.2 ∧ p.2 < n
  e : ∀ p ∈ s.E, p.1 < n ∧ p.2 < n

theorem lookA_mem {A : List ((Int × Int) × Nat)} {w t : Int} {n : Nat} (h : lookA A w t = some n) : ((w, t), n) ∈ A := by
  unfold lookA at h
  cases hf : A.find? fun p => decide (p.1 = (w, t)) with
  | none => rw [hf] at h; simp at h
  | some p =>
    rw [hf] at h
    simp at h
    have h1 := List.find?_some hf
    have h2 := List.mem_of_find?_eq_some hf
    simp only [decide_eq_true_eq] at h1
    obtain ⟨a, b⟩ := p
    simp only at h h1
    subst h h1
    exact h2

theorem OkPS.step {n : Nat} {s : PS} (h : OkPS n s) {x : Ev} (hx : OkEv x) : OkPS (n + 1) (pstep s n x) := by
  have up : OkPS (n + 1) s := ⟨fun p hp => by have := h.a p hp; exact ⟨this.1, this.2.1, by omega⟩, fun p hp => by have := h.e p hp; omega⟩
  unfold pstep
  dsimp only
  split
  · split
    · exact ⟨up.a, up.e⟩
    · refine ⟨fun p hp => ?_, up.e⟩
      rcases List.mem_append.1 hp with hp | hp
      · exact up.a p hp
      · simp at hp; subst hp; exact ⟨hx.who, hx.ticket, by simp⟩
  · split
    · split
      · exact ⟨up.a, up.e⟩
      · rename_i m hm
        split
        · exact ⟨up.a, up.e⟩
        · refine ⟨up.a, fun p hp => ?_⟩
          rcases List.mem_append.1 hp with hp | hp
          · exact up.e p hp
          · simp at hp; subst hp
            have := (h.a _ (lookA_mem hm)).2.2
            simp only at this ⊢
            omega
    · exact up

theorem pairS_ok {l : List Ev} (hl : OkEvs l) : ∀ n, n ≤ l.length → OkPS n (pairS l n)
  | 0, _ => ⟨fun p hp => by simp [pairS] at hp, fun p hp => by simp [pairS] at hp⟩
  | n + 1, h => by
    have ih := pairS_ok hl n (by omega)
    have hx : l[n]? = some l[n] := List.getElem?_eq_getElem (by omega)
    simp only [pairS, hx]
    exact ih.step (hl _ (List.mem_of_getElem? hx))

theorem flatKey : FlatAgg PP t_history_key := ⟨by kernel_rfl, by kernel_rfl, by kernel_rfl⟩
theorem flatInt : flatT PP 12 t_int = true := by kernel_rfl
theorem i64_min : IntKind.i64.min = -9223372036854775808 := by kernel_rfl
theorem i64_max : IntKind.i64.max = 9223372036854775807 := by kernel_rfl
theorem tokInt {n : Int} (h : isI n) : TOk PP t_int [.int .i64 n] := by
  refine .int n u_int ?_
  unfold isI at h
  rw [i64_min, i64_max]
  omega
theorem tokKey {w t : Int} (hw : isI w) (ht : isI t) : TOk PP t_history_key [.int .i64 w, .int .i64 t] :=
  TOk.struct' (ps := [[.int .i64 w], [.int .i64 t]]) us_history_key ty_history_key ⟨tokInt hw, tokInt ht, trivial⟩

def kcA (p : (Int × Int) × Nat) : List Value := [.int .i64 p.1.1, .int .i64 p.1.2]
def kcE (p : Nat × Nat) : List Value := [.int .i64 p.1]
theorem argInt (n : Int) : argV PP t_int [.int .i64 n] = .int .i64 n := by unfold argV; rw [u_int]; rfl

section
variable {H0 l : List Blk} {e : Option Nat} {n : Nat} {s : PS} (h : OkPS n s) (hn : n < 1000000)
include h

theorem lk_at {k c : Nat} {w t : Int} (hw : isI w) (ht : isI t) (hb : l[k]? = some (.map (entries KA VA 0 s.A) c)) :
    aLookup PP t_M_history_key_int (.map (some (H0.length + k))) (keyV w t) true ⟨H0 ++ l, e⟩ = some (.tuple #[.int .i64 (((lookA s.A w t).getD 0 : Nat) : Int), .bool (lookA s.A w t).isSome]) := by
  have := look_ent (P := PP) (K := KA) (V := VA) (kc := kcA) u_M_history_key_int zv_int rfl flatKey.flat (st := ⟨H0 ++ l, e⟩) (r := H0.length + k) (xs := s.A) (fun x hx => by rw [flatKey.argV]; rfl) (fun x hx => tokKey (h.a x hx).1 (h.a x hx).2.1) (by rw [get_app]; exact hb) (tokKey hw ht) (p := fun p => decide (p.1 = (w, t))) (fun x _ => by
    obtain ⟨⟨a, b⟩, c⟩ := x
    simp [kcA])
  rw [flatKey.argV] at this
  rw [this]
  unfold lookA
  cases s.A.find? fun p => decide (p.1 = (w, t)) <;> rfl

theorem up_at {k : Nat} {w t : Int} {i : Nat} (hw : isI w) (ht : isI t) (hb : l[k]? = some (.map (entries KA VA 0 s.A) s.A.length)) (hnew : lookA s.A w t = none) :
    aMapUpdate PP t_M_history_key_int (.map (some (H0.length + k))) (keyV w t) (.int .i64 i) ⟨H0 ++ l, e⟩ = some ⟨H0 ++ l.set k (.map (entries KA VA 0 (s.A ++ [((w, t), i)])) (s.A.length + 1)), e⟩ := by
  have := upd_ent (P := PP) (K := KA) (V := VA) (kc := kcA) u_M_history_key_int flatKey.flat (st := ⟨H0 ++ l, e⟩) (r := H0.length + k) (xs := s.A) (fun x hx => by rw [flatKey.argV]; rfl) (fun x hx => tokKey (h.a x hx).1 (h.a x hx).2.1) (by rw [get_app]; exact hb) (x := ((w, t), i)) (by rw [flatKey.argV]; rfl) rfl (tokKey hw ht) (fun y hy he => by
    unfold lookA at hnew
    simp only [Option.map_eq_none_iff, List.find?_eq_none, decide_eq_true_eq] at hnew
    refine hnew y hy ?_
    obtain ⟨⟨a, b⟩, c⟩ := y
    simpa [kcA] using he)
  rw [flatKey.argV] at this
  have h2 : (VA ((w, t), i) : Value) = .int .i64 i := rfl
  rw [h2] at this
  rw [this, set_app]
  rfl

theorem lk_en {k c m : Nat} (hm : m < 1000000) (hn : n < 1000000) (hb : l[k]? = some (.map (entries KE VE 0 s.E) c)) :
    aLookup PP t_M_int_int (.map (some (H0.length + k))) (.int .i64 m) true ⟨H0 ++ l, e⟩ = some (.tuple #[.int .i64 (((lookE s.E m).getD 0 : Nat) : Int), .bool (lookE s.E m).isSome]) := by
  have := look_ent (P := PP) (K := KE) (V := VE) (kc := kcE) u_M_int_int zv_int rfl flatInt (st := ⟨H0 ++ l, e⟩) (r := H0.length + k) (xs := s.E) (fun x hx => by rw [show kcE x = [.int .i64 x.1] from rfl, argInt]; rfl) (fun x hx => tokInt (by have := h.e x hx; unfold isI; omega)) (by rw [get_app]; exact hb) (q := [.int .i64 m]) (tokInt (by unfold isI; omega)) (p := fun p => decide (p.1 = m)) (fun x _ => by
    simp [kcE]
    omega)
  rw [argInt] at this
  rw [this]
  unfold lookE
  cases s.E.find? fun p => decide (p.1 = m) <;> rfl

theorem up_en {k m i : Nat} (hm : m < 1000000) (hn : n < 1000000) (hb : l[k]? = some (.map (entries KE VE 0 s.E) s.E.length)) (hnew : lookE s.E m = none) :
    aMapUpdate PP t_M_int_int (.map (some (H0.length + k))) (.int .i64 m) (.int .i64 i) ⟨H0 ++ l, e⟩ = some ⟨H0 ++ l.set k (.map (entries KE VE 0 (s.E ++ [(m, i)])) (s.E.length + 1)), e⟩ := by
  have := upd_ent (P := PP) (K := KE) (V := VE) (kc := kcE) u_M_int_int flatInt (st := ⟨H0 ++ l, e⟩) (r := H0.length + k) (xs := s.E) (fun x hx => by rw [show kcE x = [.int .i64 x.1] from rfl, argInt]; rfl) (fun x hx => tokInt (by have := h.e x hx; unfold isI; omega)) (by rw [get_app]; exact hb) (x := (m, i)) (q := [.int .i64 m]) (by rw [argInt]; rfl) rfl (tokInt (by unfold isI; omega)) (fun y hy he => by
    unfold lookE at hnew
    simp only [Option.map_eq_none_iff, List.find?_eq_none, decide_eq_true_eq] at hnew
    refine hnew y hy ?_
    simp [kcE] at he
    omega)
  rw [argInt] at this
  have h2 : (VE (m, i) : Value) = .int .i64 i := rfl
  rw [h2] at this
  rw [this, set_app]
  rfl
end

theorem KA_refs (p : (Int × Int) × Nat) : vrefs (KA p) = [] := rfl
theorem VA_refs (p : (Int × Int) × Nat) : vrefs (VA p) = [] := rfl
theorem KE_refs (p : Nat × Nat) : vrefs (KE p) = [] := rfl
theorem VE_refs (p : Nat × Nat) : vrefs (VE p) = [] := rfl
def mapA (s : PS) : Blk := .map (entries KA VA 0 s.A) s.A.length
def mapE (s : PS) : Blk := .map (entries KE VE 0 s.E) s.E.length
theorem mapA_refs (s : PS) : blkRefs (mapA s) = [] := entries_refs VA_refs KA_refs 0 s.A
theorem mapE_refs (s : PS) : blkRefs (mapE s) = [] := entries_refs VE_refs KE_refs 0 s.E
theorem mapA_ren (σ : Nat → Nat) (s : PS) : renBlk σ (mapA s) = mapA s := by
  simp only [mapA, renBlk]
  rw [entries_ren VA_refs KA_refs]
theorem mapE_ren (σ : Nat → Nat) (s : PS) : renBlk σ (mapE s) = mapE s := by
  simp only [mapE, renBlk]
  rw [entries_ren VE_refs KE_refs]

end Go.Proofs.Ytfinilnkempofaa
