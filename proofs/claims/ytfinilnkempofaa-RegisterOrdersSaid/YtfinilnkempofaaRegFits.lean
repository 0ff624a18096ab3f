/- A part of the proof: RegFits. Its conditions: none. -/
import Derived.Test.YtfinilnkempofaaRegRow
set_option linter.all false
set_option linter.unusedVariables false
set_option linter.unusedSimpArgs false
set_option linter.unnecessarySimpa false
namespace Go.Proofs.Ytfinilnkempofaa
open Go Go.Am Go.Reg

/-- from a place in the row on, all stands right -/
def FitsGo (l : List (Rw (List Value))) (row : List Int) : Nat → List Value → List Int → Prop
  | _, _, [] => True
  | i, u, n :: rs => ∃ x, 0 ≤ n ∧ l[n.toNat]? = some x ∧ placeFrom row n 0 = (i : Int) ∧ (x.w = false → x.v = u) ∧
      (∀ (k : Nat) y, l[k]? = some y → aheadR y x = true → 0 ≤ placeFrom row (k : Int) 0 ∧ placeFrom row (k : Int) 0 ≤ (i : Int)) ∧ FitsGo l row (i + 1) (if x.w = true then x.v else u) rs

/-- what stands of the blocks that were there, and the blocks of one's own -/
structure FSt (H0 H : List Blk) : Prop where
  pre : ∀ j, j < H0.length → H[j]? = H0[j]?
  len : H0.length ≤ H.length

theorem FSt.refl (H0 : List Blk) : FSt H0 H0 := ⟨fun _ _ => rfl, Nat.le_refl _⟩
theorem FSt.app {H0 H : List Blk} (h : FSt H0 H) (L : List Blk) : FSt H0 (H ++ L) := ⟨fun j hj => by rw [List.getElem?_append_left (by have := h.len; omega)]; exact h.pre j hj, by have := h.len; simp; omega⟩
theorem FSt.set {H0 H : List Blk} (h : FSt H0 H) {b : Nat} (hb : H0.length ≤ b) (x : Blk) : FSt H0 (H.set b x) := ⟨fun j hj => by rw [List.getElem?_set_ne (by omega)]; exact h.pre j hj, by have := h.len; simpa using this⟩
theorem FSt.gc {H0 : List Blk} {st : AS} (h : FSt H0 st.H) (vs : List Value) : FSt H0 (Am.gc H0.length vs st).2.H := by
  obtain ⟨_, _, g2, _, g4⟩ := gc_spec H0.length vs st
  exact ⟨fun j hj => by rw [(g2 j hj).2]; exact h.pre j hj, g4 h.len⟩

section
variable {l : List (Rw (List Value))} {row : List Int}

theorem nums_lrefs (r : List Int) : lrefs (nums r) = [] := nums_refs r

/-- all that end ahead of an op stand ahead of it -/
theorem fits_inner (hl : OkOps l) (hm : l.length < 2 ^ 62) (hrm : row.length < 2 ^ 62) {H0 : List Blk} {u : List Value} {x : Rw (List Value)} (hx : OkRw x) (hu : TOk PP t_api_Sector u) {i p xb : Nat} {st : AS} (hst : FSt H0 st.H) (hp : H0.length ≤ p) (hpg : st.H[p]? = some (.cells u t_api_Sector true)) (hxb : H0.length ≤ xb) (hxg : st.H[xb]? = some (.cells (opc x) t_twainref36_Op true)) :
    ∃ r, loopG H0.length (twainref37_Fits.loop13s (acall PP TT) loopG H0.length) ([tSl l.length (opsC l), tSl row.length (nums row), .pointer (some ⟨p, 0, none⟩), .int .i64 i, .pointer (some ⟨xb, 0, none⟩), tSl row.length (nums row), .int .i64 row.length, .int .i64 i, tSl l.length (opsC l), .int .i64 l.length, .int .i64 0], st) = some r ∧
      ((∃ (t : Value) (st : AS), r = (.ret, [tSl l.length (opsC l), tSl row.length (nums row), .bool false, t, tSl row.length (nums row), .int .i64 row.length, .int .i64 i], st) ∧ FSt H0 st.H ∧ ∃ (k : Nat) (y : _), l[k]? = some y ∧ aheadR y x = true ∧ ¬ (0 ≤ placeFrom row (k : Int) 0 ∧ placeFrom row (k : Int) 0 ≤ (i : Int))) ∨
       (∃ (p : Nat) (st : AS), r = (.exit 2, [tSl l.length (opsC l), tSl row.length (nums row), unk, .pointer (some ⟨p, 0, none⟩), tSl row.length (nums row), .int .i64 row.length, .int .i64 i], st) ∧ FSt H0 st.H ∧ H0.length ≤ p ∧ st.H[p]? = some (.cells u t_api_Sector true) ∧ ∀ (k : Nat) y, l[k]? = some y → aheadR y x = true → 0 ≤ placeFrom row (k : Int) 0 ∧ placeFrom row (k : Int) 0 ≤ (i : Int))) := by
  obtain ⟨u1, u2, qu_int⟩ := sec_cells hu
  obtain ⟨x1, x2, x3⟩ := opc_cells hx
  have xn := opc_len hx
  have hlr := opsC_refs hl
  have hvl : vrefs (tSl l.length (opsC l)) = [] := by simp [hlr]
  have hvr : vrefs (tSl row.length (nums row)) = [] := by simp [nums_refs]
  have hvs : ∀ σ, vren σ (tSl l.length (opsC l)) = tSl l.length (opsC l) := fun σ => vren_same _ (fun b hb => by rw [hvl] at hb; simp at hb)
  have hvt : ∀ σ, vren σ (tSl row.length (nums row)) = tSl row.length (nums row) := fun σ => vren_same _ (fun b hb => by rw [hvr] at hb; simp at hb)
  refine loop_inv (len := l.length) (fun k X => ∃ (p xb : Nat) (st : AS), X = ([tSl l.length (opsC l), tSl row.length (nums row), .pointer (some ⟨p, 0, none⟩), .int .i64 i, .pointer (some ⟨xb, 0, none⟩), tSl row.length (nums row), .int .i64 row.length, .int .i64 i, tSl l.length (opsC l), .int .i64 l.length, .int .i64 k], st) ∧
      FSt H0 st.H ∧ H0.length ≤ p ∧ st.H[p]? = some (.cells u t_api_Sector true) ∧ H0.length ≤ xb ∧ st.H[xb]? = some (.cells (opc x) t_twainref36_Op true) ∧ ∀ (q : Nat) y, q < k → l[q]? = some y → aheadR y x = true → 0 ≤ placeFrom row (q : Int) 0 ∧ placeFrom row (q : Int) 0 ≤ (i : Int)) _ ?_ ?_ ?_ l.length 0 _ (by omega)
      ⟨p, xb, st, rfl, hst, hp, hpg, hxb, hxg, fun q y hq => by omega⟩
  · rintro k X ⟨p, xb, st, rfl, h1, h2, h3, h4, h5, h6⟩
    have hrefs : lrefs [tSl l.length (opsC l), tSl row.length (nums row), .pointer (some ⟨p, 0, none⟩), .int .i64 i, .pointer (some ⟨xb, 0, none⟩), tSl row.length (nums row), .int .i64 row.length, .int .i64 i, tSl l.length (opsC l), .int .i64 l.length, .int .i64 k] = [p, xb] := by simp [hlr, nums_refs]
    obtain ⟨σ, g1, g2, g3⟩ := gc_flat H0.length [tSl l.length (opsC l), tSl row.length (nums row), .pointer (some ⟨p, 0, none⟩), .int .i64 i, .pointer (some ⟨xb, 0, none⟩), tSl row.length (nums row), .int .i64 row.length, .int .i64 i, tSl l.length (opsC l), .int .i64 l.length, .int .i64 k] st (fun r hr => by
      rw [hrefs] at hr
      simp at hr
      rcases hr with rfl | rfl
      · exact ⟨_, _, _, h3, u2⟩
      · exact ⟨_, _, _, h5, x2⟩)
    rw [hrefs] at g3
    obtain ⟨a1, a2⟩ := g3 p (by simp)
    obtain ⟨b1, b2⟩ := g3 xb (by simp)
    refine ⟨σ p, σ xb, _, Prod.ext ?_ rfl, h1.gc _, a1 h2, a2 _ h3, b1 h4, b2 _ h5, h6⟩
    rw [g1]
    simp [lren, hvs, hvt, vren]
  · rintro k X hk ⟨p, xb, ⟨H, e⟩, rfl, h1, h2, h3, h4, h5, h6⟩
    simp only at h1 h3 h5
    obtain ⟨y, hy⟩ : ∃ y, l[k]? = some y := ⟨_, List.getElem?_eq_getElem hk⟩
    have hyo := hl y (List.mem_of_getElem? hy)
    obtain ⟨c1, c2, c3⟩ := opc_cells hyo
    have cn := opc_len hyo
    have hk' : ((k : Int) < (l.length : Int)) := by omega
    have hrd : Rd H (tSl l.length (opsC l)) l.length (opsC l) := .tree _ _
    have hix := hrd.index (P := PP) qu_L_twainref36_Op qsz_twainref36_Op (k := .i64) (i := (k : Int)) (by omega) hk'
    simp at hix
    have hld := op_load hrd hl hy e
    have hstb : storeL ⟨H ++ [Blk.cells qz_twainref36_Op t_twainref36_Op true], e⟩ H.length 0 (opc y) = some ⟨H ++ [Blk.cells (opc y) t_twainref36_Op true], e⟩ := by
      rw [storeL_app0]
      simp [storeL, cn, qzl_twainref36_Op, c1, putCells_all, c2, escOf]
    have hl2 : cellsAt (H ++ [Blk.cells (opc y) t_twainref36_Op true]) H.length 0 19 = some (opc y) := by
      rw [cellsAt_app0]; simp [cellsAt, cn, opc_take hyo]
    have hl3 : cellsAt (H ++ [Blk.cells (opc y) t_twainref36_Op true]) xb 0 19 = some (opc x) := by
      simp only [cellsAt, List.getElem?_append_left (lt_of_get h5), h5]
      simp [xn, opc_take hx]
    have hw' : IntKind.i64.wrap ((k : Int) + 1) = ((k + 1 : Nat) : Int) := by rw [i64_wrap (by omega)]; omega
    have hpl := place_ok (H := H ++ [Blk.cells (opc y) t_twainref36_Op true]) (v := tSl row.length (nums row)) (l := row) (.tree _ _) (by rw [hvr]; simp) hrm (k : Int)
    have hah := ahead_ok hyo hx (H ++ [Blk.cells (opc y) t_twainref36_Op true])
    by_cases hg : aheadR y x = true ∧ ¬ (0 ≤ placeFrom row (k : Int) 0 ∧ placeFrom row (k : Int) 0 ≤ (i : Int))
    · refine .inl ⟨_, ?_, .inl ⟨.pointer (some ⟨p, 0, none⟩), ⟨H ++ [Blk.cells (opc y) t_twainref36_Op true], e⟩, rfl, h1.app _, k, y, hy, hg.1, hg.2⟩⟩
      by_cases hneg : placeFrom row (k : Int) 0 < 0
      · simp only [twainref37_Fits.loop13s, twainref37_Fits.loop13, List.getD_cons_zero, List.getD_cons_succ, bin_lss, Option.bind_some, hk', decide_true, bcase_true, hix, hld, qzg_twainref36_Op, box_agg qza_twainref36_Op, store_agg cn, hstb, hpl, joinEsc_none, load_agg, hl2, hl3, Option.map_some, hah, hg.1, hneg, twainref37_Fits.j7]
      · have hgt : (i : Int) < placeFrom row (k : Int) 0 := by omega
        simp only [twainref37_Fits.loop13s, twainref37_Fits.loop13, List.getD_cons_zero, List.getD_cons_succ, bin_lss, Option.bind_some, hk', decide_true, bcase_true, hix, hld, qzg_twainref36_Op, box_agg qza_twainref36_Op, store_agg cn, hstb, hpl, joinEsc_none, load_agg, hl2, hl3, Option.map_some, hah, hg.1, hneg, decide_false, bcase_false, bin_gtr, hgt, twainref37_Fits.j7]
    · refine .inr ⟨_, ?_, p, xb, ⟨H ++ [Blk.cells (opc y) t_twainref36_Op true], e⟩, rfl, h1.app _, h2, by rw [List.getElem?_append_left (lt_of_get h3)]; exact h3, h4, by rw [List.getElem?_append_left (lt_of_get h5)]; exact h5, fun q z hq hz hza => ?_⟩
      · cases hab : aheadR y x with
        | false => simp only [twainref37_Fits.loop13s, twainref37_Fits.loop13, List.getD_cons_zero, List.getD_cons_succ, bin_lss, Option.bind_some, hk', decide_true, bcase_true, hix, hld, qzg_twainref36_Op, box_agg qza_twainref36_Op, store_agg cn, hstb, hpl, joinEsc_none, load_agg, hl2, hl3, Option.map_some, hah, hab, bcase_false, twainref37_Fits.j7, twainref37_Fits.j8, bin_add, hw']
        | true =>
          have hpp : 0 ≤ placeFrom row (k : Int) 0 ∧ placeFrom row (k : Int) 0 ≤ (i : Int) := Classical.byContradiction fun hc => hg ⟨hab, hc⟩
          have hneg : ¬ placeFrom row (k : Int) 0 < 0 := by omega
          have hgt : ¬ (i : Int) < placeFrom row (k : Int) 0 := by omega
          simp only [twainref37_Fits.loop13s, twainref37_Fits.loop13, List.getD_cons_zero, List.getD_cons_succ, bin_lss, Option.bind_some, hk', decide_true, bcase_true, hix, hld, qzg_twainref36_Op, box_agg qza_twainref36_Op, store_agg cn, hstb, hpl, joinEsc_none, load_agg, hl2, hl3, Option.map_some, hah, hab, hneg, decide_false, bcase_false, bin_gtr, hgt, twainref37_Fits.j7, twainref37_Fits.j8, bin_add, hw']
      · by_cases hqk : q = k
        · subst hqk
          rw [hy] at hz; simp at hz; subst hz
          exact Classical.byContradiction fun hc => hg ⟨hza, hc⟩
        · exact h6 q z (by omega) hz hza
  · rintro X ⟨p, xb, st, rfl, h1, h2, h3, h4, h5, h6⟩
    refine ⟨_, ?_, .inr ⟨p, st, rfl, h1, h2, h3, fun k y hy ha => h6 k y (lt_of_get hy) hy ha⟩⟩
    simp [twainref37_Fits.loop13s, twainref37_Fits.loop13, bin_lss, bcase_if]

theorem opc_v {x : Rw (List Value)} (h : OkRw x) : ((opc x).drop 1).take 16 = x.v := by
  have := sec_len h.v
  simp only [opc, List.drop_succ_cons, List.drop_zero]
  rw [List.take_append_of_le_length (by omega), List.take_of_length_le (by omega)]

theorem fits_step {i m : Nat} {v : List Value} {rs : List Int} {x : Rw (List Value)} (hx : l[m]? = some x) (hpi : placeFrom row (m : Int) 0 = (i : Int)) :
    FitsGo l row i v ((m : Int) :: rs) ↔ (x.w = false → x.v = v) ∧ (∀ (k : Nat) y, l[k]? = some y → aheadR y x = true → 0 ≤ placeFrom row (k : Int) 0 ∧ placeFrom row (k : Int) 0 ≤ (i : Int)) ∧ FitsGo l row (i + 1) (if x.w = true then x.v else v) rs := by
  simp only [FitsGo]
  constructor
  · rintro ⟨x', _, h1, _, h2, h3, h4⟩
    have : x' = x := by rw [Int.toNat_natCast, hx] at h1; simpa using h1.symm
    subst this
    exact ⟨h2, h3, h4⟩
  · rintro ⟨h2, h3, h4⟩
    exact ⟨x, Int.natCast_nonneg m, by rw [Int.toNat_natCast]; exact hx, hpi, h2, h3, h4⟩

open Classical in
/-- the row, place by place -/
theorem fits_outer (hl : OkOps l) (hm : l.length < 2 ^ 62) (hrm : row.length < 2 ^ 62) {H0 : List Blk} {u : List Value} (hu : TOk PP t_api_Sector u) {p : Nat} {st : AS} (hst : FSt H0 st.H) (hp : H0.length ≤ p) (hpg : st.H[p]? = some (.cells u t_api_Sector true)) :
    ∃ r, loopG H0.length (twainref37_Fits.loop3s (acall PP TT) loopG H0.length) ([tSl l.length (opsC l), tSl row.length (nums row), .pointer (some ⟨p, 0, none⟩), tSl row.length (nums row), .int .i64 row.length, .int .i64 0], st) = some r ∧
      ((∃ st : AS, r = (.ret, [tSl l.length (opsC l), tSl row.length (nums row), .bool false], st) ∧ FSt H0 st.H ∧ ¬ FitsGo l row 0 u row) ∨
       (∃ st : AS, r = (.exit 0, [tSl l.length (opsC l), tSl row.length (nums row), unk], st) ∧ FSt H0 st.H ∧ FitsGo l row 0 u row)) := by
  have hlr := opsC_refs hl
  have hvl : vrefs (tSl l.length (opsC l)) = [] := by simp [hlr]
  have hvr : vrefs (tSl row.length (nums row)) = [] := by simp [nums_refs]
  have hvs : ∀ σ, vren σ (tSl l.length (opsC l)) = tSl l.length (opsC l) := fun σ => vren_same _ (fun b hb => by rw [hvl] at hb; simp at hb)
  have hvt : ∀ σ, vren σ (tSl row.length (nums row)) = tSl row.length (nums row) := fun σ => vren_same _ (fun b hb => by rw [hvr] at hb; simp at hb)
  refine loop_inv (len := row.length) (fun i X => ∃ (p : Nat) (v : List Value) (st : AS), X = ([tSl l.length (opsC l), tSl row.length (nums row), .pointer (some ⟨p, 0, none⟩), tSl row.length (nums row), .int .i64 row.length, .int .i64 i], st) ∧
      FSt H0 st.H ∧ H0.length ≤ p ∧ st.H[p]? = some (.cells v t_api_Sector true) ∧ TOk PP t_api_Sector v ∧ (FitsGo l row 0 u row ↔ FitsGo l row i v (row.drop i))) _ ?_ ?_ ?_ row.length 0 _ (by omega)
      ⟨p, u, st, rfl, hst, hp, hpg, hu, Iff.rfl⟩
  · rintro k X ⟨p, v, st, rfl, h1, h2, h3, h4, h5⟩
    have hrefs : lrefs [tSl l.length (opsC l), tSl row.length (nums row), .pointer (some ⟨p, 0, none⟩), tSl row.length (nums row), .int .i64 row.length, .int .i64 k] = [p] := by simp [hlr, nums_refs]
    obtain ⟨σ, g1, g2, g3⟩ := gc_flat H0.length [tSl l.length (opsC l), tSl row.length (nums row), .pointer (some ⟨p, 0, none⟩), tSl row.length (nums row), .int .i64 row.length, .int .i64 k] st (fun r hr => by
      rw [hrefs] at hr
      simp at hr
      subst hr
      exact ⟨_, _, _, h3, (sec_cells h4).2.1⟩)
    rw [hrefs] at g3
    obtain ⟨a1, a2⟩ := g3 p (by simp)
    refine ⟨σ p, v, _, Prod.ext ?_ rfl, h1.gc _, a1 h2, a2 _ h3, h4, h5⟩
    rw [g1]
    simp [lren, hvs, hvt, vren]
  · rintro i X hi ⟨p, v, ⟨H, e⟩, rfl, h1, h2, h3, h4, h5⟩
    simp only at h1 h3
    obtain ⟨v1, v2, v3⟩ := sec_cells h4
    have vn := sec_len h4
    have hi' : ((i : Int) < (row.length : Int)) := by omega
    have hrr : Rd H (tSl row.length (nums row)) row.length (nums row) := .tree _ _
    have hix := hrr.index (P := PP) qu_L_int qsz_int (k := .i64) (i := (i : Int)) (by omega) hi'
    have hld := hrr.load1 (by omega) (off := i) (x := .int .i64 row[i]) (by simp [nums, hi]) e
    simp at hix
    have hw' : IntKind.i64.wrap ((i : Int) + 1) = ((i + 1 : Nat) : Int) := by rw [i64_wrap (by omega)]; omega
    have hdr : row.drop i = row[i] :: row.drop (i + 1) := List.drop_eq_getElem_cons hi
    rw [hdr] at h5
    generalize hn : row[i] = n at hld h5 hdr
    have hll := fun st => (Rd.tree (H := []) l.length (opsC l)).len (P := PP) qu_L_twainref36_Op st
    have hpl := place_ok (H := H) (v := tSl row.length (nums row)) (l := row) (.tree _ _) (by rw [hvr]; simp) hrm n
    -- the way out
    have bad : ¬ FitsGo l row i v (n :: row.drop (i + 1)) → twainref37_Fits.loop3s (acall PP TT) loopG H0.length ([tSl l.length (opsC l), tSl row.length (nums row), .pointer (some ⟨p, 0, none⟩), tSl row.length (nums row), .int .i64 row.length, .int .i64 i], ⟨H, e⟩) = some (.inr (.ret, [tSl l.length (opsC l), tSl row.length (nums row), .bool false], ⟨H, e⟩)) →
        ∃ r, twainref37_Fits.loop3s (acall PP TT) loopG H0.length ([tSl l.length (opsC l), tSl row.length (nums row), .pointer (some ⟨p, 0, none⟩), tSl row.length (nums row), .int .i64 row.length, .int .i64 i], ⟨H, e⟩) = some (.inr r) ∧ ((∃ st : AS, r = (.ret, [tSl l.length (opsC l), tSl row.length (nums row), .bool false], st) ∧ FSt H0 st.H ∧ ¬ FitsGo l row 0 u row) ∨
       (∃ st : AS, r = (.exit 0, [tSl l.length (opsC l), tSl row.length (nums row), unk], st) ∧ FSt H0 st.H ∧ FitsGo l row 0 u row)) :=
      fun hb hr => ⟨_, hr, .inl ⟨_, rfl, h1, fun hc => hb (h5.1 hc)⟩⟩
    by_cases hneg : n < 0
    · refine .inl (bad (fun ⟨x, h0, _⟩ => by omega) ?_)
      simp only [twainref37_Fits.loop3s, twainref37_Fits.loop3, List.getD_cons_zero, List.getD_cons_succ, bin_lss, Option.bind_some, hi', decide_true, bcase_true, hix, hld, hneg, twainref37_Fits.j1]
    by_cases hge : (l.length : Int) ≤ n
    · refine .inl (bad (fun ⟨x, h0, hx, _⟩ => by have := lt_of_get hx; omega) ?_)
      simp only [twainref37_Fits.loop3s, twainref37_Fits.loop3, List.getD_cons_zero, List.getD_cons_succ, bin_lss, Option.bind_some, hi', decide_true, bcase_true, hix, hld, hneg, decide_false, bcase_false, hll, bin_geq, hge, twainref37_Fits.j1]
    by_cases hpi : placeFrom row n 0 = (i : Int)
    case neg =>
      refine .inl (bad (fun ⟨x, h0, hx, hq, _⟩ => hpi hq) ?_)
      simp only [twainref37_Fits.loop3s, twainref37_Fits.loop3, List.getD_cons_zero, List.getD_cons_succ, bin_lss, Option.bind_some, hi', decide_true, bcase_true, hix, hld, hneg, decide_false, bcase_false, hll, bin_geq, hge, hpl, bin_neq, hpi, Bool.not_false, joinEsc_none, twainref37_Fits.j1]
    obtain ⟨m, rfl⟩ : ∃ m : Nat, n = (m : Int) := ⟨n.toNat, by omega⟩
    obtain ⟨x, hx⟩ : ∃ x, l[m]? = some x := ⟨_, List.getElem?_eq_getElem (by omega)⟩
    have hxo := hl x (List.mem_of_getElem? hx)
    obtain ⟨c1, c2, c3⟩ := opc_cells hxo
    have cn := opc_len hxo
    have hm' : ((m : Int) < (l.length : Int)) := by omega
    have hrd : Rd H (tSl l.length (opsC l)) l.length (opsC l) := .tree _ _
    have hixm := hrd.index (P := PP) qu_L_twainref36_Op qsz_twainref36_Op (k := .i64) (i := (m : Int)) (by omega) hm'
    simp at hixm
    have hldm := op_load hrd hl hx e
    have hstb : storeL ⟨H ++ [Blk.cells qz_twainref36_Op t_twainref36_Op true], e⟩ H.length 0 (opc x) = some ⟨H ++ [Blk.cells (opc x) t_twainref36_Op true], e⟩ := by
      rw [storeL_app0]
      simp [storeL, cn, qzl_twainref36_Op, c1, putCells_all, c2, escOf]
    have hxg : (H ++ [Blk.cells (opc x) t_twainref36_Op true])[H.length]? = some (.cells (opc x) t_twainref36_Op true) := by rw [get_app0]; rfl
    have hpg1 : (H ++ [Blk.cells (opc x) t_twainref36_Op true])[p]? = some (.cells v t_api_Sector true) := by rw [List.getElem?_append_left (lt_of_get h3)]; exact h3
    have hpx : p ≠ H.length := by have := lt_of_get h3; omega
    have hx0 : ∀ H' : List Blk, H'[H.length]? = some (.cells (opc x) t_twainref36_Op true) → cellAt H' H.length 0 = some (.bool x.w) := fun H' h => by simp [cellAt, h, opc]
    have hxv : ∀ H' : List Blk, H'[H.length]? = some (.cells (opc x) t_twainref36_Op true) → cellsAt H' H.length 1 16 = some x.v := fun H' h => by
      simp only [cellsAt, h]
      rw [if_pos (by omega), opc_v hxo]
    have htv : v.take 16 = v := List.take_of_length_le (by omega)
    have hlp : cellsAt (H ++ [Blk.cells (opc x) t_twainref36_Op true]) p 0 16 = some v := by simp [cellsAt, hpg1, vn, htv]
    have hneq := bin_neq_flat (ox := .tmp 48) (oy := .tmp 49) qflat_api_Sector hxo.v h4
    have hstep := fits_step (row := row) (v := v) (rs := row.drop (i + 1)) hx hpi
    cases hw : x.w with
    | false =>
      have hx0' := hx0 _ hxg
      rw [hw] at hx0'
      by_cases hval : x.v = v
      case neg =>
        refine .inl ⟨_, ?_, .inl ⟨⟨H ++ [Blk.cells (opc x) t_twainref36_Op true], e⟩, rfl, h1.app _, fun hc => hval ((hstep.1 (h5.1 hc)).1 hw)⟩⟩
        simp only [twainref37_Fits.loop3s, twainref37_Fits.loop3, List.getD_cons_zero, List.getD_cons_succ, bin_lss, Option.bind_some, hi', decide_true, bcase_true, hix, hld, hneg, decide_false, bcase_false, hll, bin_geq, hge, hpl, bin_neq, hpi, Bool.not_true, joinEsc_none, twainref37_Fits.j1, twainref37_Fits.j2, hixm, hldm, qzg_twainref36_Op, box_agg qza_twainref36_Op, store_agg cn, hstb, qfa_twainref36_Op_0, load_one, hx0', un_not, Bool.not_false, qfa_twainref36_Op_1, load_agg, hxv _ hxg, hlp, Option.map_some, hneq, hval, twainref37_Fits.j3]
      have hneq' : aBin PP .neq t_api_Sector (.tmp 48) (.tmp 49) (.agg x.v.toArray) (.agg v.toArray) = some (.bool false) := by rw [hneq]; simp [hval]
      obtain ⟨r, hin, hr⟩ := fits_inner hl hm hrm hxo h4 (i := i) (p := p) (xb := H.length) (st := ⟨H ++ [Blk.cells (opc x) t_twainref36_Op true], e⟩) (h1.app _) h2 hpg1 h1.len hxg
      rcases hr with ⟨t, st', rfl, hf, k, y, hy, ha, hb⟩ | ⟨p', st', rfl, hf, hp', hpg', hall⟩
      · refine .inl ⟨_, ?_, .inl ⟨st', rfl, hf, fun hc => hb ((hstep.1 (h5.1 hc)).2.1 k y hy ha)⟩⟩
        simp only [twainref37_Fits.loop3s, twainref37_Fits.loop3, List.getD_cons_zero, List.getD_cons_succ, bin_lss, Option.bind_some, hi', decide_true, bcase_true, hix, hld, hneg, decide_false, bcase_false, hll, bin_geq, hge, hpl, bin_neq, hpi, Bool.not_true, joinEsc_none, twainref37_Fits.j1, twainref37_Fits.j2, hixm, hldm, qzg_twainref36_Op, box_agg qza_twainref36_Op, store_agg cn, hstb, qfa_twainref36_Op_0, load_one, hx0', un_not, Bool.not_false, qfa_twainref36_Op_1, load_agg, hxv _ hxg, hlp, Option.map_some, hneq', twainref37_Fits.j3, twainref37_Fits.j4, twainref37_Fits.j5, hin]
      · refine .inr ⟨([tSl l.length (opsC l), tSl row.length (nums row), .pointer (some ⟨p', 0, none⟩), tSl row.length (nums row), .int .i64 row.length, .int .i64 ((i + 1 : Nat) : Int)], st'), ?_, p', v, st', rfl, hf, hp', hpg', h4, ?_⟩
        · simp only [twainref37_Fits.loop3s, twainref37_Fits.loop3, List.getD_cons_zero, List.getD_cons_succ, bin_lss, Option.bind_some, hi', decide_true, bcase_true, hix, hld, hneg, decide_false, bcase_false, hll, bin_geq, hge, hpl, bin_neq, hpi, Bool.not_true, joinEsc_none, twainref37_Fits.j1, twainref37_Fits.j2, hixm, hldm, qzg_twainref36_Op, box_agg qza_twainref36_Op, store_agg cn, hstb, qfa_twainref36_Op_0, load_one, hx0', un_not, Bool.not_false, qfa_twainref36_Op_1, load_agg, hxv _ hxg, hlp, Option.map_some, hneq', twainref37_Fits.j3, twainref37_Fits.j4, twainref37_Fits.j5, hin, if_true, twainref37_Fits.j10, bin_add, hw']
        · rw [h5, hstep, hw]
          simp only [Bool.false_eq_true, if_false]
          exact ⟨fun h => h.2.2, fun h => ⟨fun _ => hval, hall, h⟩⟩
    | true =>
      have hx0' := hx0 _ hxg
      rw [hw] at hx0'
      obtain ⟨w1, w2, w3⟩ := sec_cells hxo.v
      have wn := sec_len hxo.v
      have hst2 : storeL ⟨H ++ [Blk.cells (opc x) t_twainref36_Op true], e⟩ p 0 x.v = some ⟨(H ++ [Blk.cells (opc x) t_twainref36_Op true]).set p (.cells x.v t_api_Sector true), e⟩ := by
        simp [storeL, hpg1, vn, wn, w1, w2, putCells_all, escOf]
      have hplt : p < (H ++ [Blk.cells (opc x) t_twainref36_Op true]).length := lt_of_get hpg1
      have hpg2 : ((H ++ [Blk.cells (opc x) t_twainref36_Op true]).set p (.cells x.v t_api_Sector true))[p]? = some (.cells x.v t_api_Sector true) := List.getElem?_set_self hplt
      have hxg2 : ((H ++ [Blk.cells (opc x) t_twainref36_Op true]).set p (.cells x.v t_api_Sector true))[H.length]? = some (.cells (opc x) t_twainref36_Op true) := by rw [List.getElem?_set_ne hpx]; exact hxg
      obtain ⟨r, hin, hr⟩ := fits_inner hl hm hrm hxo hxo.v (i := i) (p := p) (xb := H.length) (st := ⟨(H ++ [Blk.cells (opc x) t_twainref36_Op true]).set p (.cells x.v t_api_Sector true), e⟩) ((h1.app _).set h2 _) h2 hpg2 h1.len hxg2
      rcases hr with ⟨t, st', rfl, hf, k, y, hy, ha, hb⟩ | ⟨p', st', rfl, hf, hp', hpg', hall⟩
      · refine .inl ⟨_, ?_, .inl ⟨st', rfl, hf, fun hc => hb ((hstep.1 (h5.1 hc)).2.1 k y hy ha)⟩⟩
        simp only [twainref37_Fits.loop3s, twainref37_Fits.loop3, List.getD_cons_zero, List.getD_cons_succ, bin_lss, Option.bind_some, hi', decide_true, bcase_true, hix, hld, hneg, decide_false, bcase_false, hll, bin_geq, hge, hpl, bin_neq, hpi, Bool.not_true, joinEsc_none, twainref37_Fits.j1, twainref37_Fits.j2, hixm, hldm, qzg_twainref36_Op, box_agg qza_twainref36_Op, store_agg cn, hstb, qfa_twainref36_Op_0, load_one, hx0', un_not, qfa_twainref36_Op_1, load_agg, hxv _ hxg, Option.map_some, twainref37_Fits.j3, twainref37_Fits.j4, store_agg wn, hst2, twainref37_Fits.j5, hin]
      · refine .inr ⟨([tSl l.length (opsC l), tSl row.length (nums row), .pointer (some ⟨p', 0, none⟩), tSl row.length (nums row), .int .i64 row.length, .int .i64 ((i + 1 : Nat) : Int)], st'), ?_, p', x.v, st', rfl, hf, hp', hpg', hxo.v, ?_⟩
        · simp only [twainref37_Fits.loop3s, twainref37_Fits.loop3, List.getD_cons_zero, List.getD_cons_succ, bin_lss, Option.bind_some, hi', decide_true, bcase_true, hix, hld, hneg, decide_false, bcase_false, hll, bin_geq, hge, hpl, bin_neq, hpi, Bool.not_true, joinEsc_none, twainref37_Fits.j1, twainref37_Fits.j2, hixm, hldm, qzg_twainref36_Op, box_agg qza_twainref36_Op, store_agg cn, hstb, qfa_twainref36_Op_0, load_one, hx0', un_not, qfa_twainref36_Op_1, load_agg, hxv _ hxg, Option.map_some, twainref37_Fits.j3, twainref37_Fits.j4, store_agg wn, hst2, twainref37_Fits.j5, hin, if_true, twainref37_Fits.j10, bin_add, hw']
        · rw [h5, hstep, hw]
          simp only [if_true]
          exact ⟨fun h => h.2.2, fun h => ⟨fun hc => absurd hc (by simp), hall, h⟩⟩
  · rintro X ⟨p, v, st, rfl, h1, h2, h3, h4, h5⟩
    refine ⟨_, ?_, .inr ⟨st, rfl, h1, ?_⟩⟩
    · simp [twainref37_Fits.loop3s, twainref37_Fits.loop3, bin_lss, bcase_if]
    · rw [h5, List.drop_length]; trivial

/-- all stand in the row that must -/
theorem fits_last (hl : OkOps l) (hm : l.length < 2 ^ 62) (hrm : row.length < 2 ^ 62) {H0 : List Blk} {st : AS} (hst : FSt H0 st.H) :
    ∃ r, loopG H0.length (twainref37_Fits.loop21s (acall PP TT) loopG H0.length) ([tSl row.length (nums row), tSl l.length (opsC l), .int .i64 l.length, .int .i64 0], st) = some r ∧
      ((∃ st : AS, r = (.ret, [.bool false], st) ∧ FSt H0 st.H ∧ ∃ (k : Nat) (x : _), l[k]? = some x ∧ mustR x = true ∧ ¬ (k : Int) ∈ row) ∨
       (∃ st : AS, r = (.exit 4, [unk], st) ∧ FSt H0 st.H ∧ ∀ (k : Nat) x, l[k]? = some x → mustR x = true → (k : Int) ∈ row)) := by
  have hlr := opsC_refs hl
  have hvl : vrefs (tSl l.length (opsC l)) = [] := by simp [hlr]
  have hvr : vrefs (tSl row.length (nums row)) = [] := by simp [nums_refs]
  refine loop_inv (len := l.length) (fun k X => ∃ st : AS, X = ([tSl row.length (nums row), tSl l.length (opsC l), .int .i64 l.length, .int .i64 k], st) ∧
      FSt H0 st.H ∧ ∀ (q : Nat) x, q < k → l[q]? = some x → mustR x = true → (q : Int) ∈ row) _ ?_ ?_ ?_ l.length 0 _ (by omega)
      ⟨st, rfl, hst, fun q x hq => by omega⟩
  · rintro k X ⟨st, rfl, h1, h2⟩
    refine ⟨_, Prod.ext ?_ rfl, h1.gc _, h2⟩
    exact gc_vals _ _ _ (by simp [hlr, nums_refs])
  · rintro k X hk ⟨⟨H, e⟩, rfl, h1, h2⟩
    simp only at h1
    obtain ⟨y, hy⟩ : ∃ y, l[k]? = some y := ⟨_, List.getElem?_eq_getElem hk⟩
    have hyo := hl y (List.mem_of_getElem? hy)
    obtain ⟨c1, c2, c3⟩ := opc_cells hyo
    have cn := opc_len hyo
    have hk' : ((k : Int) < (l.length : Int)) := by omega
    have hrd : Rd H (tSl l.length (opsC l)) l.length (opsC l) := .tree _ _
    have hix := hrd.index (P := PP) qu_L_twainref36_Op qsz_twainref36_Op (k := .i64) (i := (k : Int)) (by omega) hk'
    simp at hix
    have hld := op_load hrd hl hy e
    have hstb : storeL ⟨H ++ [Blk.cells qz_twainref36_Op t_twainref36_Op true], e⟩ H.length 0 (opc y) = some ⟨H ++ [Blk.cells (opc y) t_twainref36_Op true], e⟩ := by
      rw [storeL_app0]
      simp [storeL, cn, qzl_twainref36_Op, c1, putCells_all, c2, escOf]
    have hl2 : cellsAt (H ++ [Blk.cells (opc y) t_twainref36_Op true]) H.length 0 19 = some (opc y) := by
      rw [cellsAt_app0]; simp [cellsAt, cn, opc_take hyo]
    have hw' : IntKind.i64.wrap ((k : Int) + 1) = ((k + 1 : Nat) : Int) := by rw [i64_wrap (by omega)]; omega
    have hpl := place_ok (H := H ++ [Blk.cells (opc y) t_twainref36_Op true]) (v := tSl row.length (nums row)) (l := row) (.tree _ _) (by rw [hvr]; simp) hrm (k : Int)
    have hmu := must_ok hyo (H ++ [Blk.cells (opc y) t_twainref36_Op true])
    have hmem := place_mem row (k : Int) 0
    by_cases hg : mustR y = true ∧ placeFrom row (k : Int) 0 < 0
    · refine .inl ⟨_, ?_, .inl ⟨⟨H ++ [Blk.cells (opc y) t_twainref36_Op true], e⟩, rfl, h1.app _, k, y, hy, hg.1, fun hc => by have := hmem.2 hc; omega⟩⟩
      simp only [twainref37_Fits.loop21s, twainref37_Fits.loop21, List.getD_cons_zero, List.getD_cons_succ, bin_lss, Option.bind_some, hk', decide_true, bcase_true, hix, hld, qzg_twainref36_Op, box_agg qza_twainref36_Op, store_agg cn, hstb, load_agg, hl2, Option.map_some, hmu, hg.1, joinEsc_none, hpl, hg.2, twainref37_Fits.j14]
    · refine .inr ⟨_, ?_, ⟨H ++ [Blk.cells (opc y) t_twainref36_Op true], e⟩, rfl, h1.app _, fun q x hq hx hmx => ?_⟩
      · cases hmy : mustR y with
        | false => simp only [twainref37_Fits.loop21s, twainref37_Fits.loop21, List.getD_cons_zero, List.getD_cons_succ, bin_lss, Option.bind_some, hk', decide_true, bcase_true, hix, hld, qzg_twainref36_Op, box_agg qza_twainref36_Op, store_agg cn, hstb, load_agg, hl2, Option.map_some, hmu, hmy, joinEsc_none, bcase_false, twainref37_Fits.j14, twainref37_Fits.j15, bin_add, hw']
        | true =>
          have hng : ¬ placeFrom row (k : Int) 0 < 0 := fun hc => hg ⟨hmy, hc⟩
          simp only [twainref37_Fits.loop21s, twainref37_Fits.loop21, List.getD_cons_zero, List.getD_cons_succ, bin_lss, Option.bind_some, hk', decide_true, bcase_true, hix, hld, qzg_twainref36_Op, box_agg qza_twainref36_Op, store_agg cn, hstb, load_agg, hl2, Option.map_some, hmu, hmy, joinEsc_none, hpl, hng, decide_false, bcase_false, twainref37_Fits.j14, twainref37_Fits.j15, bin_add, hw']
      · by_cases hqk : q = k
        · subst hqk
          rw [hy] at hx; simp at hx; subst hx
          exact hmem.1 (Int.not_lt.1 fun hc => hg ⟨hmx, hc⟩)
        · exact h2 q x (by omega) hx hmx
  · rintro X ⟨st, rfl, h1, h2⟩
    refine ⟨_, ?_, .inr ⟨st, rfl, h1, fun k x hx hmx => h2 k x (lt_of_get hx) hx hmx⟩⟩
    simp [twainref37_Fits.loop21s, twainref37_Fits.loop21, bin_lss, bcase_if]

/-- a result that is no row -/
theorem fin_one {n0 : Nat} {st : AS} {v : Value} (hw : noSl v = true) (hv : vrefs v = []) :
    ∃ H' e, fin PP false n0 [v] st = some (v, H', e) ∧ (∀ r, r < n0 → H'[r]? = st.H[r]?) ∧ (n0 ≤ st.H.length → n0 ≤ H'.length) := by
  unfold fin endFrz
  simp only [Bool.false_eq_true, if_false, frzL, frz_noSl n0 8 v st.H hw]
  obtain ⟨σ, _, h2, _, h4⟩ := gc_spec n0 [v] ⟨st.H, st.esc⟩
  rw [gc_vals n0 [v] ⟨st.H, st.esc⟩ (by simp [hv])]
  exact ⟨_, _, rfl, fun r hr => (h2 r hr).2, h4⟩

/-- an order is right -/
def FitsDoc (l : List (Rw (List Value))) (u : List Value) (row : List Int) : Prop := FitsGo l row 0 u row ∧ ∀ (k : Nat) x, l[k]? = some x → mustR x = true → (k : Int) ∈ row

theorem fits_ok (hl : OkOps l) (hm : l.length < 2 ^ 62) (hrm : row.length < 2 ^ 62) (H0 : List Blk) {u : List Value} (hu : TOk PP t_api_Sector u) :
    ∃ (b : Bool) (H' : List Blk) (e : Option Nat), acall PP TT n_twainref37_Fits [tSl l.length (opsC l), .agg u.toArray, tSl row.length (nums row)] H0 = some (.bool b, H', e) ∧ FSt H0 H' ∧ (b = true ↔ FitsDoc l u row) := by
  obtain ⟨u1, u2, qu_int⟩ := sec_cells hu
  have un := sec_len hu
  have htu : u.take 16 = u := List.take_of_length_le (by omega)
  have hlu : cellsAt (H0 ++ [Blk.cells u t_api_Sector true]) H0.length 0 16 = some u := by
    rw [cellsAt_app0]; simp [cellsAt, un, htu]
  have hstb : storeL ⟨H0 ++ [Blk.cells u t_api_Sector true] ++ [Blk.cells qz_api_Sector t_api_Sector true], none⟩ (H0 ++ [Blk.cells u t_api_Sector true]).length 0 u = some ⟨H0 ++ [Blk.cells u t_api_Sector true] ++ [Blk.cells u t_api_Sector true], none⟩ := by
    rw [storeL_app0]
    simp [storeL, un, qzl_api_Sector, u1, putCells_all, u2, escOf]
  have hf0 : FSt H0 (H0 ++ [Blk.cells u t_api_Sector true] ++ [Blk.cells u t_api_Sector true]) := ((FSt.refl H0).app _).app _
  have hln := fun st => (Rd.tree (H := []) row.length (nums row)).len (P := PP) qu_L_int st
  have hll := fun st => (Rd.tree (H := []) l.length (opsC l)).len (P := PP) qu_L_twainref36_Op st
  obtain ⟨r, hlp, hr⟩ := fits_outer hl hm hrm (H0 := H0) hu (p := (H0 ++ [Blk.cells u t_api_Sector true]).length) (st := ⟨H0 ++ [Blk.cells u t_api_Sector true] ++ [Blk.cells u t_api_Sector true], none⟩) hf0 (by simp) (by rw [get_app0]; rfl)
  have out : ∀ (b : Bool) (st : AS), FSt H0 st.H → ∃ H' e, fin PP false H0.length [.bool b] st = some (.bool b, H', e) ∧ FSt H0 H' := fun b st hf => by
    obtain ⟨H', e, h1, h2, h3⟩ := fin_one (n0 := H0.length) (st := st) (v := .bool b) rfl rfl
    exact ⟨H', e, h1, fun j hj => by rw [h2 j hj]; exact hf.pre j hj, h3 hf.len⟩
  rcases hr with ⟨st, rfl, hf, hbad⟩ | ⟨st, rfl, hf, hgood⟩
  · obtain ⟨H', e, hfin, hf'⟩ := out false st hf
    refine ⟨false, H', e, ?_, hf', by simp; exact fun h => hbad h.1⟩
    rw [acall_eq, twainref37_Fits.eq]
    simp only [twainref37_Fits.sh, box_agg u1, Option.bind_some, load_agg, hlu, Option.map_some, qzg_api_Sector, box_agg qza_api_Sector, store_agg un, hstb, hln, hlp, List.getD_cons_zero, List.getD_cons_succ]
    exact hfin
  · obtain ⟨r, hlp2, hr⟩ := fits_last (row := row) hl hm hrm hf
    rcases hr with ⟨st2, rfl, hf2, k, x, hx, hmx, hn⟩ | ⟨st2, rfl, hf2, hall⟩
    · obtain ⟨H', e, hfin, hf'⟩ := out false st2 hf2
      refine ⟨false, H', e, ?_, hf', by simp; exact fun h => hn (h.2 k x hx hmx)⟩
      rw [acall_eq, twainref37_Fits.eq]
      simp only [twainref37_Fits.sh, box_agg u1, Option.bind_some, load_agg, hlu, Option.map_some, qzg_api_Sector, box_agg qza_api_Sector, store_agg un, hstb, hln, hlp, List.getD_cons_zero, List.getD_cons_succ, if_true, twainref37_Fits.j12, hll, hlp2]
      exact hfin
    · obtain ⟨H', e, hfin, hf'⟩ := out true st2 hf2
      refine ⟨true, H', e, ?_, hf', by simp; exact ⟨hgood, hall⟩⟩
      rw [acall_eq, twainref37_Fits.eq]
      simp only [twainref37_Fits.sh, box_agg u1, Option.bind_some, load_agg, hlu, Option.map_some, qzg_api_Sector, box_agg qza_api_Sector, store_agg un, hstb, hln, hlp, List.getD_cons_zero, List.getD_cons_succ, if_true, twainref37_Fits.j12, hll, hlp2, twainref37_Fits.j17]
      exact hfin

end
end Go.Proofs.Ytfinilnkempofaa
