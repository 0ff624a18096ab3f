/- A part of the proof: RegRaw. Its conditions: none. -/
import Derived.Test.YtfinilnkempofaaRegRow
set_option linter.all false
set_option linter.unusedVariables false
set_option linter.unusedSimpArgs false
set_option linter.unnecessarySimpa false
namespace Go.Proofs.Ytfinilnkempofaa
open Go Go.Am Go.Reg

/-- the loop's state -/
def RI (H0 : List Blk) (l : List (Rw (List Value))) (i : Nat) (X : List Value × AS) : Prop :=
  ∃ (rv : Value) (st : AS), X = ([rv, tSl l.length (opsC l), .int .i64 l.length, .int .i64 i], st) ∧ RowO H0.length st.H rv (l.take i) ∧ (∀ j, j < H0.length → st.H[j]? = H0[j]?) ∧ H0.length ≤ st.H.length

theorem RowO.refs {n0 : Nat} {H : List Blk} {rv : Value} {A : List (Rw (List Value))} (h : RowO n0 H rv A) (hA : OkOps A) : ∀ r ∈ vrefs rv, n0 ≤ r ∧ ∃ cs t o, H[r]? = some (.cells cs t o) ∧ lrefs cs = [] := by
  rcases h with ⟨rfl, _⟩ | ⟨b, cap, hb, rfl, _, hg⟩
  · intro r hr; simp at hr
  · intro r hr; simp at hr; subst hr; exact ⟨hb, _, _, _, hg, opsC_refs hA⟩

theorem RowO.ren {n0 : Nat} {H H' : List Blk} {rv : Value} {A : List (Rw (List Value))} (h : RowO n0 H rv A) {σ : Nat → Nat} (hs : ∀ r ∈ vrefs rv, (n0 ≤ r → n0 ≤ σ r) ∧ ∀ b, H[r]? = some b → H'[σ r]? = some b) : RowO n0 H' (vren σ rv) A := by
  rcases h with ⟨rfl, hA⟩ | ⟨b, cap, hb, rfl, hc, hg⟩
  · exact .inl ⟨rfl, hA⟩
  · obtain ⟨h1, h2⟩ := hs b (by simp)
    exact .inr ⟨σ b, cap, h1 hb, rfl, hc, h2 _ hg⟩

theorem raw_ok {l : List (Rw (List Value))} (hl : OkOps l) (hm : l.length ≤ 60) (H0 : List Blk) :
    ∃ (H' : List Blk) (e : Option Nat), acall PP TT n_twainlaw37_Raw [tSl l.length (opsC l)] H0 = some (tSl l.length (opsC l), H', e) ∧ ∀ j, j < H0.length → H'[j]? = H0[j]? := by
  have hvr : vrefs (tSl l.length (opsC l)) = [] := by simp [opsC_refs hl]
  have hvs : ∀ σ, vren σ (tSl l.length (opsC l)) = tSl l.length (opsC l) := fun σ => vren_same _ (fun b hb => by rw [hvr] at hb; simp at hb)
  have htk : ∀ i, OkOps (l.take i) := fun i x hx => hl x (List.mem_of_mem_take hx)
  obtain ⟨r, hlp, rv, ⟨H, e⟩, rfl, hrow, hpre, hlen⟩ := loop_inv (n0 := H0.length) (step := twainlaw37_Raw.loop3s (acall PP TT) loopG H0.length) (len := l.length) (RI H0 l)
    (fun r => ∃ (rv : Value) (st : AS), r = (.exit 0, [rv], st) ∧ RowO H0.length st.H rv l ∧ (∀ j, j < H0.length → st.H[j]? = H0[j]?) ∧ H0.length ≤ st.H.length)
    (by
      rintro i X ⟨rv, st, rfl, hrow, hpre, hlen⟩
      have hrf := hrow.refs (htk i)
      have hrefs : lrefs [rv, tSl l.length (opsC l), .int .i64 l.length, .int .i64 i] = vrefs rv := by simp [opsC_refs hl]
      obtain ⟨σ, g1, g2, g3⟩ := gc_flat H0.length [rv, tSl l.length (opsC l), .int .i64 l.length, .int .i64 i] st (fun r hr => by
        rw [hrefs] at hr
        exact (hrf r hr).2)
      obtain ⟨_, _, _, _, g4⟩ := gc_spec H0.length [rv, tSl l.length (opsC l), .int .i64 l.length, .int .i64 i] st
      rw [hrefs] at g3
      refine ⟨vren σ rv, _, Prod.ext ?_ rfl, hrow.ren g3, fun j hj => by rw [(g2 j hj).2]; exact hpre j hj, g4 hlen⟩
      rw [g1]
      simp [lren, hvs, vren])
    (by
      rintro i X hi ⟨rv, ⟨H, e⟩, rfl, hrow, hpre, hlen⟩
      simp only at hrow hpre hlen
      obtain ⟨x, hx⟩ : ∃ x, l[i]? = some x := ⟨_, List.getElem?_eq_getElem hi⟩
      have hxo := hl x (List.mem_of_getElem? hx)
      obtain ⟨c1, c2, c3⟩ := opc_cells hxo
      have cn := opc_len hxo
      have hi' : ((i : Int) < (l.length : Int)) := by omega
      have hrd : Rd H (tSl l.length (opsC l)) l.length (opsC l) := .tree _ _
      have hix := hrd.index (P := PP) qu_L_twainref36_Op qsz_twainref36_Op (k := .i64) (i := (i : Int)) (by omega) hi'
      simp at hix
      have hld := op_load hrd hl hx e
      have hstb : storeL ⟨H ++ [Blk.cells qz_twainref36_Op t_twainref36_Op true], e⟩ H.length 0 (opc x) = some ⟨H ++ [Blk.cells (opc x) t_twainref36_Op true], e⟩ := by
        rw [storeL_app0]
        simp [storeL, cn, qzl_twainref36_Op, c1, putCells_all, c2, escOf]
      have hl2 : cellsAt (H ++ [Blk.cells (opc x) t_twainref36_Op true]) H.length 0 19 = some (opc x) := by
        rw [cellsAt_app0]; simp [cellsAt, cn, opc_take hxo]
      have hw' : IntKind.i64.wrap ((i : Int) + 1) = ((i + 1 : Nat) : Int) := by rw [i64_wrap (by omega)]; omega
      have hbs := bsl26_1 hxo (H ++ [Blk.cells (opc x) t_twainref36_Op true]) e
      have hA1 : (l.take i).length = i := by rw [List.length_take]; omega
      have hro : RowO H0.length (H ++ [Blk.cells (opc x) t_twainref36_Op true] ++ [Blk.cells (opc x) t_history_Op true]) rv (l.take i) := by
        rcases hrow with h | ⟨b, cap, hb, hrv, hc, hg⟩
        · exact .inl h
        · exact .inr ⟨b, cap, hb, hrv, hc, by rw [List.append_assoc, List.getElem?_append_left (lt_of_get hg)]; exact hg⟩
      have hy : Rd (H ++ [Blk.cells (opc x) t_twainref36_Op true] ++ [Blk.cells (opc x) t_history_Op true]) (.slice (some ⟨(H ++ [Blk.cells (opc x) t_twainref36_Op true]).length, 0, none⟩) 1 1) 1 (opc x) :=
        .own (bs := opc x) (t := t_history_Op) (own := true) (by simp) (by simp) (by simp)
      obtain ⟨H2, happ, h2n, h2k⟩ := app26 (e := e) hro (htk _) hxo hy (by omega)
      have htake : l.take (i + 1) = l.take i ++ [x] := by rw [List.take_add_one, hx]; rfl
      refine .inr ⟨([.slice (some ⟨(H ++ [Blk.cells (opc x) t_twainref36_Op true] ++ [Blk.cells (opc x) t_history_Op true]).length, 0, none⟩) (i + 1) UNK, tSl l.length (opsC l), .int .i64 l.length, .int .i64 ((i + 1 : Nat) : Int)], ⟨H2 ++ [Blk.cells (opsC (l.take i ++ [x])) t_history_Op true], e⟩), ?_, _, _, rfl, .inr ⟨(H ++ [Blk.cells (opc x) t_twainref36_Op true] ++ [Blk.cells (opc x) t_history_Op true]).length, UNK, ?_, ?_, .inl rfl, ?_⟩, ?_, ?_⟩
      · simp only [twainlaw37_Raw.loop3s, twainlaw37_Raw.loop3, List.getD_cons_zero, List.getD_cons_succ, bin_lss, Option.bind_some, hi', decide_true, bcase_true, hix, hld, qzg_twainref36_Op, box_agg qza_twainref36_Op, store_agg cn, hstb, load_agg, hl2, Option.map_some, hbs]
        rw [happ]
        simp only [bin_add, hw', Option.bind_some, hA1]
      · simp only [List.length_append]; omega
      · rw [show (l.take (i + 1)).length = i + 1 by rw [List.length_take]; omega]
      · simp only
        rw [htake, ← h2n, get_app0]; rfl
      · intro j hj
        simp only
        rw [List.getElem?_append_left (by rw [h2n]; simp; omega)]
        rcases h2k j with h | ⟨hn, _⟩
        · rw [h, List.append_assoc, List.getElem?_append_left (by omega)]; exact hpre j hj
        · omega
      · simp only [List.length_append, h2n]; omega)
    (by
      rintro X ⟨rv, st, rfl, hrow, hpre, hlen⟩
      refine ⟨_, ?_, rv, st, rfl, by rw [List.take_length] at hrow; exact hrow, hpre, hlen⟩
      simp [twainlaw37_Raw.loop3s, twainlaw37_Raw.loop3, bin_lss, bcase_if])
    l.length 0 ([.slice none 0 0, tSl l.length (opsC l), .int .i64 l.length, .int .i64 0], ⟨H0, none⟩) (by omega) ⟨_, _, rfl, .inl ⟨rfl, rfl⟩, fun _ _ => rfl, Nat.le_refl _⟩
  simp only at hrow hpre hlen
  have hrd : Rd H0 (tSl l.length (opsC l)) l.length (opsC l) := .tree _ _
  have hln := hrd.len (P := PP) qu_L_twainref36_Op ⟨H0, none⟩
  -- the row becomes a value
  obtain ⟨H5, hfz, h5⟩ : ∃ H5, frz PP H0.length 8 rv H = (tSl l.length (opsC l), H5) ∧ ∀ j, j < H0.length → H5[j]? = H[j]? := by
    rcases hrow with ⟨rfl, hle⟩ | ⟨b, cap, hb, rfl, _, hg⟩
    · subst hle
      exact ⟨H, rfl, fun _ _ => rfl⟩
    · refine ⟨_, frz_row40 (q := 7) hl hg hb, fun j hj => ?_⟩
      rw [List.getElem?_set_ne (by omega)]
  obtain ⟨σ, g1, g2, _⟩ := gc_spec H0.length [tSl l.length (opsC l)] ⟨H5, e⟩
  have hfin : fin PP false H0.length [rv] ⟨H, e⟩ = some (tSl l.length (opsC l), (gc H0.length [tSl l.length (opsC l)] ⟨H5, e⟩).2.H, escBelow H0.length (gc H0.length [tSl l.length (opsC l)] ⟨H5, e⟩).2.esc) := by
    unfold fin endFrz
    simp only [Bool.false_eq_true, if_false, frzL, hfz]
    rw [gc_vals _ _ _ (by simp [opsC_refs hl])]
    rfl
  refine ⟨(gc H0.length [tSl l.length (opsC l)] ⟨H5, e⟩).2.H, escBelow H0.length (gc H0.length [tSl l.length (opsC l)] ⟨H5, e⟩).2.esc, ?_, fun j hj => ?_⟩
  · rw [acall_eq, twainlaw37_Raw.eq, twainlaw37_Raw.sh, hln]
    simp only [Option.bind_some, hlp, if_true, List.getD_cons_zero, twainlaw37_Raw.j2]
    exact hfin
  · rw [(g2 j hj).2, h5 j hj]; exact hpre j hj

end Go.Proofs.Ytfinilnkempofaa
