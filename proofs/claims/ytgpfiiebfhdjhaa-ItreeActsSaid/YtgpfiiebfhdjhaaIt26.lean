/- A part of the proof: It26, It27, It28, It29, It30, It31. Its conditions: none. -/
import Derived.Test.YtgpfiiebfhdjhaaIt18
set_option linter.all false
set_option linter.unusedVariables false
set_option linter.unusedSimpArgs false
set_option linter.unnecessarySimpa false
section
namespace Go.Proofs.Ytgpfiiebfhdjhaa
open Go Go.Am
set_option linter.unusedVariables false
namespace IT
open Go.It

/-- a row of items of one's own -/
def RowI (H : List Blk) (v : Value) (A : List En) (Q : Nat → Prop) : Prop := ∃ kr c, v = .slice (some ⟨kr, 0, none⟩) A.length c ∧ (c = UNK ∨ (A = [] ∧ c = 0)) ∧ H[kr]? = some (itB A) ∧ Q kr
theorem RowI.tight {H : List Blk} {v : Value} {A : List En} {Q : Nat → Prop} (h : RowI H v A Q) : RowI H v A (fun x => Q x ∧ x < H.length) := by
  obtain ⟨kr, c, h1, h2, h3, h4⟩ := h
  exact ⟨kr, c, h1, h2, h3, h4, get_lt h3⟩
theorem RowI.mono {H : List Blk} {v : Value} {A : List En} {Q Q' : Nat → Prop} (h : RowI H v A Q) (hq : ∀ x, Q x → Q' x) : RowI H v A Q' := by
  obtain ⟨kr, c, h1, h2, h3, h4⟩ := h
  exact ⟨kr, c, h1, h2, h3, hq _ h4⟩
theorem RowI.app {H : List Blk} {v : Value} {A : List En} {Q : Nat → Prop} (h : RowI H v A Q) (l : List Blk) : RowI (H ++ l) v A Q := by
  obtain ⟨kr, c, h1, h2, h3, h4⟩ := h
  exact ⟨kr, c, h1, h2, by rw [List.getElem?_append_left (get_lt h3)]; exact h3, h4⟩

theorem bsl_none (H : List Blk) (e : Option Nat) : bsl PP t_L_twainref14_Item 0 [] [] ⟨H, e⟩ = some (.slice (some ⟨H.length, 0, none⟩) 0 0, ⟨H ++ [.cells [] t_twainref14_Item true], e⟩) := by kernel_rfl
theorem bsl_one (x : En) (H : List Blk) (e : Option Nat) : bsl PP t_L_twainref14_Item 1 [0] [.agg (itc x).toArray] ⟨H, e⟩ = some (.slice (some ⟨H.length, 0, none⟩) 1 1, ⟨H ++ [.cells (itc x) t_twainref14_Item true], e⟩) := by kernel_rfl
theorem src_one (x : En) (H : List Blk) : srcCells 3 (H ++ [.cells (itc x) t_twainref14_Item true]) (.slice (some ⟨H.length, 0, none⟩) 1 1) = some (1, itR [x]) := by
  have hk : (H ++ [.cells (itc x) t_twainref14_Item true])[H.length]? = some (.cells (itc x) t_twainref14_Item true) := by simp
  simp only [srcCells, cellsAt_of hk]
  rfl

theorem RowI.add {H : List Blk} {v y : Value} {A B : List En} {Q : Nat → Prop} (h : RowI H v A Q) (hy : srcCells 3 H y = some (B.length, itR B)) (hl : A.length + B.length ≤ 65536) :
    ∃ v' H', RowI H' v' (A ++ B) (nw H Q) ∧ Fr H H' Q ∧ ∀ (R : Type) (F : Value → AS → Option R) (e : Option Nat), eBuiltin PP .append #[t_L_twainref14_Item, t_L_twainref14_Item] [v, y] ⟨H, e⟩ F = F v' ⟨H', e⟩ := by
  obtain ⟨kr, c, rfl, h2, h3, h4⟩ := h
  cases B with
  | nil =>
    refine ⟨.slice (some ⟨kr, 0, none⟩) A.length c, H, ⟨kr, c, by simp, by simpa using h2, by simpa using h3, .inl h4⟩, Fr.refl _ _, fun R F e => ?_⟩
    exact app_none el_L_twainref14_Item hy
  | cons x B =>
    have hp : 0 < (x :: B).length := by simp
    rcases h2 with rfl | ⟨rfl, rfl⟩
    · refine ⟨_, H.set kr .dead ++ [itB (A ++ x :: B)], ⟨H.length, UNK, rfl, .inl rfl, ?_, .inr (Nat.le_refl _)⟩, ?_, fun R F e => ?_⟩
      · rw [List.getElem?_append_right (by simp)]; simp
      · refine ⟨by simp, fun z hz hn => ?_⟩
        rw [List.getElem?_append_left (by simpa using hz), set_off (fun hc => hn (by rw [← hc]; exact h4))]
      · have := app_more (P := PP) (k := F) (st := ⟨H, e⟩) el_L_twainref14_Item h3 (itR_len A) hy hp hl
        rw [this, ← itR_app]
        simp
    · refine ⟨_, H ++ [itB ([] ++ x :: B)], ⟨H.length, UNK, rfl, .inl rfl, ?_, .inr (Nat.le_refl _)⟩, ?_, fun R F e => ?_⟩
      · simp
      · exact Fr.app _ _ _
      · have := app_full (P := PP) (k := F) (st := ⟨H, e⟩) (c := 0) el_L_twainref14_Item h3 (n := 0) (by rfl) hy hp (by omega) (by simpa using hl)
        rw [show (([] : List En).length) = 0 from rfl, this, ← itR_app]
        simp

/-! ### Parts -/
def Itv (H : List Blk) (v : Value) (L : List En) : Prop := (L = [] ∧ v = .slice none 0 0) ∨ ∃ kr c, v = .slice (some ⟨kr, 0, none⟩) L.length c ∧ (c = UNK ∨ (L = [] ∧ c = 0)) ∧ H[kr]? = some (itB L)
theorem RD.itv {H : List Blk} {b : Nat} {L : List En} (h : RD H b L) : ∃ v, H[b]? = some (.cells [v] t_twainref14_Tree true) ∧ Itv H v L := by
  obtain ⟨sl, h1, h2⟩ := h
  refine ⟨sl, h1, h2.imp id ?_⟩
  rintro ⟨kr, c, a1, a2, a3, a4⟩
  exact ⟨kr, c, a1, a2, a3⟩
theorem Itv.its {H : List Blk} {v : Value} {L : List En} (h : Itv H v L) : Its H v L := by
  refine h.imp id ?_
  rintro ⟨kr, c, a1, a2, a3⟩
  exact ⟨kr, c, a1, a3⟩
theorem Itv.frame {H H' : List Blk} {v : Value} {L : List En} (h : Itv H v L) (hf : Fr H H' (fun x => H.length ≤ x)) : Itv H' v L := by
  refine h.imp id ?_
  rintro ⟨kr, c, a1, a2, a3⟩
  have := get_lt a3
  exact ⟨kr, c, a1, a2, by rw [hf.2 kr this (by omega)]; exact a3⟩

theorem unk_lt {n : Nat} (h : n ≤ 65536) : n < UNK := by unfold UNK; omega
theorem Itv.pre {H : List Blk} {v : Value} {L : List En} (h : Itv H v L) {k : Nat} (hk : k ≤ L.length) (hl : L.length ≤ 65536) (st : AS) (hst : st.H = H) :
    ∃ y, aSlice PP t_L_twainref14_Item v none (some (.int .i64 k)) none st = some y ∧ ∀ H', Fr H H' (fun x => H.length ≤ x) → srcCells 3 H' y = some ((L.take k).length, itR (L.take k)) := by
  rcases h with ⟨rfl, rfl⟩ | ⟨kr, c, rfl, hc, h3⟩
  · have : k = 0 := by simpa using hk
    subst this
    exact ⟨.slice none 0 0, rfl, fun _ _ => rfl⟩
  · rcases hc with rfl | ⟨rfl, rfl⟩
    · have hb : aBounds L.length UNK none (some (.int .i64 (k : Int))) none = some (0, k, UNK) := by
        have h0 : (0 : Int) ≤ (k : Int) := by omega
        have := unk_lt hl
        simp only [aBounds, if_true, h0, Int.toNat_natCast, Option.isSome_none, Option.isNone_none, Nat.zero_le, hk, true_and, Bool.false_eq_true, false_implies, and_true, Nat.le_refl, this]
      have hsz : sizeP PP t_twainref14_Item = some 3 := sz_twainref14_Item
      refine ⟨.slice (some ⟨kr, 0, none⟩) k UNK, ?_, fun H' hf => ?_⟩
      · simp only [aSlice, u_L_twainref14_Item, hsz, hb, hst, h3, if_true, Nat.zero_mul, Addr.add, Nat.sub_zero]
      · have := get_lt h3
        have h3' : H'[kr]? = some (itB L) := by rw [hf.2 kr this (by omega)]; exact h3
        have hle : 0 + k * 3 ≤ (itR L).length := by rw [itR_len]; omega
        simp only [srcCells, cellsAt_of h3', if_pos hle, List.drop_zero, itR_take, Option.map_some, List.length_take, Nat.min_eq_left hk]
    · have : k = 0 := by simpa using hk
      subst this
      refine ⟨.slice (some ⟨kr, 0, none⟩) 0 0, rfl, fun H' hf => ?_⟩
      have := get_lt h3
      have h3' : H'[kr]? = some (itB []) := by rw [hf.2 kr this (by omega)]; exact h3
      simp only [srcCells, cellsAt_of h3']
      rfl
theorem Itv.suf {H : List Blk} {v : Value} {L : List En} (h : Itv H v L) {k : Nat} (hk : k ≤ L.length) (hl : L.length ≤ 65536) (st : AS) (hst : st.H = H) :
    ∃ y, aSlice PP t_L_twainref14_Item v (some (.int .i64 k)) none none st = some y ∧ ∀ H', Fr H H' (fun x => H.length ≤ x) → srcCells 3 H' y = some ((L.drop k).length, itR (L.drop k)) := by
  rcases h with ⟨rfl, rfl⟩ | ⟨kr, c, rfl, hc, h3⟩
  · have : k = 0 := by simpa using hk
    subst this
    exact ⟨.slice none 0 0, rfl, fun _ _ => rfl⟩
  · rcases hc with rfl | ⟨rfl, rfl⟩
    · have hb : aBounds L.length UNK (some (.int .i64 (k : Int))) none none = some (k, L.length, UNK) := by
        have h0 : (0 : Int) ≤ (k : Int) := by omega
        have := unk_lt hl
        simp only [aBounds, if_true, h0, Int.toNat_natCast, Option.isSome_none, Option.isNone_none, Nat.zero_le, hk, true_and, Bool.false_eq_true, false_implies, and_true, Nat.le_refl, this]
      have hsz : sizeP PP t_twainref14_Item = some 3 := sz_twainref14_Item
      have hadd : Addr.add ⟨kr, 0, none⟩ (k * 3) = ⟨kr, k * 3, none⟩ := by
        unfold Addr.add
        split
        · rename_i h0; rw [h0]
        · simp
      refine ⟨.slice (some ⟨kr, k * 3, none⟩) (L.length - k) UNK, ?_, fun H' hf => ?_⟩
      · simp only [aSlice, u_L_twainref14_Item, hsz, hb, hst, h3, if_true, hadd]
      · have := get_lt h3
        have h3' : H'[kr]? = some (itB L) := by rw [hf.2 kr this (by omega)]; exact h3
        have hle : k * 3 + (L.length - k) * 3 ≤ (itR L).length := by rw [itR_len]; omega
        have htk : List.take ((L.length - k) * 3) (itR (L.drop k)) = itR (L.drop k) := List.take_of_length_le (by rw [itR_len, List.length_drop]; omega)
        simp only [srcCells, cellsAt_of h3', if_pos hle, itR_drop, htk, Option.map_some, List.length_drop]
    · have : k = 0 := by simpa using hk
      subst this
      refine ⟨.slice (some ⟨kr, 0, none⟩) 0 0, rfl, fun H' hf => ?_⟩
      have := get_lt h3
      have h3' : H'[kr]? = some (itB []) := by rw [hf.2 kr this (by omega)]; exact h3
      simp only [srcCells, cellsAt_of h3']
      rfl
end IT
end Go.Proofs.Ytgpfiiebfhdjhaa

end
section
namespace Go.Proofs.Ytgpfiiebfhdjhaa
open Go Go.Am
set_option linter.unusedVariables false
namespace IT
open Go.It

theorem tokInt {n : Int} (h : isI n) : TOk PP t_int [.int .i64 n] := by
  refine TOk.int n u_int ?_
  have e1 : IntKind.i64.min = -9223372036854775808 := by decide
  have e2 : IntKind.i64.max = 9223372036854775807 := by decide
  rw [e1, e2]
  unfold isI at h
  omega
theorem tokItem {x : En} (h : EnT x) : TOk PP t_twainref14_Item (itc x) :=
  TOk.struct' (ps := [[.int .i64 x.off, .int .i64 x.len], [.int .i64 x.id]]) us_twainref14_Item ty_twainref14_Item
    ⟨TOk.struct' (ps := [[.int .i64 x.off], [.int .i64 x.len]]) us_api_Span ty_api_Span ⟨tokInt h.off, tokInt h.len, trivial⟩, tokInt h.id, trivial⟩
theorem flat_item : FlatAgg PP t_twainref14_Item := ⟨by kernel_rfl, by kernel_rfl, by kernel_rfl⟩
theorem itc_inj {x y : En} : itc x = itc y ↔ x = y := by
  cases x; cases y
  simp [itc]
theorem item_eq {ox oy : Operand} {x y : En} (hx : EnT x) (hy : EnT y) : aBin PP .eql t_twainref14_Item ox oy (.agg (itc x).toArray) (.agg (itc y).toArray) = some (.bool (decide (x = y))) := by
  rw [bin_eql_flat flat_item (tokItem hx) (tokItem hy)]
  simp only [itc_inj]
theorem item_ne {ox oy : Operand} {x y : En} (hx : EnT x) (hy : EnT y) : aBin PP .neq t_twainref14_Item ox oy (.agg (itc x).toArray) (.agg (itc y).toArray) = some (.bool (!decide (x = y))) := by
  rw [bin_neq_flat flat_item (tokItem hx) (tokItem hy)]
  simp only [itc_inj]

/-- what a call leaves that wrote into an older block -/
theorem fin_esc {v : Bool} {n0 b : Nat} {H : List Blk} (h : b < n0) : fin PP false n0 [.bool v] ⟨H, some b⟩ = some (.bool v, H, some b) := by
  have he : escOk n0 (some b) = false := by
    have : ¬ n0 ≤ b := by omega
    simp [escOk, this]
  unfold fin endFrz gc
  simp only [Bool.false_eq_true, if_false, frzL, frz_noSl n0 8 (.bool v) H rfl, he, escBelow, if_pos h]
  rfl

theorem RowI.add' {n : Nat} {H : List Blk} {v y : Value} {A B : List En} (h : RowI H v A (fun x => n ≤ x)) (hn : n ≤ H.length) (hy : srcCells 3 H y = some (B.length, itR B)) (hl : A.length + B.length ≤ 65536) :
    ∃ v' H', RowI H' v' (A ++ B) (fun x => n ≤ x) ∧ Fr H H' (fun x => n ≤ x) ∧ ∀ (R : Type) (F : Value → AS → Option R) (e : Option Nat), eBuiltin PP .append #[t_L_twainref14_Item, t_L_twainref14_Item] [v, y] ⟨H, e⟩ F = F v' ⟨H', e⟩ := by
  obtain ⟨v', H', h1, h2, h3⟩ := h.add hy hl
  refine ⟨v', H', h1.mono ?_, h2, h3⟩
  rintro x (hx | hx)
  · exact hx
  · have hx : H.length ≤ x := hx
    show n ≤ x
    omega

/-- the new row is stored -/
theorem row_store {n n0 : Nat} {H : List Blk} {v sl : Value} {A : List En} {b : Nat} (h : RowI H v A (fun x => n ≤ x)) (hb : H[b]? = some (.cells [sl] t_twainref14_Tree true)) (h1 : b < n0) (h2 : n0 ≤ n) :
    ((aStore 1 ⟨H, none⟩ (ptr b) v).bind fun s => fin PP false n0 [.bool true] s) = some (.bool true, H.set b (.cells [v] t_twainref14_Tree true), some b) ∧ RD (H.set b (.cells [v] t_twainref14_Tree true)) b A := by
  obtain ⟨kr, c, rfl, hc, h3, h4⟩ := h
  have h4 : n ≤ kr := h4
  have hlt : b < kr := by omega
  constructor
  · have : aStore 1 ⟨H, none⟩ (ptr b) (.slice (some ⟨kr, 0, none⟩) A.length c) = some ⟨H.set b (.cells [.slice (some ⟨kr, 0, none⟩) A.length c] t_twainref14_Tree true), some b⟩ := by
      have h5 : aStore 1 ⟨H, none⟩ (ptr b) (.slice (some ⟨kr, 0, none⟩) A.length c) = storeL ⟨H, none⟩ b 0 [.slice (some ⟨kr, 0, none⟩) A.length c] := rfl
      rw [h5, storeL_of hb, if_pos ⟨by simp, rfl⟩]
      simp [putCells, escOf, hlt, minO]
    rw [this]
    exact fin_esc h1
  · exact ⟨_, set_at (get_lt hb), .inr ⟨kr, c, rfl, hc, by rw [set_off (by omega)]; exact h3, by omega⟩⟩

theorem rins_j1 {n0 : Nat} {H : List Blk} {b kb p : Nat} {L : List En} {x : En} {v : Value} (hb : H[b]? = some (.cells [v] t_twainref14_Tree true)) (hv : Itv H v L) (hk : H[kb]? = some (.cells (itc x) t_twainref14_Item true)) (hp : p ≤ L.length) (hl : L.length ≤ 60000) (hn : b < n0) (hn2 : n0 ≤ H.length) :
    ∃ H', P_twainref14_Tree_Insert.j1 (acall PP TT) loopG n0 (ptr b) (ptr kb) (.int .i64 p) ⟨H, none⟩ = some (.bool true, H', some b) ∧ RD H' b (L.take p ++ x :: L.drop p) ∧ Fr H H' (fun y => y = b) := by
  have f1 : Fr H (H ++ [.cells [] t_twainref14_Item true]) (fun x => H.length ≤ x) := Fr.app _ _ _
  have r1 : RowI (H ++ [.cells [] t_twainref14_Item true]) (.slice (some ⟨H.length, 0, none⟩) 0 0) [] (fun x => H.length ≤ x) := ⟨H.length, 0, rfl, .inr ⟨rfl, rfl⟩, by simp; rfl, Nat.le_refl _⟩
  have hb1 : (H ++ [.cells [] t_twainref14_Item true])[b]? = some (.cells [v] t_twainref14_Tree true) := by rw [List.getElem?_append_left (get_lt hb)]; exact hb
  have v1 := hv.frame f1
  obtain ⟨y1, s1, c1⟩ := v1.pre hp (by omega) ⟨_, none⟩ rfl
  obtain ⟨w2, H2, r2, g2, a2⟩ := r1.add' (by simp) (c1 _ (Fr.refl _ _)) (by simp; omega)
  have f2 : Fr H H2 (fun x => H.length ≤ x) := f1.trans g2 fun x hx => .inl hx
  have hkb := get_lt hk
  have hbl := get_lt hb
  have hk2 : H2[kb]? = some (.cells (itc x) t_twainref14_Item true) := by rw [f2.2 kb hkb (by omega)]; exact hk
  obtain ⟨w4, H4, r4, g4, a4⟩ := (r2.app [.cells (itc x) t_twainref14_Item true]).add' (B := [x]) (by have := f2.1; simp; omega) (src_one x H2) (by simp [List.length_take]; omega)
  have f4 : Fr H H4 (fun x => H.length ≤ x) := (f2.trans (Fr.app H2 [.cells (itc x) t_twainref14_Item true] (fun x => H.length ≤ x)) fun x hx => .inl hx).trans g4 fun x hx => .inl hx
  have hb4 : H4[b]? = some (.cells [v] t_twainref14_Tree true) := by rw [f4.2 b hbl (by omega)]; exact hb
  have v4 := hv.frame f4
  obtain ⟨y5, s5, c5⟩ := v4.suf hp (by omega) ⟨_, none⟩ rfl
  obtain ⟨w6, H6, r6, g6, a6⟩ := r4.add' f4.1 (c5 _ (Fr.refl _ _)) (by simp [List.length_take, List.length_drop]; omega)
  have f6 : Fr H H6 (fun x => H.length ≤ x) := f4.trans g6 fun x hx => .inl hx
  have hb6 : H6[b]? = some (.cells [v] t_twainref14_Tree true) := by rw [f6.2 b hbl (by omega)]; exact hb
  obtain ⟨z1, z2⟩ := row_store r6 hb6 hn hn2
  refine ⟨_, ?_, by simpa using z2, ?_⟩
  · have hbx := bsl_one x
    unfold itc at a4 hk2 hbx
    simp only [P_twainref14_Tree_Insert.j1, bsl_none, nil_ptr, fa_twainref14_Tree_0, load_one, load_agg, cellAt_of hb1, cellAt_of hb4, List.getElem?_cons_zero, s1, a2, cellsAt_of hk2, Nat.reduceLeDiff, List.drop_zero, List.take, List.length_cons, List.length_nil, Nat.zero_add, Nat.reduceAdd, if_true, hbx, a4, s5, a6, Option.bind_some, Option.map_some]
    exact z1
  · refine ⟨by rw [List.length_set]; exact f6.1, fun y hy hn => ?_⟩
    rw [set_off (fun hc => hn hc.symm), f6.2 y hy (by omega)]
end IT
end Go.Proofs.Ytgpfiiebfhdjhaa

end
section
namespace Go.Proofs.Ytgpfiiebfhdjhaa
open Go Go.Am
set_option linter.unusedVariables false
namespace IT
open Go.It

/-- does an item stand at its place? -/
def atP (x : En) (L : List En) : Bool := decide (L[placeE x L]? = some x)
theorem placeE_le (x : En) : ∀ L : List En, placeE x L ≤ L.length
  | [] => Nat.le_refl _
  | e :: es => by
    simp only [placeE]
    have := placeE_le x es
    split <;> simp <;> omega
theorem putIn_place (x : En) : ∀ L : List En, L.take (placeE x L) ++ x :: L.drop (placeE x L) = putIn x L
  | [] => rfl
  | e :: es => by
    simp only [placeE, putIn]
    split
    · simp [putIn_place x es]
    · rfl
theorem atP_iff {x : En} {L : List En} : atP x L = true ↔ L[placeE x L]? = some x := by simp [atP]
theorem atP_mem {x : En} : ∀ {L : List En}, Sorted L → (atP x L = true ↔ x ∈ L)
  | [], _ => by simp [atP]
  | e :: es, hs => by
    obtain ⟨h1, h2⟩ := List.pairwise_cons.1 hs
    have ih := atP_mem (x := x) h2
    rw [atP_iff] at ih ⊢
    simp only [placeE]
    by_cases hc : ltE e x = true
    · rw [if_pos hc, List.getElem?_cons_succ, ih]
      constructor
      · intro h; simp [h]
      · intro h
        rcases List.mem_cons.1 h with rfl | h
        · rw [ltE_irrefl] at hc; simp at hc
        · exact h
    · rw [if_neg hc, List.getElem?_cons_zero, Option.some.injEq]
      constructor
      · rintro rfl; simp
      · intro h
        rcases List.mem_cons.1 h with rfl | h
        · rfl
        · exact absurd (h1 x h) hc
theorem erase_place {x : En} : ∀ {L : List En}, atP x L = true → L.take (placeE x L) ++ L.drop (placeE x L + 1) = L.erase x
  | [], h => by simp [atP] at h
  | e :: es, h => by
    rw [atP_iff] at h
    simp only [placeE] at h ⊢
    by_cases hc : ltE e x = true
    · rw [if_pos hc, List.getElem?_cons_succ] at h
      have ih := erase_place (x := x) (L := es) (atP_iff.2 h)
      have hne : ¬ e = x := by
        rintro rfl
        rw [ltE_irrefl] at hc; simp at hc
      rw [if_pos hc, List.take_succ_cons, List.cons_append, List.drop_succ_cons, ih, List.erase_cons_tail (by simpa using hne)]
    · rw [if_neg hc, List.getElem?_cons_zero, Option.some.injEq] at h
      subst h
      rw [if_neg hc]
      simp

section
variable {H : List Blk} {b : Nat} {L : List En} {x : En}
def ri0 (x : En) : List Blk := [.cells [.int .i64 x.off, .int .i64 x.len] t_api_Span true, .cells (itc x) t_twainref14_Item true]
theorem bd_item (x : En) : aBuild PP t_twainref14_Item [(0, spn x.off x.len), (1, .int .i64 x.id)] = some (.agg (itc x).toArray) := by kernel_rfl
def rinsB (x : En) (L : List En) : Bool := plainE x && !atP x L

/-- what a call comes to that may write the document's tree -/
def RDo (r : Option (Value × List Blk × Option Nat)) (H : List Blk) (b : Nat) (v : Bool) (L : List En) : Prop := ∃ H' e', r = some (.bool v, H', e') ∧ RD H' b L ∧ Fr H H' (fun y => y = b)

theorem rins_ok (h : RD H b L) (hl : L.length ≤ 60000) (hx : EnT x) (hL : ∀ y ∈ L, EnT y) : RDo (acall PP TT n_P_twainref14_Tree_Insert [ptr b, spn x.off x.len, .int .i64 x.id] H) H b (rinsB x L) (if rinsB x L = true then putIn x L else L) := by
  have h' := h.app (ri0 x)
  have hpl := rplace_ok h' (by omega) x
  have hp := placeE_le x L
  obtain ⟨v, h1, hv⟩ := h'.itv
  have hbl : b < H.length := by obtain ⟨_, q, _⟩ := h; exact get_lt q
  have k0 : (H ++ ri0 x)[H.length]? = some (.cells [.int .i64 x.off, .int .i64 x.len] t_api_Span true) := by simp [ri0]
  have k1 : (H ++ ri0 x)[H.length + 1]? = some (.cells (itc x) t_twainref14_Item true) := by simp [ri0]
  have hlen := hv.its.len
  have hno : RDo (some (.bool false, H, none)) H b false L := ⟨H, none, rfl, h, Fr.refl _ _⟩
  have hzl : (itc x).length = z_twainref14_Item.length := rfl
  rw [acall_eq, P_twainref14_Tree_Insert.eq]
  have fin0 : fin PP false H.length [.bool false] ⟨H ++ ri0 x, none⟩ = some (.bool false, H, none) := fin_lit rfl rfl rfl
  have hj : plainE x = true → atP x L = false → RDo (P_twainref14_Tree_Insert.j1 (acall PP TT) loopG H.length (ptr b) (ptr (H.length + 1)) (.int .i64 (placeE x L : Nat)) ⟨H ++ ri0 x, none⟩) H b (rinsB x L) (if rinsB x L = true then putIn x L else L) := by
    intro g1 g2
    obtain ⟨H', q1, q2, q3⟩ := rins_j1 h1 hv k1 hp hl hbl (by simp)
    have hr : rinsB x L = true := by simp [rinsB, g1, g2]
    rw [hr, if_pos rfl, q1]
    rw [putIn_place] at q2
    exact ⟨H', _, rfl, q2, (Fr.app H (ri0 x) _).trans q3 fun x hx => .inl hx⟩
  unfold ri0 itc at *
  cases g1 : plainB x.off x.len with
  | false =>
    have hr : rinsB x L = false := by simp [rinsB, plainE, g1]
    simp only [P_twainref14_Tree_Insert.sh, P_twainref14_Tree_Insert.j0, mach, Nat.reduceAdd, Nat.reduceLeDiff, Int.reduceEq, Int.reduceLT, Int.reduceLE, bd_item, zg_twainref14_Item, zl_twainref14_Item, za_twainref14_Item, z_twainref14_Item, itc, putCells_all, hzl, hpl, rplain_ok, g1, hr]
    rw [fin0]
    exact hno
  | true =>
    by_cases g2 : x.len < 1
    · have hr : rinsB x L = false := by simp [rinsB, plainE, g2]
      simp only [P_twainref14_Tree_Insert.sh, P_twainref14_Tree_Insert.j0, mach, Nat.reduceAdd, Nat.reduceLeDiff, Int.reduceEq, Int.reduceLT, Int.reduceLE, bd_item, zg_twainref14_Item, zl_twainref14_Item, za_twainref14_Item, z_twainref14_Item, itc, putCells_all, hzl, hpl, rplain_ok, g1, fa_api_Span_1, g2, hr]
      rw [fin0]
      exact hno
    · have g3 : plainE x = true := by simp [plainE, g1, g2]
      cases g4 : L[placeE x L]? with
      | none =>
        have hge : ¬ ((placeE x L : Nat) : Int) < (L.length : Int) := by
          have := List.getElem?_eq_none_iff.1 g4
          omega
        have ha : atP x L = false := by simp [atP, g4]
        have hj := hj g3 ha
        simp only [P_twainref14_Tree_Insert.sh, P_twainref14_Tree_Insert.j0, mach, Nat.reduceAdd, Nat.reduceLeDiff, Int.reduceEq, Int.reduceLT, Int.reduceLE, bd_item, zg_twainref14_Item, zl_twainref14_Item, za_twainref14_Item, z_twainref14_Item, itc, putCells_all, hzl, hpl, rplain_ok, g1, fa_api_Span_1, g2, nil_ptr, fa_twainref14_Tree_0, cellAt_of h1, hlen, hge]
        exact hj
      | some y =>
        have hlt : ((placeE x L : Nat) : Int) < (L.length : Int) := by
          have := (List.getElem?_eq_some_iff.1 g4).1
          omega
        obtain ⟨bq, o, m1, m2⟩ := hv.its.at_ (Fr.refl _ _) g4
        have hy : EnT y := hL y (List.mem_of_getElem? g4)
        have hq : ∀ {ox oy : Operand}, aBin PP .eql t_twainref14_Item ox oy (.agg (itc y).toArray) (.agg (itc x).toArray) = some (.bool (decide (y = x))) := item_eq hy hx
        unfold itc at m2 hq
        by_cases g5 : y = x
        · have ha : atP x L = true := by simp [atP, g4, g5]
          have hr : rinsB x L = false := by simp [rinsB, ha]
          have hdd : decide (y = x) = true := by simp [g5]
          simp only [P_twainref14_Tree_Insert.sh, P_twainref14_Tree_Insert.j0, mach, Nat.reduceAdd, Nat.reduceLeDiff, Int.reduceEq, Int.reduceLT, Int.reduceLE, bd_item, zg_twainref14_Item, zl_twainref14_Item, za_twainref14_Item, z_twainref14_Item, itc, putCells_all, hzl, hpl, rplain_ok, g1, fa_api_Span_1, g2, nil_ptr, fa_twainref14_Tree_0, cellAt_of h1, hlen, hlt, m1, m2, cellsAt_of k1, Nat.reduceLeDiff, hq, hdd, hr]
          rw [fin0]
          exact hno
        · have ha : atP x L = false := by simp [atP, g4, g5]
          have hj := hj g3 ha
          simp only [P_twainref14_Tree_Insert.sh, P_twainref14_Tree_Insert.j0, mach, Nat.reduceAdd, Nat.reduceLeDiff, Int.reduceEq, Int.reduceLT, Int.reduceLE, bd_item, zg_twainref14_Item, zl_twainref14_Item, za_twainref14_Item, z_twainref14_Item, itc, putCells_all, hzl, hpl, rplain_ok, g1, fa_api_Span_1, g2, nil_ptr, fa_twainref14_Tree_0, cellAt_of h1, hlen, hlt, m1, m2, cellsAt_of k1, Nat.reduceLeDiff, hq, g5]
          exact hj

theorem rdel_j1 {n0 : Nat} {H : List Blk} {b p : Nat} {L : List En} {v : Value} (hb : H[b]? = some (.cells [v] t_twainref14_Tree true)) (hv : Itv H v L) (hp : p < L.length) (hl : L.length ≤ 60000) (hn : b < n0) (hn2 : n0 ≤ H.length) :
    ∃ H', P_twainref14_Tree_Delete.j1 (acall PP TT) loopG n0 (ptr b) (.int .i64 p) ⟨H, none⟩ = some (.bool true, H', some b) ∧ RD H' b (L.take p ++ L.drop (p + 1)) ∧ Fr H H' (fun y => y = b) := by
  have f1 : Fr H (H ++ [.cells [] t_twainref14_Item true]) (fun x => H.length ≤ x) := Fr.app _ _ _
  have r1 : RowI (H ++ [.cells [] t_twainref14_Item true]) (.slice (some ⟨H.length, 0, none⟩) 0 0) [] (fun x => H.length ≤ x) := ⟨H.length, 0, rfl, .inr ⟨rfl, rfl⟩, by simp; rfl, Nat.le_refl _⟩
  have hb1 : (H ++ [.cells [] t_twainref14_Item true])[b]? = some (.cells [v] t_twainref14_Tree true) := by rw [List.getElem?_append_left (get_lt hb)]; exact hb
  have v1 := hv.frame f1
  obtain ⟨y1, s1, c1⟩ := v1.pre (Nat.le_of_lt hp) (by omega) ⟨_, none⟩ rfl
  obtain ⟨w2, H2, r2, g2, a2⟩ := r1.add' (by simp) (c1 _ (Fr.refl _ _)) (by simp; omega)
  have f2 : Fr H H2 (fun x => H.length ≤ x) := f1.trans g2 fun x hx => .inl hx
  have hbl := get_lt hb
  have hb2 : H2[b]? = some (.cells [v] t_twainref14_Tree true) := by rw [f2.2 b hbl (by omega)]; exact hb
  have v2 := hv.frame f2
  have hw : IntKind.i64.wrap ((p : Int) + 1) = ((p + 1 : Nat) : Int) := wrap_succ (by omega)
  obtain ⟨y5, s5, c5⟩ := v2.suf (k := p + 1) (by omega) (by omega) ⟨_, none⟩ rfl
  obtain ⟨w6, H6, r6, g6, a6⟩ := r2.add' f2.1 (c5 _ (Fr.refl _ _)) (by simp [List.length_take, List.length_drop]; omega)
  have f6 : Fr H H6 (fun x => H.length ≤ x) := f2.trans g6 fun x hx => .inl hx
  have hb6 : H6[b]? = some (.cells [v] t_twainref14_Tree true) := by rw [f6.2 b hbl (by omega)]; exact hb
  obtain ⟨z1, z2⟩ := row_store r6 hb6 hn hn2
  refine ⟨_, ?_, by simpa using z2, ?_⟩
  · simp only [P_twainref14_Tree_Delete.j1, bsl_none, nil_ptr, fa_twainref14_Tree_0, load_one, load_agg, cellAt_of hb1, cellAt_of hb2, List.getElem?_cons_zero, s1, a2, bin_add, hw, s5, a6, Option.bind_some, Option.map_some]
    exact z1
  · refine ⟨by rw [List.length_set]; exact f6.1, fun y hy hn => ?_⟩
    rw [set_off (fun hc => hn hc.symm), f6.2 y hy (by omega)]

theorem rdel_ok (h : RD H b L) (hl : L.length ≤ 60000) (hx : EnT x) (hL : ∀ y ∈ L, EnT y) : RDo (acall PP TT n_P_twainref14_Tree_Delete [ptr b, spn x.off x.len, .int .i64 x.id] H) H b (atP x L) (if atP x L = true then L.erase x else L) := by
  have h' := h.app (ri0 x)
  have hpl := rplace_ok h' (by omega) x
  have hp := placeE_le x L
  obtain ⟨v, h1, hv⟩ := h'.itv
  have hbl : b < H.length := by obtain ⟨_, q, _⟩ := h; exact get_lt q
  have k0 : (H ++ ri0 x)[H.length]? = some (.cells [.int .i64 x.off, .int .i64 x.len] t_api_Span true) := by simp [ri0]
  have k1 : (H ++ ri0 x)[H.length + 1]? = some (.cells (itc x) t_twainref14_Item true) := by simp [ri0]
  have hlen := hv.its.len
  have hno : RDo (some (.bool false, H, none)) H b false L := ⟨H, none, rfl, h, Fr.refl _ _⟩
  have hzl : (itc x).length = z_twainref14_Item.length := rfl
  rw [acall_eq, P_twainref14_Tree_Delete.eq]
  have fin0 : fin PP false H.length [.bool false] ⟨H ++ ri0 x, none⟩ = some (.bool false, H, none) := fin_lit rfl rfl rfl
  have hj : atP x L = true → RDo (P_twainref14_Tree_Delete.j1 (acall PP TT) loopG H.length (ptr b) (.int .i64 (placeE x L : Nat)) ⟨H ++ ri0 x, none⟩) H b (atP x L) (if atP x L = true then L.erase x else L) := by
    intro g2
    have hlt := (List.getElem?_eq_some_iff.1 (atP_iff.1 g2)).1
    obtain ⟨H', q1, q2, q3⟩ := rdel_j1 h1 hv hlt hl hbl (by simp)
    rw [if_pos g2, q1, g2]
    rw [erase_place g2] at q2
    exact ⟨H', _, rfl, q2, (Fr.app H (ri0 x) _).trans q3 fun x hx => .inl hx⟩
  unfold ri0 itc at *
  cases g4 : L[placeE x L]? with
  | none =>
    have hge : (L.length : Int) ≤ ((placeE x L : Nat) : Int) := by
      have := List.getElem?_eq_none_iff.1 g4
      omega
    have ha : atP x L = false := by simp [atP, g4]
    simp only [P_twainref14_Tree_Delete.sh, P_twainref14_Tree_Delete.j0, mach, Nat.reduceAdd, Nat.reduceLeDiff, Int.reduceEq, Int.reduceLT, Int.reduceLE, bd_item, zg_twainref14_Item, zl_twainref14_Item, za_twainref14_Item, z_twainref14_Item, itc, putCells_all, hzl, hpl, nil_ptr, fa_twainref14_Tree_0, cellAt_of h1, hlen, hge, ha]
    rw [fin0]
    exact hno
  | some y =>
    have hlt : ¬ (L.length : Int) ≤ ((placeE x L : Nat) : Int) := by
      have := (List.getElem?_eq_some_iff.1 g4).1
      omega
    obtain ⟨bq, o, m1, m2⟩ := hv.its.at_ (Fr.refl _ _) g4
    have hy : EnT y := hL y (List.mem_of_getElem? g4)
    have hq : ∀ {ox oy : Operand}, aBin PP .neq t_twainref14_Item ox oy (.agg (itc y).toArray) (.agg (itc x).toArray) = some (.bool (!decide (y = x))) := item_ne hy hx
    unfold itc at m2 hq
    by_cases g5 : y = x
    · have ha : atP x L = true := by simp [atP, g4, g5]
      have hj := hj ha
      have hdd : decide (y = x) = true := by simp [g5]
      simp only [P_twainref14_Tree_Delete.sh, P_twainref14_Tree_Delete.j0, mach, Nat.reduceAdd, Nat.reduceLeDiff, Int.reduceEq, Int.reduceLT, Int.reduceLE, bd_item, zg_twainref14_Item, zl_twainref14_Item, za_twainref14_Item, z_twainref14_Item, itc, putCells_all, hzl, hpl, nil_ptr, fa_twainref14_Tree_0, cellAt_of h1, hlen, hlt, m1, m2, cellsAt_of k1, Nat.reduceLeDiff, hq, hdd]
      exact hj
    · have ha : atP x L = false := by simp [atP, g4, g5]
      simp only [P_twainref14_Tree_Delete.sh, P_twainref14_Tree_Delete.j0, mach, Nat.reduceAdd, Nat.reduceLeDiff, Int.reduceEq, Int.reduceLT, Int.reduceLE, bd_item, zg_twainref14_Item, zl_twainref14_Item, za_twainref14_Item, z_twainref14_Item, itc, putCells_all, hzl, hpl, nil_ptr, fa_twainref14_Tree_0, cellAt_of h1, hlen, hlt, m1, m2, cellsAt_of k1, Nat.reduceLeDiff, hq, g5, ha]
      rw [fin0]
      exact hno
end
end IT
end Go.Proofs.Ytgpfiiebfhdjhaa

end
section
namespace Go.Proofs.Ytgpfiiebfhdjhaa
open Go Go.Am
set_option linter.unusedVariables false
namespace IT
open Go.It

theorem ints_same {l m : List Int} (h : l.length = m.length) {k : Nat} (hp : l.take k = m.take k) (hk : k < l.length) (hne : ¬ l[k]? = m[k]?) : ¬ l = m := by
  rintro rfl
  exact hne rfl

theorem rints_ok (l m : List Int) (hl : l.length < 1000000) (hm : m.length < 1000000) (H : List Blk) : acall PP TT n_twainref01_Ints [tSl l.length (intsV l), tSl m.length (intsV m)] H = some (.bool (decide (l = m)), H, none) := by
  rw [acall_eq, twainref01_Ints.eq]
  by_cases hlen : (l.length : Int) = (m.length : Int)
  · have hlen' : l.length = m.length := by omega
    obtain ⟨q, hlp, hq⟩ := loop_r (n0 := H.length) (step := twainref01_Ints.loop4s (acall PP TT) loopG H.length) (len := l.length) (σ := Unit)
      (fun k _ => ([tSl l.length (intsV l), tSl m.length (intsV m), .int .i64 l.length, .int .i64 k], ⟨H, none⟩))
      (fun k _ => l.take k = m.take k) (fun q => (q = (.ret, [.bool false], ⟨H, none⟩) ∧ ¬ l = m) ∨ (q = (.exit 0, [unk], ⟨H, none⟩) ∧ l = m))
      (fun k _ hk hno => by
        have hg : l[k]? = some l[k] := List.getElem?_eq_getElem hk
        have hkm : k < m.length := by omega
        have hg2 : m[k]? = some m[k] := List.getElem?_eq_getElem hkm
        have hlt : (k : Int) < (l.length : Int) := by omega
        by_cases hy : l[k] = m[k]
        · right
          have hw : IntKind.i64.wrap ((k : Int) + 1) = ((k + 1 : Nat) : Int) := wrap_succ (by omega)
          refine ⟨_, _, (), ?_, gc_same (by simp [tsl_refs, ints_refs]), ?_⟩
          · simp only [twainref01_Ints.loop4s, twainref01_Ints.loop4, mach, Nat.reduceAdd, Nat.reduceLeDiff, Int.reduceEq, Int.reduceLT, Int.reduceLE, hlt, ix_ints hk, ix_ints hkm, ld_ints hg, ld_ints hg2, hy, hw]
          · rw [List.take_succ, List.take_succ, hg, hg2, hno, hy]
        · left
          refine ⟨_, ?_, .inl ⟨rfl, ?_⟩⟩
          · simp only [twainref01_Ints.loop4s, twainref01_Ints.loop4, mach, Nat.reduceAdd, Nat.reduceLeDiff, Int.reduceEq, Int.reduceLT, Int.reduceLE, hlt, ix_ints hk, ix_ints hkm, ld_ints hg, ld_ints hg2, hy]
          · rintro rfl
            exact hy rfl)
      (fun _ hno => by
        refine ⟨_, ?_, .inr ⟨rfl, ?_⟩⟩
        · simp only [twainref01_Ints.loop4s, twainref01_Ints.loop4, mach, Nat.reduceAdd, Nat.reduceLeDiff, Int.reduceEq, Int.reduceLT, Int.reduceLE, Int.lt_irrefl]
        · rw [List.take_length] at hno
          rw [hno, hlen', List.take_length]) l.length 0 () [tSl l.length (intsV l), tSl m.length (intsV m), .int .i64 l.length, .int .i64 0] ⟨H, none⟩ (by omega) (by simp) (gc_same (by simp [tsl_refs, ints_refs]))
    rcases hq with ⟨rfl, hh⟩ | ⟨rfl, hh⟩
    · simp only [twainref01_Ints.sh, twainref01_Ints.j2, mach, Nat.reduceAdd, Nat.reduceLeDiff, Int.reduceEq, Int.reduceLT, Int.reduceLE, ln_ints, hlen, hh]
      rw [← hlen, hlp]
      simp only [mach, Nat.reduceAdd, Nat.reduceLeDiff, Int.reduceEq, Int.reduceLT, Int.reduceLE]
      exact fin_lit0 rfl rfl
    · simp only [twainref01_Ints.sh, twainref01_Ints.j2, mach, Nat.reduceAdd, Nat.reduceLeDiff, Int.reduceEq, Int.reduceLT, Int.reduceLE, ln_ints, hlen]
      rw [← hlen, hlp]
      simp only [twainref01_Ints.j2, mach, Nat.reduceAdd, Nat.reduceLeDiff, Int.reduceEq, Int.reduceLT, Int.reduceLE, hh]
      exact fin_lit0 rfl rfl
  · have hne : ¬ l = m := by rintro rfl; exact hlen rfl
    simp only [twainref01_Ints.sh, mach, Nat.reduceAdd, Nat.reduceLeDiff, Int.reduceEq, Int.reduceLT, Int.reduceLE, ln_ints, hlen, hne]
    exact fin_lit0 rfl rfl

/-! ### The entries are plain -/
theorem TA.plain {H : List Blk} : ∀ {t : Tr} {p : Value} {S : Nat → Prop}, TA H p t S → ∀ e ∈ toL t, plainB e.off e.len = true
  | .nil, p, S, _, e, he => by simp [toL] at he
  | .nd c x f l r, p, S, h, e, he => by
    obtain ⟨b, pl, pr, Sl, Sr, h1, h2, h3, h4, h5, h6, h7, h8⟩ := h
    have he : e ∈ toL l ++ x :: toL r := he
    rcases List.mem_append.1 he with he | he
    · exact h4.plain e he
    · rcases List.mem_cons.1 he with rfl | he
      · exact h3
      · exact h5.plain e he
theorem TD.plain {H : List Blk} {b : Nat} {t : Tr} {S : Nat → Prop} (h : TD H b t S) : ∀ e ∈ toL t, plainB e.off e.len = true := by
  obtain ⟨_, _, h, _⟩ := h
  exact h.plain

theorem told_mids {t : Tr} (hi : Inv t) (hpl : ∀ e ∈ toL t, plainB e.off e.len = true) {o n : Int} (hp : plainB o n = true) : told o n t = mids o n (toL t) := by
  rw [told_ok hi.far hi.sorted]
  unfold mids
  congr 1
  exact List.filter_congr fun e he => (ovl_meet (hpl e he) hp).symm
theorem mids_not {L : List En} {o n : Int} (hp : plainB o n = false) : mids o n L = [] := by
  unfold mids
  rw [List.filter_eq_nil_iff.2 (fun e he => by simp [meetB, hp])]
  rfl

/-- what overlaps is the document's, whatever is asked -/
theorem overlaps_doc {H : List Blk} {b : Nat} {t : Tr} {S : Nat → Prop} (h : TD H b t S) (hi : Inv t) (hs : (toL t).length < 65000) (o n : Int) :
    acall PP TT n_P_itree_Tree_Overlaps [ptr b, spn o n] H = some (tSl (mids o n (toL t)).length (intsV (mids o n (toL t))), H, none) ∧ acall PP TT n_P_itree_Tree_Any [ptr b, spn o n] H = some (.bool (decide (0 < ((mids o n (toL t)).length : Int))), H, none) := by
  cases hp : plainB o n with
  | true =>
    have h1 := overlaps_ok h hs hp
    have h2 := any_ok h hs hp
    rw [told_mids hi h.plain hp] at h1 h2
    refine ⟨h1, ?_⟩
    rw [h2]
    congr 3
    cases mids o n (toL t) <;> simp
  | false =>
    have h1 := overlaps_not h hp
    have h2 := any_not h hp
    rw [mids_not hp]
    exact ⟨h1, h2⟩
theorem mids_len (o n : Int) (L : List En) : (mids o n L).length ≤ L.length := by
  unfold mids
  rw [List.length_map]
  exact List.length_filter_le _ _
end IT
end Go.Proofs.Ytgpfiiebfhdjhaa

end
section
namespace Go.Proofs.Ytgpfiiebfhdjhaa
open Go Go.Am
set_option linter.unusedVariables false
namespace IT
open Go.It

/-- a tree's blocks are known by their types -/
theorem TA.typed {H : List Blk} : ∀ {t : Tr} {p : Value} {S : Nat → Prop}, TA H p t S → TA H p t (fun y => S y ∧ ∃ cs, H[y]? = some (.cells cs t_itree_node true))
  | .nil, p, S, h => h
  | .nd c e f l r, p, S, h => by
    obtain ⟨b, pl, pr, Sl, Sr, h1, h2, h3, h4, h5, h6, h7, h8⟩ := h
    refine ⟨b, pl, pr, _, _, h1, h2, h3, h4.typed, h5.typed, ⟨h6, _, h2⟩, fun x hx => ⟨⟨(h7 x hx.1).1, hx.2⟩, (h7 x hx.1).2⟩, fun x hx => ⟨⟨(h8 x hx.1).1, hx.2⟩, (h8 x hx.1).2.1, fun hc => (h8 x hx.1).2.2 hc.1⟩⟩
def Nt (H : List Blk) (y : Nat) : Prop := ∃ cs, H[y]? = some (.cells cs t_itree_node true)
theorem TD.typed {H : List Blk} {b : Nat} {t : Tr} {S : Nat → Prop} (h : TD H b t S) : TD H b t (Nt H) := by
  obtain ⟨root, h1, h2, h3⟩ := h
  refine ⟨root, h1, h2.typed.more fun x hx => hx.2, ?_⟩
  rintro ⟨cs, hc⟩
  rw [h1] at hc
  simp only [Option.some.injEq, Blk.cells.injEq] at hc
  exact absurd hc.2.1 (by decide)
theorem TD.frame {H H' : List Blk} {b : Nat} {t : Tr} {S : Nat → Prop} (h : TD H b t S) (hb : H'[b]? = H[b]?) (hf : ∀ x, S x → H'[x]? = H[x]?) : TD H' b t S := by
  obtain ⟨root, h1, h2, h3⟩ := h
  exact ⟨root, by rw [hb]; exact h1, h2.frame hf, h3⟩

/-- the span's box, the tree, the document's tree -/
structure H3 (H : List Blk) (b1 : Nat) (o n : Int) (b : Nat) (t : Tr) (r : Nat) : Prop where
  box : H[b1]? = some (sb o n)
  td : ∃ S, TD H b t S
  inv : Inv t
  rd : RD H r (toL t)
  en : ∀ y ∈ toL t, EnT y

section
variable {H : List Blk} {b1 b r : Nat} {o n : Int} {t : Tr}
theorem H3.app (h : H3 H b1 o n b t r) (l : List Blk) : H3 (H ++ l) b1 o n b t r := by
  obtain ⟨S, hd⟩ := h.td
  exact ⟨by rw [List.getElem?_append_left (get_lt h.box)]; exact h.box, ⟨S, hd.app l⟩, h.inv, h.rd.app l, h.en⟩

/-- the document's tree stays where only the tree is written -/
theorem RD.stay {H' : List Blk} {L : List En} (h : RD H r L) {Q : Nat → Prop} (hf : Fr H H' Q) (hq : ∀ y, Q y → ∃ cs ty w, H[y]? = some (.cells cs ty w) ∧ ty ≠ t_twainref14_Tree ∧ ty ≠ t_twainref14_Item) : RD H' r L := by
  obtain ⟨sl, h1, h2⟩ := h
  have off : ∀ {y : Nat} {cs ty w}, H[y]? = some (.cells cs ty w) → ty = t_twainref14_Tree ∨ ty = t_twainref14_Item → H'[y]? = some (.cells cs ty w) := by
    intro y cs ty w hy hty
    rw [hf.2 y (get_lt hy) ?_]
    · exact hy
    · intro hc
      obtain ⟨cs', ty', w', k1, k2, k3⟩ := hq y hc
      rw [hy] at k1
      simp only [Option.some.injEq, Blk.cells.injEq] at k1
      obtain ⟨_, rfl, _⟩ := k1
      exact hty.elim k2 k3
  refine ⟨sl, off h1 (.inl rfl), h2.imp id ?_⟩
  rintro ⟨kr, c, a1, a2, a3, a4⟩
  exact ⟨kr, c, a1, a2, off a3 (.inr rfl), a4⟩

/-- a call of the tree's, then the document's -/
theorem H3.both {H1 H2 : List Blk} {t' : Tr} {S' : Nat → Prop} (h : H3 H b1 o n b t r) (hd : TD H1 b t' S') (hf : Fr H H1 (fun y => y = b ∨ Nt H y)) (hi : Inv t') (hr2 : RD H2 r (toL t')) (hf2 : Fr H1 H2 (fun y => y = r)) (he : ∀ y ∈ toL t', EnT y) : H3 H2 b1 o n b t' r := by
  obtain ⟨S, root, g1, g2, g3⟩ := h.td
  obtain ⟨sl, k1, k2⟩ := h.rd
  have hb1 : H1[b1]? = some (sb o n) := by
    rw [hf.2 b1 (get_lt h.box) ?_]
    · exact h.box
    · rintro (rfl | ⟨cs, hc⟩)
      · rw [h.box] at g1
        simp only [Option.some.injEq, Blk.cells.injEq] at g1
        exact absurd g1.2.1 (by decide)
      · rw [h.box] at hc
        simp only [Option.some.injEq, Blk.cells.injEq] at hc
        exact absurd hc.2.1 (by decide)
  have hr1 : ∃ cs, H1[r]? = some (.cells cs t_twainref14_Tree true) := by
    refine ⟨[sl], ?_⟩
    · rw [hf.2 r (get_lt k1) ?_]
      · exact k1
      · rintro (rfl | ⟨cs, hc⟩)
        · rw [k1] at g1
          simp only [Option.some.injEq, Blk.cells.injEq] at g1
          exact absurd g1.2.1 (by decide)
        · rw [k1] at hc
          simp only [Option.some.injEq, Blk.cells.injEq] at hc
          exact absurd hc.2.1 (by decide)
  obtain ⟨cr, hr1⟩ := hr1
  have hty := hd.typed
  obtain ⟨root', q1, q2, q3⟩ := id hty
  have hbr : b ≠ r := by
    rintro rfl
    rw [hr1] at q1
    simp only [Option.some.injEq, Blk.cells.injEq] at q1
    exact absurd q1.2.1 (by decide)
  refine ⟨?_, ⟨_, hty.frame (hf2.2 b (get_lt q1) hbr) fun x hx => ?_⟩, hi, hr2, he⟩
  · rw [hf2.2 b1 (get_lt hb1) ?_]
    · exact hb1
    · rintro rfl
      rw [hr1] at hb1
      simp only [Option.some.injEq, Blk.cells.injEq] at hb1
      exact absurd hb1.2.1 (by decide)
  · obtain ⟨cs, hx⟩ := hx
    refine hf2.2 x (get_lt hx) ?_
    rintro rfl
    rw [hr1] at hx
    simp only [Option.some.injEq, Blk.cells.injEq] at hx
    exact absurd hx.2.1 (by decide)

theorem H3.tyb (h : H3 H b1 o n b t r) : ∀ y, (y = b ∨ Nt H y) → ∃ cs ty w, H[y]? = some (.cells cs ty w) ∧ ty ≠ t_twainref14_Tree ∧ ty ≠ t_twainref14_Item := by
  obtain ⟨S, root, g1, g2, g3⟩ := h.td
  rintro y (rfl | ⟨cs, hc⟩)
  · exact ⟨_, _, _, g1, by decide, by decide⟩
  · exact ⟨_, _, _, hc, by decide, by decide⟩

theorem has_at {x : En} (hs : Sorted (toL t)) : atP x (toL t) = hasE x t := by
  have h1 := hasE_ok (x := x) (t := t) hs
  have h2 := atP_mem (x := x) hs
  cases ha : hasE x t <;> cases hb : atP x (toL t)
  · rfl
  · rw [ha] at h1; rw [hb] at h2
    exact absurd (h1.2 (h2.1 rfl)) (by simp)
  · rw [ha] at h1; rw [hb] at h2
    exact absurd (h2.2 (h1.1 rfl)) (by simp)
  · rfl
theorem ins_at {x : En} (hs : Sorted (toL t)) : rinsB x (toL t) = insOk x t := by
  unfold rinsB insOk
  rw [has_at hs]

/-- both calls -/
def Two (C1 C2 : List Blk → Option (Value × List Blk × Option Nat)) (H : List Blk) (b1 : Nat) (o n : Int) (b r m : Nat) : Prop :=
  ∃ v HH e1 H2 e2 t', C1 H = some (.bool v, HH, e1) ∧ Fr H HH (fun y => y = b ∨ Nt H y) ∧ C2 HH = some (.bool v, H2, e2) ∧ H3 H2 b1 o n b t' r ∧ (toL t').length ≤ m

theorem two_ins (h : H3 H b1 o n b t r) {m : Nat} (hs : (toL t).length ≤ m) (hm : m ≤ 1000) {x : En} (hx : EnT x) : Two (acall PP TT n_P_itree_Tree_Insert [ptr b, spn x.off x.len, .int .i64 x.id]) (acall PP TT n_P_twainref14_Tree_Insert [ptr r, spn x.off x.len, .int .i64 x.id]) H b1 o n b r (m + 1) := by
  obtain ⟨S, hd⟩ := h.td
  have hd := hd.typed
  have hat := ins_at (x := x) h.inv.sorted
  cases hy : insOk x t with
  | true =>
    obtain ⟨HH, e', a1, a2, a3⟩ := insert_yes hd h.inv (by omega) hy
    obtain ⟨c1, c2⟩ := insT_len h.inv hy
    obtain ⟨H2, e2, k1, k2, k3⟩ := rins_ok (h.rd.stay a3 h.tyb) (by omega) hx h.en
    rw [hat, hy] at k1 k2
    rw [if_pos rfl, ← c1] at k2
    refine ⟨true, HH, e', H2, e2, _, a1, a3, k1, h.both a2 a3 c2 k2 k3 ?_, by rw [c1, putIn_len]; omega⟩
    intro y hy
    rw [c1] at hy
    rcases mem_putIn.1 hy with rfl | hy
    · exact hx
    · exact h.en y hy
  | false =>
    obtain ⟨l, a1⟩ := insert_no hd hy
    obtain ⟨H2, e2, k1, k2, k3⟩ := rins_ok (h.rd.app l) (by omega) hx h.en
    rw [hat, hy] at k1 k2
    rw [if_neg (by simp)] at k2
    exact ⟨false, _, none, H2, e2, t, a1, Fr.app _ _ _, k1, h.both (hd.app l) (Fr.app _ _ _) h.inv k2 k3 h.en, by omega⟩
theorem two_del (h : H3 H b1 o n b t r) {m : Nat} (hs : (toL t).length ≤ m) (hm : m ≤ 1000) {x : En} (hx : EnT x) : Two (acall PP TT n_P_itree_Tree_Delete [ptr b, spn x.off x.len, .int .i64 x.id]) (acall PP TT n_P_twainref14_Tree_Delete [ptr r, spn x.off x.len, .int .i64 x.id]) H b1 o n b r (m + 1) := by
  obtain ⟨S, hd⟩ := h.td
  have hd := hd.typed
  have hat := has_at (x := x) h.inv.sorted
  cases hy : hasE x t with
  | true =>
    obtain ⟨t', c1, c2, HH, e', a1, a2, a3⟩ := delete_yes hd h.inv (by omega) hy
    obtain ⟨H2, e2, k1, k2, k3⟩ := rdel_ok (h.rd.stay a3 h.tyb) (by omega) hx h.en
    rw [hat, hy] at k1 k2
    rw [if_pos rfl, ← c2] at k2
    refine ⟨true, HH, e', H2, e2, _, a1, a3, k1, h.both a2 a3 c1 k2 k3 ?_, ?_⟩
    · intro y hy
      rw [c2] at hy
      exact h.en y (List.mem_of_mem_erase hy)
    · rw [c2]
      have := List.length_erase_le (a := x) (l := toL t)
      omega
  | false =>
    have a1 := delete_no hd hy
    obtain ⟨H2, e2, k1, k2, k3⟩ := rdel_ok (h.rd.app (bx x)) (by omega) hx h.en
    rw [hat, hy] at k1 k2
    rw [if_neg (by simp)] at k2
    exact ⟨false, _, none, H2, e2, t, a1, Fr.app _ _ _, k1, h.both (hd.app (bx x)) (Fr.app _ _ _) h.inv k2 k3 h.en, by omega⟩

/-- what is struck -/
theorem RD.ren {H' : List Blk} {rts : List Nat} {σ : Nat → Nat} (h1 : ∀ r, Rch H rts r → ∀ b, H[r]? = some b → H'[σ r]? = some (renBlk σ b)) (inj : ∀ r r', Rch H rts r → Rch H rts r' → σ r = σ r' → r = r') {L : List En} (h : RD H r L) (hb : r ∈ rts) : RD H' (σ r) L := by
  obtain ⟨sl, a1, a2⟩ := h
  have rb : Rch H rts r := .here hb
  refine ⟨vren σ sl, h1 r rb _ a1, ?_⟩
  rcases a2 with ⟨rfl, rfl⟩ | ⟨kr, c, rfl, c2, c3, c4⟩
  · exact .inl ⟨rfl, rfl⟩
  · have rk : Rch H rts kr := .step rb a1 (by simp [blkRefs])
    have := h1 kr rk _ c3
    rw [show renBlk σ (itB L) = itB L by simp [renBlk, lren_none (it_refs L)]] at this
    exact .inr ⟨σ kr, c, rfl, c2, this, fun hc => c4 (inj _ _ rk rb hc)⟩
theorem H3.gc {vs : List Value} {st : AS} (h : H3 st.H b1 o n b t r) (hb1 : b1 ∈ lrefs vs) (hb : b ∈ lrefs vs) (hr : r ∈ lrefs vs) : ∃ σ, (gc 0 vs st).1 = lren σ vs ∧ H3 (gc 0 vs st).2.H (σ b1) o n (σ b) t (σ r) := by
  obtain ⟨σ, g1, g2, g3⟩ := gc0_spec vs st
  obtain ⟨S, hd⟩ := h.td
  exact ⟨σ, g1, g2 b1 (.here hb1) _ h.box, ⟨_, hd.ren g2 g3 hb⟩, h.inv, h.rd.ren g2 g3 hr, h.en⟩
end
end IT
end Go.Proofs.Ytgpfiiebfhdjhaa

end
section
namespace Go.Proofs.Ytgpfiiebfhdjhaa
open Go Go.Am
set_option linter.unusedVariables false
namespace IT
open Go.It

theorem ne_tt {ox oy : Operand} : aBin PP .neq t_bool ox oy (.bool true) (.bool true) = some (.bool false) := by kernel_rfl
theorem ne_ff {ox oy : Operand} : aBin PP .neq t_bool ox oy (.bool false) (.bool false) = some (.bool false) := by kernel_rfl
theorem ne_bb (v : Bool) {ox oy : Operand} : aBin PP .neq t_bool ox oy (.bool v) (.bool v) = some (.bool false) := by
  cases v
  · exact ne_ff
  · exact ne_tt

section
variable {H HH : List Blk} {b1 b r : Nat} {o n : Int} {t : Tr}
theorem H3.kept (h : H3 H b1 o n b t r) (hf : Fr H HH (fun y => y = b ∨ Nt H y)) {y : Nat} {cs : List Value} {ty : TypeId} {w : Bool} (hy : H[y]? = some (.cells cs ty w)) (h1 : ty ≠ t_itree_Tree) (h2 : ty ≠ t_itree_node) : HH[y]? = some (.cells cs ty w) := by
  obtain ⟨S, root, g1, g2, g3⟩ := h.td
  rw [hf.2 y (get_lt hy) ?_]
  · exact hy
  · rintro (rfl | ⟨cs', hc⟩)
    · rw [hy] at g1
      simp only [Option.some.injEq, Blk.cells.injEq] at g1
      exact h1 g1.2.1
    · rw [hy] at hc
      simp only [Option.some.injEq, Blk.cells.injEq] at hc
      exact h2 hc.2.1

variable {l : List Act}
abbrev fr3 (b1 b r : Nat) (l : List Act) (i : Nat) : List Value := [ptr b1, ptr b, ptr r, tSl l.length (actR l), .int .i64 l.length, .int .i64 i]

/-- what is asked behind each call -/
theorem acts_j1 {n0 : Nat} {e : Option Nat} (h : H3 H b1 o n b t r) (hs : (toL t).length ≤ 1000) (v : Bool) (x y z : Value) : twainlaw14_ItreeActs.j1 (acall PP TT) loopG n0 (ptr b1) (ptr b) (ptr r) (.bool v) (.bool v) x y z ⟨H, e⟩ = some (.normal, [ptr b1, unk, ptr b, ptr r, x, y, z], ⟨H, e⟩) := by
  obtain ⟨S, hd⟩ := h.td
  obtain ⟨sl, k1, kv⟩ := h.rd.itv
  have hln := kv.its.len
  have hlen := len_ok hd
  obtain ⟨o1, o2⟩ := overlaps_doc hd h.inv (by omega) o n
  have o3 := roverlaps_ok h.rd (by omega) o n
  have hml := mids_len o n (toL t)
  have hi := rints_ok (mids o n (toL t)) (mids o n (toL t)) (by omega) (by omega) H
  have hvs : veq sl sl = true := by
    rcases kv with ⟨_, rfl⟩ | ⟨kr, c, rfl, _⟩
    · rfl
    · simp [veq]
  have hvi : ∀ x : Int, veq (.int .i64 x) (.int .i64 x) = true := fun x => by simp [veq]
  have hne : ∀ {ox oy : Operand}, aBin PP .neq t_bool ox oy (.bool (decide (0 < ((mids o n (toL t)).length : Int)))) (.bool (decide (0 < ((mids o n (toL t)).length : Int)))) = some (.bool false) := ne_bb _
  simp only [twainlaw14_ItreeActs.j1, twainlaw14_ItreeActs.j2, mach, Nat.reduceAdd, Nat.reduceLeDiff, Int.reduceEq, Int.reduceLT, Int.reduceLE, cellsAt_of h.box, Nat.reduceLeDiff, o3, ne_bb v, nil_ptr, fa_twainref14_Tree_0, cellAt_of k1, hln, hlen, hvs, hvi, beq_st, Bool.and_true, o1, hi, ln_ints, o2, hne]

def J5 (l : List Act) (o n : Int) (i : Nat) (X : List Value × AS) : Prop := ∃ b1 b r t st, X = (fr3 b1 b r l i, st) ∧ H3 st.H b1 o n b t r ∧ (toL t).length ≤ i
theorem J5_gc (i : Nat) (X : List Value × AS) (h : J5 l o n i X) : J5 l o n i (gc 0 X.1 X.2) := by
  obtain ⟨b1, b, r, t, st, rfl, h1, h2⟩ := h
  obtain ⟨σ, g1, g2⟩ := h1.gc (vs := fr3 b1 b r l i) (by simp) (by simp) (by simp)
  refine ⟨σ b1, σ b, σ r, t, _, Prod.ext ?_ rfl, g2, h2⟩
  rw [g1]
  simp [lren, vren_none (act_refs l), vren]

theorem acts_loop (hE : ∀ a ∈ l, EnT a.e) (hl : l.length ≤ 150) {st : AS} (h : H3 st.H b1 o n b t r) (ht : (toL t).length ≤ 0) :
    ∃ q, loopG 0 (twainlaw14_ItreeActs.loop5s (acall PP TT) loopG 0) (fr3 b1 b r l 0, st) = some q ∧ ∃ b1' b' r' t' st', q = (.exit 0, [unk, ptr b', ptr r'], st') ∧ H3 st'.H b1' o n b' t' r' ∧ (toL t').length ≤ l.length := by
  refine loop_inv (len := l.length) (J5 l o n) _ J5_gc ?_ ?_ l.length 0 _ (by omega) ⟨b1, b, r, t, st, rfl, h, ht⟩
  · rintro i X hi ⟨b1, b, r, t, ⟨H, e⟩, rfl, h1, h2⟩
    right
    have hlt : (i : Int) < (l.length : Int) := by omega
    have hg : l[i]? = some l[i] := List.getElem?_eq_getElem hi
    generalize l[i] = a at hg
    have hx : EnT a.e := hE a (List.mem_of_getElem? hg)
    have w4 : IntKind.i64.wrap ((i : Int) + 1) = ((i + 1 : Nat) : Int) := wrap_succ (by omega)
    have hac : (actc a).length = z_twainlaw14_Act.length := rfl
    have hvi : ∀ x : Int, veq (.int .i64 x) (.int .i64 x) = true := fun x => by simp [veq]
    have h3 := h1.app [.cells (actc a) t_twainlaw14_Act true]
    have hbx : (H ++ [.cells (actc a) t_twainlaw14_Act true])[H.length]? = some (.cells (actc a) t_twainlaw14_Act true) := by simp
    have main : ∃ t' st', twainlaw14_ItreeActs.loop5s (acall PP TT) loopG 0 (fr3 b1 b r l i, ⟨H, e⟩) = some (.inl (fr3 b1 b r l (i + 1), st')) ∧ H3 st'.H b1 o n b t' r ∧ (toL t').length ≤ i + 1 := by
      cases hd : a.del with
      | true =>
        obtain ⟨v, HH, e1, H2, e2, t', c1, c2, c3, c4, c5⟩ := two_del h3 h2 (by omega) hx
        have hk := h3.kept c2 hbx (by decide) (by decide)
        have j1 := fun e n0 x y z => acts_j1 (n0 := n0) (e := e) c4 (by omega) v x y z
        refine ⟨t', ⟨H2, joinEsc (joinEsc e e1) e2⟩, ?_, c4, c5⟩
        unfold actc at hac c1 hk
        rw [hd] at c1 hk
        simp only [twainlaw14_ItreeActs.loop5s, twainlaw14_ItreeActs.loop5, twainlaw14_ItreeActs.j3, mach, Nat.reduceAdd, Nat.reduceLeDiff, Int.reduceEq, Int.reduceLT, Int.reduceLE, hlt, act_ix hg, act_load hg, zg_twainlaw14_Act, zl_twainlaw14_Act, za_twainlaw14_Act, z_twainlaw14_Act, actc, putCells_all, hac, hd, fa_twainlaw14_Act_0, fa_twainlaw14_Act_1, fa_twainlaw14_Act_2, c1, cellsAt_of hk, cellAt_of hk, Nat.reduceLeDiff, veq_spn, hvi, beq_st, Bool.and_true, c3, j1, w4]
      | false =>
        obtain ⟨v, HH, e1, H2, e2, t', c1, c2, c3, c4, c5⟩ := two_ins h3 h2 (by omega) hx
        have hk := h3.kept c2 hbx (by decide) (by decide)
        have j1 := fun e n0 x y z => acts_j1 (n0 := n0) (e := e) c4 (by omega) v x y z
        refine ⟨t', ⟨H2, joinEsc (joinEsc e e1) e2⟩, ?_, c4, c5⟩
        unfold actc at hac c1 hk
        rw [hd] at c1 hk
        simp only [twainlaw14_ItreeActs.loop5s, twainlaw14_ItreeActs.loop5, twainlaw14_ItreeActs.j3, mach, Nat.reduceAdd, Nat.reduceLeDiff, Int.reduceEq, Int.reduceLT, Int.reduceLE, hlt, act_ix hg, act_load hg, zg_twainlaw14_Act, zl_twainlaw14_Act, za_twainlaw14_Act, z_twainlaw14_Act, actc, putCells_all, hac, hd, fa_twainlaw14_Act_0, fa_twainlaw14_Act_1, fa_twainlaw14_Act_2, c1, cellsAt_of hk, cellAt_of hk, Nat.reduceLeDiff, veq_spn, hvi, beq_st, Bool.and_true, c3, j1, w4]
    obtain ⟨t', st', m1, m2, m3⟩ := main
    exact ⟨_, m1, b1, b, r, t', st', rfl, m2, m3⟩
  · rintro X ⟨b1, b, r, t, ⟨H, e⟩, rfl, h1, h2⟩
    refine ⟨_, ?_, b1, b, r, t, ⟨H, e⟩, rfl, h1, h2⟩
    simp only [twainlaw14_ItreeActs.loop5s, twainlaw14_ItreeActs.loop5, mach, Nat.reduceAdd, Nat.reduceLeDiff, Int.reduceEq, Int.reduceLT, Int.reduceLE, Int.lt_irrefl]

theorem acts_j5 {n0 : Nat} {e : Option Nat} (h : H3 H b1 o n b t r) (hs : (toL t).length ≤ 1000) : saysTrue (twainlaw14_ItreeActs.j5 (acall PP TT) loopG n0 (ptr b) (ptr r) ⟨H, e⟩) = true := by
  obtain ⟨S, hd⟩ := h.td
  have k1 := ids_ok hd (by omega)
  have k2 := rids_ok h.rd (by omega)
  have hi := rints_ok ((toL t).map (·.id)) ((toL t).map (·.id)) (by simp; omega) (by simp; omega) H
  simp only [twainlaw14_ItreeActs.j5, mach, Nat.reduceAdd, Nat.reduceLeDiff, Int.reduceEq, Int.reduceLT, Int.reduceLE, k1, k2, hi, twainlaw14_lives.eq]
  exact says_fin

theorem bd_rtree : aBuild PP t_twainref14_Tree [] = some (.agg [Value.slice none 0 0].toArray) := by kernel_rfl
theorem acts_law (hE : ∀ a ∈ l, EnT a.e) {o n : Int} (ho : isI o) (hn : isI n) : saysTrue (acall PP TT n_twainlaw14_ItreeActs [tSl l.length (actR l), spn o n] []) = true := by
  rw [acall_eq, twainlaw14_ItreeActs.eq]
  by_cases c1 : (150 : Int) < (l.length : Int)
  · simp only [twainlaw14_ItreeActs.sh, mach, Nat.reduceAdd, Nat.reduceLeDiff, Int.reduceEq, Int.reduceLT, Int.reduceLE, act_len, c1, twainlaw14_lives.eq]
    exact says_fin
  · have hnew := new_ok [sb o n]
    have htd := new_TD [sb o n]
    have hold : H3 ([sb o n] ++ [tb nilp 0] ++ [.cells [.slice none 0 0] t_twainref14_Tree true]) 0 o n 1 .nil 2 :=
      ⟨rfl, ⟨_, htd.app _⟩, inv_nil, ⟨_, rfl, .inl ⟨rfl, rfl⟩⟩, fun y hy => by simp [toL] at hy⟩
    obtain ⟨q, p1, b1', b', r', t', st', rfl, q1, q2⟩ := acts_loop (l := l) hE (by omega) (st := ⟨_, none⟩) hold (by simp [toL])
    simp only [List.append_assoc, List.cons_append, List.nil_append, List.length_append, List.length_cons, List.length_nil, Nat.zero_add, Nat.reduceAdd] at hnew p1
    simp only [twainlaw14_ItreeActs.sh, mach, Nat.reduceAdd, Nat.reduceLeDiff, Int.reduceEq, Int.reduceLT, Int.reduceLE, act_len, c1, hnew, bd_rtree]
    rw [show (Value.int .i64 0 : Value) = .int .i64 ((0 : Nat) : Int) from rfl, p1]
    simp only [mach, Nat.reduceAdd, Nat.reduceLeDiff, Int.reduceEq, Int.reduceLT, Int.reduceLE]
    exact acts_j5 q1 (by omega)
theorem span_arg (o n : Int) : argV PP t_api_Span [.int .i64 o, .int .i64 n] = spn o n := by
  unfold argV
  rw [us_api_Span]
end
end IT
end Go.Proofs.Ytgpfiiebfhdjhaa

end
