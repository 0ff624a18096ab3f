/- A part of the proof: RegRow. Its conditions: none. -/
import Derived.Test.YtfinilnkempofaaRegProg
set_option linter.all false
set_option linter.unusedVariables false
set_option linter.unusedSimpArgs false
set_option linter.unnecessarySimpa false
namespace Go.Proofs.Ytfinilnkempofaa
open Go Go.Am Go.Reg

theorem qby_history_Op : bytesP PP t_history_Op = some 40 := by kernel_rfl
theorem qz_history_Opv : zeroP PP t_history_Op = some (.agg qz_history_Op.toArray) := by kernel_rfl

theorem opc_ex {x : Rw (List Value)} (h : OkRw x) : ∃ a0 a1 a2 a3 a4 a5 a6 a7 a8 a9 a10 a11 a12 a13 a14 a15, x.v = [a0, a1, a2, a3, a4, a5, a6, a7, a8, a9, a10, a11, a12, a13, a14, a15] := by
  have := sec_len h.v
  match hv : x.v, this with
  | [a0, a1, a2, a3, a4, a5, a6, a7, a8, a9, a10, a11, a12, a13, a14, a15], _ => exact ⟨a0, a1, a2, a3, a4, a5, a6, a7, a8, a9, a10, a11, a12, a13, a14, a15, rfl⟩

/-- a row of one op, as it is written -/
theorem bsl26_1 {x : Rw (List Value)} (h : OkRw x) (H : List Blk) (e : Option Nat) : bsl PP t_L_history_Op 1 [0] [.agg (opc x).toArray] ⟨H, e⟩ = some (.slice (some ⟨H.length, 0, none⟩) 1 1, ⟨H ++ [.cells (opc x) t_history_Op true], e⟩) := by
  obtain ⟨c1, c2, c3⟩ := opc_cells h
  unfold bsl
  have hfl : ([.agg (opc x).toArray] : List Value).all flatV = true := by simp [flatV, c3]
  simp only [frzL_flatV 0 8 [.agg (opc x).toArray] H hfl]
  unfold aBuildSlice
  simp only [qu_L_history_Op, qsz_history_Op, qz_history_Opv]
  rw [if_pos ⟨by decide, by decide, by kernel_rfl, by simp [Value.cells, c1], by kernel_rfl, by kernel_rfl⟩]
  obtain ⟨a0, a1, a2, a3, a4, a5, a6, a7, a8, a9, a10, a11, a12, a13, a14, a15, hv⟩ := opc_ex h
  obtain ⟨w, v, f, t⟩ := x
  simp only at hv
  subst hv
  clear c1 c2 c3 hfl h
  refine Eq.trans (b := some (aRow t_history_Op [.bool w, a0, a1, a2, a3, a4, a5, a6, a7, a8, a9, a10, a11, a12, a13, a14, a15, .int .i64 f, .int .i64 t] 1 1 ⟨H, e⟩)) ?_ rfl
  kernel_rfl

theorem opsC_cells {A : List (Rw (List Value))} (hA : OkOps A) : (opsC A).all cellV = true ∧ (opsC A).all noSl = true := by
  induction A with
  | nil => exact ⟨rfl, rfl⟩
  | cons x A ih =>
    obtain ⟨h1, h2⟩ := ih (fun y hy => hA y (by simp [hy]))
    obtain ⟨c1, c2, c3⟩ := opc_cells (hA x (by simp))
    unfold allCells at c1
    simp only [opsC, List.map_cons, List.flatten_cons, List.all_append] at h1 h2 ⊢
    simp [h1, h2, c1, c3]

theorem opsC_snoc (A : List (Rw (List Value))) (x : Rw (List Value)) : opsC (A ++ [x]) = opsC A ++ opc x := by simp [opsC]
theorem OkOps.snoc {A : List (Rw (List Value))} {x : Rw (List Value)} (hA : OkOps A) (hx : OkRw x) : OkOps (A ++ [x]) := fun y hy => by
  rcases List.mem_append.1 hy with h | h
  · exact hA y h
  · simp at h; subst h; exact hx

/-- a row of ops, a call's own -/
def RowO (n0 : Nat) (H : List Blk) (rv : Value) (A : List (Rw (List Value))) : Prop :=
  (rv = .slice none 0 0 ∧ A = []) ∨ ∃ b cap, n0 ≤ b ∧ rv = .slice (some ⟨b, 0, none⟩) A.length cap ∧ (cap = UNK ∨ cap = A.length) ∧ H[b]? = some (.cells (opsC A) t_history_Op true)

/-- one op more -/
theorem app26 {H : List Blk} {e : Option Nat} {rv y : Value} {A : List (Rw (List Value))} {x : Rw (List Value)} {n0 : Nat} (hav : RowO n0 H rv A) (hA : OkOps A) (hx : OkRw x)
    (hy : Rd H y 1 (opc x)) (hm : A.length < 1000) :
    ∃ H2 : List Blk, (∀ (R : Type) (k : Value → AS → Option R), eBuiltin PP .append #[t_L_history_Op, t_L_history_Op] [rv, y] ⟨H, e⟩ k = k (.slice (some ⟨H.length, 0, none⟩) (A.length + 1) UNK) ⟨H2 ++ [Blk.cells (opsC (A ++ [x])) t_history_Op true], e⟩) ∧ H2.length = H.length ∧
      ∀ j : Nat, H2[j]? = H[j]? ∨ (n0 ≤ j ∧ ∃ cs, H[j]? = some (Blk.cells cs t_history_Op true)) := by
  obtain ⟨c1, c2, c3⟩ := opc_cells hx
  have cn := opc_len hx
  unfold allCells at c1
  have hs := hy.src (size := 19) (by simp [cn]) c1
  have hsz : (Value.agg qz_history_Op.toArray).cells.size = 19 := by kernel_rfl
  rcases hav with ⟨rfl, rfl⟩ | ⟨b, cap, hb, rfl, hcap, hg⟩
  · refine ⟨H, fun R k => ?_, rfl, fun j => .inl rfl⟩
    simp only [eBuiltin, aAppend, qu_L_history_Op, qsz_history_Op, qby_history_Op, qz_history_Opv, Option.getD_some, hs, hsz]
    simp [aRow, newBlk, opsC]
  · have h1 : (A.length + 1) * 40 ≤ 140737488355328 := by omega
    have hl := opsC_len hA
    have h2 : (opsC A).take (A.length * 19) = opsC A := List.take_of_length_le (by omega)
    by_cases hu : cap = UNK
    · subst hu
      refine ⟨H.set b .dead, fun R k => ?_, by simp, fun j => ?_⟩
      · simp only [eBuiltin, aAppend, qu_L_history_Op, qsz_history_Op, qby_history_Op, qz_history_Opv, Option.getD_some, hs, hsz]
        simp [h1, hg, aRow, newBlk, h2, opsC_snoc, hl]
      · by_cases hj : b = j
        · subst hj; exact .inr ⟨hb, _, hg⟩
        · exact .inl (List.getElem?_set_ne hj)
    · have hcl : cap = A.length := by rcases hcap with h | h; exact absurd h hu; exact h
      refine ⟨H, fun R k => ?_, rfl, fun j => .inl rfl⟩
      have hca : cellsAt H b 0 (A.length * 19) = some (opsC A) := by simp [cellsAt, hg, h2, hl]
      have hnl : ¬ A.length + 1 ≤ A.length := by omega
      subst hcl
      simp only [eBuiltin, aAppend, qu_L_history_Op, qsz_history_Op, qby_history_Op, qz_history_Opv, Option.getD_some, hs, hsz]
      simp [h1, hu, hca, aRow, newBlk, opsC_snoc]
      rw [if_neg hnl]
      rfl

/-- a row of ops becomes a value of its own -/
theorem frz_row40 {n0 b c q : Nat} {H : List Blk} {A : List (Rw (List Value))} (hA : OkOps A) (hb : H[b]? = some (.cells (opsC A) t_history_Op true)) (hn : n0 ≤ b) :
    frz PP n0 (q + 1) (.slice (some ⟨b, 0, none⟩) A.length c) H = (tSl A.length (opsC A), H.set b .dead) := by
  have hl := opsC_len hA
  have h1 : 0 + A.length * 19 ≤ (opsC A).length := by omega
  have h2 : (opsC A).take (A.length * 19) = opsC A := List.take_of_length_le (by omega)
  simp only [frz, hb, qsz_history_Op]
  rw [if_pos ⟨hn, h1⟩]
  simp only [List.drop_zero, h2]
  rw [frzL_noSl _ _ _ _ (opsC_cells hA).2]

theorem says_fin {n0 : Nat} {st : AS} : saysTrue (fin PP false n0 [.bool true] st) = true := by
  unfold fin endFrz
  simp only [Bool.false_eq_true, if_false, frzL, frz_noSl n0 8 (.bool true) st.H rfl]
  rw [gc_vals _ _ _ rfl]
  rfl

end Go.Proofs.Ytfinilnkempofaa
