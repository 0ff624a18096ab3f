/- A part of the proof: RegOrd1. Its conditions: none. -/
import Derived.Test.YtfinilnkempofaaRegMap4
import Derived.Test.YtfinilnkempofaaRegComp
import Derived.Test.YtfinilnkempofaaRegSeq
set_option linter.all false
set_option linter.unusedVariables false
set_option linter.unusedSimpArgs false
set_option linter.unnecessarySimpa false
namespace Go.Proofs.Ytfinilnkempofaa
open Go Go.Am Go.Reg
namespace RO

theorem sec_ex {v : List Value} (h : TOk PP t_api_Sector v) : ∃ a0 a1 a2 a3 a4 a5 a6 a7 a8 a9 a10 a11 a12 a13 a14 a15, v = [a0, a1, a2, a3, a4, a5, a6, a7, a8, a9, a10, a11, a12, a13, a14, a15] := by
  have := sec_len h
  match v, this with
  | [a0, a1, a2, a3, a4, a5, a6, a7, a8, a9, a10, a11, a12, a13, a14, a15], _ => exact ⟨a0, a1, a2, a3, a4, a5, a6, a7, a8, a9, a10, a11, a12, a13, a14, a15, rfl⟩

/-- an op, as it is written -/
theorem bld4 {v : List Value} (h : TOk PP t_api_Sector v) (w : Bool) (f t : Int) : aBuild PP t_history_Op [(0, .bool w), (1, .agg v.toArray), (2, .int .i64 f), (3, .int .i64 t)] = some (.agg (opc ⟨w, v, f, t⟩).toArray) := by
  obtain ⟨c1, _, _⟩ := sec_cells h
  unfold aBuild
  simp only [qz_history_Opv]
  rw [if_pos ⟨by kernel_rfl, by simp [Value.cells, c1, allCells, cellV] at c1 ⊢; exact c1⟩]
  obtain ⟨a0, a1, a2, a3, a4, a5, a6, a7, a8, a9, a10, a11, a12, a13, a14, a15, rfl⟩ := sec_ex h
  clear c1 h
  refine Eq.trans (b := some (.agg #[.bool w, a0, a1, a2, a3, a4, a5, a6, a7, a8, a9, a10, a11, a12, a13, a14, a15, .int .i64 f, .int .i64 t])) ?_ rfl
  kernel_rfl

theorem bld3 {v : List Value} (h : TOk PP t_api_Sector v) (f t : Int) : aBuild PP t_history_Op [(1, .agg v.toArray), (2, .int .i64 f), (3, .int .i64 t)] = some (.agg (opc ⟨false, v, f, t⟩).toArray) := by
  obtain ⟨c1, _, _⟩ := sec_cells h
  unfold aBuild
  simp only [qz_history_Opv]
  rw [if_pos ⟨by kernel_rfl, by simp [Value.cells, c1, allCells, cellV] at c1 ⊢; exact c1⟩]
  obtain ⟨a0, a1, a2, a3, a4, a5, a6, a7, a8, a9, a10, a11, a12, a13, a14, a15, rfl⟩ := sec_ex h
  clear c1 h
  refine Eq.trans (b := some (.agg #[.bool false, a0, a1, a2, a3, a4, a5, a6, a7, a8, a9, a10, a11, a12, a13, a14, a15, .int .i64 f, .int .i64 t])) ?_ rfl
  kernel_rfl

abbrev Op1 := Rw (List Value)

/-- the row under way, and the blocks: the row's, if there is one, and another's -/
def rowV (H0 : List Blk) (A : List Op1) (k : Nat) : Value := if A = [] then .slice none 0 0 else .slice (some ⟨H0.length + k, 0, none⟩) A.length UNK
def rowB (A : List Op1) : List Blk := if A = [] then [] else [.cells (opsC A) t_history_Op true]

theorem rowV_nil (H0 : List Blk) (k : Nat) : rowV H0 [] k = .slice none 0 0 := rfl
theorem rowV_cons {H0 : List Blk} {A : List Op1} (h : A ≠ []) (k : Nat) : rowV H0 A k = .slice (some ⟨H0.length + k, 0, none⟩) A.length UNK := if_neg h

/-- one op more -/
theorem push {H0 l : List Blk} {e : Option Nat} {A : List Op1} {x : Op1} (hA : OkOps A) (hx : OkRw x) (hm : A.length ≤ 65535) {k : Nat} (hk : A ≠ [] → l[k]? = some (.cells (opsC A) t_history_Op true)) {R : Type} {F : Value → AS → Option R} :
    ((bsl PP t_L_history_Op 1 [0] [.agg (opc x).toArray] ⟨H0 ++ l, e⟩).bind fun q => eBuiltin PP .append #[t_L_history_Op, t_L_history_Op] [rowV H0 A k, q.1] q.2 F) =
      F (rowV H0 (A ++ [x]) (l.length + 1)) ⟨H0 ++ ((if A = [] then l else l.set k .dead) ++ [.cells (opc x) t_history_Op true, .cells (opsC (A ++ [x])) t_history_Op true]), e⟩ := by
  have hne : A ++ [x] ≠ [] := by simp
  rw [rowV_cons hne]
  by_cases h : A = []
  · subst h
    simp only [rowV_nil, if_true, List.nil_append, List.length_cons, List.length_nil, Nat.zero_add]
    have := push_nil (H0 := H0) (l := l) (e := e) (F := F) el_L_history_Op (opc_len hx) (fun H' e' => bsl26_1 hx H' e')
    rw [this]
    simp [opsC]
  · rw [rowV_cons h, if_neg h]
    have := push_more (H0 := H0) (l := l) (e := e) (F := F) (m := A.length) (k := k) el_L_history_Op (opc_len hx) (fun H' e' => bsl26_1 hx H' e') (hk h) (opsC_len hA) hm
    rw [this, opsC_snoc]
    simp
end RO
end Go.Proofs.Ytfinilnkempofaa
