/- A part of the proof: Mn1. Its conditions: none. -/
import Derived.Test.YthdoihdngldlfaaGreatMnSh
import Derived.Test.YthdoihdngldlfaaGreatAm23
set_option linter.all false
set_option linter.unusedVariables false
set_option linter.unusedSimpArgs false
set_option linter.unnecessarySimpa false
namespace Go.Proofs.YthdoihdngldlfaaGreat
open Go Go.Am
set_option linter.unusedVariables false
namespace MN
variable (k tk mk o l mK mI mO mM : Int) (mW : Bool) (n m : Nat)
abbrev cs : List Value := [.int .i64 k, .int .i64 tk, .int .u64 mk, .int .i64 o, .int .i64 l, tSl n [], .int .i64 mK, .int .i64 mI, .int .i64 mO, .int .u64 mM, .bool mW, tSl m []]
theorem rest : twainlaw31_MirrorNone.j1 (callF PP TT 30) (loopB (30 * 4096 + 4096)) 0 (.pointer (some ⟨0, 0, none⟩)) ⟨[.cells (cs k tk mk o l mK mI mO mM mW n m) t_twainlaw31_Act true], none⟩ = some (.bool true, [], none) := by kernel_rfl
theorem live (H : List Blk) : callF PP TT 30 n_twainlaw31_lives [] H = some (.bool true, H, none) := by kernel_rfl
abbrev st : AS := ⟨[.cells (cs k tk mk o l mK mI mO mM mW n m) t_twainlaw31_Act true], none⟩
theorem fa4 : aFieldAddr PP t_twainlaw31_Act (.pointer (some ⟨0, 0, none⟩)) 4 = some (.pointer (some ⟨0, 5, none⟩)) := by kernel_rfl
theorem fa5 : aFieldAddr PP t_twainlaw31_Act (.pointer (some ⟨0, 0, none⟩)) 5 = some (.pointer (some ⟨0, 6, none⟩)) := by kernel_rfl
theorem fb5 : aFieldAddr PP t_api_Message (.pointer (some ⟨0, 6, none⟩)) 5 = some (.pointer (some ⟨0, 11, none⟩)) := by kernel_rfl
theorem ld4 : aLoad false 1 (st k tk mk o l mK mI mO mM mW n m) (.pointer (some ⟨0, 5, none⟩)) = some (tSl n []) := by kernel_rfl
theorem ld5 : aLoad false 1 (st k tk mk o l mK mI mO mM mW n m) (.pointer (some ⟨0, 11, none⟩)) = some (tSl m []) := by kernel_rfl
theorem len (n : Nat) (s : AS) : aLen PP t_L_uint8 (tSl n []) s = some (.int .i64 n) := by kernel_rfl
theorem gt (n : Int) (a b : Operand) : aBin PP .gtr t_int a b (.int .i64 n) (.int .i64 200) = some (.bool (decide ((200 : Int) < n))) := by kernel_rfl
theorem run : callF PP TT 31 n_twainlaw31_MirrorNone [.agg (cs k tk mk o l mK mI mO mM mW n m).toArray] [] = some (.bool true, [], none) := by
  have hr : twainlaw31_MirrorNone.j1 (callF PP TT 30) (loopB (30 * 4096 + 4096)) 0 (.pointer (some ⟨0, 0, none⟩)) (st k tk mk o l mK mI mO mM mW n m) = some (.bool true, [], none) := rest k tk mk o l mK mI mO mM mW n m
  have h4 := ld4 k tk mk o l mK mI mO mM mW n m
  have h5 := ld5 k tk mk o l mK mI mO mM mW n m
  show ebody PP TT (callF PP TT 30) (loopB (30 * 4096 + 4096)) n_twainlaw31_MirrorNone [.agg (cs k tk mk o l mK mI mO mM mW n m).toArray] [] = _
  rw [twainlaw31_MirrorNone.eq]
  have hb : aBox t_twainlaw31_Act (.agg (cs k tk mk o l mK mI mO mM mW n m).toArray) ⟨[], none⟩ = some (.pointer (some ⟨0, 0, none⟩), st k tk mk o l mK mI mO mM mW n m) := by kernel_rfl
  have hf : fin PP false 0 [.bool true] ⟨(st k tk mk o l mK mI mO mM mW n m).H, (st k tk mk o l mK mI mO mM mW n m).esc⟩ = some (.bool true, [], none) := by kernel_rfl
  generalize st k tk mk o l mK mI mO mM mW n m = S at h4 h5 hr hb hf
  by_cases hn : (200 : Int) < n <;> by_cases hm : (200 : Int) < m
  all_goals
    simp only [twainlaw31_MirrorNone.sh, twainlaw31_MirrorNone.j0, hb, fa4, fa5, fb5, h4, h5, len, gt, mach, Nat.reduceAdd, Nat.reduceLeDiff, Int.reduceEq, Int.reduceLT, Int.reduceLE, hn, hm, live, hr, hf]
theorem law : saysTrue (acall PP TT 4 [.agg [Value.int .i64 k, .int .i64 tk, .int .u64 mk, .int .i64 o, .int .i64 l, tSl n [], .int .i64 mK, .int .i64 mI, .int .i64 mO, .int .u64 mM, .bool mW, tSl m []].toArray] []) = true := by
  have := acall_of_callF (P := PP) (T := TT) 31 (run k tk mk o l mK mI mO mM mW n m)
  show saysTrue (acall PP TT n_twainlaw31_MirrorNone [.agg (cs k tk mk o l mK mI mO mM mW n m).toArray] []) = true
  rw [this]; rfl
end MN
end Go.Proofs.YthdoihdngldlfaaGreat
