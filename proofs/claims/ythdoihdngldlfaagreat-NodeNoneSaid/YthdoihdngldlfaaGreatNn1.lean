/- A part of the proof: Nn1. Its conditions: none. -/
import Derived.Test.YthdoihdngldlfaaGreatNnSh
import Derived.Test.YthdoihdngldlfaaGreatAm23
set_option linter.all false
set_option linter.unusedVariables false
set_option linter.unusedSimpArgs false
set_option linter.unnecessarySimpa false
namespace Go.Proofs.YthdoihdngldlfaaGreat
open Go Go.Am
set_option linter.unusedVariables false
namespace NN
variable (k aa mk rk o l : Int) (n : Nat) (fr to pk sq ak : Int) (b : Nat) (mK mI mO mM : Int) (mW : Bool) (d m : Nat)
abbrev cs : List Value := [.int .i64 k, .int .i64 aa, .int .u64 mk, .int .i64 rk, .int .i64 o, .int .i64 l, tSl n [], .int .u32 fr, .int .u32 to, .int .i64 pk, .int .i64 sq, .int .i64 ak, tSl b [], .int .i64 mK, .int .i64 mI, .int .i64 mO, .int .u64 mM, .bool mW, tSl d [], tSl m []]
theorem rest : twainlaw32_NodeNone.j1 (callF PP TT 30) (loopB (30 * 4096 + 4096)) 0 (.pointer (some ⟨0, 0, none⟩)) ⟨[.cells (cs k aa mk rk o l n fr to pk sq ak b mK mI mO mM mW d m) t_twainlaw32_Act true], none⟩ = some (.bool true, [], none) := by kernel_rfl
theorem live (H : List Blk) : callF PP TT 30 n_twainlaw32_lives [] H = some (.bool true, H, none) := by kernel_rfl
abbrev st : AS := ⟨[.cells (cs k aa mk rk o l n fr to pk sq ak b mK mI mO mM mW d m) t_twainlaw32_Act true], none⟩
theorem fa4 : aFieldAddr PP t_twainlaw32_Act (.pointer (some ⟨0, 0, none⟩)) 3 = some (.pointer (some ⟨0, 3, none⟩)) := by kernel_rfl
theorem fb5 : aFieldAddr PP t_api_Request (.pointer (some ⟨0, 3, none⟩)) 2 = some (.pointer (some ⟨0, 6, none⟩)) := by kernel_rfl
theorem fa5 : aFieldAddr PP t_twainlaw32_Act (.pointer (some ⟨0, 0, none⟩)) 6 = some (.pointer (some ⟨0, 19, none⟩)) := by kernel_rfl
theorem ld4 : aLoad false 1 (st k aa mk rk o l n fr to pk sq ak b mK mI mO mM mW d m) (.pointer (some ⟨0, 6, none⟩)) = some (tSl n []) := by kernel_rfl
theorem ld5 : aLoad false 1 (st k aa mk rk o l n fr to pk sq ak b mK mI mO mM mW d m) (.pointer (some ⟨0, 19, none⟩)) = some (tSl m []) := by kernel_rfl
theorem len (n : Nat) (s : AS) : aLen PP t_L_uint8 (tSl n []) s = some (.int .i64 n) := by kernel_rfl
theorem gt (n : Int) (a b : Operand) : aBin PP .gtr t_int a b (.int .i64 n) (.int .i64 300) = some (.bool (decide ((300 : Int) < n))) := by kernel_rfl
theorem run : callF PP TT 31 n_twainlaw32_NodeNone [.agg (cs k aa mk rk o l n fr to pk sq ak b mK mI mO mM mW d m).toArray] [] = some (.bool true, [], none) := by
  have hr : twainlaw32_NodeNone.j1 (callF PP TT 30) (loopB (30 * 4096 + 4096)) 0 (.pointer (some ⟨0, 0, none⟩)) (st k aa mk rk o l n fr to pk sq ak b mK mI mO mM mW d m) = some (.bool true, [], none) := rest k aa mk rk o l n fr to pk sq ak b mK mI mO mM mW d m
  have h4 := ld4 k aa mk rk o l n fr to pk sq ak b mK mI mO mM mW d m
  have h5 := ld5 k aa mk rk o l n fr to pk sq ak b mK mI mO mM mW d m
  show ebody PP TT (callF PP TT 30) (loopB (30 * 4096 + 4096)) n_twainlaw32_NodeNone [.agg (cs k aa mk rk o l n fr to pk sq ak b mK mI mO mM mW d m).toArray] [] = _
  rw [twainlaw32_NodeNone.eq]
  have hb : aBox t_twainlaw32_Act (.agg (cs k aa mk rk o l n fr to pk sq ak b mK mI mO mM mW d m).toArray) ⟨[], none⟩ = some (.pointer (some ⟨0, 0, none⟩), st k aa mk rk o l n fr to pk sq ak b mK mI mO mM mW d m) := by kernel_rfl
  have hf : fin PP false 0 [.bool true] ⟨(st k aa mk rk o l n fr to pk sq ak b mK mI mO mM mW d m).H, (st k aa mk rk o l n fr to pk sq ak b mK mI mO mM mW d m).esc⟩ = some (.bool true, [], none) := by kernel_rfl
  generalize st k aa mk rk o l n fr to pk sq ak b mK mI mO mM mW d m = S at h4 h5 hr hb hf
  by_cases hn : (300 : Int) < n <;> by_cases hm : (300 : Int) < m
  all_goals
    simp only [twainlaw32_NodeNone.sh, twainlaw32_NodeNone.j0, hb, fa4, fa5, fb5, h4, h5, len, gt, mach, Nat.reduceAdd, Nat.reduceLeDiff, Int.reduceEq, Int.reduceLT, Int.reduceLE, hn, hm, live, hr, hf]
theorem law : saysTrue (acall PP TT 5 [.agg [Value.int .i64 k, .int .i64 aa, .int .u64 mk, .int .i64 rk, .int .i64 o, .int .i64 l, tSl n [], .int .u32 fr, .int .u32 to, .int .i64 pk, .int .i64 sq, .int .i64 ak, tSl b [], .int .i64 mK, .int .i64 mI, .int .i64 mO, .int .u64 mM, .bool mW, tSl d [], tSl m []].toArray] []) = true := by
  have := acall_of_callF (P := PP) (T := TT) 31 (run k aa mk rk o l n fr to pk sq ak b mK mI mO mM mW d m)
  show saysTrue (acall PP TT n_twainlaw32_NodeNone [.agg (cs k aa mk rk o l n fr to pk sq ak b mK mI mO mM mW d m).toArray] []) = true
  rw [this]; rfl
end NN
end Go.Proofs.YthdoihdngldlfaaGreat
