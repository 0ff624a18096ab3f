/- A part of the proof: MnSh. Its conditions: none. -/
import Derived.Test.YthdoihdngldlfaaGreatMnShD
import Derived.Test.YthdoihdngldlfaaGreatLv12
set_option linter.all false
set_option linter.unusedVariables false
set_option linter.unusedSimpArgs false
set_option linter.unnecessarySimpa false
namespace Go.Proofs.YthdoihdngldlfaaGreat
open Go Go.Am
set_option linter.unusedVariables false
def TT : FuncId → Tab := fun f => if f = n_twainlaw31_MirrorNone then twainlaw31_MirrorNone.T else if f = 12 then { T0 0 with lives := true } else T0 f
theorem twainlaw31_MirrorNone.eq (C : Am.Callee) (L : Loops) (t0 : Value) (H : List Blk) : ebody PP TT C L n_twainlaw31_MirrorNone [t0] H = twainlaw31_MirrorNone.sh C L H.length t0 ⟨H, none⟩ := by kernel_rfl
theorem TT_lives (f : FuncId) (h : (TT f).lives = true) : Lives PP f := by
  unfold TT at h
  by_cases h4 : f = n_twainlaw31_MirrorNone
  · subst h4; simp [twainlaw31_MirrorNone.T] at h
  simp only [h4, if_false] at h
  by_cases hf : f = 12
  · rw [hf]; exact Lv12.lives
  · simp [hf, T0] at h
end Go.Proofs.YthdoihdngldlfaaGreat
