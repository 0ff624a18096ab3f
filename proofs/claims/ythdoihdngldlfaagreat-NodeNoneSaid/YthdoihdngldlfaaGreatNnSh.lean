/- A part of the proof: NnSh. Its conditions: none. -/
import Derived.Test.YthdoihdngldlfaaGreatNnShD
import Derived.Test.YthdoihdngldlfaaGreatLv23
set_option linter.all false
set_option linter.unusedVariables false
set_option linter.unusedSimpArgs false
set_option linter.unnecessarySimpa false
namespace Go.Proofs.YthdoihdngldlfaaGreat
open Go Go.Am
set_option linter.unusedVariables false
def TT : FuncId → Tab := fun f => if f = n_twainlaw32_NodeNone then twainlaw32_NodeNone.T else if f = 23 then { T0 0 with lives := true } else T0 f
theorem twainlaw32_NodeNone.eq (C : Am.Callee) (L : Loops) (t0 : Value) (H : List Blk) : ebody PP TT C L n_twainlaw32_NodeNone [t0] H = twainlaw32_NodeNone.sh C L H.length t0 ⟨H, none⟩ := by kernel_rfl
theorem TT_lives (f : FuncId) (h : (TT f).lives = true) : Lives PP f := by
  unfold TT at h
  by_cases h4 : f = n_twainlaw32_NodeNone
  · subst h4; simp [twainlaw32_NodeNone.T] at h
  simp only [h4, if_false] at h
  by_cases hf : f = 23
  · rw [hf]; exact Lv23.lives
  · simp [hf, T0] at h
end Go.Proofs.YthdoihdngldlfaaGreat
