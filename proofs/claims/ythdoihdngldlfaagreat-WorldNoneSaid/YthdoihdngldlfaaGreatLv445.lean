/- A part of the proof: Lv445. Its conditions: none. -/
import Derived.Test.YthdoihdngldlfaaGreatLv44D
set_option linter.all false
set_option linter.unusedVariables false
set_option linter.unusedSimpArgs false
set_option linter.unnecessarySimpa false
namespace Go.Proofs.YthdoihdngldlfaaGreat
open Go Go.Am
set_option linter.unusedVariables false
set_option maxRecDepth 100000
namespace Lv44
theorem h14 (h : ∀ e ∈ [e5, e12, e13], e.holds PR T1) : e14.holds PR T1 := Ent.of 60 h (by kernel_rfl)
theorem h15 (h : ∀ e ∈ [e1, e3, e14], e.holds PR T1) : e15.holds PR T1 := Ent.of 60 h (by kernel_rfl)
end Lv44
end Go.Proofs.YthdoihdngldlfaaGreat
