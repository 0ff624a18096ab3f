/- A part of the proof: Lv236. Its conditions: none. -/
import Derived.Test.YthdoihdngldlfaaGreatLv23D
set_option linter.all false
set_option linter.unusedVariables false
set_option linter.unusedSimpArgs false
set_option linter.unnecessarySimpa false
namespace Go.Proofs.YthdoihdngldlfaaGreat
open Go Go.Am
set_option linter.unusedVariables false
set_option maxRecDepth 100000
namespace Lv23
theorem h16 (h : ∀ e ∈ [e1, e3, e14, e15], e.holds PR T1) : e16.holds PR T1 := Ent.of 60 h (by kernel_rfl)
end Lv23
end Go.Proofs.YthdoihdngldlfaaGreat
