/- A part of the proof: Lv123. Its conditions: none. -/
import Derived.Test.YthdoihdngldlfaaGreatLv12D
set_option linter.all false
set_option linter.unusedVariables false
set_option linter.unusedSimpArgs false
set_option linter.unnecessarySimpa false
namespace Go.Proofs.YthdoihdngldlfaaGreat
open Go Go.Am
set_option linter.unusedVariables false
set_option maxRecDepth 100000
namespace Lv12
theorem h15 (h : ∀ e ∈ [e14], e.holds PR T1) : e15.holds PR T1 := Ent.of 60 h (by kernel_rfl)
theorem h16 (h : ∀ e ∈ [e15], e.holds PR T1) : e16.holds PR T1 := Ent.of 60 h (by kernel_rfl)
end Lv12
end Go.Proofs.YthdoihdngldlfaaGreat
