/- A part of the proof: Lv4410. Its conditions: none. -/
import Derived.Test.YthdoihdngldlfaaGreatLv44D
set_option linter.all false
set_option linter.unusedVariables false
set_option linter.unusedSimpArgs false
set_option linter.unnecessarySimpa false
namespace Go.Proofs.YthdoihdngldlfaaGreat
open Go Go.Am
set_option linter.unusedVariables false
set_option maxRecDepth 100000
namespace Lv44
theorem h30 (h : ∀ e ∈ [e21, e28, e29], e.holds PR T1) : e30.holds PR T1 := Ent.of 60 h (by kernel_rfl)
theorem h31 (h : ∀ e ∈ [e17, e19, e30], e.holds PR T1) : e31.holds PR T1 := Ent.of 60 h (by kernel_rfl)
end Lv44
end Go.Proofs.YthdoihdngldlfaaGreat
