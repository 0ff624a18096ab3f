/- A part of the proof: Lv446. Its conditions: none. -/
import Derived.Test.YthdoihdngldlfaaGreatLv44D
set_option linter.all false
set_option linter.unusedVariables false
set_option linter.unusedSimpArgs false
set_option linter.unnecessarySimpa false
namespace Go.Proofs.YthdoihdngldlfaaGreat
open Go Go.Am
set_option linter.unusedVariables false
set_option maxRecDepth 100000
namespace Lv44
theorem h16 : e16.holds PR T1 := Ent.of 60 ents_nil (by kernel_rfl)
theorem h17 (h : ∀ e ∈ [e16], e.holds PR T1) : e17.holds PR T1 := Ent.of 60 h (by kernel_rfl)
end Lv44
end Go.Proofs.YthdoihdngldlfaaGreat
