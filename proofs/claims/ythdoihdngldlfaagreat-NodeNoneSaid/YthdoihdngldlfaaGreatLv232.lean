/- A part of the proof: Lv232. Its conditions: none. -/
import Derived.Test.YthdoihdngldlfaaGreatLv23D
set_option linter.all false
set_option linter.unusedVariables false
set_option linter.unusedSimpArgs false
set_option linter.unnecessarySimpa false
namespace Go.Proofs.YthdoihdngldlfaaGreat
open Go Go.Am
set_option linter.unusedVariables false
set_option maxRecDepth 100000
namespace Lv23
theorem h2 : e2.holds PR T1 := Ent.of 60 ents_nil (by kernel_rfl)
theorem h3 (h : ∀ e ∈ [e2], e.holds PR T1) : e3.holds PR T1 := Ent.of 60 h (by kernel_rfl)
end Lv23
end Go.Proofs.YthdoihdngldlfaaGreat
