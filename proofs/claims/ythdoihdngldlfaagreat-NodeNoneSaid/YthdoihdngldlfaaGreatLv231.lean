/- A part of the proof: Lv231. Its conditions: none. -/
import Derived.Test.YthdoihdngldlfaaGreatLv23D
set_option linter.all false
set_option linter.unusedVariables false
set_option linter.unusedSimpArgs false
set_option linter.unnecessarySimpa false
namespace Go.Proofs.YthdoihdngldlfaaGreat
open Go Go.Am
set_option linter.unusedVariables false
set_option maxRecDepth 100000
namespace Lv23
theorem h0 : e0.holds PR T1 := Ent.of 60 ents_nil (by kernel_rfl)
theorem h1 (h : ∀ e ∈ [e0], e.holds PR T1) : e1.holds PR T1 := Ent.of 60 h (by kernel_rfl)
end Lv23
end Go.Proofs.YthdoihdngldlfaaGreat
