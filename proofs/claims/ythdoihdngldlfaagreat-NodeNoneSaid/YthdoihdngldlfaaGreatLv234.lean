/- A part of the proof: Lv234. Its conditions: none. -/
import Derived.Test.YthdoihdngldlfaaGreatLv23D
set_option linter.all false
set_option linter.unusedVariables false
set_option linter.unusedSimpArgs false
set_option linter.unnecessarySimpa false
namespace Go.Proofs.YthdoihdngldlfaaGreat
open Go Go.Am
set_option linter.unusedVariables false
set_option maxRecDepth 100000
namespace Lv23
theorem h10 (h : ∀ e ∈ [e9], e.holds PR T1) : e10.holds PR T1 := Ent.of 60 h (by kernel_rfl)
theorem h11 (h : ∀ e ∈ [e10], e.holds PR T1) : e11.holds PR T1 := Ent.of 60 h (by kernel_rfl)
theorem h12 (h : ∀ e ∈ [e11], e.holds PR T1) : e12.holds PR T1 := Ent.of 60 h (by kernel_rfl)
theorem h13 : e13.holds PR T1 := Ent.of 60 ents_nil (by kernel_rfl)
end Lv23
end Go.Proofs.YthdoihdngldlfaaGreat
