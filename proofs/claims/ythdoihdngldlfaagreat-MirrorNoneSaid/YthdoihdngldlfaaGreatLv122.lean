/- A part of the proof: Lv122. Its conditions: none. -/
import Derived.Test.YthdoihdngldlfaaGreatLv12D
set_option linter.all false
set_option linter.unusedVariables false
set_option linter.unusedSimpArgs false
set_option linter.unnecessarySimpa false
namespace Go.Proofs.YthdoihdngldlfaaGreat
open Go Go.Am
set_option linter.unusedVariables false
set_option maxRecDepth 100000
namespace Lv12
theorem h11 (h : ∀ e ∈ [e10], e.holds PR T1) : e11.holds PR T1 := Ent.of 60 h (by kernel_rfl)
theorem h12 (h : ∀ e ∈ [e11], e.holds PR T1) : e12.holds PR T1 := Ent.of 60 h (by kernel_rfl)
theorem h13 (h : ∀ e ∈ [e12], e.holds PR T1) : e13.holds PR T1 := Ent.of 60 h (by kernel_rfl)
theorem h14 (h : ∀ e ∈ [e6, e13], e.holds PR T1) : e14.holds PR T1 := Ent.of 60 h (by kernel_rfl)
end Lv12
end Go.Proofs.YthdoihdngldlfaaGreat
