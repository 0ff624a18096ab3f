/- A part of the proof: Lv233. Its conditions: none. -/
import Derived.Test.YthdoihdngldlfaaGreatLv23D
set_option linter.all false
set_option linter.unusedVariables false
set_option linter.unusedSimpArgs false
set_option linter.unnecessarySimpa false
namespace Go.Proofs.YthdoihdngldlfaaGreat
open Go Go.Am
set_option linter.unusedVariables false
set_option maxRecDepth 100000
namespace Lv23
theorem h4 : e4.holds PR T1 := Ent.of 60 ents_nil (by kernel_rfl)
theorem h5 (h : ∀ e ∈ [e4], e.holds PR T1) : e5.holds PR T1 := Ent.of 60 h (by kernel_rfl)
theorem h6 : e6.holds PR T1 := Ent.of 60 ents_nil (by kernel_rfl)
theorem h7 (h : ∀ e ∈ [e6], e.holds PR T1) : e7.holds PR T1 := Ent.of 60 h (by kernel_rfl)
theorem h8 (h : ∀ e ∈ [e7], e.holds PR T1) : e8.holds PR T1 := Ent.of 60 h (by kernel_rfl)
theorem h9 (h : ∀ e ∈ [e8], e.holds PR T1) : e9.holds PR T1 := Ent.of 60 h (by kernel_rfl)
end Lv23
end Go.Proofs.YthdoihdngldlfaaGreat
