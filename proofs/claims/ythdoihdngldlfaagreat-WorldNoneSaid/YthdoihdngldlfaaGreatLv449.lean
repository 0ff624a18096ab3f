/- A part of the proof: Lv449. Its conditions: none. -/
import Derived.Test.YthdoihdngldlfaaGreatLv44D
set_option linter.all false
set_option linter.unusedVariables false
set_option linter.unusedSimpArgs false
set_option linter.unnecessarySimpa false
namespace Go.Proofs.YthdoihdngldlfaaGreat
open Go Go.Am
set_option linter.unusedVariables false
set_option maxRecDepth 100000
namespace Lv44
theorem h26 (h : ∀ e ∈ [e25], e.holds PR T1) : e26.holds PR T1 := Ent.of 60 h (by kernel_rfl)
theorem h27 (h : ∀ e ∈ [e26], e.holds PR T1) : e27.holds PR T1 := Ent.of 60 h (by kernel_rfl)
theorem h28 (h : ∀ e ∈ [e27], e.holds PR T1) : e28.holds PR T1 := Ent.of 60 h (by kernel_rfl)
theorem h29 : e29.holds PR T1 := Ent.of 60 ents_nil (by kernel_rfl)
end Lv44
end Go.Proofs.YthdoihdngldlfaaGreat
