/- A part of the proof: Lv448. Its conditions: none. -/
import Derived.Test.YthdoihdngldlfaaGreatLv44D
set_option linter.all false
set_option linter.unusedVariables false
set_option linter.unusedSimpArgs false
set_option linter.unnecessarySimpa false
namespace Go.Proofs.YthdoihdngldlfaaGreat
open Go Go.Am
set_option linter.unusedVariables false
set_option maxRecDepth 100000
namespace Lv44
theorem h20 : e20.holds PR T1 := Ent.of 60 ents_nil (by kernel_rfl)
theorem h21 (h : ∀ e ∈ [e20], e.holds PR T1) : e21.holds PR T1 := Ent.of 60 h (by kernel_rfl)
theorem h22 : e22.holds PR T1 := Ent.of 60 ents_nil (by kernel_rfl)
theorem h23 (h : ∀ e ∈ [e22], e.holds PR T1) : e23.holds PR T1 := Ent.of 60 h (by kernel_rfl)
theorem h24 (h : ∀ e ∈ [e23], e.holds PR T1) : e24.holds PR T1 := Ent.of 60 h (by kernel_rfl)
theorem h25 (h : ∀ e ∈ [e24], e.holds PR T1) : e25.holds PR T1 := Ent.of 60 h (by kernel_rfl)
end Lv44
end Go.Proofs.YthdoihdngldlfaaGreat
