/- A part of the proof: Lv121. Its conditions: none. -/
import Derived.Test.YthdoihdngldlfaaGreatLv12D
set_option linter.all false
set_option linter.unusedVariables false
set_option linter.unusedSimpArgs false
set_option linter.unnecessarySimpa false
namespace Go.Proofs.YthdoihdngldlfaaGreat
open Go Go.Am
set_option linter.unusedVariables false
set_option maxRecDepth 100000
namespace Lv12
theorem h0 : e0.holds PR T1 := Ent.of 60 ents_nil (by kernel_rfl)
theorem h1 (h : ∀ e ∈ [e0], e.holds PR T1) : e1.holds PR T1 := Ent.of 60 h (by kernel_rfl)
theorem h2 (h : ∀ e ∈ [e1], e.holds PR T1) : e2.holds PR T1 := Ent.of 60 h (by kernel_rfl)
theorem h3 (h : ∀ e ∈ [e2], e.holds PR T1) : e3.holds PR T1 := Ent.of 60 h (by kernel_rfl)
theorem h4 (h : ∀ e ∈ [e3], e.holds PR T1) : e4.holds PR T1 := Ent.of 60 h (by kernel_rfl)
theorem h5 (h : ∀ e ∈ [e4], e.holds PR T1) : e5.holds PR T1 := Ent.of 60 h (by kernel_rfl)
theorem h6 (h : ∀ e ∈ [e5], e.holds PR T1) : e6.holds PR T1 := Ent.of 60 h (by kernel_rfl)
theorem h7 : e7.holds PR T1 := Ent.of 60 ents_nil (by kernel_rfl)
theorem h8 (h : ∀ e ∈ [e7], e.holds PR T1) : e8.holds PR T1 := Ent.of 60 h (by kernel_rfl)
theorem h9 (h : ∀ e ∈ [e8], e.holds PR T1) : e9.holds PR T1 := Ent.of 60 h (by kernel_rfl)
theorem h10 (h : ∀ e ∈ [e9], e.holds PR T1) : e10.holds PR T1 := Ent.of 60 h (by kernel_rfl)
end Lv12
end Go.Proofs.YthdoihdngldlfaaGreat
