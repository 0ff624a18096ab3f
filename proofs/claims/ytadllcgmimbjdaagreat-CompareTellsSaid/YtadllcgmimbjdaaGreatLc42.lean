/- A part of the proof: Lc42. Its conditions: none. -/
import Derived.Test.YtadllcgmimbjdaaGreatLc4D
set_option linter.all false
set_option linter.unusedVariables false
set_option linter.unusedSimpArgs false
set_option linter.unnecessarySimpa false
namespace Go.Proofs.YtadllcgmimbjdaaGreat
open Go Go.Am
set_option linter.unusedVariables false
set_option maxRecDepth 100000
namespace Lc4
theorem h7 : e7.holds PR T1 := Ent.of 60 ents_nil (by kernel_rfl)
theorem h8 : e8.holds PR T1 := Ent.of 60 ents_nil (by kernel_rfl)
theorem h9 (h : ∀ e ∈ [e5, e6, e7, e8], e.holds PR T1) : e9.holds PR T1 := Ent.of 60 h (by kernel_rfl)
theorem h10 (h : ∀ e ∈ [e4, e9], e.holds PR T1) : e10.holds PR T1 := Ent.of 60 h (by kernel_rfl)
theorem h11 : e11.holds PR T1 := Ent.of 60 ents_nil (by kernel_rfl)
theorem h12 (h : ∀ e ∈ [e0, e1, e2, e3, e11], e.holds PR T1) : e12.holds PR T1 := Ent.of 60 h (by kernel_rfl)
end Lc4
end Go.Proofs.YtadllcgmimbjdaaGreat
