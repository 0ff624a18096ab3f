/- A part of the proof: Lc53. Its conditions: none. -/
import Derived.Test.YtadllcgmimbjdaaLc5D
set_option linter.all false
set_option linter.unusedVariables false
set_option linter.unusedSimpArgs false
set_option linter.unnecessarySimpa false
namespace Go.Proofs.Ytadllcgmimbjdaa
open Go Go.Am
set_option linter.unusedVariables false
set_option maxRecDepth 100000
namespace Lc5
theorem h13 (h : ∀ e ∈ [e10, e12], e.holds PR T1) : e13.holds PR T1 := Ent.of 60 h (by kernel_rfl)
end Lc5
end Go.Proofs.Ytadllcgmimbjdaa
