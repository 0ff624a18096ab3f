/- A part of the proof: Lc43. Its conditions: none. -/
import Derived.Test.YtadllcgmimbjdaaGreatLc4D
set_option linter.all false
set_option linter.unusedVariables false
set_option linter.unusedSimpArgs false
set_option linter.unnecessarySimpa false
namespace Go.Proofs.YtadllcgmimbjdaaGreat
open Go Go.Am
set_option linter.unusedVariables false
set_option maxRecDepth 100000
namespace Lc4
theorem h13 (h : ∀ e ∈ [e10, e12], e.holds PR T1) : e13.holds PR T1 := Ent.of 60 h (by kernel_rfl)
end Lc4
end Go.Proofs.YtadllcgmimbjdaaGreat
