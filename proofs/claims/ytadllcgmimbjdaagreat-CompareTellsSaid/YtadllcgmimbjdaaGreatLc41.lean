/- A part of the proof: Lc41. Its conditions: none. -/
import Derived.Test.YtadllcgmimbjdaaGreatLc4D
set_option linter.all false
set_option linter.unusedVariables false
set_option linter.unusedSimpArgs false
set_option linter.unnecessarySimpa false
namespace Go.Proofs.YtadllcgmimbjdaaGreat
open Go Go.Am
set_option linter.unusedVariables false
set_option maxRecDepth 100000
namespace Lc4
theorem h0 : e0.holds PR T1 := Ent.of 60 ents_nil (by kernel_rfl)
theorem h1 : e1.holds PR T1 := Ent.of 60 ents_nil (by kernel_rfl)
theorem h2 : e2.holds PR T1 := Ent.of 60 ents_nil (by kernel_rfl)
theorem h3 : e3.holds PR T1 := Ent.of 60 ents_nil (by kernel_rfl)
theorem h4 (h : ∀ e ∈ [e0, e1, e2, e3], e.holds PR T1) : e4.holds PR T1 := Ent.of 60 h (by kernel_rfl)
theorem h5 : e5.holds PR T1 := Ent.of 60 ents_nil (by kernel_rfl)
theorem h6 : e6.holds PR T1 := Ent.of 60 ents_nil (by kernel_rfl)
end Lc4
end Go.Proofs.YtadllcgmimbjdaaGreat
