/- A part of the proof: Lc4. Its conditions: none. -/
import Derived.Test.YtadllcgmimbjdaaGreatLc41
import Derived.Test.YtadllcgmimbjdaaGreatLc42
import Derived.Test.YtadllcgmimbjdaaGreatLc43
set_option linter.all false
set_option linter.unusedVariables false
set_option linter.unusedSimpArgs false
set_option linter.unnecessarySimpa false
namespace Go.Proofs.YtadllcgmimbjdaaGreat
open Go Go.Am
set_option linter.unusedVariables false
set_option maxRecDepth 100000
namespace Lc4
theorem g0 : e0.holds PR T1 := h0
theorem g1 : e1.holds PR T1 := h1
theorem g2 : e2.holds PR T1 := h2
theorem g3 : e3.holds PR T1 := h3
theorem g4 : e4.holds PR T1 := h4 (ents_cons g0 (ents_cons g1 (ents_cons g2 (ents_cons g3 ents_nil))))
theorem g5 : e5.holds PR T1 := h5
theorem g6 : e6.holds PR T1 := h6
theorem g7 : e7.holds PR T1 := h7
theorem g8 : e8.holds PR T1 := h8
theorem g9 : e9.holds PR T1 := h9 (ents_cons g5 (ents_cons g6 (ents_cons g7 (ents_cons g8 ents_nil))))
theorem g10 : e10.holds PR T1 := h10 (ents_cons g4 (ents_cons g9 ents_nil))
theorem g11 : e11.holds PR T1 := h11
theorem g12 : e12.holds PR T1 := h12 (ents_cons g0 (ents_cons g1 (ents_cons g2 (ents_cons g3 (ents_cons g11 ents_nil)))))
theorem g13 : e13.holds PR T1 := h13 (ents_cons g10 (ents_cons g12 ents_nil))
theorem lives : Lives PR 4 := lives_acall (T := T1) (fun _ => rfl) (by have h := g13; unfold Ent.holds e13 at h; rw [h]; rfl)
end Lc4
end Go.Proofs.YtadllcgmimbjdaaGreat
