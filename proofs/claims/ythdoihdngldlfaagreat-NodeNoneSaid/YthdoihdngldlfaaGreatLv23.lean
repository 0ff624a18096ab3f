/- A part of the proof: Lv23. Its conditions: none. -/
import Derived.Test.YthdoihdngldlfaaGreatLv231
import Derived.Test.YthdoihdngldlfaaGreatLv232
import Derived.Test.YthdoihdngldlfaaGreatLv233
import Derived.Test.YthdoihdngldlfaaGreatLv234
import Derived.Test.YthdoihdngldlfaaGreatLv235
import Derived.Test.YthdoihdngldlfaaGreatLv236
set_option linter.all false
set_option linter.unusedVariables false
set_option linter.unusedSimpArgs false
set_option linter.unnecessarySimpa false
namespace Go.Proofs.YthdoihdngldlfaaGreat
open Go Go.Am
set_option linter.unusedVariables false
set_option maxRecDepth 100000
namespace Lv23
theorem g0 : e0.holds PR T1 := h0
theorem g1 : e1.holds PR T1 := h1 (ents_cons g0 ents_nil)
theorem g2 : e2.holds PR T1 := h2
theorem g3 : e3.holds PR T1 := h3 (ents_cons g2 ents_nil)
theorem g4 : e4.holds PR T1 := h4
theorem g5 : e5.holds PR T1 := h5 (ents_cons g4 ents_nil)
theorem g6 : e6.holds PR T1 := h6
theorem g7 : e7.holds PR T1 := h7 (ents_cons g6 ents_nil)
theorem g8 : e8.holds PR T1 := h8 (ents_cons g7 ents_nil)
theorem g9 : e9.holds PR T1 := h9 (ents_cons g8 ents_nil)
theorem g10 : e10.holds PR T1 := h10 (ents_cons g9 ents_nil)
theorem g11 : e11.holds PR T1 := h11 (ents_cons g10 ents_nil)
theorem g12 : e12.holds PR T1 := h12 (ents_cons g11 ents_nil)
theorem g13 : e13.holds PR T1 := h13
theorem g14 : e14.holds PR T1 := h14 (ents_cons g5 (ents_cons g12 (ents_cons g13 ents_nil)))
theorem g15 : e15.holds PR T1 := h15
theorem g16 : e16.holds PR T1 := h16 (ents_cons g1 (ents_cons g3 (ents_cons g14 (ents_cons g15 ents_nil))))
theorem lives : Lives PR 23 := lives_acall (T := T1) (fun _ => rfl) (by have h := g16; unfold Ent.holds e16 at h; rw [h]; rfl)
end Lv23
end Go.Proofs.YthdoihdngldlfaaGreat
