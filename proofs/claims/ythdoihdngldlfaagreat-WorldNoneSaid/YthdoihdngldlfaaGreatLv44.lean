/- A part of the proof: Lv44, Wn1. Its conditions: none. -/
import Derived.Test.YthdoihdngldlfaaGreatLv441
import Derived.Test.YthdoihdngldlfaaGreatLv442
import Derived.Test.YthdoihdngldlfaaGreatLv443
import Derived.Test.YthdoihdngldlfaaGreatLv444
import Derived.Test.YthdoihdngldlfaaGreatLv445
import Derived.Test.YthdoihdngldlfaaGreatLv446
import Derived.Test.YthdoihdngldlfaaGreatLv447
import Derived.Test.YthdoihdngldlfaaGreatLv448
import Derived.Test.YthdoihdngldlfaaGreatLv449
import Derived.Test.YthdoihdngldlfaaGreatLv4410
import Derived.Test.YthdoihdngldlfaaGreatLv4411
set_option linter.all false
set_option linter.unusedVariables false
set_option linter.unusedSimpArgs false
set_option linter.unnecessarySimpa false
section
namespace Go.Proofs.YthdoihdngldlfaaGreat
open Go Go.Am
set_option linter.unusedVariables false
set_option maxRecDepth 100000
namespace Lv44
theorem g0 : e0.holds PR T1 := h0
theorem g1 : e1.holds PR T1 := h1 (ents_cons g0 ents_nil)
theorem g2 : e2.holds PR T1 := h2
theorem g3 : e3.holds PR T1 := h3 (ents_cons g2 ents_nil)
theorem g4 : e4.holds PR T1 := h4
theorem g5 : e5.holds PR T1 := h5 (ents_cons g4 ents_nil)
theorem g6 : e6.holds PR T1 := h6
theorem g7 : e7.holds PR T1 := h7 (ents_cons g6 ents_nil)
theorem g8 : e8.holds PR T1 := h8 (ents_cons g7 ents_nil)
theorem g9 : e9.holds PR T1 := h9 (ents_cons g8 ents_nil)
theorem g10 : e10.holds PR T1 := h10 (ents_cons g9 ents_nil)
theorem g11 : e11.holds PR T1 := h11 (ents_cons g10 ents_nil)
theorem g12 : e12.holds PR T1 := h12 (ents_cons g11 ents_nil)
theorem g13 : e13.holds PR T1 := h13
theorem g14 : e14.holds PR T1 := h14 (ents_cons g5 (ents_cons g12 (ents_cons g13 ents_nil)))
theorem g15 : e15.holds PR T1 := h15 (ents_cons g1 (ents_cons g3 (ents_cons g14 ents_nil)))
theorem g16 : e16.holds PR T1 := h16
theorem g17 : e17.holds PR T1 := h17 (ents_cons g16 ents_nil)
theorem g18 : e18.holds PR T1 := h18
theorem g19 : e19.holds PR T1 := h19 (ents_cons g18 ents_nil)
theorem g20 : e20.holds PR T1 := h20
theorem g21 : e21.holds PR T1 := h21 (ents_cons g20 ents_nil)
theorem g22 : e22.holds PR T1 := h22
theorem g23 : e23.holds PR T1 := h23 (ents_cons g22 ents_nil)
theorem g24 : e24.holds PR T1 := h24 (ents_cons g23 ents_nil)
theorem g25 : e25.holds PR T1 := h25 (ents_cons g24 ents_nil)
theorem g26 : e26.holds PR T1 := h26 (ents_cons g25 ents_nil)
theorem g27 : e27.holds PR T1 := h27 (ents_cons g26 ents_nil)
theorem g28 : e28.holds PR T1 := h28 (ents_cons g27 ents_nil)
theorem g29 : e29.holds PR T1 := h29
theorem g30 : e30.holds PR T1 := h30 (ents_cons g21 (ents_cons g28 (ents_cons g29 ents_nil)))
theorem g31 : e31.holds PR T1 := h31 (ents_cons g17 (ents_cons g19 (ents_cons g30 ents_nil)))
theorem g32 : e32.holds PR T1 := h32
theorem g33 : e33.holds PR T1 := h33 (ents_cons g15 (ents_cons g31 (ents_cons g32 ents_nil)))
theorem lives : Lives PR 44 := lives_acall (T := T1) (fun _ => rfl) (by have h := g33; unfold Ent.holds e33 at h; rw [h]; rfl)
end Lv44
end Go.Proofs.YthdoihdngldlfaaGreat

end
section
namespace Go.Proofs.YthdoihdngldlfaaGreat
open Go Go.Am
set_option linter.unusedVariables false
namespace WN
def T1 : FuncId → Tab := fun f => if f = 44 then { T0 0 with lives := true } else T0 f
theorem T1_lives (f : FuncId) (h : (T1 f).lives = true) : Lives Tryz.prog f := by
  by_cases hf : f = 44
  · rw [hf]; exact Lv44.lives
  · simp [T1, hf, T0] at h
theorem run (k w a mk rk o l : Int) (m : Nat) : callF Tryz.prog T1 40 6 [.agg #[.int .i64 k, .int .i64 w, .int .i64 a, .int .u64 mk, .int .i64 rk, .int .i64 o, .int .i64 l, tSl m []]] [] = some (.bool true, [], none) := by kernel_rfl
theorem law (k w a mk rk o l : Int) (m : Nat) : saysTrue (acall Tryz.prog T1 6 [.agg [Value.int .i64 k, .int .i64 w, .int .i64 a, .int .u64 mk, .int .i64 rk, .int .i64 o, .int .i64 l, tSl m []].toArray] []) = true := by
  have := acall_of_callF (P := Tryz.prog) (T := T1) 40 (run k w a mk rk o l m)
  show saysTrue (acall Tryz.prog T1 6 [.agg #[.int .i64 k, .int .i64 w, .int .i64 a, .int .u64 mk, .int .i64 rk, .int .i64 o, .int .i64 l, tSl m []]] []) = true
  rw [this]; rfl
end WN
end Go.Proofs.YthdoihdngldlfaaGreat

end
