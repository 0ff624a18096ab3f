/- A part of the proof: Fl1. Its conditions: none. -/
import Derived.Test.YtgdlcoaokmileaaAm23
import Derived.Test.YtgdlcoaokmileaaChecked
set_option linter.all false
set_option linter.unusedVariables false
set_option linter.unusedSimpArgs false
set_option linter.unnecessarySimpa false
namespace Go.Proofs.Ytgdlcoaokmileaa
open Go Go.Am
set_option linter.unusedVariables false
namespace FL
/-- the one run that is closed -/
theorem lives6 : Lives Try.prog 6 := lives_of (T := T0) (n := 40) (fun _ => rfl) (by kernel_rfl)
def T1 : FuncId → Tab := fun f => if f = 6 then { T0 0 with lives := true } else T0 f
theorem T1_lives (f : FuncId) (h : (T1 f).lives = true) : Lives Try.prog f := by
  by_cases hf : f = 6
  · rw [hf]; exact lives6
  · simp [T1, hf, T0] at h
theorem run (k t n o l : Int) (m : Nat) : callF Try.prog T1 40 5 [.agg #[.int .i64 k, .int .i64 t, .int .i64 n, .int .i64 o, .int .i64 l, tSl m []]] [] = some (.bool true, [], none) := by kernel_rfl
end FL
end Go.Proofs.Ytgdlcoaokmileaa
