/- Bodies without frames: what the printed forms name. -/
import Derived.Test.YtfinilnkempofaaAm17
import Derived.KernelRfl
set_option linter.all false
set_option linter.unusedVariables false
set_option linter.unusedSimpArgs false
set_option linter.unnecessarySimpa false
namespace Go.Am

/-- the end of a call, its results at hand -/
def fin (P : Program) (keep : Bool) (n0 : Nat) (vs : List Value) (st : AS) : Option (Value × List Blk × Option Nat) :=
  let q := endFrz P keep n0 vs st.H
  let g := gc n0 q.1 ⟨q.2, st.esc⟩
  some (oneOf g.1, g.2.H, escBelow n0 g.2.esc)

/-- a slice of parts -/
def bsl (P : Program) (t : TypeId) (len : Nat) (ix : List Nat) (vs : List Value) (st : AS) : Option (Value × AS) :=
  let q := frzL (frz P 0 8) vs st.H
  aBuildSlice P t len (ix.zip q.1) ⟨q.2, st.esc⟩

end Go.Am
