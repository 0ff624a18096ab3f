/- A part of the proof: Ss. Its conditions: none. -/
import Derived.Test.YtpklhjeccbjalaaSrShD
import Derived.Test.YtpklhjeccbjalaaAm32
import Derived.Shelf.Sort.Plain
import Derived.Shelf.Lay
import Derived.Ground.NamesProg
set_option linter.all false
set_option linter.unusedVariables false
set_option linter.unusedSimpArgs false
set_option linter.unnecessarySimpa false
set_option linter.unusedVariables false
namespace Go.Proofs
open Go.Shelf
shelf_lay Lays.n189 Nm 189 at Try as Try.lays189
theorem Ss.sort : Go.Am.SumOk Try.prog Go.Am.gSort 18 := Go.Am.gSort_ok fun blk off cap zs w hH hb hl => Any.slices_Sort_int Try.lays189 blk off cap zs w hH hb hl
end Go.Proofs
