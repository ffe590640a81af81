/- Lists of writes in memory. -/
import Derived.Test.YtognjohloobliaaDoorPlainBatch
import Derived.Test.YtognjohloobliaaDoorWTail
namespace Go.Proofs.YtognjohloobliaaDoor
open Go.RowKit
set_option linter.unusedVariables false
def WrB.plain (x : WrB) : Wr := wr x.t x.r x.k x.key x.val x.n
def WrsIs (w : World) (v : Value) (l : List WrB) : Prop := ListIs wrBCells 6 w v l
theorem WrsIs.below {w w' : World} {v : Value} {l : List WrB} (h : WrsIs w v l) (hb : Below w.heap.size w w') : WrsIs w' v l := ListIs.below h (by omega) hb
end Go.Proofs.YtognjohloobliaaDoor
