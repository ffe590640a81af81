/- ident.Within in each later world. -/
import Derived.Test.YtlgaklbfjjpfkaaDoorWFrom0
import Derived.Test.YtlgaklbfjjpfkaaDoorWWithin
namespace Go.Proofs.YtlgaklbfjjpfkaaDoor
open Go.RowKit
set_option linter.unusedVariables false
theorem from_within {w : World} {va vb : Value} {a b : List Vec.Entry} (ha : VecIs w va a) (hb : VecIs w vb b) (t r : Int) (v : Bool) (h : within t r a b = v) : From 33 #[.agg #[.int .i64 t, .int .i64 r], va, vb] w (.bool v) := fun W hW => h ▸ ident_within t r va vb a b W (ha.below hW) (hb.below hW)
end Go.Proofs.YtlgaklbfjjpfkaaDoor
