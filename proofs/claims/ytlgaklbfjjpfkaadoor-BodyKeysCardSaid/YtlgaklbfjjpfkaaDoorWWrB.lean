/- A write in memory, by its parts. -/
import Derived.Test.YtlgaklbfjjpfkaaDoorWTail
namespace Go.Proofs.YtlgaklbfjjpfkaaDoor
open Go.RowKit
/-- A write in memory, by its parts. -/
structure WrB where
  t : Int
  r : Int
  k : Int
  key : ByteArray
  val : ByteArray
  n : Int
def wrBCells (x : WrB) : List Value := [.int .i64 x.t, .int .i64 x.r, .int .i64 x.k, .string x.key, .string x.val, .int .i64 x.n]
theorem wrBCells_len (x : WrB) : (wrBCells x).length = 6 := rfl
abbrev WrBOk (x : WrB) : Prop := ((Lit.int .i64 x.t).wf = true ∧ (Lit.int .i64 x.r).wf = true) ∧ (Lit.int .i64 x.k).wf = true ∧ x.key.size ≤ 140737488351232 ∧ x.val.size ≤ 140737488351232 ∧ (Lit.int .i64 x.n).wf = true
end Go.Proofs.YtlgaklbfjjpfkaaDoor
