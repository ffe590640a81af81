/- Lists of strings, and of ints, in memory. -/
import Derived.Test.YtlgaklbfjjpfkaaDoorLib4
import Derived.Test.YtlgaklbfjjpfkaaDoorRows
namespace Go.Proofs.YtlgaklbfjjpfkaaDoor
open Go.RowKit
def strCells (s : ByteArray) : List Value := [.string s]
theorem strCells_len (s : ByteArray) : (strCells s).length = 1 := rfl
abbrev StrsIs (w : World) (v : Value) (l : List ByteArray) : Prop := ListIs strCells 1 w v l
theorem ba_list_ne {x y : ByteArray} (h : x ≠ y) : (x.toList == y.toList) = false := by
  rw [beq_eq_false_iff_ne]
  intro e
  rw [ByteArray.toList_eq, ByteArray.toList_eq] at e
  exact h (ba_ext e)
def intCells (n : Int) : List Value := [.int .i64 n]
theorem intCells_len (n : Int) : (intCells n).length = 1 := rfl
abbrev IntsIs (w : World) (v : Value) (l : List Int) : Prop := ListIs intCells 1 w v l
end Go.Proofs.YtlgaklbfjjpfkaaDoor
