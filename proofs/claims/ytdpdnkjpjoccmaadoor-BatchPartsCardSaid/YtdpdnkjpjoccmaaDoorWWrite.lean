/- Walks of ident.Right, write.Right. -/
import Derived.Test.YtdpdnkjpjoccmaaDoorErr
import Derived.Test.YtdpdnkjpjoccmaaDoorPlainWrite
namespace Go.Proofs.YtdpdnkjpjoccmaaDoor
open Go.RowKit
set_option linter.unusedVariables false
set_option maxHeartbeats 2000000 in
theorem ident_right (t r : Int) (w : World) :
    Calls Tryd.prog 83 #[.agg #[.int .i64 t, .int .i64 r]] w fun e w' => e = .returned (.bool (Wr.idRight t r)) ∧ Below w.heap.size w w' := by
  by_cases h1 : 1 ≤ t
  · by_cases h2 : t ≤ 1099511627776
    · by_cases h3 : 0 ≤ r
      · have hf : Hid (Wr.idRight t r = decide (r ≤ 200)) := Lib.hid (by unfold Wr.idRight; simp [h1, h2, h3])
        go_enter Tryd.func83, Tryd.ntmps83
        go_wp2
        go_ret
        exact ⟨ret_bool hf.out.symm, by (repeat (first | exact Below.refl _ _ | assumption | refine bal ?_ _ | refine bdr ?_ | refine bdn ?_ _ | refine bst ?_ (by first | assumption | exact Nat.le_refl _ | omega) _ | refine bch ?_ (by assumption)))⟩
      · have hf : Hid (Wr.idRight t r = false) := Lib.hid (by unfold Wr.idRight; simp; omega)
        go_enter Tryd.func83, Tryd.ntmps83
        go_wp2
        go_ret
        exact ⟨ret_bool hf.out.symm, by (repeat (first | exact Below.refl _ _ | assumption | refine bal ?_ _ | refine bdr ?_ | refine bdn ?_ _ | refine bst ?_ (by first | assumption | exact Nat.le_refl _ | omega) _ | refine bch ?_ (by assumption)))⟩
    · have hf : Hid (Wr.idRight t r = false) := Lib.hid (by unfold Wr.idRight; simp; omega)
      go_enter Tryd.func83, Tryd.ntmps83
      go_wp2
      go_ret
      exact ⟨ret_bool hf.out.symm, by (repeat (first | exact Below.refl _ _ | assumption | refine bal ?_ _ | refine bdr ?_ | refine bdn ?_ _ | refine bst ?_ (by first | assumption | exact Nat.le_refl _ | omega) _ | refine bch ?_ (by assumption)))⟩
  · have hf : Hid (Wr.idRight t r = false) := Lib.hid (by unfold Wr.idRight; simp; omega)
    go_enter Tryd.func83, Tryd.ntmps83
    go_wp2
    go_ret
    exact ⟨ret_bool hf.out.symm, by (repeat (first | exact Below.refl _ _ | assumption | refine bal ?_ _ | refine bdr ?_ | refine bdn ?_ _ | refine bst ?_ (by first | assumption | exact Nat.le_refl _ | omega) _ | refine bch ?_ (by assumption)))⟩
def errW (c : Nat) : Value := if c = 0 then .nilIface else errV c
def wrCells (t r k : Int) (key val : ByteArray) (n : Int) : Array Value := #[.int .i64 t, .int .i64 r, .int .i64 k, .string key, .string val, .int .i64 n]
end Go.Proofs.YtdpdnkjpjoccmaaDoor
