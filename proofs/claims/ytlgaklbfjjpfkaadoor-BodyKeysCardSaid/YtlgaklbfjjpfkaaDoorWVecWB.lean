/- The walk of vector.Write where something is wrong. -/
import Derived.Test.YtlgaklbfjjpfkaaDoorWVecW
import Derived.Test.YtlgaklbfjjpfkaaDoorErr
namespace Go.Proofs.YtlgaklbfjjpfkaaDoor
open Go.RowKit
set_option linter.unusedVariables false
set_option linter.unusedSimpArgs false
set_option maxHeartbeats 2000000 in
set_option maxRecDepth 20000 in
theorem vector_write_bad (v : Value) (l : List Vec.Entry) (w : World) (hv : VecIs w v l) (hl : l.length ≤ 140737488351232) (hr : Vec.right l ≠ .ok) :
    Calls Tryd.prog 20 #[v] w fun e w' => (∃ r, e = .returned (.tuple #[.string ⟨#[]⟩, r]) ∧ ErrRep w' r (Vec.right l)) ∧ Below w.heap.size w w' := by
  have hR := vector_right v l w hv hl
  clear hv
  cases hx : Vec.right l with
  | ok => exact absurd hx hr
  | no e =>
    rw [hx] at hR
    replace hR := Lib.hid hR
    replace hx := Lib.hid hx
    clear hr
    go_enter Tryd.func20, Tryd.ntmps20
    go_wp2_with fail
    refine hR.out.mono ?_
    rintro _ w4 ⟨v4, rfl, hv4, hb4⟩
    have hv4 : v4 = .iface 33 (.int .i64 e) := hv4
    subst hv4
    go_wp2
    go_ret2
    exact ⟨⟨_, rfl, rfl⟩, by (repeat (first | exact Below.refl _ _ | assumption | refine bal ?_ _ | refine bdr ?_ | refine bdn ?_ _ | refine bst ?_ (by first | assumption | exact Nat.le_refl _ | omega) _ | refine bch ?_ (by assumption)))⟩
  | at_ e i =>
    rw [hx] at hR
    replace hR := Lib.hid hR
    replace hx := Lib.hid hx
    clear hr
    go_enter Tryd.func20, Tryd.ntmps20
    go_wp2_with fail
    refine hR.out.mono ?_
    rintro _ w4 ⟨v4, rfl, hv4, hb4⟩
    obtain ⟨gg, rfl, hrow⟩ := hv4
    replace hrow := Lib.hid hrow
    go_wp2
    go_ret2
    exact ⟨⟨_, rfl, gg, rfl, hrow.out⟩, by (repeat (first | exact Below.refl _ _ | assumption | refine bal ?_ _ | refine bdr ?_ | refine bdn ?_ _ | refine bst ?_ (by first | assumption | exact Nat.le_refl _ | omega) _ | refine bch ?_ (by assumption)))⟩
/-- What is wrong is none or something, as a value. -/
theorem err_some {w : World} {v : Value} {x : Err} (h : ErrRep w v x) (hx : x ≠ .ok) : ∃ t u, v = .iface t u := by
  cases x with
  | ok => exact absurd rfl hx
  | no n => exact ⟨_, _, h⟩
  | at_ n i => obtain ⟨g, h, -⟩ := h; exact ⟨_, _, h⟩
end Go.Proofs.YtlgaklbfjjpfkaaDoor
