/- Errors in memory: none, a number, a number at a place; and Tell of any. -/
import Derived.Test.YtognjohloobliaaDoorWTell3
import Derived.Test.YtognjohloobliaaDoorPlainVecRd
namespace Go.Proofs.YtognjohloobliaaDoor
open Go.RowKit
set_option linter.unusedVariables false
def errV (n : Nat) : Value := .iface 48 (.int .i64 n)
def ErrRep (w : World) (v : Value) : Err → Prop
  | .ok => v = .nilIface
  | .no n => v = errV n
  | .at_ n i => ∃ g, v = .iface 47 (.pointer (some ⟨g, 0, none⟩)) ∧ Row w g 51 [.int .i64 n, .int .i64 i]
theorem ErrRep.below {w w' : World} {v : Value} {e : Err} (h : ErrRep w v e) (hb : Below w.heap.size w w') : ErrRep w' v e := by
  cases e with
  | ok => exact h
  | no n => exact h
  | at_ n i => obtain ⟨g, hv, hr⟩ := h; exact ⟨g, hv, hr.below hb⟩
def RetErr (x : Err) (w : World) (e : Ending) (w' : World) : Prop := ∃ v, e = .returned v ∧ ErrRep w' v x ∧ Below w.heap.size w w'
theorem tell_err (v : Value) (x : Err) (w : World) (hL : Laid w) (hv : ErrRep w v x) :
    Calls Tryd.prog 13 #[v] w fun e w' => e = .returned (.int .i64 x.code) ∧ Below w.heap.size w w' := by
  cases x with
  | ok =>
    have hv : v = .nilIface := hv
    subst hv
    refine (tell_nil w).mono ?_
    rintro e w' ⟨rfl, rfl⟩
    exact ⟨rfl, Below.refl _ _⟩
  | no n =>
    have hv : v = errV n := hv
    subst hv
    exact tell_errno n w hL
  | at_ n i =>
    obtain ⟨g, rfl, hr⟩ := hv
    exact tell_at n g w hL (hr.cell 0)
theorem retErrAt (w0 w : World) (hb : Below w0.heap.size w0 w) (x i g : Nat) (hg : g = w.heap.size) : RetErr (.at_ x i) w0 (.returned (.iface 47 (.pointer (some ⟨g, 0, none⟩)))) (w.alloc (.cells #[.int .i64 x, .int .i64 i] 51)) := by
  subst hg
  exact ⟨_, rfl, ⟨w.heap.size, rfl, row_alloc w _ _⟩, bal hb _⟩
end Go.Proofs.YtognjohloobliaaDoor
