/- What is wrong is told by a value that isn't nil. -/
import Derived.Test.YtdbpiabcpjgblaaDoorErr
namespace Go.Proofs.YtdbpiabcpjgblaaDoor
set_option linter.unusedVariables false
set_option linter.unusedSimpArgs false
open Go.RowKit
theorem err_some {w : World} {v : Value} {x : Err} (h : ErrRep w v x) (hx : x ≠ .ok) : ∃ t u, v = .iface t u := by
  cases x with
  | ok => exact absurd rfl hx
  | no n => exact ⟨_, _, h⟩
  | at_ n i => obtain ⟨g, h, -⟩ := h; exact ⟨_, _, h⟩
end Go.Proofs.YtdbpiabcpjgblaaDoor
