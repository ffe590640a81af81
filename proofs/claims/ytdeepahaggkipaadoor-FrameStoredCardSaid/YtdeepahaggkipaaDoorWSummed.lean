/- The walk of keep.summed. -/
import Derived.Test.YtdeepahaggkipaaDoorWCrc1
namespace Go.Proofs.YtdeepahaggkipaaDoor
open Go.RowKit
set_option linter.unusedVariables false
set_option maxHeartbeats 400000 in
theorem summed (w : World) :
    Calls Tryd.prog 23 #[] w fun e w' => e = .returned (.bool true) ∧ w = w' := by
  have h1 := Crc.summed1
  have h2 := Crc.summed2
  have h3 := Crc.summed3
  have hl : Crc.sum [49, 50, 51, 52] < 4294967296 := Crc.sum_lt _
  go_enter Tryd.func23, Tryd.ntmps23
  go_wp2_with (first | (go_at_call 46; refine (crc_sum _ _ (by decide)).mono ?_; rintro e w' ⟨rfl, rfl⟩) | (go_at_call 47; refine (crc_more _ _ _ hl (by decide)).mono ?_; rintro e w' ⟨rfl, rfl⟩))
  go_ret
  exact ⟨rfl, rfl⟩
end Go.Proofs.YtdeepahaggkipaaDoor
