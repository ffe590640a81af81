/- Walks of the laws over crc: the plain ones. -/
import Derived.Test.YtmjgminajkhfdaaWCrc1
namespace Go.Proofs.Ytmjgminajkhfdaa
open Go.RowKit
set_option maxHeartbeats 400000 in
theorem CrcMore_walk (a0 a1 : ByteArray) (w : World) (w0 : a0.size ≤ 140737488351232) (w1 : a1.size ≤ 140737488351232) :
    Calls Try.prog 4 #[.string a0, .string a1] w fun e w' => e = .returned (.bool true) ∧ Below w.heap.size w w' := by
  have hsum := Crc.sum_lt a0.data.toList
  have heq := Crc.more_sum a0.data.toList a1.data.toList
  by_cases h : 500 < a0.size + a1.size
  all_goals
    go_enter Try.func4, Try.ntmps4
    go_wp2_with (first
      | (go_at_call 14; refine (summed _).mono ?_; rintro e w' ⟨rfl, rfl⟩)
      | (go_at_call 16; refine (crc_sum _ _ (by (try simp); unfold maxLen; omega)).mono ?_; rintro e w' ⟨rfl, rfl⟩)
      | (go_at_call 15; refine (crc_more _ _ _ hsum (by unfold maxLen; omega)).mono ?_; rintro e w' ⟨rfl, rfl⟩))
    go_ret
    exact ⟨rfl, Below.refl _ _⟩
end Go.Proofs.Ytmjgminajkhfdaa
