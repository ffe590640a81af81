/- The walk of what the laws share: a number that stands for one of n. -/
import Derived.Test.YtdbpiabcpjgblaaDoorLib4
import Derived.Test.YtdbpiabcpjgblaaDoorRows
namespace Go.Proofs.YtdbpiabcpjgblaaDoor
open Go.RowKit
set_option linter.unusedVariables false
/-- One of n that a number stands for. -/
def pickN (a : Int) (n : Nat) : Nat := (a % 18446744073709551616 % (n : Int)).toNat
theorem pickN_lt (a : Int) (n : Nat) (h : 0 < n) : pickN a n < n := by
  unfold pickN
  have := Int.emod_lt_of_pos (a % 18446744073709551616) (b := (n : Int)) (by omega)
  have := Int.emod_nonneg (a % 18446744073709551616) (b := (n : Int)) (by omega)
  omega
theorem pick_eq (a : Int) (n : Nat) (hn : 0 < n) (hn2 : n ≤ 10000000000000) : wrap64 ((IntKind.u64.wrap a).tmod (n : Int)) = ((pickN a n : Nat) : Int) := by
  rw [IntKind.wrap_u64, tmod_of_emod]
  have h1 := Int.emod_lt_of_pos (a % 18446744073709551616) (b := (n : Int)) (by omega)
  have h2 := Int.emod_nonneg (a % 18446744073709551616) (b := (n : Int)) (by omega)
  rw [IntWalk.wrap64_in _ ⟨by omega, by omega⟩]
  unfold pickN
  exact (Int.toNat_of_nonneg h2).symm
set_option maxHeartbeats 400000 in
theorem keep_pick (a m : Int) (n : Nat) (w : World) (hm : m = (n : Int)) (hn : 0 < n) (hn2 : n ≤ 10000000000000) :
    Calls Tryd.prog 14 #[.int .i64 a, .int .i64 m] w fun e w' => e = .returned (.int .i64 (pickN a n)) ∧ w = w' := by
  subst hm
  go_enter Tryd.func14, Tryd.ntmps14
  go_wp2
  go_ret
  exact ⟨ret_int (pick_eq a n hn hn2), rfl⟩
end Go.Proofs.YtdbpiabcpjgblaaDoor
