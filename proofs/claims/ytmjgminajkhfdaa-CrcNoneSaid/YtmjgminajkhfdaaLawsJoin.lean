/- Walks of the laws CrcJoin, CrcThree, CrcNone. -/
import Derived.Test.YtmjgminajkhfdaaWJoin
import Derived.Test.YtmjgminajkhfdaaWPick
import Derived.Test.YtmjgminajkhfdaaLawsCrcA
namespace Go.Proofs.Ytmjgminajkhfdaa
open Go.RowKit
set_option linter.unusedVariables false
set_option maxHeartbeats 1000000 in
theorem CrcJoin_walk (a0 a1 : ByteArray) (w : World) (w0 : a0.size ≤ 140737488351232) (w1 : a1.size ≤ 140737488351232) :
    Calls Try.prog 10 #[.string a0, .string a1] w fun e w' => e = .returned (.bool true) ∧ Below w.heap.size w w' := by
  have hsum := Crc.sum_lt a0.data.toList
  have hsum1 := Crc.sum_lt a1.data.toList
  have heq : Crc.join (Crc.sum a0.data.toList) (Crc.sum a1.data.toList) a1.size = Crc.sum (a0.data.toList ++ a1.data.toList) := by
    have := Crc.join_sum a0.data.toList a1.data.toList
    rw [Array.length_toList] at this; exact this
  by_cases h : 500 < a0.size + a1.size
  · go_enter Try.func10, Try.ntmps10
    go_wp2_with (first | (go_at_call 14; go_must (refine (summed _).mono ?_); rintro e w' ⟨rfl, rfl⟩))
    go_ret
    exact ⟨rfl, by (repeat (first | exact Below.refl _ _ | assumption | refine bal ?_ _ | refine bdr ?_ | refine bdn ?_ _ | refine bst ?_ (by first | assumption | exact Nat.le_refl _ | omega) _ | refine bch ?_ (by assumption)))⟩
  · go_enter Try.func10, Try.ntmps10
    go_wp2_with (first
      | (go_at_call 14; go_must (refine (summed _).mono ?_); rintro e w' ⟨rfl, rfl⟩)
      | (go_at_call 16; go_must (refine (crc_sum _ _ (by (try simp); unfold maxLen; omega)).mono ?_); rintro e w' ⟨rfl, rfl⟩)
      | (go_at_call 24; go_must (refine (crc_join _ _ _ _ hsum hsum1 (by omega) (by omega)).mono ?_); rintro e w' ⟨rfl, hb⟩))
    go_ret
    exact ⟨rfl, by (repeat (first | exact Below.refl _ _ | assumption | refine bal ?_ _ | refine bdr ?_ | refine bdn ?_ _ | refine bst ?_ (by first | assumption | exact Nat.le_refl _ | omega) _ | refine bch ?_ (by assumption)))⟩
set_option maxHeartbeats 1000000 in
theorem CrcThree_walk (a0 a1 a2 a3 a4 : Int) (w : World) (w0 : (Lit.int .u32 a0).wf = true) (w1 : (Lit.int .u32 a1).wf = true) (w2 : (Lit.int .u32 a2).wf = true) (w3 : (Lit.int .i64 a3).wf = true) (w4 : (Lit.int .i64 a4).wf = true) :
    Calls Try.prog 11 #[.int .u32 a0, .int .u32 a1, .int .u32 a2, .int .i64 a3, .int .i64 a4] w fun e w' => e = .returned (.bool true) ∧ Below w.heap.size w w' := by
  obtain ⟨a, rfl, ha⟩ := nat_u32 w0
  obtain ⟨b, rfl, hb0⟩ := nat_u32 w1
  obtain ⟨c, rfl, hc⟩ := nat_u32 w2
  clear w0 w1 w2 w3 w4
  have hn := pickN_lt a3 3000 (by omega)
  have hm := pickN_lt a4 3000 (by omega)
  have hj := fun k => Crc.join_lt (n := k) ha hb0
  have hj2 := fun k => Crc.join_lt (n := k) hb0 hc
  have h3 := Lib.hid (Crc.join_three a b c (pickN a3 3000) (pickN a4 3000))
  replace hj := Lib.hid hj
  replace hj2 := Lib.hid hj2
  go_enter Try.func11, Try.ntmps11
  go_wp2_with (first
    | (go_at_call 14; go_must (refine (summed _).mono ?_); rintro e w' ⟨rfl, rfl⟩)
    | (go_at_call 21; go_must (refine (keep_pick _ _ 3000 _ rfl (by omega) (by omega)).mono ?_); rintro e w' ⟨rfl, rfl⟩))
  generalize pickN a3 3000 = n at *
  generalize pickN a4 3000 = m at *
  go_wp2_with fail
  refine (crc_join a b n _ ha hb0 (by omega) (by omega)).mono ?_
  rintro e w1 ⟨rfl, hb1⟩
  rw [Int.toNat_natCast]
  go_wp2_with fail
  refine (crc_join _ c m _ (hj.out _) hc (by omega) (by omega)).mono ?_
  rintro e w2 ⟨rfl, hb2⟩
  rw [Int.toNat_natCast]
  go_wp2_with fail
  refine (crc_join b c m _ hb0 hc (by omega) (by omega)).mono ?_
  rintro e w3 ⟨rfl, hb3⟩
  rw [Int.toNat_natCast]
  go_wp2_with fail
  refine (crc_join a _ _ _ ha (hj2.out _) (by omega) (by omega)).mono ?_
  rintro e w4 ⟨rfl, hb4⟩
  rw [show ((n : Int) + (m : Int)).toNat = n + m by omega, ← h3.out]
  go_wp2
  go_ret
  exact ⟨ret_bool (by simp), by (repeat (first | exact Below.refl _ _ | assumption | refine bal ?_ _ | refine bdr ?_ | refine bdn ?_ _ | refine bst ?_ (by first | assumption | exact Nat.le_refl _ | omega) _ | refine bch ?_ (by assumption)))⟩
set_option maxHeartbeats 1000000 in
theorem CrcNone_walk (a0 : ByteArray) (a1 : Int) (w : World) (w0 : a0.size ≤ 140737488351232) (w1 : (Lit.int .u32 a1).wf = true) :
    Calls Try.prog 12 #[.string a0, .int .u32 a1] w fun e w' => e = .returned (.bool true) ∧ Below w.heap.size w w' := by
  obtain ⟨a, rfl, ha⟩ := nat_u32 w1
  clear w1
  by_cases h : 300 < a0.size
  · go_enter Try.func12, Try.ntmps12
    go_wp2_with (first | (go_at_call 14; go_must (refine (summed _).mono ?_); rintro e w' ⟨rfl, rfl⟩))
    go_ret
    exact ⟨rfl, by (repeat (first | exact Below.refl _ _ | assumption | refine bal ?_ _ | refine bdr ?_ | refine bdn ?_ _ | refine bst ?_ (by first | assumption | exact Nat.le_refl _ | omega) _ | refine bch ?_ (by assumption)))⟩
  · have hsum := Crc.sum_lt a0.data.toList
    have hs0 := Crc.sum_lt []
    have h1 := Crc.more_none ha
    have h2 := Crc.join_none (Crc.sum a0.data.toList)
    have h3 := Crc.join_nothing (Crc.sum a0.data.toList) a0.size
    replace h2 := Lib.hid h2
    replace h3 := Lib.hid h3
    go_enter Try.func12, Try.ntmps12
    go_wp2_with (first
      | (go_at_call 14; go_must (refine (summed _).mono ?_); rintro e w' ⟨rfl, rfl⟩)
      | (go_at_call 16; go_must (refine (crc_sum _ _ (by first | (show (0 : Nat) ≤ maxLen; exact Nat.zero_le _) | (unfold maxLen; omega))).mono ?_); rintro e w' ⟨rfl, rfl⟩)
      | (go_at_call 15; go_must (refine (crc_more _ _ _ ha (by decide)).mono ?_); rintro e w' ⟨rfl, rfl⟩))
    refine (crc_join _ _ _ _ hsum hs0 (by omega) (by omega)).mono ?_
    rintro e w1 ⟨rfl, hb1⟩
    rw [show (0 : Int).toNat = 0 from rfl, h2.out]
    go_wp2_with (first
      | (go_at_call 16; go_must (refine (crc_sum _ _ (by first | (show (0 : Nat) ≤ maxLen; exact Nat.zero_le _) | (unfold maxLen; omega))).mono ?_); rintro e w' ⟨rfl, rfl⟩))
    refine (crc_join _ _ _ _ hs0 hsum (by omega) (by omega)).mono ?_
    rintro e w2 ⟨rfl, hb2⟩
    rw [Int.toNat_natCast, h3.out]
    go_wp2
    go_ret
    exact ⟨rfl, by (repeat (first | exact Below.refl _ _ | assumption | refine bal ?_ _ | refine bdr ?_ | refine bdn ?_ _ | refine bst ?_ (by first | assumption | exact Nat.le_refl _ | omega) _ | refine bch ?_ (by assumption)))⟩
end Go.Proofs.Ytmjgminajkhfdaa
