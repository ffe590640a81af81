/- Walks of vary: Zig and Zag. -/
import Derived.Test.YtonblpcbpfhlmaaDoorWVary
namespace Go.Proofs.YtonblpcbpfhlmaaDoor
open Go.RowKit
set_option linter.unusedVariables false
theorem xor_ones {x : Nat} (h : x < 18446744073709551616) : x ^^^ 18446744073709551615 = 18446744073709551615 - x := by
  apply Nat.eq_of_testBit_eq
  intro i
  rw [show 18446744073709551615 - x = 2 ^ 64 - (x + 1) from by omega, Nat.testBit_two_pow_sub_succ h, Nat.testBit_xor, show (18446744073709551615 : Nat) = 2 ^ 64 - 1 from rfl, Nat.testBit_two_pow_sub_one]
  by_cases hi : i < 64 <;> simp [hi]
  exact Nat.testBit_lt_two_pow (Nat.lt_of_lt_of_le h (Nat.pow_le_pow_right (n := 2) (by omega) (by omega : 64 ≤ i)))
theorem zig_eq (n : Int) (h1 : -9223372036854775808 ≤ n) (h2 : n ≤ 9223372036854775807) :
    bits .xor .u64 (IntKind.u64.wrap (IntKind.u64.wrap n * 2)) (IntKind.u64.wrap (n / 9223372036854775808)) = ((Vary.zig n : Nat) : Int) := by
  simp only [IntKind.wrap_u64]
  unfold Vary.zig
  by_cases h : 0 ≤ n
  · rw [if_pos h]
    have e1 : n % 18446744073709551616 * 2 % 18446744073709551616 = (((2 * n).toNat : Nat) : Int) := by omega
    have e2 : n / 9223372036854775808 % 18446744073709551616 = ((0 : Nat) : Int) := by omega
    rw [e1, e2, u64_xor_nat _ _ (by omega) (by omega), Nat.xor_zero]
  · rw [if_neg h]
    have e1 : n % 18446744073709551616 * 2 % 18446744073709551616 = (((2 * n + 18446744073709551616).toNat : Nat) : Int) := by omega
    have e2 : n / 9223372036854775808 % 18446744073709551616 = ((18446744073709551615 : Nat) : Int) := by omega
    rw [e1, e2, u64_xor_nat _ _ (by omega) (by omega), xor_ones (by omega)]
    omega
set_option maxHeartbeats 1000000 in
set_option maxRecDepth 20000 in
theorem vary_zig (n : Int) (w : World) (h1 : -9223372036854775808 ≤ n) (h2 : n ≤ 9223372036854775807) :
    Calls Tryd.prog 32 #[.int .i64 n] w fun e w' => e = .returned (.int .u64 (Vary.zig n)) ∧ w = w' := by
  have he := Lib.hid (zig_eq n h1 h2)
  replace h1 := Lib.hid h1
  replace h2 := Lib.hid h2
  go_enter Tryd.func32, Tryd.ntmps32
  go_wp2
  go_ret
  exact ⟨ret_int he.out, rfl⟩
theorem i64_xor_zero (a : Nat) (h : a < 9223372036854775808) : bits .xor .i64 (a : Int) 0 = (a : Int) := by
  show IntKind.i64.wrap ((BitVec.ofInt 64 (a : Int) ^^^ BitVec.ofInt 64 (0 : Int)).toNat : Int) = _
  rw [BitVec.toNat_xor, ofInt_u64 a (by omega), show (BitVec.ofInt 64 (0 : Int)).toNat = 0 from by decide, Nat.xor_zero, IntKind.wrap_i64]
  omega
theorem i64_xor_ones (a : Nat) (h : a < 9223372036854775808) : bits .xor .i64 (a : Int) (-1) = -(a : Int) - 1 := by
  show IntKind.i64.wrap ((BitVec.ofInt 64 (a : Int) ^^^ BitVec.ofInt 64 (-1 : Int)).toNat : Int) = _
  rw [BitVec.toNat_xor, ofInt_u64 a (by omega), show (BitVec.ofInt 64 (-1 : Int)).toNat = 18446744073709551615 from by decide, xor_ones (by omega), IntKind.wrap_i64]
  omega
theorem zag_eq (n : Nat) (h1 : n < 18446744073709551616) :
    bits .xor .i64 (wrap64 ((n : Int) / 2)) (wrap64 (-wrap64 (bits .and .u64 (n : Int) 1))) = Vary.zag n := by
  have ha := u64_and_nat n 1 h1 (by omega)
  rw [Nat.and_one_is_mod] at ha
  have ha2 : bits .and .u64 (n : Int) 1 = ((n % 2 : Nat) : Int) := ha
  have hh : wrap64 ((n : Int) / 2) = ((n / 2 : Nat) : Int) := by rw [IntWalk.wrap64_in _ ⟨by omega, by omega⟩]; rfl
  rw [ha2, hh]
  unfold Vary.zag
  by_cases h : n % 2 = 0
  · rw [if_pos h, h]
    have e : wrap64 (-wrap64 ((0 : Nat) : Int)) = 0 := by
      rw [IntWalk.wrap64_in ((0 : Nat) : Int) ⟨by omega, by omega⟩, IntWalk.wrap64_in _ ⟨by omega, by omega⟩]; rfl
    rw [e]
    have := i64_xor_zero (n / 2) (by omega)
    exact this
  · rw [if_neg h, show n % 2 = 1 by omega]
    have e : wrap64 (-wrap64 ((1 : Nat) : Int)) = -1 := by
      rw [IntWalk.wrap64_in ((1 : Nat) : Int) ⟨by omega, by omega⟩, IntWalk.wrap64_in _ ⟨by omega, by omega⟩]; rfl
    rw [e]
    exact i64_xor_ones (n / 2) (by omega)
set_option maxHeartbeats 1000000 in
set_option maxRecDepth 20000 in
theorem vary_zag (n : Nat) (w : World) (h1 : n < 18446744073709551616) :
    Calls Tryd.prog 36 #[.int .u64 n] w fun e w' => e = .returned (.int .i64 (Vary.zag n)) ∧ w = w' := by
  have he := Lib.hid (zag_eq n h1)
  replace h1 := Lib.hid h1
  go_enter Tryd.func36, Tryd.ntmps36
  go_wp2
  go_ret
  exact ⟨ret_int he.out, rfl⟩
end Go.Proofs.YtonblpcbpfhlmaaDoor
