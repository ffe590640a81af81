/- Walks of vary: Zig and Zag. -/
import Derived.Test.YtdeepahaggkipaaDoorWSpan
import Derived.Test.YtdeepahaggkipaaDoorWTail
namespace Go.Proofs.YtdeepahaggkipaaDoor
open Go.RowKit
set_option linter.unusedVariables false
theorem xor_ones {x : Nat} (h : x < 18446744073709551616) : x ^^^ 18446744073709551615 = 18446744073709551615 - x := by
  apply Nat.eq_of_testBit_eq
  intro i
  rw [show 18446744073709551615 - x = 2 ^ 64 - (x + 1) from by omega, Nat.testBit_two_pow_sub_succ h, Nat.testBit_xor, show (18446744073709551615 : Nat) = 2 ^ 64 - 1 from rfl, Nat.testBit_two_pow_sub_one]
  by_cases hi : i < 64 <;> simp [hi]
  exact Nat.testBit_lt_two_pow (Nat.lt_of_lt_of_le h (Nat.pow_le_pow_right (n := 2) (by omega) (by omega : 64 ≤ i)))
theorem zig_eq (n : Int) (h1 : -9223372036854775808 ≤ n) (h2 : n ≤ 9223372036854775807) :
    bits .xor .u64 (IntKind.u64.wrap (IntKind.u64.wrap n * 2)) (IntKind.u64.wrap (n / 9223372036854775808)) = ((Vary.zig n : Nat) : Int) := by
  simp only [IntKind.wrap_u64]
  unfold Vary.zig
  by_cases h : 0 ≤ n
  · rw [if_pos h]
    have e1 : n % 18446744073709551616 * 2 % 18446744073709551616 = (((2 * n).toNat : Nat) : Int) := by omega
    have e2 : n / 9223372036854775808 % 18446744073709551616 = ((0 : Nat) : Int) := by omega
    rw [e1, e2, u64_xor_nat _ _ (by omega) (by omega), Nat.xor_zero]
  · rw [if_neg h]
    have e1 : n % 18446744073709551616 * 2 % 18446744073709551616 = (((2 * n + 18446744073709551616).toNat : Nat) : Int) := by omega
    have e2 : n / 9223372036854775808 % 18446744073709551616 = ((18446744073709551615 : Nat) : Int) := by omega
    rw [e1, e2, u64_xor_nat _ _ (by omega) (by omega), xor_ones (by omega)]
    omega
set_option maxHeartbeats 1000000 in
set_option maxRecDepth 20000 in
theorem vary_zig (n : Int) (w : World) (h1 : -9223372036854775808 ≤ n) (h2 : n ≤ 9223372036854775807) :
    Calls Tryd.prog 64 #[.int .i64 n] w fun e w' => e = .returned (.int .u64 (Vary.zig n)) ∧ w = w' := by
  have he := Lib.hid (zig_eq n h1 h2)
  replace h1 := Lib.hid h1
  replace h2 := Lib.hid h2
  go_enter Tryd.func64, Tryd.ntmps64
  go_wp2
  go_ret
  exact ⟨ret_int he.out, rfl⟩
end Go.Proofs.YtdeepahaggkipaaDoor
/- The walk of vary.Zag. -/
namespace Go.Proofs.YtdeepahaggkipaaDoor
open Go.RowKit
set_option linter.unusedVariables false
theorem i64_xor_zero (a : Nat) (h : a < 9223372036854775808) : bits .xor .i64 (a : Int) 0 = (a : Int) := by
  show IntKind.i64.wrap ((BitVec.ofInt 64 (a : Int) ^^^ BitVec.ofInt 64 (0 : Int)).toNat : Int) = _
  rw [BitVec.toNat_xor, ofInt_u64 a (by omega), show (BitVec.ofInt 64 (0 : Int)).toNat = 0 from by decide, Nat.xor_zero, IntKind.wrap_i64]
  omega
theorem i64_xor_ones (a : Nat) (h : a < 9223372036854775808) : bits .xor .i64 (a : Int) (-1) = -(a : Int) - 1 := by
  show IntKind.i64.wrap ((BitVec.ofInt 64 (a : Int) ^^^ BitVec.ofInt 64 (-1 : Int)).toNat : Int) = _
  rw [BitVec.toNat_xor, ofInt_u64 a (by omega), show (BitVec.ofInt 64 (-1 : Int)).toNat = 18446744073709551615 from by decide, xor_ones (by omega), IntKind.wrap_i64]
  omega
theorem zag_eq (n : Nat) (h1 : n < 18446744073709551616) :
    bits .xor .i64 (wrap64 ((n : Int) / 2)) (wrap64 (-wrap64 (bits .and .u64 (n : Int) 1))) = Vary.zag n := by
  have ha := u64_and_nat n 1 h1 (by omega)
  rw [Nat.and_one_is_mod] at ha
  have ha2 : bits .and .u64 (n : Int) 1 = ((n % 2 : Nat) : Int) := ha
  have hh : wrap64 ((n : Int) / 2) = ((n / 2 : Nat) : Int) := by rw [IntWalk.wrap64_in _ ⟨by omega, by omega⟩]; rfl
  rw [ha2, hh]
  unfold Vary.zag
  by_cases h : n % 2 = 0
  · rw [if_pos h, h]
    have e : wrap64 (-wrap64 ((0 : Nat) : Int)) = 0 := by
      rw [IntWalk.wrap64_in ((0 : Nat) : Int) ⟨by omega, by omega⟩, IntWalk.wrap64_in _ ⟨by omega, by omega⟩]; rfl
    rw [e]
    have := i64_xor_zero (n / 2) (by omega)
    exact this
  · rw [if_neg h, show n % 2 = 1 by omega]
    have e : wrap64 (-wrap64 ((1 : Nat) : Int)) = -1 := by
      rw [IntWalk.wrap64_in ((1 : Nat) : Int) ⟨by omega, by omega⟩, IntWalk.wrap64_in _ ⟨by omega, by omega⟩]; rfl
    rw [e]
    exact i64_xor_ones (n / 2) (by omega)
set_option maxHeartbeats 1000000 in
set_option maxRecDepth 20000 in
theorem vary_zag (n : Nat) (w : World) (h1 : n < 18446744073709551616) :
    Calls Tryd.prog 89 #[.int .u64 n] w fun e w' => e = .returned (.int .i64 (Vary.zag n)) ∧ w = w' := by
  have he := Lib.hid (zag_eq n h1)
  replace h1 := Lib.hid h1
  go_enter Tryd.func89, Tryd.ntmps89
  go_wp2
  go_ret
  exact ⟨ret_int he.out, rfl⟩
end Go.Proofs.YtdeepahaggkipaaDoor
/- The walk of write.Tail. -/
namespace Go.Proofs.YtdeepahaggkipaaDoor
open Go.RowKit
set_option linter.unusedVariables false
set_option maxHeartbeats 2000000 in
set_option maxRecDepth 100000 in
theorem write_tail_bad (t r k : Int) (key val : ByteArray) (n : Int) (w : World) (h : Wr.right (wr t r k key val n) ≠ 0) :
    Calls Tryd.prog 39 #[wrV t r k key val n] w fun e w' => e = .returned (.tuple #[.string ⟨#[]⟩, errV (Wr.right (wr t r k key val n))]) ∧ Below w.heap.size w w' := by
  have hR := fun W => write_right t r k key val n W
  rw [errW_no h] at hR
  unfold errV
  generalize Wr.right (wr t r k key val n) = c at *
  unfold wrV at *
  replace hR := Lib.hid hR
  clear h
  go_enter Tryd.func39, Tryd.ntmps39
  go_wp2_with fail
  refine (hR.out _).mono ?_
  rintro e w2 ⟨rfl, hb⟩
  have hbel : Below w.heap.size w w2 := by (repeat (first | exact Below.refl _ _ | assumption | refine bal ?_ _ | refine bdr ?_ | refine bdn ?_ _ | refine bst ?_ (by first | assumption | exact Nat.le_refl _ | omega) _ | refine bch ?_ (by assumption)))
  go_wp2
  go_ret2
  exact ⟨rfl, hbel⟩
set_option maxHeartbeats 2000000 in
set_option maxRecDepth 100000 in
theorem write_tail_ok (t r k : Int) (key val : ByteArray) (n : Int) (w : World) (h : Wr.right (wr t r k key val n) = 0) :
    Calls Tryd.prog 39 #[wrV t r k key val n] w fun e w' => e = .returned (.tuple #[.string ⟨(Wr.tail (wr t r k key val n)).toArray⟩, .nilIface]) ∧ Below w.heap.size w w' := by
  have hR := fun W => write_right t r k key val n W
  rw [h, errW_ok] at hR
  obtain ⟨k1, k4, -, -, -, -, -, hval, -, -, hadd, hins⟩ := Wr.right_zero h
  simp only [wr] at k1 k4 hval hadd hins
  rw [ba_len] at hval
  have hp := fun W => span_put val W (by omega)
  replace hR := Lib.hid hR
  replace hp := Lib.hid hp
  clear h
  unfold wrV at *
  have hk : k = 1 ∨ k = 2 ∨ k = 3 ∨ k = 4 := by omega
  clear k1 k4
  have hT : ∀ y, Wr.tail (wr t r k key val n) = y → Hid (Wr.tail (wr t r k key val n) = y) := fun y h => Lib.hid h
  rcases hk with rfl | rfl | rfl | rfl
  · have hT := hT (Span.put val.data.toList) (by unfold Wr.tail wr; rw [if_pos rfl])
    go_enter Tryd.func39, Tryd.ntmps39
    go_wp2_with fail
    have q0 := row_at #[.int .i64 t, .int .i64 r, .int .i64 1, .string key, .string val, .int .i64 n] 54 (rfl : w.heap.size = w.heap.size)
    have qb : Below w.heap.size w (w.alloc (Obj.cells #[.int .i64 t, .int .i64 r, .int .i64 1, .string key, .string val, .int .i64 n] 54)) := by (repeat (first | exact Below.refl _ _ | assumption | refine bal ?_ _ | refine bdr ?_ | refine bdn ?_ _ | refine bst ?_ (by first | assumption | exact Nat.le_refl _ | omega) _ | refine bch ?_ (by assumption)))
    generalize w.alloc (Obj.cells #[.int .i64 t, .int .i64 r, .int .i64 1, .string key, .string val, .int .i64 n] 54) = w1 at *
    refine (hR.out _).mono ?_
    rintro e w2 ⟨rfl, hb⟩
    have q1 := q0.below hb
    have c2 := q1.cell 2
    have c4 := q1.cell 4
    simp only [List.getElem?_cons_zero, List.getElem?_cons_succ] at c2 c4
    clear q0 q1
    go_wp2_with fail
    refine (hp.out _).mono ?_
    rintro e w3 ⟨rfl, hb3⟩
    go_wp2
    go_ret2
    rw [hT.out]
    exact ⟨rfl, by (repeat (first | exact Below.refl _ _ | assumption | refine bal ?_ _ | refine bdr ?_ | refine bdn ?_ _ | refine bst ?_ (by first | assumption | exact Nat.le_refl _ | omega) _ | refine bch ?_ (by assumption)))⟩
  · have hT := hT [] (by unfold Wr.tail wr; simp)
    go_enter Tryd.func39, Tryd.ntmps39
    go_wp2_with fail
    have q0 := row_at #[.int .i64 t, .int .i64 r, .int .i64 2, .string key, .string val, .int .i64 n] 54 (rfl : w.heap.size = w.heap.size)
    have qb : Below w.heap.size w (w.alloc (Obj.cells #[.int .i64 t, .int .i64 r, .int .i64 2, .string key, .string val, .int .i64 n] 54)) := by (repeat (first | exact Below.refl _ _ | assumption | refine bal ?_ _ | refine bdr ?_ | refine bdn ?_ _ | refine bst ?_ (by first | assumption | exact Nat.le_refl _ | omega) _ | refine bch ?_ (by assumption)))
    generalize w.alloc (Obj.cells #[.int .i64 t, .int .i64 r, .int .i64 2, .string key, .string val, .int .i64 n] 54) = w1 at *
    refine (hR.out _).mono ?_
    rintro e w2 ⟨rfl, hb⟩
    have q1 := q0.below hb
    have c2 := q1.cell 2
    simp only [List.getElem?_cons_zero, List.getElem?_cons_succ] at c2
    clear q0 q1
    go_wp2
    go_ret2
    rw [hT.out]
    exact ⟨rfl, by (repeat (first | exact Below.refl _ _ | assumption | refine bal ?_ _ | refine bdr ?_ | refine bdn ?_ _ | refine bst ?_ (by first | assumption | exact Nat.le_refl _ | omega) _ | refine bch ?_ (by assumption)))⟩
  · have hT := hT (Vary.put (Vary.zig n)) (by unfold Wr.tail wr; simp)
    have hn := hadd rfl
    have hz := Lib.hid (fun W => vary_zig n W (by omega) (by omega))
    have hz2 := Lib.hid (fun W => vary_put (Vary.zig n) W (Vary.zig_lt n (by omega) (by omega)))
    replace hn := Lib.hid hn
    go_enter Tryd.func39, Tryd.ntmps39
    go_wp2_with fail
    have q0 := row_at #[.int .i64 t, .int .i64 r, .int .i64 3, .string key, .string val, .int .i64 n] 54 (rfl : w.heap.size = w.heap.size)
    have qb : Below w.heap.size w (w.alloc (Obj.cells #[.int .i64 t, .int .i64 r, .int .i64 3, .string key, .string val, .int .i64 n] 54)) := by (repeat (first | exact Below.refl _ _ | assumption | refine bal ?_ _ | refine bdr ?_ | refine bdn ?_ _ | refine bst ?_ (by first | assumption | exact Nat.le_refl _ | omega) _ | refine bch ?_ (by assumption)))
    generalize w.alloc (Obj.cells #[.int .i64 t, .int .i64 r, .int .i64 3, .string key, .string val, .int .i64 n] 54) = w1 at *
    refine (hR.out _).mono ?_
    rintro e w2 ⟨rfl, hb⟩
    have q1 := q0.below hb
    have c2 := q1.cell 2
    have c5 := q1.cell 5
    simp only [List.getElem?_cons_zero, List.getElem?_cons_succ] at c2 c5
    clear q0 q1
    go_wp2_with fail
    refine (hz.out _).mono ?_
    rintro e w3 ⟨rfl, rfl⟩
    go_wp2_with fail
    refine (hz2.out _).mono ?_
    rintro e w4 ⟨rfl, hb4⟩
    go_wp2
    go_ret2
    rw [hT.out]
    exact ⟨rfl, by (repeat (first | exact Below.refl _ _ | assumption | refine bal ?_ _ | refine bdr ?_ | refine bdn ?_ _ | refine bst ?_ (by first | assumption | exact Nat.le_refl _ | omega) _ | refine bch ?_ (by assumption)))⟩
  · have hT := hT (Vary.put n.toNat ++ Span.put val.data.toList) (by unfold Wr.tail wr; simp)
    obtain ⟨hn1, hn2⟩ := hins rfl
    obtain ⟨m, rfl⟩ := Int.eq_ofNat_of_zero_le hn1
    rw [Int.toNat_natCast] at hT
    have hz := Lib.hid (fun W => vary_put m W (by omega))
    have hw := u64_of_nonneg hn1 (by omega)
    have l1 := Vary.put_len m (by omega)
    have l2 : (Span.put val.data.toList).length ≤ 400 := by
      have := Vary.put_len val.size (by omega)
      unfold Span.put
      rw [List.length_append, ba_len]; omega
    have hcat : Hid ((⟨(Vary.put m).toArray⟩ : ByteArray) ++ ⟨(Span.put val.data.toList).toArray⟩ = ⟨(Vary.put m ++ Span.put val.data.toList).toArray⟩) := Lib.hid (ByteArray.ext (by simp))
    go_enter Tryd.func39, Tryd.ntmps39
    go_wp2_with fail
    have q0 := row_at #[.int .i64 t, .int .i64 r, .int .i64 4, .string key, .string val, .int .i64 m] 54 (rfl : w.heap.size = w.heap.size)
    have qb : Below w.heap.size w (w.alloc (Obj.cells #[.int .i64 t, .int .i64 r, .int .i64 4, .string key, .string val, .int .i64 m] 54)) := by (repeat (first | exact Below.refl _ _ | assumption | refine bal ?_ _ | refine bdr ?_ | refine bdn ?_ _ | refine bst ?_ (by first | assumption | exact Nat.le_refl _ | omega) _ | refine bch ?_ (by assumption)))
    generalize w.alloc (Obj.cells #[.int .i64 t, .int .i64 r, .int .i64 4, .string key, .string val, .int .i64 m] 54) = w1 at *
    refine (hR.out _).mono ?_
    rintro e w2 ⟨rfl, hb⟩
    have q1 := q0.below hb
    have c2 := q1.cell 2
    have c4 := q1.cell 4
    have c5 := q1.cell 5
    simp only [List.getElem?_cons_zero, List.getElem?_cons_succ] at c2 c4 c5
    have q2 := Lib.hid q1
    clear q0 q1
    go_wp2_with fail
    refine (hp.out _).mono ?_
    rintro e w3 ⟨rfl, hb3⟩
    have c5 := (q2.out.below hb3).cell 5
    simp only [List.getElem?_cons_zero, List.getElem?_cons_succ] at c5
    clear q2 c2 c4
    go_wp2_with fail
    refine (hz.out _).mono ?_
    rintro e w4 ⟨rfl, hb4⟩
    go_wp2
    go_ret2
    rw [hT.out]
    exact ⟨by rw [← hcat.out]; rfl, by (repeat (first | exact Below.refl _ _ | assumption | refine bal ?_ _ | refine bdr ?_ | refine bdn ?_ _ | refine bst ?_ (by first | assumption | exact Nat.le_refl _ | omega) _ | refine bch ?_ (by assumption)))⟩
end Go.Proofs.YtdeepahaggkipaaDoor
