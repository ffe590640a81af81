/- Walk of the law CrcEven: sums of four texts that taken together are nothing. -/
import Derived.Test.YtmjgminajkhfdaaLawsCrcA
namespace Go.Proofs.Ytmjgminajkhfdaa
open Go.RowKit
set_option linter.unusedVariables false
/-- What the three texts come to, byte by byte. -/
def evens (a b c : ByteArray) (n : Nat) : List Value := (List.zipWith (· ^^^ ·) (List.zipWith (· ^^^ ·) (a.data.toList.take n) (b.data.toList.take n)) (c.data.toList.take n)).map fun b => Value.int .u8 b.toNat
theorem evens_len (a b c : ByteArray) (n : Nat) (h0 : n ≤ a.size) (h1 : n ≤ b.size) (h2 : n ≤ c.size) : (evens a b c n).length = n := by
  have h0' : n ≤ a.data.size := h0
  have h1' : n ≤ b.data.size := h1
  have h2' : n ≤ c.data.size := h2
  simp [evens]; omega
theorem evens_get (a b c : ByteArray) (n k : Nat) (h0 : k < a.size) (h1 : k < b.size) (h2 : k < c.size) (h : k < (evens a b c n).length) : (evens a b c n)[k] = .int .u8 (a[k] ^^^ b[k] ^^^ c[k]).toNat := by
  simp [evens]; rfl
theorem even_sum (a b c : List UInt8) (h1 : a.length = b.length) (h2 : a.length = c.length) :
    bits .xor .u32 (bits .xor .u32 (Crc.sum a : Int) (Crc.sum b : Int)) (Crc.sum c : Int) = ((Crc.sum (List.zipWith (· ^^^ ·) (List.zipWith (· ^^^ ·) a b) c) : Nat) : Int) := by
  rw [u32_xor_nat _ _ (Crc.sum_lt a) (Crc.sum_lt b), u32_xor_nat _ _ (Crc.xor_lt (Crc.sum_lt a) (Crc.sum_lt b)) (Crc.sum_lt c)]
  congr 1
  exact Crc.sum_three a b c h1 h2
theorem u8_xor3 (a b c : UInt8) : bits .xor .u8 (bits .xor .u8 (a.toNat : Int) (b.toNat : Int)) (c.toNat : Int) = ((a ^^^ b ^^^ c).toNat : Int) := by
  rw [u8_xor_nat _ _ a.toNat_lt b.toNat_lt, u8_xor_nat _ _ (Nat.xor_lt_two_pow (n := 8) a.toNat_lt b.toNat_lt) c.toNat_lt, UInt8.toNat_xor, UInt8.toNat_xor]
def byteVal (b : UInt8) : Value := .int .u8 b.toNat
set_option maxHeartbeats 1000000 in
theorem CrcEven_walk (a0 a1 a2 : ByteArray) (w : World) (w0 : a0.size ≤ 140737488351232) (w1 : a1.size ≤ 140737488351232) (w2 : a2.size ≤ 140737488351232) :
    Calls Try.prog 5 #[.string a0, .string a1, .string a2] w fun e w' => e = .returned (.bool true) ∧ Below w.heap.size w w' := by
  obtain ⟨n, hn⟩ : ∃ n : Nat, n = min (min a0.size a1.size) a2.size := ⟨_, rfl⟩
  have hm : (if (a2.size : Int) < (if a1.size < a0.size then (a1.size : Int) else (a0.size : Int)) then (a2.size : Int) else if a1.size < a0.size then (a1.size : Int) else (a0.size : Int)) = (n : Int) := by
    split <;> split at * <;> omega
  have hn0 : n ≤ a0.size ∧ n ≤ a1.size ∧ n ≤ a2.size := by omega
  obtain ⟨hn0, hn1, hn2⟩ := hn0
  clear hn
  have hmk := fun (W : World) => run_make_row' (P := Try.prog) 30 5 (.int .u8 0) 1 Try.underlying30 (by kernel_rfl) rfl .i64 .i64 n (by omega) (by omega) W
  by_cases h : 300 < n
  · go_enter Try.func5, Try.ntmps5
    go_wp2_with (go_at_call 14; refine (summed _).mono ?_; rintro e w' ⟨rfl, rfl⟩)
    go_ret
    exact ⟨rfl, Below.refl _ _⟩
  · go_enter Try.func5, Try.ntmps5
    go_wp2_with (go_at_call 14; refine (summed _).mono ?_; rintro e w' ⟨rfl, rfl⟩)
    clear hmk
    go_loopw [25] (fun i wr => ∃ k : Nat, k ≤ n ∧ i = .int .i64 k ∧ Row wr w.heap.size 5 (part (evens a0 a1 a2 n) (.int .u8 0) k) ∧ Below w.heap.size w wr) (fun i _ => n - (intOf i).toNat)
    case atStart =>
      refine ⟨0, by omega, rfl, ?_, by (repeat (first | exact Below.refl _ _ | assumption | refine bal ?_ _ | refine bdr ?_ | refine bdn ?_ _ | refine bst ?_ (by first | assumption | exact Nat.le_refl _ | omega) _ | refine bch ?_ (by assumption)))⟩
      rw [part_zero, evens_len a0 a1 a2 n hn0 hn1 hn2, ← madeCells_one]
      exact row_alloc _ _ _
    case round =>
      obtain ⟨k, hk, rfl, hrow, hbel⟩ := hrel
      have hlen := evens_len a0 a1 a2 n hn0 hn1 hn2
      by_cases hlt : k < n
      · have hc : wr.cell? ⟨w.heap.size, k, none⟩ = some (.int .u8 0) := by rw [hrow.cell]; exact part_next _ _ _ (by omega)
        have hf : wr.frozen? ⟨w.heap.size, k, none⟩ = false := hrow.frozen k (by rw [part_len _ _ _ (by omega)]; omega)
        have hx := u8_xor3 a0[k] a1[k] a2[k]
        have b0 : k < a0.size := by omega
        have b1 : k < a1.size := by omega
        have b2 : k < a2.size := by omega
        go_wp2
        go_region
        go_wp2
        go_roundw
        case rel =>
          refine ⟨k + 1, by omega, by go_num, ?_, by (repeat (first | exact Below.refl _ _ | assumption | refine bal ?_ _ | refine bdr ?_ | refine bdn ?_ _ | refine bst ?_ (by first | assumption | exact Nat.le_refl _ | omega) _ | refine bch ?_ (by assumption)))⟩
          rw [← part_set _ _ k (by omega), evens_get a0 a1 a2 n k b0 b1 b2]
          exact hrow.set k _
        case measure => simp [intOf]; omega
      · obtain rfl : k = n := by omega
        have hall : part (evens a0 a1 a2 k) (.int .u8 0) k = evens a0 a1 a2 k := by
          have := part_all (evens a0 a1 a2 k) (.int .u8 0)
          rwa [hlen] at this
        rw [hall] at hrow
        unfold evens at hrow
        have hcv := fun nq => str_of_row (P := Try.prog) (hrow.drewN nq) 30 9 Try.underlying30 Try.underlying5 Try.underlying9 k k (by simpa [evens] using hlen.symm)
        clear hrow hall hlen
        have hs0 : a0.data.toList.length = a0.size := Array.length_toList
        have hs1 : a1.data.toList.length = a1.size := Array.length_toList
        have hs2 : a2.data.toList.length = a2.size := Array.length_toList
        have hfin := Lib.hid (even_sum (a0.data.toList.take k) (a1.data.toList.take k) (a2.data.toList.take k) (by simp; omega) (by simp; omega))
        clear hs0 hs1 hs2
        go_wp2
        go_quiet ((go_at_call 16; refine quiet_same (crc_sum _ _ (by first | exact size_mk_le _ (by simp; omega) | exact size_small _ (by simp; omega)))))
        go_wp2
        go_ret
        refine ⟨ret_bool ?_, by (repeat (first | exact Below.refl _ _ | assumption | refine bal ?_ _ | refine bdr ?_ | refine bdn ?_ _ | refine bst ?_ (by first | assumption | exact Nat.le_refl _ | omega) _ | refine bch ?_ (by assumption)))⟩
        rw [hfin.out]
        simp
end Go.Proofs.Ytmjgminajkhfdaa
