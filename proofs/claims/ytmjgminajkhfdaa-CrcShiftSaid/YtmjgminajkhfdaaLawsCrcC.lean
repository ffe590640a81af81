/- Walk of the law CrcShift: a byte that is another one changes the sum by what hangs on it, and on how many stand behind. -/
import Derived.Test.YtmjgminajkhfdaaLawsCrcA
namespace Go.Proofs.Ytmjgminajkhfdaa
open Go.RowKit
set_option linter.unusedVariables false
/-- The closure: the sum of a text, a byte, and what the captured cell has. -/
theorem shift_one (s t : ByteArray) (c : Nat) (g : Nat) (w : World) (hs : s.size ≤ 1000) (ht : t.size ≤ 1000) (hc : c < 256) (hg : w.cell? ⟨g, 0, none⟩ = some (.string t)) :
    Calls Try.prog 17 #[.string s, .int .u8 c, .pointer (some ⟨g, 0, none⟩)] w fun e w' => e = .returned (.int .u32 (Crc.sum (s.data.toList ++ UInt8.ofNat c :: t.data.toList))) ∧ Below w.heap.size w w' ∧ w'.cell? ⟨g, 0, none⟩ = some (.string t) := by
  have hlt : g < w.heap.size := World.block_lt_of_cell? w _ hg
  have hcv := str1 (P := Try.prog) 30 5 9 Try.underlying30 Try.underlying5 Try.underlying9
  have hsz : ∀ a : Int, (strOfNums [a]).size = 1 := fun _ => rfl
  go_enter Try.func17, Try.ntmps17
  have he : Hid (s.data.toList ++ ((strOfNums [(c : Int)]).data.toList ++ t.data.toList) = s.data.toList ++ UInt8.ofNat c :: t.data.toList) := Lib.hid (by
    rw [strOfNums_data]; simp)
  have hn : Hid ((s ++ strOfNums [(c : Int)] ++ t).size = s.size + 1 + t.size) := Lib.hid (by simp [hsz])
  go_wp2_with (go_at_call 16; refine (crc_sum _ _ (by unfold maxLen; rw [hn.out]; omega)).mono ?_; rintro e w' ⟨rfl, rfl⟩)
  go_ret
  refine ⟨ret_int (by rw [he.out]), by (repeat (first | exact Below.refl _ _ | assumption | refine bal ?_ _ | refine bdr ?_ | refine bdn ?_ _ | refine bst ?_ (by first | assumption | exact Nat.le_refl _ | omega) _ | refine bch ?_ (by assumption))), ?_⟩
  rw [World.cell?_alloc_lt _ _ _ hlt, hg]
theorem shift_ways (A B behind : List UInt8) (x y : UInt8) (h : A.length = B.length) :
    bits .xor .u32 (Crc.sum (A ++ x :: behind) : Int) (Crc.sum (A ++ y :: behind) : Int) = bits .xor .u32 (Crc.sum (B ++ x :: behind) : Int) (Crc.sum (B ++ y :: behind) : Int) := by
  rw [u32_xor_nat _ _ (Crc.sum_lt _) (Crc.sum_lt _), u32_xor_nat _ _ (Crc.sum_lt _) (Crc.sum_lt _), Crc.sum_byte, Crc.sum_byte]
theorem shift_iff (A behind : List UInt8) (c d : Nat) (hc : c < 256) (hd : d < 256) :
    ((c : Int) == (d : Int)) = ((Crc.sum (A ++ UInt8.ofNat c :: behind) : Int) == (Crc.sum (A ++ UInt8.ofNat d :: behind) : Int)) := by
  rw [Bool.eq_iff_iff, beq_iff_eq, beq_iff_eq]
  constructor
  · intro h
    have : c = d := by omega
    rw [this]
  · intro h
    have h1 := Crc.sum_byte_ne A behind (UInt8.ofNat c) (UInt8.ofNat d) (by omega)
    have h2 := congrArg UInt8.toNat h1
    rw [UInt8.toNat_ofNat', UInt8.toNat_ofNat'] at h2
    omega
set_option maxHeartbeats 1000000 in
theorem CrcShift_walk (a0 a1 a2 : ByteArray) (a3 a4 : Int) (w : World) (w0 : a0.size ≤ 140737488351232) (w1 : a1.size ≤ 140737488351232) (w2 : a2.size ≤ 140737488351232) (w3 : (Lit.int .u8 a3).wf = true) (w4 : (Lit.int .u8 a4).wf = true) :
    Calls Try.prog 6 #[.string a0, .string a1, .string a2, .int .u8 a3, .int .u8 a4] w fun e w' => e = .returned (.bool true) ∧ Below w.heap.size w w' := by
  obtain ⟨c, rfl, hc⟩ := nat_u8 w3
  obtain ⟨d, rfl, hd⟩ := nat_u8 w4
  clear w3 w4
  obtain ⟨n, hn⟩ : ∃ n : Nat, n = min a0.size a1.size := ⟨_, rfl⟩
  have hm : (if a1.size < a0.size then (a1.size : Int) else (a0.size : Int)) = (n : Int) := by split <;> omega
  have hn0 : n ≤ a0.size ∧ n ≤ a1.size := by omega
  obtain ⟨hn0, hn1⟩ := hn0
  clear hn
  by_cases h : 200 < n
  · go_enter Try.func6, Try.ntmps6
    go_wp2_with (go_at_call 14; refine (summed _).mono ?_; rintro e w' ⟨rfl, rfl⟩)
    go_ret
    exact ⟨rfl, by (repeat (first | exact Below.refl _ _ | assumption | refine bal ?_ _ | refine bdr ?_ | refine bdn ?_ _ | refine bst ?_ (by first | assumption | exact Nat.le_refl _ | omega) _ | refine bch ?_ (by assumption)))⟩
  · by_cases h2 : 200 < a2.size
    · go_enter Try.func6, Try.ntmps6
      go_wp2_with (go_at_call 14; refine (summed _).mono ?_; rintro e w' ⟨rfl, rfl⟩)
      go_ret
      exact ⟨rfl, by (repeat (first | exact Below.refl _ _ | assumption | refine bal ?_ _ | refine bdr ?_ | refine bdn ?_ _ | refine bst ?_ (by first | assumption | exact Nat.le_refl _ | omega) _ | refine bch ?_ (by assumption)))⟩
    · have hl : ((a0.extract 0 n).data.toList).length = ((a1.extract 0 n).data.toList).length := by
        have e0 : a0.data.size = a0.size := rfl
        have e1 : a1.data.size = a1.size := rfl
        simp; omega
      have hz0 : (a0.extract 0 n).size ≤ 1000 := by simp; omega
      have hz1 : (a1.extract 0 n).size ≤ 1000 := by simp; omega
      have hw := Lib.hid (shift_ways (a0.extract 0 n).data.toList (a1.extract 0 n).data.toList a2.data.toList (UInt8.ofNat c) (UInt8.ofNat d) hl)
      have hi := Lib.hid (shift_iff (a0.extract 0 n).data.toList a2.data.toList c d hc hd)
      clear hl
      go_enter Try.func6, Try.ntmps6
      go_wp2_with (go_at_call 14; refine (summed _).mono ?_; rintro e w' ⟨rfl, rfl⟩)
      go_quiet (fail)
      have hg : ((w.alloc (Obj.cells #[Value.string a2] 9)).drewN nq).cell? ⟨w.heap.size, 0, none⟩ = some (.string a2) := by rw [World.cell?_drewN, World.cell?_alloc_at _ _ _ _ rfl]; rfl
      have hz2 : a2.size ≤ 1000 := by omega
      have hbw : Below w.heap.size w ((w.alloc (Obj.cells #[Value.string a2] 9)).drewN nq) := by (repeat (first | exact Below.refl _ _ | assumption | refine bal ?_ _ | refine bdr ?_ | refine bdn ?_ _ | refine bst ?_ (by first | assumption | exact Nat.le_refl _ | omega) _ | refine bch ?_ (by assumption)))
      generalize a0.extract 0 n = A at *
      generalize a1.extract 0 n = B at *
      generalize (w.alloc (Obj.cells #[Value.string a2] 9)).drewN nq = w1 at *
      go_wp2_with (go_at_call 17; refine (shift_one _ _ _ _ _ (by assumption) hz2 (by assumption) (by assumption)).mono ?_; rintro e w' ⟨rfl, hb, hg⟩)
      all_goals go_ret
      refine ⟨ret_bool ?_, by (repeat (first | exact Below.refl _ _ | assumption | refine bal ?_ _ | refine bdr ?_ | refine bdn ?_ _ | refine bst ?_ (by first | assumption | exact Nat.le_refl _ | omega) _ | refine bch ?_ (by assumption)))⟩
      rw [← hi.out]
      simp
end Go.Proofs.Ytmjgminajkhfdaa
