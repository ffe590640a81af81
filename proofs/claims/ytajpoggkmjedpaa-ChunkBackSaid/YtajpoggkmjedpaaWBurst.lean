/- Walks of what the laws share: a number that stands for one of n; a text with bits turned. -/
import Derived.Test.YtajpoggkmjedpaaLib
import Derived.Test.YtajpoggkmjedpaaRows
import Derived.Test.YtajpoggkmjedpaaPlainBurst
import Derived.Test.YtajpoggkmjedpaaWPick
namespace Go.Proofs.Ytajpoggkmjedpaa
open Go.RowKit
set_option linter.unusedVariables false
theorem u32_bit (b k : Nat) (hb : b < 4294967296) : bits .and .u32 ((b : Int) / 2 ^ k) 1 = ((b / 2 ^ k % 2 : Nat) : Int) := by
  have h : b / 2 ^ k < 4294967296 := Nat.lt_of_le_of_lt (Nat.div_le_self _ _) hb
  have h1 := u32_and_nat (b / 2 ^ k) 1 h (by omega)
  rw [Nat.and_one_is_mod] at h1
  rw [← h1]
  rw [Int.natCast_ediv, Int.natCast_pow]; rfl
theorem u8_turn (x : UInt8) (j : Nat) : bits .xor .u8 (x.toNat : Int) ((2 : Int) ^ (j % 8) % 256) = ((x ^^^ UInt8.ofNat (2 ^ (j % 8))).toNat : Int) := by
  have h := Crc.pow_lt8 j
  have e : (2 : Int) ^ (j % 8) % 256 = ((2 ^ (j % 8) : Nat) : Int) := by
    have e1 : ((2 ^ (j % 8) : Nat) : Int) = (2 : Int) ^ (j % 8) := by rw [Int.natCast_pow]; rfl
    rw [← e1]
    exact Int.emod_eq_of_lt (Int.natCast_nonneg _) (Int.ofNat_lt.2 h)
  rw [e, u8_xor_nat _ _ x.toNat_lt h, UInt8.toNat_xor, UInt8.toNat_ofNat', Nat.mod_eq_of_lt h]
theorem vals_flip (l : List UInt8) (k : Nat) (h : k / 8 < l.length) : (byteVals l).set (k / 8) (.int .u8 (l[k / 8] ^^^ UInt8.ofNat (2 ^ (k % 8))).toNat) = byteVals (Crc.flip l k) := by
  unfold byteVals Crc.flip
  apply List.ext_getElem (by simp)
  intro i h1 h2
  rw [List.getElem_set, List.getElem_map, List.getElem_map, List.getElem_modify]
  split
  · rename_i e; subst e; rfl
  · rfl
set_option maxHeartbeats 1000000 in
theorem keep_turned (s : ByteArray) (f b : Nat) (w : World) (hs : s.size ≤ 1000000) (hf : f ≤ 10000000) (hb : b < 4294967296) :
    Calls Try.prog 23 #[.string s, .int .i64 f, .int .u32 b] w fun e w' => e = .returned (.string ⟨(Crc.turns s.data.toList f b 32).toArray⟩) ∧ Below w.heap.size w w' := by
  have hcb := fun (W : World) => run_bytes_of_string (P := Try.prog) W 9 34 5 s Try.underlying9 Try.underlying34 Try.underlying5
  go_enter Try.func23, Try.ntmps23
  go_wp2
  clear hcb
  go_loopw [12] (fun i wr => ∃ k : Nat, k ≤ 32 ∧ i = .int .i64 k ∧ PRow wr w.heap.size 5 (byteVals (Crc.turns s.data.toList f b k)) ∧ Below w.heap.size w wr) (fun i _ => 32 - (intOf i).toNat)
  case atStart => exact ⟨0, by omega, rfl, (prow_bytes _ _ _ _ _ _ rfl).drew, by (repeat (first | exact Below.refl _ _ | assumption | refine bal ?_ _ | refine bdr ?_ | refine bdn ?_ _ | refine bst ?_ (by first | assumption | exact Nat.le_refl _ | omega) _ | refine bch ?_ (by assumption)))⟩
  case round =>
    obtain ⟨k, hk, rfl, hrow, hbel⟩ := hrel
    have hlen : (Crc.turns s.data.toList f b k).length = s.size := by rw [Crc.turns_len]; exact Array.length_toList
    by_cases hlt : k < 32
    · have hbit := u32_bit b k hb
      by_cases hk1 : b / 2 ^ k % 2 = 1
      · have hand : bits .and .u32 ((b : Int) / 2 ^ k) 1 = 1 := by rw [hbit, hk1]; rfl
        clear hbit
        by_cases hk2 : (f + k) / 8 < s.size
        · have hj : (f + k) / 8 < (byteVals (Crc.turns s.data.toList f b k)).length := by rw [byteVals, List.length_map, hlen]; exact hk2
          have hc := hrow.cell _ hj
          have hfz := hrow.frozen _ hj
          have hrow' := hrow.set _ hj
          have hg : (byteVals (Crc.turns s.data.toList f b k))[(f + k) / 8] = .int .u8 ((Crc.turns s.data.toList f b k)[(f + k) / 8]'(by rw [hlen]; exact hk2)).toNat := by simp [byteVals]
          rw [hg] at hc
          have hs1 : Hid (Crc.turns s.data.toList f b (k + 1) = Crc.flip (Crc.turns s.data.toList f b k) (f + k)) := Lib.hid (by
            simp only [Crc.turns]; rw [if_pos ⟨hk1, by rw [Array.length_toList]; exact hk2⟩])
          go_wp2
          go_region
          go_wp2
          go_roundw
          case rel =>
            refine ⟨k + 1, by omega, by go_num, ?_, by (repeat (first | exact Below.refl _ _ | assumption | refine bal ?_ _ | refine bdr ?_ | refine bdn ?_ _ | refine bst ?_ (by first | assumption | exact Nat.le_refl _ | omega) _ | refine bch ?_ (by assumption)))⟩
            rw [hs1.out, ← vals_flip _ _ (by rw [hlen]; exact hk2), ← u8_turn]
            exact hrow' _
          case measure => simp [intOf]; omega
        · have hs1 : Hid (Crc.turns s.data.toList f b (k + 1) = Crc.turns s.data.toList f b k) := Lib.hid (by
            simp only [Crc.turns]; rw [if_neg (fun h => hk2 (by have := h.2; rw [Array.length_toList] at this; exact this))])
          go_wp2
          go_roundw
          case rel => exact ⟨k + 1, by omega, by go_num, by rw [hs1.out]; exact hrow, by (repeat (first | exact Below.refl _ _ | assumption | refine bal ?_ _ | refine bdr ?_ | refine bdn ?_ _ | refine bst ?_ (by first | assumption | exact Nat.le_refl _ | omega) _ | refine bch ?_ (by assumption)))⟩
          case measure => simp [intOf]; omega
      · have hand : bits .and .u32 ((b : Int) / 2 ^ k) 1 = 0 := by rw [hbit, show b / 2 ^ k % 2 = 0 by omega]; rfl
        clear hbit
        have hs1 : Hid (Crc.turns s.data.toList f b (k + 1) = Crc.turns s.data.toList f b k) := Lib.hid (by
          simp only [Crc.turns]; rw [if_neg (fun h => hk1 h.1)])
        go_wp2
        go_roundw
        case rel => exact ⟨k + 1, by omega, by go_num, by rw [hs1.out]; exact hrow, by (repeat (first | exact Below.refl _ _ | assumption | refine bal ?_ _ | refine bdr ?_ | refine bdn ?_ _ | refine bst ?_ (by first | assumption | exact Nat.le_refl _ | omega) _ | refine bch ?_ (by assumption)))⟩
        case measure => simp [intOf]; omega
    · obtain rfl : k = 32 := by omega
      have hcv := fun c => str_of_prow (P := Try.prog) hrow 34 9 Try.underlying34 Try.underlying5 Try.underlying9 s.size c hlen.symm
      have hrow := Lib.hid hrow
      clear hlen
      go_wp2
      go_ret
      exact ⟨rfl, hbel⟩
end Go.Proofs.Ytajpoggkmjedpaa
