/- The walk of what the laws share: a text with bits turned. -/
import Derived.Test.YtdeepahaggkipaaDoorFlip
import Derived.Test.YtdeepahaggkipaaDoorWPick
namespace Go.Proofs.YtdeepahaggkipaaDoor
open Go.RowKit
set_option linter.unusedVariables false
set_option maxHeartbeats 1000000 in
theorem keep_turned (s : ByteArray) (f b : Nat) (w : World) (hs : s.size ≤ 1000000) (hf : f ≤ 10000000) (hb : b < 4294967296) :
    Calls Tryd.prog 29 #[.string s, .int .i64 f, .int .u32 b] w fun e w' => e = .returned (.string ⟨(Crc.turns s.data.toList f b 32).toArray⟩) ∧ Below w.heap.size w w' := by
  have hcb := fun (W : World) => run_bytes_of_string (P := Tryd.prog) W 9 60 5 s Tryd.underlying9 Tryd.underlying60 Tryd.underlying5
  go_enter Tryd.func29, Tryd.ntmps29
  go_wp2
  clear hcb
  go_loopw [12] (fun i wr => ∃ k : Nat, k ≤ 32 ∧ i = .int .i64 k ∧ PRow wr w.heap.size 5 (byteVals (Crc.turns s.data.toList f b k)) ∧ Below w.heap.size w wr) (fun i _ => 32 - (intOf i).toNat)
  case atStart => exact ⟨0, by omega, rfl, (prow_bytes _ _ _ _ _ _ rfl).drew, by (repeat (first | exact Below.refl _ _ | assumption | refine bal ?_ _ | refine bdr ?_ | refine bdn ?_ _ | refine bst ?_ (by first | assumption | exact Nat.le_refl _ | omega) _ | refine bch ?_ (by assumption)))⟩
  case round =>
    obtain ⟨k, hk, rfl, hrow, hbel⟩ := hrel
    have hlen : (Crc.turns s.data.toList f b k).length = s.size := by rw [Crc.turns_len]; exact Array.length_toList
    by_cases hlt : k < 32
    · have hbit := u32_bit b k hb
      by_cases hk1 : b / 2 ^ k % 2 = 1
      · have hand : bits .and .u32 ((b : Int) / 2 ^ k) 1 = 1 := by rw [hbit, hk1]; rfl
        clear hbit
        by_cases hk2 : (f + k) / 8 < s.size
        · have hj : (f + k) / 8 < (byteVals (Crc.turns s.data.toList f b k)).length := by rw [byteVals, List.length_map, hlen]; exact hk2
          have hc := hrow.cell _ hj
          have hfz := hrow.frozen _ hj
          have hrow' := hrow.set _ hj
          have hg : (byteVals (Crc.turns s.data.toList f b k))[(f + k) / 8] = .int .u8 ((Crc.turns s.data.toList f b k)[(f + k) / 8]'(by rw [hlen]; exact hk2)).toNat := by simp [byteVals]
          rw [hg] at hc
          have hs1 : Hid (Crc.turns s.data.toList f b (k + 1) = Crc.flip (Crc.turns s.data.toList f b k) (f + k)) := Lib.hid (by
            simp only [Crc.turns]; rw [if_pos ⟨hk1, by rw [Array.length_toList]; exact hk2⟩])
          go_wp2
          go_region
          go_wp2
          go_roundw
          case rel =>
            refine ⟨k + 1, by omega, by go_num, ?_, by (repeat (first | exact Below.refl _ _ | assumption | refine bal ?_ _ | refine bdr ?_ | refine bdn ?_ _ | refine bst ?_ (by first | assumption | exact Nat.le_refl _ | omega) _ | refine bch ?_ (by assumption)))⟩
            rw [hs1.out, ← vals_flip _ _ (by rw [hlen]; exact hk2), ← u8_turn]
            exact hrow' _
          case measure => simp [intOf]; omega
        · have hs1 : Hid (Crc.turns s.data.toList f b (k + 1) = Crc.turns s.data.toList f b k) := Lib.hid (by
            simp only [Crc.turns]; rw [if_neg (fun h => hk2 (by have := h.2; rw [Array.length_toList] at this; exact this))])
          go_wp2
          go_roundw
          case rel => exact ⟨k + 1, by omega, by go_num, by rw [hs1.out]; exact hrow, by (repeat (first | exact Below.refl _ _ | assumption | refine bal ?_ _ | refine bdr ?_ | refine bdn ?_ _ | refine bst ?_ (by first | assumption | exact Nat.le_refl _ | omega) _ | refine bch ?_ (by assumption)))⟩
          case measure => simp [intOf]; omega
      · have hand : bits .and .u32 ((b : Int) / 2 ^ k) 1 = 0 := by rw [hbit, show b / 2 ^ k % 2 = 0 by omega]; rfl
        clear hbit
        have hs1 : Hid (Crc.turns s.data.toList f b (k + 1) = Crc.turns s.data.toList f b k) := Lib.hid (by
          simp only [Crc.turns]; rw [if_neg (fun h => hk1 h.1)])
        go_wp2
        go_roundw
        case rel => exact ⟨k + 1, by omega, by go_num, by rw [hs1.out]; exact hrow, by (repeat (first | exact Below.refl _ _ | assumption | refine bal ?_ _ | refine bdr ?_ | refine bdn ?_ _ | refine bst ?_ (by first | assumption | exact Nat.le_refl _ | omega) _ | refine bch ?_ (by assumption)))⟩
        case measure => simp [intOf]; omega
    · obtain rfl : k = 32 := by omega
      have hcv := fun c => str_of_prow (P := Tryd.prog) hrow 60 9 Tryd.underlying60 Tryd.underlying5 Tryd.underlying9 s.size c hlen.symm
      have hrow := Lib.hid hrow
      clear hlen
      go_wp2
      go_ret
      exact ⟨rfl, hbel⟩
end Go.Proofs.YtdeepahaggkipaaDoor
