/- The walk of link.Turn, and of the law LinkTwice. -/
import Derived.Test.YtdpdnkjpjoccmaaDoorFlip
import Derived.Test.YtdpdnkjpjoccmaaDoorPlainRecv4
namespace Go.Proofs.YtdpdnkjpjoccmaaDoor
open Go.RowKit
set_option linter.unusedVariables false
theorem u64_bit (b k : Nat) (hb : b < 18446744073709551616) : bits .and .u64 ((b : Int) / 2 ^ k) 1 = ((b / 2 ^ k % 2 : Nat) : Int) := by
  have h : b / 2 ^ k < 18446744073709551616 := Nat.lt_of_le_of_lt (Nat.div_le_self _ _) hb
  have h1 := u64_and_nat (b / 2 ^ k) 1 h (by omega)
  rw [Nat.and_one_is_mod] at h1
  rw [← h1]
  rw [Int.natCast_ediv, Int.natCast_pow]; rfl
theorem link_at (b n : Nat) (hn : 4 ≤ n) (hn2 : n ≤ 1000000) : b / 4294967296 % (8 * n - 31) + 31 < 8 * n := by
  have := Nat.mod_lt (b / 4294967296) (show 0 < 8 * n - 31 by omega)
  omega
set_option maxHeartbeats 1000000 in
set_option maxRecDepth 20000 in
theorem link_turn (s : ByteArray) (b : Nat) (w : World) (hs : s.size ≤ 1000000) (hb : b < 18446744073709551616) :
    Calls Tryd.prog 56 #[.string s, .int .u64 b] w fun e w' => e = .returned (.string ⟨(Link.turn s.data.toList b).toArray⟩) ∧ Below w.heap.size w w' := by
  have hcb := fun (W : World) => run_bytes_of_string (P := Tryd.prog) W 9 86 5 s Tryd.underlying9 Tryd.underlying86 Tryd.underlying5
  have hbit := Lib.hid (fun k => u64_bit b k hb)
  by_cases h4 : s.size < 4
  · have he : Hid (Link.turn s.data.toList b = s.data.toList) := Lib.hid (by unfold Link.turn; rw [if_pos (by rw [Array.length_toList]; exact h4)])
    replace hb := Lib.hid hb
    go_enter Tryd.func56, Tryd.ntmps56
    go_wp2
    go_ret
    exact ⟨by rw [he.out, ba_mk]; rfl, by (repeat (first | exact Below.refl _ _ | assumption | refine bal ?_ _ | refine bdr ?_ | refine bdn ?_ _ | refine bst ?_ (by first | assumption | exact Nat.le_refl _ | omega) _ | refine bch ?_ (by assumption)))⟩
  · have he : Hid (Link.turn s.data.toList b = Crc.turns s.data.toList (b / 4294967296 % (8 * s.size - 31)) b 32) := Lib.hid (by
      unfold Link.turn; rw [if_neg (by rw [Array.length_toList]; exact h4), Array.length_toList]; rfl)
    have hat := link_at b s.size (by omega) hs
    generalize hF : b / 4294967296 % (8 * s.size - 31) = f at *
    have hF' : wrap64 ((b : Int) / 4294967296 % (8 * (s.size : Int) - 31)) = (f : Int) := by
      have hsub : ((8 * s.size - 31 : Nat) : Int) = 8 * (s.size : Int) - 31 := by omega
      have : (b : Int) / 4294967296 % (8 * (s.size : Int) - 31) = (f : Int) := by
        rw [← hF, Int.natCast_emod, Int.natCast_ediv, hsub]; rfl
      rw [this]; unfold wrap64; omega
    clear hF
    replace hb := Lib.hid hb
    go_enter Tryd.func56, Tryd.ntmps56
    go_wp2
    clear hcb
    go_loopw [23] (fun i wr => ∃ k : Nat, k ≤ 32 ∧ i = .int .i64 k ∧ PRow wr w.heap.size 5 (byteVals (Crc.turns s.data.toList f b k)) ∧ Below w.heap.size w wr) (fun i _ => 32 - (intOf i).toNat)
    case atStart => exact ⟨0, by omega, rfl, (prow_bytes _ _ _ _ _ _ rfl).drew, by (repeat (first | exact Below.refl _ _ | assumption | refine bal ?_ _ | refine bdr ?_ | refine bdn ?_ _ | refine bst ?_ (by first | assumption | exact Nat.le_refl _ | omega) _ | refine bch ?_ (by assumption)))⟩
    case round =>
      obtain ⟨k, hk, rfl, hrow, hbel⟩ := hrel
      have hlen : (Crc.turns s.data.toList f b k).length = s.size := by rw [Crc.turns_len]; exact Array.length_toList
      by_cases hlt : k < 32
      · have hbit := hbit.out k
        by_cases hk1 : b / 2 ^ k % 2 = 1
        · have hand : bits .and .u64 ((b : Int) / 2 ^ k) 1 = 1 := by rw [hbit, hk1]; rfl
          clear hbit
          have hk2 : (f + k) / 8 < s.size := by omega
          have hj : (f + k) / 8 < (byteVals (Crc.turns s.data.toList f b k)).length := by rw [byteVals, List.length_map, hlen]; exact hk2
          have hc := hrow.cell _ hj
          have hfz := hrow.frozen _ hj
          have hrow' := hrow.set _ hj
          have hg : (byteVals (Crc.turns s.data.toList f b k))[(f + k) / 8] = .int .u8 ((Crc.turns s.data.toList f b k)[(f + k) / 8]'(by rw [hlen]; exact hk2)).toNat := by simp [byteVals]
          rw [hg] at hc
          have hs1 : Hid (Crc.turns s.data.toList f b (k + 1) = Crc.flip (Crc.turns s.data.toList f b k) (f + k)) := Lib.hid (by
            simp only [Crc.turns]; rw [if_pos ⟨hk1, by rw [Array.length_toList]; exact hk2⟩])
          go_wp2
          go_region
          go_wp2
          go_roundw
          case rel =>
            refine ⟨k + 1, by omega, by go_num, ?_, by (repeat (first | exact Below.refl _ _ | assumption | refine bal ?_ _ | refine bdr ?_ | refine bdn ?_ _ | refine bst ?_ (by first | assumption | exact Nat.le_refl _ | omega) _ | refine bch ?_ (by assumption)))⟩
            rw [hs1.out, ← vals_flip _ _ (by rw [hlen]; exact hk2), ← u8_turn]
            exact hrow' _
          case measure => simp [intOf]; omega
        · have hand : bits .and .u64 ((b : Int) / 2 ^ k) 1 = 0 := by rw [hbit, show b / 2 ^ k % 2 = 0 by omega]; rfl
          clear hbit
          have hs1 : Hid (Crc.turns s.data.toList f b (k + 1) = Crc.turns s.data.toList f b k) := Lib.hid (by
            simp only [Crc.turns]; rw [if_neg (fun h => hk1 h.1)])
          go_wp2
          go_roundw
          case rel => exact ⟨k + 1, by omega, by go_num, by rw [hs1.out]; exact hrow, by (repeat (first | exact Below.refl _ _ | assumption | refine bal ?_ _ | refine bdr ?_ | refine bdn ?_ _ | refine bst ?_ (by first | assumption | exact Nat.le_refl _ | omega) _ | refine bch ?_ (by assumption)))⟩
          case measure => simp [intOf]; omega
      · obtain rfl : k = 32 := by omega
        have hcv := fun c => str_of_prow (P := Tryd.prog) hrow 86 9 Tryd.underlying86 Tryd.underlying5 Tryd.underlying9 s.size c hlen.symm
        have hrow := Lib.hid hrow
        clear hlen
        go_wp2
        go_ret
        exact ⟨by rw [he.out]; rfl, hbel⟩
end Go.Proofs.YtdpdnkjpjoccmaaDoor
