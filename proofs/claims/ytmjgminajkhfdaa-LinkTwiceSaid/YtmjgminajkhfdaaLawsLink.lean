/- Walk of the law LinkTwice. -/
import Derived.Test.YtmjgminajkhfdaaWLink
namespace Go.Proofs.Ytmjgminajkhfdaa
open Go.RowKit
set_option linter.unusedVariables false
set_option maxRecDepth 20000 in
theorem link_turn' (s T : ByteArray) (b : Nat) (w : World) (hs : s.size ≤ 1000000) (hb : b < 18446744073709551616) (hT : (⟨(Link.turn s.data.toList b).toArray⟩ : ByteArray) = T) :
    Calls Try.prog 13 #[.string s, .int .u64 b] w fun e w' => e = .returned (.string T) ∧ Below w.heap.size w w' := by
  subst hT; exact link_turn s b w hs hb
theorem turn_fact : (⟨(Link.turn (⟨#[97, 98, 99, 100]⟩ : ByteArray).data.toList 1).toArray⟩ : ByteArray) = ⟨#[96, 98, 99, 100]⟩ := by decide +kernel
theorem u8_bit (b k : Nat) (hb : b < 256) : bits .and .u8 ((b : Int) / 2 ^ k) 1 = ((b / 2 ^ k % 2 : Nat) : Int) := by
  have h : b / 2 ^ k < 256 := Nat.lt_of_le_of_lt (Nat.div_le_self _ _) hb
  have h1 := u8_and_nat (b / 2 ^ k) 1 h (by omega)
  rw [Nat.and_one_is_mod] at h1
  rw [← h1]
  rw [Int.natCast_ediv, Int.natCast_pow]; rfl
set_option maxHeartbeats 1000000 in
set_option maxRecDepth 20000 in
theorem LinkTwice_walk (a0 : ByteArray) (a1 : Int) (w : World) (w0 : a0.size ≤ 140737488351232) (w1 : (Lit.int .u64 a1).wf = true) :
    Calls Try.prog 3 #[.string a0, .int .u64 a1] w fun e w' => e = .returned (.bool true) ∧ Below w.heap.size w w' := by
  obtain ⟨b, rfl, hbb⟩ := nat_u64 w1
  clear w1
  by_cases h : 300 < a0.size
  · replace hbb := Lib.hid hbb
    go_enter Try.func3, Try.ntmps3
    go_wp2
    go_ret
    exact ⟨rfl, by (repeat (first | exact Below.refl _ _ | assumption | refine bal ?_ _ | refine bdr ?_ | refine bdn ?_ _ | refine bst ?_ (by first | assumption | exact Nat.le_refl _ | omega) _ | refine bch ?_ (by assumption)))⟩
  · obtain ⟨T, hT⟩ : ∃ T : ByteArray, (⟨(Link.turn a0.data.toList b).toArray⟩ : ByteArray) = T := ⟨_, rfl⟩
    have hTl : T.data.toList = Link.turn a0.data.toList b := by rw [← hT]
    have hlen : T.size = a0.size := by rw [← hT, ba_size, Link.turn_len, Array.length_toList]; rfl
    have hback : Hid ((⟨(Link.turn T.data.toList b).toArray⟩ : ByteArray) = a0) := Lib.hid (by
      rw [hTl, Link.turn_turn, ba_mk])
    have hup := Link.upto_all a0.data.toList b
    have hsh := Link.upto_short a0.data.toList b
    rw [← hTl] at hup hsh
    replace hup := Lib.hid hup
    replace hsh := Lib.hid hsh
    replace hT := Lib.hid hT
    clear hTl
    have hbit := Lib.hid (fun k => u64_bit b k hbb)
    replace hbb := Lib.hid hbb
    go_enter Try.func3, Try.ntmps3
    go_wp2_with (first
      | (go_at_call 13; go_must (refine (link_turn' _ _ _ _ (by first | omega | simp [ByteArray.size]) (by first | exact hbb.out | decide) (by first | exact turn_fact | exact hback.out | exact hT.out)).mono ?_); rintro e w' ⟨rfl, hb⟩))
    go_loopw [6, 26] (fun t i wr => ∃ k : Nat, k ≤ a0.size ∧ i = .int .i64 k ∧ t = .int .i64 (Link.upto a0.data.toList T.data.toList k) ∧ Below w.heap.size w wr) (fun _ i _ => a0.size - (intOf i).toNat)
    case atStart => exact ⟨0, by omega, rfl, rfl, by (repeat (first | exact Below.refl _ _ | assumption | refine bal ?_ _ | refine bdr ?_ | refine bdn ?_ _ | refine bst ?_ (by first | assumption | exact Nat.le_refl _ | omega) _ | refine bch ?_ (by assumption)))⟩
    case round =>
      obtain ⟨k, hk, rfl, rfl, hbel⟩ := hrel
      clear hb
      by_cases hlt : k < a0.size
      · have hs1 := Link.upto_succ a0.data.toList T.data.toList k (by rw [Array.length_toList]; exact hlt) (by rw [Array.length_toList]; show k < T.size; omega)
        have hle := Link.upto_le a0.data.toList T.data.toList k
        obtain ⟨u, hu⟩ : ∃ u, Link.upto a0.data.toList T.data.toList k = u := ⟨_, rfl⟩
        rw [hu] at hs1 hle
        rw [hu]
        obtain ⟨x, hx⟩ : ∃ x : Nat, (a0.data.toList[k]'(by rw [Array.length_toList]; exact hlt) ^^^ T.data.toList[k]'(by rw [Array.length_toList]; show k < T.size; omega)).toNat = x := ⟨_, rfl⟩
        rw [hx] at hs1
        have hx8 : x < 256 := by rw [← hx]; exact UInt8.toNat_lt _
        have hxv : bits .xor .u8 ((a0[k]'hlt).toNat : Int) ((T[k]'(by omega)).toNat : Int) = (x : Int) := by
          rw [u8_xor_nat _ _ (UInt8.toNat_lt _) (UInt8.toNat_lt _), ← hx, UInt8.toNat_xor]; rfl
        have hu' := Lib.hid hu
        have hx' := Lib.hid hx
        replace hs1 := Lib.hid hs1
        clear hx hu
        go_wp2
        go_loopw [6, 29] (fun t i wr => ∃ j : Nat, j ≤ 8 ∧ i = .int .i64 j ∧ t = .int .i64 (u + Link.pop x j : Nat) ∧ Below w.heap.size w wr) (fun _ i _ => 8 - (intOf i).toNat)
        case atStart => exact ⟨0, by omega, rfl, rfl, by (repeat (first | exact Below.refl _ _ | assumption | refine bal ?_ _ | refine bdr ?_ | refine bdn ?_ _ | refine bst ?_ (by first | assumption | exact Nat.le_refl _ | omega) _ | refine bch ?_ (by assumption)))⟩
        case round =>
          obtain ⟨j, hj, rfl, rfl, hbel⟩ := hrel
          have hpl := Link.pop_le x j
          by_cases hj8 : j < 8
          · have hv := u8_bit x j hx8
            have hps : Hid (Link.pop x (j + 1) = Link.pop x j + x / 2 ^ j % 2) := Lib.hid rfl
            obtain ⟨q, hq⟩ : ∃ q, x / 2 ^ j % 2 = q := ⟨_, rfl⟩
            rw [hq] at hv hps
            have hq2 : q < 2 := by omega
            clear hq
            generalize Link.pop x j = p at *
            go_wp2
            go_quiet (fail)
            go_wp2
            go_roundw
            case rel => exact ⟨j + 1, by omega, by go_num, by rw [hps.out]; go_num, by (repeat (first | exact Below.refl _ _ | assumption | refine bal ?_ _ | refine bdr ?_ | refine bdn ?_ _ | refine bst ?_ (by first | assumption | exact Nat.le_refl _ | omega) _ | refine bch ?_ (by assumption)))⟩
            case measure => simp [intOf]; omega
          · obtain rfl : j = 8 := by omega
            go_wp2
            go_roundw
            case rel => exact ⟨k + 1, by omega, by go_num, by rw [hs1.out], by (repeat (first | exact Below.refl _ _ | assumption | refine bal ?_ _ | refine bdr ?_ | refine bdn ?_ _ | refine bst ?_ (by first | assumption | exact Nat.le_refl _ | omega) _ | refine bch ?_ (by assumption)))⟩
            case measure => simp [intOf]; omega
      · obtain rfl : k = a0.size := by omega
        obtain ⟨u, hu⟩ : ∃ u, Link.upto a0.data.toList T.data.toList a0.size = u := ⟨_, rfl⟩
        rw [hu]
        have hup' : a0.size < 4 ∧ u = 0 ∨ ¬ a0.size < 4 ∧ u = Link.pop b 32 := by
          by_cases h4 : a0.size < 4
          · exact .inl ⟨h4, by rw [← hu]; exact hsh.out _ (by rw [Array.length_toList]; exact h4)⟩
          · exact .inr ⟨h4, by rw [← hu]; have := hup.out (by rw [Array.length_toList]; exact h4); rw [Array.length_toList] at this; exact this⟩
        clear hu
        go_wp2
        go_loopw [7, 47] (fun t i wr => ∃ j : Nat, j ≤ 32 ∧ i = .int .i64 j ∧ t = .int .i64 (Link.pop b j : Nat) ∧ Below w.heap.size w wr) (fun _ i _ => 32 - (intOf i).toNat)
        case atStart => exact ⟨0, by omega, rfl, rfl, by (repeat (first | exact Below.refl _ _ | assumption | refine bal ?_ _ | refine bdr ?_ | refine bdn ?_ _ | refine bst ?_ (by first | assumption | exact Nat.le_refl _ | omega) _ | refine bch ?_ (by assumption)))⟩
        case round =>
          obtain ⟨j, hj, rfl, rfl, hbel⟩ := hrel
          have hpl := Link.pop_le b j
          by_cases hj8 : j < 32
          · have hv := hbit.out j
            have hps : Hid (Link.pop b (j + 1) = Link.pop b j + b / 2 ^ j % 2) := Lib.hid rfl
            obtain ⟨q, hq⟩ : ∃ q, b / 2 ^ j % 2 = q := ⟨_, rfl⟩
            rw [hq] at hv hps
            have hq2 : q < 2 := by omega
            clear hq
            generalize Link.pop b j = p at *
            go_wp2
            go_roundw
            case rel => exact ⟨j + 1, by omega, by go_num, by rw [hps.out]; go_num, by (repeat (first | exact Below.refl _ _ | assumption | refine bal ?_ _ | refine bdr ?_ | refine bdn ?_ _ | refine bst ?_ (by first | assumption | exact Nat.le_refl _ | omega) _ | refine bch ?_ (by assumption)))⟩
            case measure => simp [intOf]; omega
          · obtain rfl : j = 32 := by omega
            generalize Link.pop b 32 = p at *
            go_wp2_with (first
              | (go_at_call 13; go_must (refine (link_turn' _ _ _ _ (by first | omega | simp [ByteArray.size]) (by first | exact hbb.out | decide) (by first | exact turn_fact | exact hback.out | exact hT.out)).mono ?_); rintro e w' ⟨rfl, hb⟩))
            · go_ret
              exact ⟨rfl, by (repeat (first | exact Below.refl _ _ | assumption | refine bal ?_ _ | refine bdr ?_ | refine bdn ?_ _ | refine bst ?_ (by first | assumption | exact Nat.le_refl _ | omega) _ | refine bch ?_ (by assumption)))⟩
            · go_ret
              have hup2 : u = p := by omega
              exact ⟨by rw [hup2]; exact ret_bool (by simp), by (repeat (first | exact Below.refl _ _ | assumption | refine bal ?_ _ | refine bdr ?_ | refine bdn ?_ _ | refine bst ?_ (by first | assumption | exact Nat.le_refl _ | omega) _ | refine bch ?_ (by assumption)))⟩
end Go.Proofs.Ytmjgminajkhfdaa
