/- The walks through crc. -/
import Derived.Test.YtdeepahaggkipaaDoorRows
import Derived.Test.YtdeepahaggkipaaDoorPlainCut
import Derived.Test.YtdeepahaggkipaaDoorLib4
namespace Go.Proofs.YtdeepahaggkipaaDoor
open Go.RowKit
set_option linter.unusedVariables false
theorem u32_and1 {x : Nat} (h : x < 4294967296) : bits .and .u32 (x : Int) 1 = ((x % 2 : Nat) : Int) := by
  have := u32_and_nat x 1 h (by omega)
  rw [Nat.and_one_is_mod] at this
  exact this
theorem u32_poly {x : Nat} (h : x < 4294967296) : bits .xor .u32 ((x : Int) / 2) 2197175160 = (((x / 2) ^^^ 2197175160 : Nat) : Int) := by
  have := u32_xor_nat (x / 2) 2197175160 (by omega) (by omega)
  rw [← this]; rfl
theorem u32_in (x : Nat) (c : UInt8) (h : x < 4294967296) : bits .xor .u32 (bits .and .u32 (x : Int) 255) (c.toNat : Int) = (((x % 256) ^^^ c.toNat : Nat) : Int) := by
  have hc := c.toNat_lt
  have h1 := u32_and_nat x 255 h (by omega)
  rw [show (255 : Nat) = 2 ^ 8 - 1 from rfl, Nat.and_two_pow_sub_one_eq_mod] at h1
  have h2 : bits .and .u32 (x : Int) 255 = ((x % 256 : Nat) : Int) := h1
  rw [h2]
  exact u32_xor_nat (x % 256) c.toNat (by omega) (by omega)
theorem in_lt (x : Nat) (c : UInt8) : (x % 256) ^^^ c.toNat < 4294967296 := Nat.xor_lt_two_pow (n := 32) (by omega) (by have := c.toNat_lt; omega)
theorem u32_out (x : Nat) (c : UInt8) (h : x < 4294967296) : bits .xor .u32 ((Crc.one ((x % 256) ^^^ c.toNat) : Nat) : Int) ((x : Int) / 256) = ((Crc.byte x c : Nat) : Int) := by
  have hc := c.toNat_lt
  have h1 : (x % 256) ^^^ c.toNat < 4294967296 := Nat.xor_lt_two_pow (n := 32) (by omega) (by omega)
  have := u32_xor_nat (Crc.one ((x % 256) ^^^ c.toNat)) (x / 256) (Crc.one_lt h1) (by omega)
  unfold Crc.byte
  rw [← this]; rfl
set_option maxHeartbeats 400000 in
theorem crc_one (n : Nat) (w : World) (hn : n < 4294967296) :
    Calls Tryd.prog 76 #[.int .u32 n] w fun e w' => e = .returned (.int .u32 (Crc.one n)) ∧ w = w' := by
  go_enter Tryd.func76, Tryd.ntmps76
  go_wp2
  go_loop [0, 3] (fun a i => ∃ k : Nat, k ≤ 8 ∧ i = .int .i64 k ∧ a = .int .u32 (Crc.steps k n)) (fun _ i => 8 - (intOf i).toNat)
  case atStart => exact ⟨0, by omega, rfl, rfl⟩
  case round =>
    obtain ⟨k, hk, rfl, rfl⟩ := hrel
    have hx := Crc.steps_lt k hn
    have hs : Hid (Crc.steps (k + 1) n = Crc.step1 (Crc.steps k n)) := Lib.hid rfl
    have h8 : Hid (k = 8 → Crc.steps k n = Crc.one n) := Lib.hid (fun h => by subst h; rfl)
    generalize Crc.steps k n = x at *
    have ha := u32_and1 hx
    go_wp2
    · go_round
      case rel =>
        refine ⟨k + 1, by omega, by go_num, ?_⟩
        rw [hs.out, u32_poly hx]
        unfold Crc.step1
        rw [if_pos (by have : (((x % 2 : Nat) : Int) == 1) = true := by assumption
                       rw [beq_iff_eq] at this; omega)]
      case measure => simp [intOf]; omega
    · go_round
      case rel =>
        refine ⟨k + 1, by omega, by go_num, ?_⟩
        rw [hs.out]
        unfold Crc.step1
        rw [if_neg (by have : (((x % 2 : Nat) : Int) == 1) = false := by assumption
                       rw [beq_eq_false_iff_ne] at this; omega)]
        go_num
      case measure => simp [intOf]; omega
    · go_ret
      have hk8 : k = 8 := by omega
      rw [← h8.out hk8]
      exact ⟨rfl, rfl⟩
theorem u32_inv {n : Nat} (h : n < 4294967296) : bits .xor .u32 IntKind.u32.max (n : Int) = ((Crc.inv n : Nat) : Int) := by
  have := u32_xor_nat 4294967295 n (by omega) h
  rw [show IntKind.u32.max = ((4294967295 : Nat) : Int) from rfl, this]
  congr 1
  unfold Crc.inv
  apply Nat.eq_of_testBit_eq
  intro i
  rw [show (4294967295 : Nat) - n = 2 ^ 32 - (n + 1) from by omega, Nat.testBit_two_pow_sub_succ h, Nat.testBit_xor, show (4294967295 : Nat) = 2 ^ 32 - 1 from rfl, Nat.testBit_two_pow_sub_one]
  by_cases hi : i < 32 <;> simp [hi]
  exact Nat.testBit_lt_two_pow (Nat.lt_of_lt_of_le h (Nat.pow_le_pow_right (n := 2) (by omega) (by omega : 32 ≤ i)))
set_option maxHeartbeats 400000 in
theorem crc_more (n : Nat) (s : ByteArray) (w : World) (hn : n < 4294967296) (hs : s.size ≤ maxLen) :
    Calls Tryd.prog 47 #[.int .u32 n, .string s] w fun e w' => e = .returned (.int .u32 (Crc.more n s.data.toList)) ∧ w = w' := by
  unfold maxLen at hs
  have hi := u32_inv hn
  go_enter Tryd.func47, Tryd.ntmps47
  go_wp2
  clear hi
  go_loop [0, 10] (fun a i => ∃ k : Nat, k ≤ s.size ∧ i = .int .i64 k ∧ a = .int .u32 (Crc.run (Crc.inv n) (s.data.toList.take k))) (fun _ i => s.size - (intOf i).toNat)
  case atStart => exact ⟨0, by omega, rfl, rfl⟩
  case round =>
    obtain ⟨k, hk, rfl, rfl⟩ := hrel
    have hx := Crc.run_lt (s.data.toList.take k) (Crc.inv_lt n)
    by_cases hlt : k < s.size
    · have hs : Hid (Crc.run (Crc.inv n) (s.data.toList.take (k + 1)) = Crc.byte (Crc.run (Crc.inv n) (s.data.toList.take k)) s[k]) := Lib.hid (by rw [take_snoc s k hlt, Crc.run_append]; rfl)
      generalize Crc.run (Crc.inv n) (s.data.toList.take k) = x at *
      have hc := s[k].toNat_lt
      have h1 := u32_in x s[k] hx
      have h2 := u32_out x s[k] hx
      have h3 := in_lt x s[k]
      go_wp2_with (go_at_call 76; refine (crc_one _ _ h3).mono ?_; rintro e w' ⟨rfl, rfl⟩)
      go_round
      case rel => exact ⟨k + 1, by omega, by go_num, by rw [hs.out]⟩
      case measure => simp [intOf]; omega
    · have hs : Hid (Crc.run (Crc.inv n) (s.data.toList.take k) = Crc.run (Crc.inv n) s.data.toList) := Lib.hid (by rw [List.take_of_length_le (by simp; omega)])
      generalize Crc.run (Crc.inv n) (s.data.toList.take k) = x at *
      have hi := u32_inv hx
      go_wp2
      go_ret
      exact ⟨ret_int (by unfold Crc.more; rw [← hs.out]), rfl⟩

set_option maxHeartbeats 400000 in
theorem crc_sum (s : ByteArray) (w : World) (hs : s.size ≤ maxLen) :
    Calls Tryd.prog 46 #[.string s] w fun e w' => e = .returned (.int .u32 (Crc.sum s.data.toList)) ∧ w = w' := by
  go_enter Tryd.func46, Tryd.ntmps46
  go_wp2_with (go_at_call 47; refine (crc_more 0 _ _ (by omega) hs).mono ?_; rintro e w' ⟨rfl, rfl⟩)
  go_ret
  exact ⟨rfl, rfl⟩
theorem seal_eq (s : ByteArray) : s ++ strOfNums [(Crc.sum s.data.toList : Int) % 256, (Crc.sum s.data.toList : Int) / 256 % 256, (Crc.sum s.data.toList : Int) / 65536 % 256, (Crc.sum s.data.toList : Int) / 16777216 % 256] = ⟨(Crc.seal_ s.data.toList).toArray⟩ := by
  rw [str_app]
  unfold Crc.seal_ Crc.four
  generalize Crc.sum s.data.toList = n
  have h1 : ((n : Int) % 256).toNat = n % 256 := by omega
  have h2 : ((n : Int) / 256 % 256).toNat = n / 256 % 256 := by omega
  have h3 : ((n : Int) / 65536 % 256).toNat = n / 65536 % 256 := by omega
  have h4 : ((n : Int) / 16777216 % 256).toNat = n / 16777216 % 256 := by omega
  simp only [List.map_cons, List.map_nil, h1, h2, h3, h4, ofNat_mod]
set_option maxHeartbeats 400000 in
theorem crc_seal (s : ByteArray) (w : World) (hs : s.size + 4 ≤ maxLen) :
    Calls Tryd.prog 34 #[.string s] w fun e w' => e = .returned (.string ⟨(Crc.seal_ s.data.toList).toArray⟩) ∧ Below w.heap.size w w' := by
  unfold maxLen at hs
  have hsz : ∀ a b c d : Int, (strOfNums [a, b, c, d]).size = 4 := fun _ _ _ _ => rfl
  have hcv := str4 (P := Tryd.prog) 60 5 9 Tryd.underlying60 Tryd.underlying5 Tryd.underlying9
  go_enter Tryd.func34, Tryd.ntmps34
  go_wp2_with (go_at_call 46; refine (crc_sum _ _ (by unfold maxLen; omega)).mono ?_; rintro e w' ⟨rfl, rfl⟩)
  go_ret
  exact ⟨ret_str (seal_eq s), (Below.refl _ _).alloc (Nat.le_refl _) _⟩
def err (n : Int) : Value := .iface 43 (.int .i64 n)
/-- What Open answers. -/
def openVal (s : ByteArray) : Value :=
  if s.size < 4 then .tuple #[.string ⟨#[]⟩, err 7]
  else if Crc.seal_ (s.data.toList.take (s.size - 4)) = s.data.toList then .tuple #[.string ⟨(s.data.toList.take (s.size - 4)).toArray⟩, .nilIface]
  else .tuple #[.string ⟨#[]⟩, err 15]
set_option maxHeartbeats 400000 in
theorem crc_open (s : ByteArray) (w : World) (hs : s.size ≤ maxLen) :
    Calls Tryd.prog 45 #[.string s] w fun e w' => e = .returned (openVal s) ∧ Below w.heap.size w w' := by
  unfold maxLen at hs
  by_cases h4 : s.size < 4
  · go_enter Tryd.func45, Tryd.ntmps45
    go_wp2
    go_ret2
    refine ⟨?_, Below.refl _ _⟩
    unfold openVal
    rw [if_pos h4]; rfl
  · have hx : s.toList = s.data.toList := ByteArray.toList_eq s
    by_cases hq : Crc.seal_ (s.data.toList.take (s.size - 4)) = s.data.toList
    all_goals
      have hv : Hid (openVal s = if Crc.seal_ (s.data.toList.take (s.size - 4)) = s.data.toList then .tuple #[.string ⟨(s.data.toList.take (s.size - 4)).toArray⟩, .nilIface] else .tuple #[.string ⟨#[]⟩, err 15]) := Lib.hid (by unfold openVal; rw [if_neg h4])
    · have hb : (!Crc.seal_ (s.data.toList.take (s.size - 4)) == s.data.toList) = false := by simp [hq]
      have hq' := Lib.hid hq
      clear hq
      go_enter Tryd.func45, Tryd.ntmps45
      go_wp2_with (go_at_call 34; refine (crc_seal _ _ (by simp; unfold maxLen; omega)).mono ?_; rintro e w1 ⟨rfl, hb1⟩)
      go_ret2
      rw [hv.out, if_pos hq'.out]
      exact ⟨by rw [show (s.extract 0 (s.size - 4)) = ⟨(s.data.toList.take (s.size - 4)).toArray⟩ from ba_ext (by simp)]; rfl, hb1⟩
    · have hb : (!Crc.seal_ (s.data.toList.take (s.size - 4)) == s.data.toList) = true := by simp [hq]
      have hq' := Lib.hid hq
      clear hq
      go_enter Tryd.func45, Tryd.ntmps45
      go_wp2_with (go_at_call 34; refine (crc_seal _ _ (by simp; unfold maxLen; omega)).mono ?_; rintro e w1 ⟨rfl, hb1⟩)
      go_ret2
      rw [hv.out, if_neg hq'.out]
      exact ⟨rfl, hb1⟩
end Go.Proofs.YtdeepahaggkipaaDoor
