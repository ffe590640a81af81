/- Bytes with a bit turned. -/
import Derived.Test.YtdeepahaggkipaaDoorLib4
import Derived.Test.YtdeepahaggkipaaDoorRows
import Derived.Test.YtdeepahaggkipaaDoorPlainCut
namespace Go.Proofs.YtdeepahaggkipaaDoor
open Go.RowKit
set_option linter.unusedVariables false
theorem u32_bit (b k : Nat) (hb : b < 4294967296) : bits .and .u32 ((b : Int) / 2 ^ k) 1 = ((b / 2 ^ k % 2 : Nat) : Int) := by
  have h : b / 2 ^ k < 4294967296 := Nat.lt_of_le_of_lt (Nat.div_le_self _ _) hb
  have h1 := u32_and_nat (b / 2 ^ k) 1 h (by omega)
  rw [Nat.and_one_is_mod] at h1
  rw [← h1]
  rw [Int.natCast_ediv, Int.natCast_pow]; rfl
theorem u8_turn (x : UInt8) (j : Nat) : bits .xor .u8 (x.toNat : Int) ((2 : Int) ^ (j % 8) % 256) = ((x ^^^ UInt8.ofNat (2 ^ (j % 8))).toNat : Int) := by
  have h := Crc.pow_lt8 j
  have e : (2 : Int) ^ (j % 8) % 256 = ((2 ^ (j % 8) : Nat) : Int) := by
    have e1 : ((2 ^ (j % 8) : Nat) : Int) = (2 : Int) ^ (j % 8) := by rw [Int.natCast_pow]; rfl
    rw [← e1]
    exact Int.emod_eq_of_lt (Int.natCast_nonneg _) (Int.ofNat_lt.2 h)
  rw [e, u8_xor_nat _ _ x.toNat_lt h, UInt8.toNat_xor, UInt8.toNat_ofNat', Nat.mod_eq_of_lt h]
theorem vals_flip (l : List UInt8) (k : Nat) (h : k / 8 < l.length) : (byteVals l).set (k / 8) (.int .u8 (l[k / 8] ^^^ UInt8.ofNat (2 ^ (k % 8))).toNat) = byteVals (Crc.flip l k) := by
  unfold byteVals Crc.flip
  apply List.ext_getElem (by simp)
  intro i h1 h2
  rw [List.getElem_set, List.getElem_map, List.getElem_map, List.getElem_modify]
  split
  · rename_i e; subst e; rfl
  · rfl
end Go.Proofs.YtdeepahaggkipaaDoor
