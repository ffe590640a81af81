/- Plain laws of what Join does: a sum carried over noughts, by squaring. -/
import Derived.Test.YtmjgminajkhfdaaPlainBurst
namespace Go.Proofs.Ytmjgminajkhfdaa
namespace Crc
/-- What a matrix does to a number: the first k bits of it. -/
def timesTo (m : List Nat) (n : Nat) : Nat → Nat
  | 0 => 0
  | k + 1 => if n / 2 ^ k % 2 = 1 then timesTo m n k ^^^ m.getD k 0 else timesTo m n k
def times (m : List Nat) (n : Nat) : Nat := timesTo m n 32
def mat : List Nat := (List.range 32).map fun i => byte (2 ^ i) 0
def square (m : List Nat) : List Nat := m.map (times m)
/-- A matrix that does to each number below 2^32 what carrying it over c noughts does. -/
structure IsMat (m : List Nat) (c : Nat) : Prop where
  len : m.length = 32
  get : ∀ i, i < 32 → m.getD i 0 = carry c (2 ^ i)
set_option linter.unusedVariables false
theorem pow_lt32 {i : Nat} (h : i < 32) : 2 ^ i < 4294967296 := Nat.pow_lt_pow_right (a := 2) (n := 32) (by omega) h
theorem timesTo_eq {m : List Nat} {c : Nat} (h : IsMat m c) (n k : Nat) (hk : k ≤ 32) : timesTo m n k = carry c (n % 2 ^ k) := by
  induction k with
  | zero => rw [Nat.pow_zero, Nat.mod_one, carry_zero]; rfl
  | succ k ih =>
    simp only [timesTo]
    rw [mod_succ, carry_xor, ih (by omega)]
    by_cases hb : n / 2 ^ k % 2 = 1
    · rw [if_pos hb, if_pos hb, h.get k (by omega)]
    · rw [if_neg hb, if_neg hb, carry_zero, Nat.xor_zero]
theorem times_eq {m : List Nat} {c n : Nat} (h : IsMat m c) (hn : n < 4294967296) : times m n = carry c n := by
  unfold times
  rw [timesTo_eq h n 32 (Nat.le_refl _), Nat.mod_eq_of_lt (by exact hn)]
theorem timesTo_lt {m : List Nat} {c : Nat} (h : IsMat m c) (n k : Nat) (hk : k ≤ 32) : timesTo m n k < 4294967296 := by
  rw [timesTo_eq h n k hk]
  refine carry_lt c ?_
  exact Nat.lt_of_lt_of_le (Nat.mod_lt _ (Nat.two_pow_pos k)) (Nat.pow_le_pow_right (n := 2) (by omega) hk)
theorem mat_is : IsMat mat 1 := by
  refine ⟨by simp [mat], fun i hi => ?_⟩
  unfold mat carry
  rw [List.getD_eq_getElem?_getD, List.getElem?_map, List.getElem?_range hi]
  show byte (2 ^ i) 0 = _
  rw [byte_zero]
theorem square_is {m : List Nat} {c : Nat} (h : IsMat m c) : IsMat (square m) (c + c) := by
  refine ⟨by simp [square, h.len], fun i hi => ?_⟩
  have hm : m[i]? = some (carry c (2 ^ i)) := by
    have := h.get i hi
    rw [List.getD_eq_getElem?_getD] at this
    have hlt : i < m.length := by rw [h.len]; exact hi
    rw [List.getElem?_eq_getElem hlt] at this ⊢
    simpa using this
  unfold square
  rw [List.getD_eq_getElem?_getD, List.getElem?_map, hm]
  show times m (carry c (2 ^ i)) = _
  rw [times_eq h (carry_lt c (pow_lt32 hi)), carry_add]
theorem mat_lt {m : List Nat} {c : Nat} (h : IsMat m c) (i : Nat) (hi : i < 32) : m.getD i 0 < 4294967296 := by
  rw [h.get i hi]; exact carry_lt c (pow_lt32 hi)
theorem carry_zero_n (r : Nat) : carry 0 r = r := rfl
/-- One round: the lowest bit of how many noughts are left. -/
theorem carry_round (n c a : Nat) : carry (n * c) a = carry (n / 2 * (c + c)) (if n % 2 = 1 then carry c a else a) := by
  have e : n * c = n / 2 * (c + c) + n % 2 * c := by
    have h1 : n / 2 * (c + c) = n / 2 * 2 * c := by rw [Nat.mul_assoc]; congr 1; omega
    rw [h1, ← Nat.add_mul]; congr 1; omega
  rw [e, carry_add]
  by_cases h : n % 2 = 1
  · rw [if_pos h, h, Nat.one_mul]
  · rw [if_neg h, show n % 2 = 0 by omega, Nat.zero_mul]; rfl
theorem join_none (s : Nat) : join s (sum []) 0 = s := by
  have h1 : sum [] = 0 := by decide +kernel
  rw [h1]; unfold join; rw [Nat.xor_zero]; rfl
theorem join_nothing (s n : Nat) : join (sum []) s n = s := by
  have h1 : sum [] = 0 := by decide +kernel
  rw [h1]; unfold join; rw [carry_zero, Nat.zero_xor]
theorem more_none {s : Nat} (h : s < 4294967296) : more s [] = s := inv_inv h
theorem join_lt {a b n : Nat} (ha : a < 4294967296) (hb : b < 4294967296) : join a b n < 4294967296 := xor_lt (carry_lt n ha) hb
end Crc
end Go.Proofs.Ytmjgminajkhfdaa
