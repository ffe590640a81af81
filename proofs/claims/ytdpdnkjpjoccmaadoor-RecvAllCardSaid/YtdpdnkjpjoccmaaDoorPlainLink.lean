/- Plain laws of a text with some bits turned: there and back; how many bits are others. -/
import Derived.Test.YtdpdnkjpjoccmaaDoorPlainBurst
namespace Go.Proofs.YtdpdnkjpjoccmaaDoor
namespace Link
open Crc
def turn (l : List UInt8) (m : Nat) : List UInt8 := if l.length < 4 then l else turns l (m / 4294967296 % (8 * l.length - 31)) m 32
theorem turn_len (l : List UInt8) (m : Nat) : (turn l m).length = l.length := by
  unfold turn; split
  · rfl
  · exact turns_len ..
theorem num_turn (l : List UInt8) (m : Nat) (h : ¬ l.length < 4) :
    num (turn l m) = num l ^^^ ((m % 4294967296) * 2 ^ (m / 4294967296 % (8 * l.length - 31))) := by
  have hm := Nat.mod_lt (m / 4294967296) (show 0 < 8 * l.length - 31 by omega)
  unfold turn
  rw [if_neg h, num_turns _ _ _ _ (by omega), show min 32 (8 * l.length - m / 4294967296 % (8 * l.length - 31)) = 32 by omega]
theorem turn_turn (l : List UInt8) (m : Nat) : turn (turn l m) m = l := by
  by_cases h : l.length < 4
  · have : turn l m = l := by unfold turn; rw [if_pos h]
    rw [this, this]
  · apply num_inj
    · rw [turn_len, turn_len]
    · rw [num_turn _ _ (by rw [turn_len]; exact h), num_turn _ _ h, turn_len, Nat.xor_assoc, Nat.xor_self, Nat.xor_zero]
/-- How many of the lowest k bits are set. -/
def pop (n : Nat) : Nat → Nat
  | 0 => 0
  | k + 1 => pop n k + n / 2 ^ k % 2
theorem pop_add (n a b : Nat) : pop n (a + b) = pop n a + pop (n / 2 ^ a) b := by
  induction b with
  | zero => rfl
  | succ b ih => rw [Nat.add_succ]; simp only [pop]; rw [ih, Nat.div_div_eq_div_mul, ← Nat.pow_add]; omega
theorem pop_nil (k : Nat) : pop 0 k = 0 := by
  induction k with
  | zero => rfl
  | succ k ih => simp [pop, ih]
theorem pop_mod (n k j : Nat) (h : j ≤ k) : pop (n % 2 ^ k) j = pop n j := by
  induction j with
  | zero => rfl
  | succ j ih =>
    simp only [pop]
    rw [ih (by omega)]
    congr 1
    have e : n % 2 ^ k / 2 ^ j % 2 = n / 2 ^ j % 2 := by
      have h1 : (n % 2 ^ k).testBit j = n.testBit j := by rw [Nat.testBit_mod_two_pow]; simp; omega
      rw [Nat.testBit_eq_decide_div_mod_eq, Nat.testBit_eq_decide_div_mod_eq] at h1
      have h2 := decide_eq_decide.1 h1
      omega
    exact e
theorem pop_shift (n f k : Nat) : pop (n * 2 ^ f) (f + k) = pop n k := by
  rw [pop_add, Nat.mul_div_cancel _ (Nat.two_pow_pos f)]
  have h := pop_mod (n * 2 ^ f) f f (Nat.le_refl _)
  rw [Nat.mul_mod_left, pop_nil] at h
  omega
theorem pop_small (n k j : Nat) (h : n < 2 ^ k) : pop n (k + j) = pop n k := by
  rw [pop_add, Nat.div_eq_of_lt h, pop_nil]; rfl
def dif : List UInt8 → Nat
  | [] => 0
  | c :: l => pop c.toNat 8 + dif l
theorem dif_num (l : List UInt8) : dif l = pop (num l) (8 * l.length) := by
  induction l with
  | nil => rfl
  | cons c l ih =>
    have hc := c.toNat_lt
    rw [List.length_cons, Nat.mul_add, Nat.mul_one, Nat.add_comm, pop_add]
    have h1 : num (c :: l) / 2 ^ 8 = num l := by simp only [num]; omega
    have h2 := pop_mod (num (c :: l)) 8 8 (Nat.le_refl _)
    have h3 : num (c :: l) % 2 ^ 8 = c.toNat := by simp only [num]; omega
    rw [h3] at h2
    rw [h1, ← h2]
    simp only [dif, ih]
theorem dif_append (a b : List UInt8) : dif (a ++ b) = dif a + dif b := by
  induction a with
  | nil => simp [dif]
  | cons c a ih => rw [List.cons_append]; simp only [dif, ih]; omega
/-- What is other, bit by bit, between the two texts, up to a byte. -/
def upto (s t : List UInt8) (i : Nat) : Nat := dif ((List.zipWith (· ^^^ ·) s t).take i)
theorem upto_succ (s t : List UInt8) (i : Nat) (h : i < s.length) (h2 : i < t.length) : upto s t (i + 1) = upto s t i + pop (s[i] ^^^ t[i]).toNat 8 := by
  unfold upto
  rw [List.take_succ_eq_append_getElem (by simp; omega), dif_append, List.getElem_zipWith]
  simp [dif]
theorem pop_le (n k : Nat) : pop n k ≤ k := by
  induction k with
  | zero => exact Nat.le_refl _
  | succ k ih => simp only [pop]; omega
theorem upto_le (s t : List UInt8) (i : Nat) : upto s t i ≤ 8 * i := by
  have : ∀ l : List UInt8, dif l ≤ 8 * l.length := by
    intro l; rw [dif_num]; exact pop_le _ _
  have h := this ((List.zipWith (· ^^^ ·) s t).take i)
  unfold upto
  have h2 := List.length_take_le i (List.zipWith (· ^^^ ·) s t)
  omega
theorem upto_same (l : List UInt8) (i : Nat) : upto l l i = 0 := by
  unfold upto
  have : ∀ m : List UInt8, (∀ x ∈ m, x = 0) → dif m = 0 := by
    intro m
    induction m with
    | nil => intro; rfl
    | cons c m ih => intro h; simp only [dif]; rw [ih (fun x hx => h x (List.mem_cons_of_mem _ hx)), h c (List.mem_cons_self ..), show (0 : UInt8).toNat = 0 from rfl, pop_nil]
  apply this
  intro x hx
  have := List.mem_of_mem_take hx
  obtain ⟨j, hj, e⟩ := List.mem_iff_getElem.1 this
  rw [← e, List.getElem_zipWith]; simp
theorem upto_short (l : List UInt8) (m i : Nat) (h : l.length < 4) : upto l (turn l m) i = 0 := by
  have : turn l m = l := by unfold turn; rw [if_pos h]
  rw [this, upto_same]
theorem upto_all (l : List UInt8) (m : Nat) (h : ¬ l.length < 4) : upto l (turn l m) l.length = pop m 32 := by
  have hm := Nat.mod_lt (m / 4294967296) (show 0 < 8 * l.length - 31 by omega)
  unfold upto
  have hl : (List.zipWith (· ^^^ ·) l (turn l m)).length = l.length := by simp [turn_len]
  rw [List.take_of_length_le (by omega), dif_num, hl, num_xor _ _ (turn_len l m).symm, num_turn _ _ h, ← Nat.xor_assoc, Nat.xor_self, Nat.zero_xor]
  generalize m / 4294967296 % (8 * l.length - 31) = f at *
  rw [show 8 * l.length = f + (32 + (8 * l.length - f - 32)) by omega, pop_shift, pop_small _ 32 _ (Nat.mod_lt _ (by omega))]
  exact pop_mod m 32 32 (Nat.le_refl _)
end Link
end Go.Proofs.YtdpdnkjpjoccmaaDoor
