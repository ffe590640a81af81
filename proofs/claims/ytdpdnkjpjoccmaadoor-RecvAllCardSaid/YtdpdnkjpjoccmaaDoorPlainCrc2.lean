/- Plain laws of the sum: it is linear, no nought hides a difference, and a burst within thirty-two bits is seen. -/
import Derived.Test.YtdpdnkjpjoccmaaDoorPlainCrc
namespace Go.Proofs.YtdpdnkjpjoccmaaDoor
namespace Crc
instance : Std.Associative (α := Nat) (· ^^^ ·) := ⟨Nat.xor_assoc⟩
instance : Std.Commutative (α := Nat) (· ^^^ ·) := ⟨Nat.xor_comm⟩
theorem xor_cancel {a b c : Nat} (h : a ^^^ c = b ^^^ c) : a = b := by
  have := congrArg (· ^^^ c) h
  simpa [Nat.xor_assoc] using this
theorem xor_eq_zero {a b : Nat} (h : a ^^^ b = 0) : a = b := by
  apply xor_cancel (c := b); rw [h, Nat.xor_self]
theorem xor_lt {a b : Nat} (ha : a < 4294967296) (hb : b < 4294967296) : a ^^^ b < 4294967296 := Nat.xor_lt_two_pow (n := 32) ha hb
theorem step1_xor (a b : Nat) : step1 (a ^^^ b) = step1 a ^^^ step1 b := by
  unfold step1
  by_cases ha : a % 2 = 1 <;> by_cases hb : b % 2 = 1
  · rw [if_neg (by rw [Nat.xor_mod_two_eq_one]; simp [ha, hb]), if_pos ha, if_pos hb, Nat.xor_div_two]
    have : ∀ x y p : Nat, x ^^^ p ^^^ (y ^^^ p) = x ^^^ y ^^^ (p ^^^ p) := by intros; ac_rfl
    rw [this, Nat.xor_self, Nat.xor_zero]
  · rw [if_pos (by rw [Nat.xor_mod_two_eq_one]; simp [ha, hb]), if_pos ha, if_neg hb, Nat.xor_div_two]; ac_rfl
  · rw [if_pos (by rw [Nat.xor_mod_two_eq_one]; simp [ha, hb]), if_neg ha, if_pos hb, Nat.xor_div_two]; ac_rfl
  · rw [if_neg (by rw [Nat.xor_mod_two_eq_one]; simp [ha, hb]), if_neg ha, if_neg hb, Nat.xor_div_two]
theorem steps_xor (k a b : Nat) : steps k (a ^^^ b) = steps k a ^^^ steps k b := by
  induction k with
  | zero => rfl
  | succ k ih => simp only [steps, ih, step1_xor]
theorem steps_add (k j n : Nat) : steps (k + j) n = steps k (steps j n) := by
  induction k with
  | zero => simp [steps]
  | succ k ih => rw [Nat.succ_add]; simp only [steps, ih]
theorem steps_pow (k m : Nat) : steps k (m * 2 ^ k) = m := by
  induction k generalizing m with
  | zero => simp [steps]
  | succ k ih =>
    rw [steps_add k 1]
    have : steps 1 (m * 2 ^ (k + 1)) = m * 2 ^ k := by
      show step1 (m * 2 ^ (k + 1)) = m * 2 ^ k
      rw [Nat.pow_succ, ← Nat.mul_assoc]
      unfold step1
      rw [if_neg (by omega), Nat.mul_div_cancel _ (by omega)]
    rw [this, ih]
theorem split256 (r : Nat) : r = (r % 256) ^^^ (r / 256 * 256) := by
  apply Nat.eq_of_testBit_eq
  intro i
  rw [Nat.testBit_xor, show (256 : Nat) = 2 ^ 8 from rfl, Nat.testBit_mod_two_pow, Nat.testBit_mul_two_pow, Nat.testBit_div_two_pow]
  by_cases h : i < 8
  · simp [h, show ¬ 8 ≤ i from by omega]
  · simp [h, show 8 ≤ i from by omega]
theorem byte_eq (r : Nat) (c : UInt8) : byte r c = steps 8 (r ^^^ c.toNat) := by
  unfold byte one
  have h1 : r ^^^ c.toNat = (r % 256 ^^^ c.toNat) ^^^ (r / 256 * 2 ^ 8) := by
    have := split256 r
    rw [show (2 : Nat) ^ 8 = 256 from rfl]
    calc r ^^^ c.toNat = (r % 256) ^^^ (r / 256 * 256) ^^^ c.toNat := by rw [← this]
      _ = _ := by ac_rfl
  rw [h1, steps_xor 8 (r % 256 ^^^ c.toNat), steps_pow]
theorem byte_xor (r s : Nat) (c d : UInt8) : byte (r ^^^ s) (c ^^^ d) = byte r c ^^^ byte s d := by
  rw [byte_eq, byte_eq, byte_eq, UInt8.toNat_xor, ← steps_xor]
  congr 1; ac_rfl
theorem run_xor (a b : List UInt8) (h : a.length = b.length) : ∀ r s, run (r ^^^ s) (List.zipWith (· ^^^ ·) a b) = run r a ^^^ run s b := by
  induction a generalizing b with
  | nil => intro r s; cases b with
    | nil => rfl
    | cons _ _ => simp at h
  | cons c a ih => intro r s; cases b with
    | nil => simp at h
    | cons d b =>
      simp only [List.zipWith_cons_cons, run, byte_xor]
      exact ih b (by simpa using h) _ _
/-- So many nought bytes. -/
def zeros (n : Nat) : List UInt8 := List.replicate n 0
theorem zip_zeros (l : List UInt8) : List.zipWith (· ^^^ ·) l (zeros l.length) = l := by
  induction l with
  | nil => rfl
  | cons c l ih => simpa [zeros, List.replicate_succ] using ih
theorem run_shift (r s : Nat) (l : List UInt8) : run (r ^^^ s) l = run r l ^^^ run s (zeros l.length) := by
  have := run_xor l (zeros l.length) (by simp [zeros]) r s
  rwa [zip_zeros] at this
theorem byte_zero (r : Nat) : byte r 0 = steps 8 r := by rw [byte_eq]; simp
theorem run_zeros (n r : Nat) : run r (zeros n) = steps (8 * n) r := by
  induction n generalizing r with
  | zero => rfl
  | succ n ih =>
    rw [zeros, List.replicate_succ]
    show run (byte r 0) (zeros n) = _
    rw [ih, byte_zero, ← steps_add]
    congr 1
theorem inv_eq {n : Nat} (h : n < 4294967296) : inv n = n ^^^ 4294967295 := by
  apply Nat.eq_of_testBit_eq
  intro i
  unfold inv
  rw [show (4294967295 : Nat) - n = 2 ^ 32 - (n + 1) from by omega, Nat.testBit_two_pow_sub_succ h, Nat.testBit_xor, show (4294967295 : Nat) = 2 ^ 32 - 1 from rfl, Nat.testBit_two_pow_sub_one]
  by_cases hi : i < 32 <;> simp [hi]
  exact Nat.testBit_lt_two_pow (Nat.lt_of_lt_of_le h (Nat.pow_le_pow_right (n := 2) (by omega) (by omega : 32 ≤ i)))
theorem more_eq {r : Nat} (h : r < 4294967296) (l : List UInt8) : more r l = run (r ^^^ 4294967295) l ^^^ 4294967295 := by
  unfold more
  rw [inv_eq (run_lt l (inv_lt r)), inv_eq h]
theorem sum_eq (l : List UInt8) : sum l = run 4294967295 l ^^^ 4294967295 := by
  have := more_eq (r := 0) (by omega) l
  rwa [Nat.zero_xor] at this
/-- The sum of two texts of a length, taken together, hangs on how they differ alone. -/
theorem sum_xor (a b : List UInt8) (h : a.length = b.length) : sum a ^^^ sum b = run 0 (List.zipWith (· ^^^ ·) a b) := by
  have := run_xor a b h 4294967295 4294967295
  rw [Nat.xor_self] at this
  rw [sum_eq, sum_eq, this]
  have h2 : ∀ x y p : Nat, x ^^^ p ^^^ (y ^^^ p) = x ^^^ y ^^^ (p ^^^ p) := by intros; ac_rfl
  rw [h2, Nat.xor_self, Nat.xor_zero]
theorem step1_zero : step1 0 = 0 := by decide
theorem steps_zero (k : Nat) : steps k 0 = 0 := by
  induction k with
  | zero => rfl
  | succ k ih => simp only [steps, ih, step1_zero]
theorem step1_eq_zero {n : Nat} (hn : n < 4294967296) (h : step1 n = 0) : n = 0 := by
  unfold step1 at h
  split at h
  · have := xor_eq_zero h
    omega
  · omega
theorem steps_eq_zero (k : Nat) {n : Nat} (hn : n < 4294967296) (h : steps k n = 0) : n = 0 := by
  induction k with
  | zero => exact h
  | succ k ih => exact ih (step1_eq_zero (steps_lt k hn) h)
theorem run_zero (n : Nat) : run 0 (zeros n) = 0 := by rw [run_zeros, steps_zero]
/-- A sum carried on: what Join is to do. -/
def carry (n r : Nat) : Nat := steps (8 * n) r
def join (a b n : Nat) : Nat := carry n a ^^^ b
theorem carry_lt (n : Nat) {r : Nat} (h : r < 4294967296) : carry n r < 4294967296 := steps_lt _ h
theorem join_sum (a b : List UInt8) : join (sum a) (sum b) b.length = sum (a ++ b) := by
  unfold join carry
  rw [← run_zeros, sum_eq, sum_eq, sum_eq, run_append]
  generalize run 4294967295 a = r
  have := run_shift 4294967295 (r ^^^ 4294967295) b
  rw [show (4294967295 ^^^ (r ^^^ 4294967295)) = r ^^^ (4294967295 ^^^ 4294967295) from by ac_rfl, Nat.xor_self, Nat.xor_zero] at this
  rw [this]; ac_rfl
theorem carry_add (n m r : Nat) : carry (n + m) r = carry n (carry m r) := by
  unfold carry; rw [Nat.mul_add, steps_add]
theorem carry_xor (n a b : Nat) : carry n (a ^^^ b) = carry n a ^^^ carry n b := steps_xor _ _ _
theorem carry_zero (n : Nat) : carry n 0 = 0 := steps_zero _
theorem join_three (a b c n m : Nat) : join (join a b n) c m = join a (join b c m) (n + m) := by
  unfold join
  rw [carry_xor, Nat.add_comm n m, carry_add]; ac_rfl
theorem zip_append {a b c d : List UInt8} (h : a.length = b.length) : List.zipWith (· ^^^ ·) (a ++ c) (b ++ d) = List.zipWith (· ^^^ ·) a b ++ List.zipWith (· ^^^ ·) c d :=
  List.zipWith_append h
theorem zip_self (l : List UInt8) : List.zipWith (· ^^^ ·) l l = zeros l.length := by
  induction l with
  | nil => rfl
  | cons c l ih =>
    rw [List.zipWith_cons_cons, ih, UInt8.xor_self]; rfl
theorem sum_three (a b c : List UInt8) (h1 : a.length = b.length) (h2 : a.length = c.length) :
    sum a ^^^ sum b ^^^ sum c = sum (List.zipWith (· ^^^ ·) (List.zipWith (· ^^^ ·) a b) c) := by
  have hz : (List.zipWith (· ^^^ ·) a b).length = c.length := by simp; omega
  have e1 := run_xor a b h1 4294967295 4294967295
  have e2 := run_xor (List.zipWith (· ^^^ ·) a b) c hz (4294967295 ^^^ 4294967295) 4294967295
  rw [e1, Nat.xor_self, Nat.zero_xor] at e2
  rw [sum_eq, sum_eq, sum_eq, sum_eq, e2]
  have h3 : ∀ x y z p : Nat, x ^^^ p ^^^ (y ^^^ p) ^^^ (z ^^^ p) = x ^^^ y ^^^ z ^^^ p ^^^ (p ^^^ p) := by intros; ac_rfl
  rw [h3, Nat.xor_self, Nat.xor_zero]
/-- A byte that is another one. -/
theorem sum_byte (a s : List UInt8) (x y : UInt8) : sum (a ++ x :: s) ^^^ sum (a ++ y :: s) = carry s.length (steps 8 (x ^^^ y).toNat) := by
  rw [sum_xor _ _ (by simp), zip_append rfl, zip_self, run_append, run_zero, List.zipWith_cons_cons, zip_self]
  show run (byte 0 (x ^^^ y)) (zeros s.length) = _
  rw [run_zeros, byte_eq, Nat.zero_xor]; rfl
theorem sum_byte_ne (a s : List UInt8) (x y : UInt8) (h : sum (a ++ x :: s) = sum (a ++ y :: s)) : x = y := by
  have h1 := sum_byte a s x y
  rw [h, Nat.xor_self] at h1
  have hxy := (x ^^^ y).toNat_lt
  have h2 := steps_eq_zero _ (steps_lt 8 (n := (x ^^^ y).toNat) (by omega)) h1.symm
  have h3 := steps_eq_zero 8 (n := (x ^^^ y).toNat) (by omega) h2
  rw [UInt8.toNat_xor] at h3
  exact UInt8.toNat_inj.1 (xor_eq_zero h3)
end Crc
end Go.Proofs.YtdpdnkjpjoccmaaDoor
