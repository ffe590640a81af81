/- Plain laws of the sum: no program in sight. -/
import Derived.Test.YtdeepahaggkipaaDoorPlainSpan
namespace Go.Proofs.YtdeepahaggkipaaDoor
namespace Crc
/-- One bit of the register. -/
def step1 (n : Nat) : Nat := if n % 2 = 1 then (n / 2) ^^^ 2197175160 else n / 2
def steps : Nat → Nat → Nat
  | 0, n => n
  | k + 1, n => step1 (steps k n)
def one (n : Nat) : Nat := steps 8 n
theorem step1_lt {n : Nat} (h : n < 4294967296) : step1 n < 4294967296 := by
  unfold step1
  split
  · exact Nat.xor_lt_two_pow (n := 32) (by omega) (by omega)
  · omega
theorem steps_lt (k : Nat) {n : Nat} (h : n < 4294967296) : steps k n < 4294967296 := by
  induction k with
  | zero => exact h
  | succ k ih => exact step1_lt ih
theorem one_lt {n : Nat} (h : n < 4294967296) : one n < 4294967296 := steps_lt 8 h
/-- All bits turned. -/
def inv (n : Nat) : Nat := 4294967295 - n
/-- One byte. -/
def byte (r : Nat) (c : UInt8) : Nat := one ((r % 256) ^^^ c.toNat) ^^^ (r / 256)
def run (r : Nat) : List UInt8 → Nat
  | [] => r
  | c :: l => run (byte r c) l
def more (n : Nat) (l : List UInt8) : Nat := inv (run (inv n) l)
theorem inv_lt (n : Nat) : inv n < 4294967296 := by unfold inv; omega
theorem byte_lt {r : Nat} (h : r < 4294967296) (c : UInt8) : byte r c < 4294967296 := by
  have hc := c.toNat_lt
  have h1 : (r % 256) ^^^ c.toNat < 4294967296 := Nat.xor_lt_two_pow (n := 32) (by omega) (by omega)
  exact Nat.xor_lt_two_pow (n := 32) (one_lt h1) (by omega)
theorem run_lt (l : List UInt8) : ∀ {r : Nat}, r < 4294967296 → run r l < 4294967296 := by
  induction l with
  | nil => intro r h; exact h
  | cons c l ih => intro r h; exact ih (byte_lt h c)
theorem run_append (a b : List UInt8) : ∀ r, run r (a ++ b) = run (run r a) b := by
  induction a with
  | nil => intro r; rfl
  | cons c a ih => intro r; exact ih _
theorem more_lt (n : Nat) (l : List UInt8) : more n l < 4294967296 := inv_lt _
def sum (l : List UInt8) : Nat := more 0 l
/-- The four bytes of a sum, the lowest one first. -/
def four (n : Nat) : List UInt8 := [UInt8.ofNat n, UInt8.ofNat (n / 256), UInt8.ofNat (n / 65536), UInt8.ofNat (n / 16777216)]
def seal_ (l : List UInt8) : List UInt8 := l ++ four (sum l)
theorem summed1 : sum [49, 50, 51, 52, 53, 54, 55, 56, 57] = 3808858755 := by decide +kernel
theorem summed2 : sum [] = 0 := by decide +kernel
theorem summed3 : more (sum [49, 50, 51, 52]) [53, 54, 55, 56, 57] = 3808858755 := by decide +kernel
theorem inv_inv {n : Nat} (h : n < 4294967296) : inv (inv n) = n := by unfold inv; omega
theorem more_sum (a b : List UInt8) : more (sum a) b = sum (a ++ b) := by
  unfold sum more
  rw [inv_inv (run_lt a (inv_lt 0)), run_append]
theorem sum_lt (l : List UInt8) : sum l < 4294967296 := more_lt 0 l
end Crc
end Go.Proofs.YtdeepahaggkipaaDoor
/- Plain laws of the sum: it is linear, no nought hides a difference, and a burst within thirty-two bits is seen. -/
namespace Go.Proofs.YtdeepahaggkipaaDoor
namespace Crc
instance : Std.Associative (α := Nat) (· ^^^ ·) := ⟨Nat.xor_assoc⟩
instance : Std.Commutative (α := Nat) (· ^^^ ·) := ⟨Nat.xor_comm⟩
theorem xor_cancel {a b c : Nat} (h : a ^^^ c = b ^^^ c) : a = b := by
  have := congrArg (· ^^^ c) h
  simpa [Nat.xor_assoc] using this
theorem xor_eq_zero {a b : Nat} (h : a ^^^ b = 0) : a = b := by
  apply xor_cancel (c := b); rw [h, Nat.xor_self]
theorem xor_lt {a b : Nat} (ha : a < 4294967296) (hb : b < 4294967296) : a ^^^ b < 4294967296 := Nat.xor_lt_two_pow (n := 32) ha hb
theorem step1_xor (a b : Nat) : step1 (a ^^^ b) = step1 a ^^^ step1 b := by
  unfold step1
  by_cases ha : a % 2 = 1 <;> by_cases hb : b % 2 = 1
  · rw [if_neg (by rw [Nat.xor_mod_two_eq_one]; simp [ha, hb]), if_pos ha, if_pos hb, Nat.xor_div_two]
    have : ∀ x y p : Nat, x ^^^ p ^^^ (y ^^^ p) = x ^^^ y ^^^ (p ^^^ p) := by intros; ac_rfl
    rw [this, Nat.xor_self, Nat.xor_zero]
  · rw [if_pos (by rw [Nat.xor_mod_two_eq_one]; simp [ha, hb]), if_pos ha, if_neg hb, Nat.xor_div_two]; ac_rfl
  · rw [if_pos (by rw [Nat.xor_mod_two_eq_one]; simp [ha, hb]), if_neg ha, if_pos hb, Nat.xor_div_two]; ac_rfl
  · rw [if_neg (by rw [Nat.xor_mod_two_eq_one]; simp [ha, hb]), if_neg ha, if_neg hb, Nat.xor_div_two]
theorem steps_xor (k a b : Nat) : steps k (a ^^^ b) = steps k a ^^^ steps k b := by
  induction k with
  | zero => rfl
  | succ k ih => simp only [steps, ih, step1_xor]
theorem steps_add (k j n : Nat) : steps (k + j) n = steps k (steps j n) := by
  induction k with
  | zero => simp [steps]
  | succ k ih => rw [Nat.succ_add]; simp only [steps, ih]
theorem steps_pow (k m : Nat) : steps k (m * 2 ^ k) = m := by
  induction k generalizing m with
  | zero => simp [steps]
  | succ k ih =>
    rw [steps_add k 1]
    have : steps 1 (m * 2 ^ (k + 1)) = m * 2 ^ k := by
      show step1 (m * 2 ^ (k + 1)) = m * 2 ^ k
      rw [Nat.pow_succ, ← Nat.mul_assoc]
      unfold step1
      rw [if_neg (by omega), Nat.mul_div_cancel _ (by omega)]
    rw [this, ih]
theorem split256 (r : Nat) : r = (r % 256) ^^^ (r / 256 * 256) := by
  apply Nat.eq_of_testBit_eq
  intro i
  rw [Nat.testBit_xor, show (256 : Nat) = 2 ^ 8 from rfl, Nat.testBit_mod_two_pow, Nat.testBit_mul_two_pow, Nat.testBit_div_two_pow]
  by_cases h : i < 8
  · simp [h, show ¬ 8 ≤ i from by omega]
  · simp [h, show 8 ≤ i from by omega]
theorem byte_eq (r : Nat) (c : UInt8) : byte r c = steps 8 (r ^^^ c.toNat) := by
  unfold byte one
  have h1 : r ^^^ c.toNat = (r % 256 ^^^ c.toNat) ^^^ (r / 256 * 2 ^ 8) := by
    have := split256 r
    rw [show (2 : Nat) ^ 8 = 256 from rfl]
    calc r ^^^ c.toNat = (r % 256) ^^^ (r / 256 * 256) ^^^ c.toNat := by rw [← this]
      _ = _ := by ac_rfl
  rw [h1, steps_xor 8 (r % 256 ^^^ c.toNat), steps_pow]
theorem byte_xor (r s : Nat) (c d : UInt8) : byte (r ^^^ s) (c ^^^ d) = byte r c ^^^ byte s d := by
  rw [byte_eq, byte_eq, byte_eq, UInt8.toNat_xor, ← steps_xor]
  congr 1; ac_rfl
theorem run_xor (a b : List UInt8) (h : a.length = b.length) : ∀ r s, run (r ^^^ s) (List.zipWith (· ^^^ ·) a b) = run r a ^^^ run s b := by
  induction a generalizing b with
  | nil => intro r s; cases b with
    | nil => rfl
    | cons _ _ => simp at h
  | cons c a ih => intro r s; cases b with
    | nil => simp at h
    | cons d b =>
      simp only [List.zipWith_cons_cons, run, byte_xor]
      exact ih b (by simpa using h) _ _
/-- So many nought bytes. -/
def zeros (n : Nat) : List UInt8 := List.replicate n 0
theorem zip_zeros (l : List UInt8) : List.zipWith (· ^^^ ·) l (zeros l.length) = l := by
  induction l with
  | nil => rfl
  | cons c l ih => simpa [zeros, List.replicate_succ] using ih
theorem run_shift (r s : Nat) (l : List UInt8) : run (r ^^^ s) l = run r l ^^^ run s (zeros l.length) := by
  have := run_xor l (zeros l.length) (by simp [zeros]) r s
  rwa [zip_zeros] at this
theorem byte_zero (r : Nat) : byte r 0 = steps 8 r := by rw [byte_eq]; simp
theorem run_zeros (n r : Nat) : run r (zeros n) = steps (8 * n) r := by
  induction n generalizing r with
  | zero => rfl
  | succ n ih =>
    rw [zeros, List.replicate_succ]
    show run (byte r 0) (zeros n) = _
    rw [ih, byte_zero, ← steps_add]
    congr 1
theorem inv_eq {n : Nat} (h : n < 4294967296) : inv n = n ^^^ 4294967295 := by
  apply Nat.eq_of_testBit_eq
  intro i
  unfold inv
  rw [show (4294967295 : Nat) - n = 2 ^ 32 - (n + 1) from by omega, Nat.testBit_two_pow_sub_succ h, Nat.testBit_xor, show (4294967295 : Nat) = 2 ^ 32 - 1 from rfl, Nat.testBit_two_pow_sub_one]
  by_cases hi : i < 32 <;> simp [hi]
  exact Nat.testBit_lt_two_pow (Nat.lt_of_lt_of_le h (Nat.pow_le_pow_right (n := 2) (by omega) (by omega : 32 ≤ i)))
theorem more_eq {r : Nat} (h : r < 4294967296) (l : List UInt8) : more r l = run (r ^^^ 4294967295) l ^^^ 4294967295 := by
  unfold more
  rw [inv_eq (run_lt l (inv_lt r)), inv_eq h]
theorem sum_eq (l : List UInt8) : sum l = run 4294967295 l ^^^ 4294967295 := by
  have := more_eq (r := 0) (by omega) l
  rwa [Nat.zero_xor] at this
/-- The sum of two texts of a length, taken together, hangs on how they differ alone. -/
theorem sum_xor (a b : List UInt8) (h : a.length = b.length) : sum a ^^^ sum b = run 0 (List.zipWith (· ^^^ ·) a b) := by
  have := run_xor a b h 4294967295 4294967295
  rw [Nat.xor_self] at this
  rw [sum_eq, sum_eq, this]
  have h2 : ∀ x y p : Nat, x ^^^ p ^^^ (y ^^^ p) = x ^^^ y ^^^ (p ^^^ p) := by intros; ac_rfl
  rw [h2, Nat.xor_self, Nat.xor_zero]
theorem step1_zero : step1 0 = 0 := by decide
theorem steps_zero (k : Nat) : steps k 0 = 0 := by
  induction k with
  | zero => rfl
  | succ k ih => simp only [steps, ih, step1_zero]
theorem step1_eq_zero {n : Nat} (hn : n < 4294967296) (h : step1 n = 0) : n = 0 := by
  unfold step1 at h
  split at h
  · have := xor_eq_zero h
    omega
  · omega
theorem steps_eq_zero (k : Nat) {n : Nat} (hn : n < 4294967296) (h : steps k n = 0) : n = 0 := by
  induction k with
  | zero => exact h
  | succ k ih => exact ih (step1_eq_zero (steps_lt k hn) h)
theorem run_zero (n : Nat) : run 0 (zeros n) = 0 := by rw [run_zeros, steps_zero]
/-- A sum carried on: what Join is to do. -/
def carry (n r : Nat) : Nat := steps (8 * n) r
def join (a b n : Nat) : Nat := carry n a ^^^ b
theorem carry_lt (n : Nat) {r : Nat} (h : r < 4294967296) : carry n r < 4294967296 := steps_lt _ h
theorem join_sum (a b : List UInt8) : join (sum a) (sum b) b.length = sum (a ++ b) := by
  unfold join carry
  rw [← run_zeros, sum_eq, sum_eq, sum_eq, run_append]
  generalize run 4294967295 a = r
  have := run_shift 4294967295 (r ^^^ 4294967295) b
  rw [show (4294967295 ^^^ (r ^^^ 4294967295)) = r ^^^ (4294967295 ^^^ 4294967295) from by ac_rfl, Nat.xor_self, Nat.xor_zero] at this
  rw [this]; ac_rfl
theorem carry_add (n m r : Nat) : carry (n + m) r = carry n (carry m r) := by
  unfold carry; rw [Nat.mul_add, steps_add]
theorem carry_xor (n a b : Nat) : carry n (a ^^^ b) = carry n a ^^^ carry n b := steps_xor _ _ _
theorem carry_zero (n : Nat) : carry n 0 = 0 := steps_zero _
theorem join_three (a b c n m : Nat) : join (join a b n) c m = join a (join b c m) (n + m) := by
  unfold join
  rw [carry_xor, Nat.add_comm n m, carry_add]; ac_rfl
theorem zip_append {a b c d : List UInt8} (h : a.length = b.length) : List.zipWith (· ^^^ ·) (a ++ c) (b ++ d) = List.zipWith (· ^^^ ·) a b ++ List.zipWith (· ^^^ ·) c d :=
  List.zipWith_append h
theorem zip_self (l : List UInt8) : List.zipWith (· ^^^ ·) l l = zeros l.length := by
  induction l with
  | nil => rfl
  | cons c l ih =>
    rw [List.zipWith_cons_cons, ih, UInt8.xor_self]; rfl
theorem sum_three (a b c : List UInt8) (h1 : a.length = b.length) (h2 : a.length = c.length) :
    sum a ^^^ sum b ^^^ sum c = sum (List.zipWith (· ^^^ ·) (List.zipWith (· ^^^ ·) a b) c) := by
  have hz : (List.zipWith (· ^^^ ·) a b).length = c.length := by simp; omega
  have e1 := run_xor a b h1 4294967295 4294967295
  have e2 := run_xor (List.zipWith (· ^^^ ·) a b) c hz (4294967295 ^^^ 4294967295) 4294967295
  rw [e1, Nat.xor_self, Nat.zero_xor] at e2
  rw [sum_eq, sum_eq, sum_eq, sum_eq, e2]
  have h3 : ∀ x y z p : Nat, x ^^^ p ^^^ (y ^^^ p) ^^^ (z ^^^ p) = x ^^^ y ^^^ z ^^^ p ^^^ (p ^^^ p) := by intros; ac_rfl
  rw [h3, Nat.xor_self, Nat.xor_zero]
/-- A byte that is another one. -/
theorem sum_byte (a s : List UInt8) (x y : UInt8) : sum (a ++ x :: s) ^^^ sum (a ++ y :: s) = carry s.length (steps 8 (x ^^^ y).toNat) := by
  rw [sum_xor _ _ (by simp), zip_append rfl, zip_self, run_append, run_zero, List.zipWith_cons_cons, zip_self]
  show run (byte 0 (x ^^^ y)) (zeros s.length) = _
  rw [run_zeros, byte_eq, Nat.zero_xor]; rfl
theorem sum_byte_ne (a s : List UInt8) (x y : UInt8) (h : sum (a ++ x :: s) = sum (a ++ y :: s)) : x = y := by
  have h1 := sum_byte a s x y
  rw [h, Nat.xor_self] at h1
  have hxy := (x ^^^ y).toNat_lt
  have h2 := steps_eq_zero _ (steps_lt 8 (n := (x ^^^ y).toNat) (by omega)) h1.symm
  have h3 := steps_eq_zero 8 (n := (x ^^^ y).toNat) (by omega) h2
  rw [UInt8.toNat_xor] at h3
  exact UInt8.toNat_inj.1 (xor_eq_zero h3)
end Crc
end Go.Proofs.YtdeepahaggkipaaDoor
/- Plain laws of bits that are turned: a text as one number, and what a burst does to the sum. -/
namespace Go.Proofs.YtdeepahaggkipaaDoor
namespace Crc
/-- A text as one number, the first byte the lowest. -/
def num : List UInt8 → Nat
  | [] => 0
  | c :: l => c.toNat + 256 * num l
theorem num_lt (l : List UInt8) : num l < 2 ^ (8 * l.length) := by
  induction l with
  | nil => simp [num]
  | cons c l ih =>
    have hc := c.toNat_lt
    rw [List.length_cons, Nat.mul_add, Nat.pow_add, show (2 : Nat) ^ (8 * 1) = 256 from rfl]
    simp only [num]
    omega
theorem low_xor (a m : Nat) (h : a < 256) : a ^^^ (m * 256) = a + 256 * m := by
  apply Nat.eq_of_testBit_eq
  intro i
  have e : a + 256 * m = 2 ^ 8 * m + a := by omega
  rw [e, Nat.testBit_two_pow_mul_add m (by omega : a < 2 ^ 8), Nat.testBit_xor, show (256 : Nat) = 2 ^ 8 from rfl, Nat.testBit_mul_two_pow]
  by_cases hi : i < 8
  · simp [hi, show ¬ 8 ≤ i from by omega]
  · have : a.testBit i = false := Nat.testBit_lt_two_pow (Nat.lt_of_lt_of_le h (Nat.pow_le_pow_right (n := 2) (by omega) (by omega : 8 ≤ i)))
    simp [hi, show 8 ≤ i from by omega, this]
theorem num_cons (c : UInt8) (l : List UInt8) : num (c :: l) = c.toNat ^^^ (num l * 2 ^ 8) := by
  rw [show (2 : Nat) ^ 8 = 256 from rfl, low_xor _ _ c.toNat_lt]; rfl
theorem num_xor : ∀ (a b : List UInt8), a.length = b.length → num (List.zipWith (· ^^^ ·) a b) = num a ^^^ num b
  | [], [], _ => rfl
  | c :: a, d :: b, h => by
    rw [List.zipWith_cons_cons, num_cons, num_cons, num_cons, num_xor a b (by simpa using h), UInt8.toNat_xor]
    have : (num a ^^^ num b) * 2 ^ 8 = (num a * 2 ^ 8) ^^^ (num b * 2 ^ 8) := by
      apply Nat.eq_of_testBit_eq; intro i
      simp only [Nat.testBit_mul_two_pow, Nat.testBit_xor]
      by_cases h : 8 ≤ i <;> simp [h]
    rw [this]; ac_rfl
  | [], _ :: _, h => by simp at h
  | _ :: _, [], h => by simp at h
theorem num_inj : ∀ (a b : List UInt8), a.length = b.length → num a = num b → a = b
  | [], [], _, _ => rfl
  | c :: a, d :: b, h, e => by
    have hc := c.toNat_lt
    have hd := d.toNat_lt
    simp only [num] at e
    have h1 : c = d := UInt8.toNat_inj.1 (by omega)
    have h2 : a = b := num_inj a b (by simpa using h) (by omega)
    rw [h1, h2]
  | [], _ :: _, h, _ => by simp at h
  | _ :: _, [], h, _ => by simp at h
theorem num_append (a b : List UInt8) : num (a ++ b) = num a + 2 ^ (8 * a.length) * num b := by
  induction a with
  | nil => simp [num]
  | cons c a ih =>
    rw [List.cons_append, List.length_cons, Nat.mul_add, Nat.pow_add, show (2 : Nat) ^ (8 * 1) = 256 from rfl]
    simp only [num, ih]
    rw [Nat.mul_add, Nat.add_assoc, ← Nat.mul_assoc, Nat.mul_comm 256 (2 ^ (8 * a.length))]
/-- The register behind a text is that of one number, so many bits on. -/
theorem run_num (l : List UInt8) : ∀ r, run r l = steps (8 * l.length) (r ^^^ num l) := by
  induction l with
  | nil => intro r; simp [run, num, steps]
  | cons c l ih =>
    intro r
    show run (byte r c) l = _
    rw [ih, byte_eq, List.length_cons, Nat.mul_add, steps_add, num_cons]
    have : steps (8 * 1) (r ^^^ (c.toNat ^^^ num l * 2 ^ 8)) = steps 8 (r ^^^ c.toNat) ^^^ num l := by
      rw [show 8 * 1 = 8 from rfl, ← Nat.xor_assoc, steps_xor, steps_pow]
    rw [this]
/-- What is within thirty-two bits, wherever, is nothing, if the register behind it is nothing. -/
theorem steps_burst (n f V : Nat) (hV : V < 4294967296) (hf : f ≤ n) (h : steps n (V * 2 ^ f) = 0) : V = 0 := by
  have : n = (n - f) + f := by omega
  rw [this, steps_add, steps_pow] at h
  exact steps_eq_zero _ hV h
theorem num_four (x : Nat) (h : x < 4294967296) : num (four x) = x := by
  simp only [four, num, UInt8.toNat_ofNat']
  omega
theorem four_num (l : List UInt8) (h : l.length = 4) : four (num l) = l := by
  apply num_inj
  · simp [four, h]
  · have := num_lt l
    rw [h] at this
    exact num_four _ this
theorem xor_left {a b c : Nat} (h : c ^^^ a = c ^^^ b) : a = b := by
  apply xor_cancel (c := c); rw [Nat.xor_comm a c, Nat.xor_comm b c, h]
theorem steps_inj (k : Nat) {a b : Nat} (ha : a < 4294967296) (hb : b < 4294967296) (h : steps k a = steps k b) : a = b := by
  have : steps k (a ^^^ b) = 0 := by rw [steps_xor, h, Nat.xor_self]
  exact xor_eq_zero (steps_eq_zero k (xor_lt ha hb) this)
/-- A text is sealed just if the register behind it is what it is behind whatever is sealed. -/
theorem sealed_iff (u : List UInt8) (h : 4 ≤ u.length) : seal_ (u.take (u.length - 4)) = u ↔ run 4294967295 u = steps 32 4294967295 := by
  have hd : (u.drop (u.length - 4)).length = 4 := by simp; omega
  have hx : num (u.drop (u.length - 4)) < 4294967296 := by have := num_lt (u.drop (u.length - 4)); rwa [hd] at this
  have hr : run 4294967295 u = steps 32 (run 4294967295 (u.take (u.length - 4)) ^^^ num (u.drop (u.length - 4))) := by
    have e := run_append (u.take (u.length - 4)) (u.drop (u.length - 4)) 4294967295
    rw [List.take_append_drop] at e
    rw [e, run_num (u.drop (u.length - 4)), hd]
  have hrl := run_lt (u.take (u.length - 4)) (r := 4294967295) (by omega)
  constructor
  · intro hs
    have h4 : four (sum (u.take (u.length - 4))) = u.drop (u.length - 4) := by
      have e : u.take (u.length - 4) ++ four (sum (u.take (u.length - 4))) = u.take (u.length - 4) ++ u.drop (u.length - 4) := by
        rw [List.take_append_drop]; exact hs
      exact List.append_cancel_left e
    rw [hr, ← h4, num_four _ (sum_lt _), sum_eq, ← Nat.xor_assoc, Nat.xor_self, Nat.zero_xor]
  · intro hs
    rw [hr] at hs
    have e := steps_inj 32 (xor_lt hrl hx) (by omega) hs
    have e2 : num (u.drop (u.length - 4)) = sum (u.take (u.length - 4)) := by
      rw [sum_eq]
      apply xor_left (c := run 4294967295 (u.take (u.length - 4)))
      rw [e, ← Nat.xor_assoc, Nat.xor_self, Nat.zero_xor]
    unfold seal_
    rw [← e2, four_num _ hd, List.take_append_drop]
theorem seal_len' (l : List UInt8) : (seal_ l).length = l.length + 4 := by simp [seal_, four]
/-- What is sealed, and then turned within thirty-two bits, is sealed just if it is as it was. -/
theorem burst (s u : List UInt8) (V f : Nat) (hV : V < 4294967296) (hl : u.length = s.length + 4) (hf : f ≤ 8 * u.length)
    (hu : num u = num (seal_ s) ^^^ (V * 2 ^ f)) : seal_ (u.take (u.length - 4)) = u ↔ u = seal_ s := by
  have hsl := seal_len' s
  have ht : seal_ ((seal_ s).take ((seal_ s).length - 4)) = seal_ s := by
    rw [hsl, Nat.add_sub_cancel]
    have : (seal_ s).take s.length = s := by unfold seal_; exact List.take_left
    rw [this]
  constructor
  · intro h
    have h1 := (sealed_iff u (by omega)).1 h
    have h2 := (sealed_iff (seal_ s) (by omega)).1 ht
    rw [run_num, hu] at h1
    rw [run_num] at h2
    rw [hl] at h1
    rw [hsl] at h2
    rw [← Nat.xor_assoc, steps_xor, h2] at h1
    have h3 : steps (8 * (s.length + 4)) (V * 2 ^ f) = 0 := by
      apply xor_left (c := steps 32 4294967295); rw [h1, Nat.xor_zero]
    have h4 := steps_burst _ f V hV (by omega) h3
    rw [h4, Nat.zero_mul, Nat.xor_zero] at hu
    exact num_inj _ _ (by omega) hu
  · intro h
    rw [h]; exact ht
/-- One bit turned. -/
def flip (l : List UInt8) (k : Nat) : List UInt8 := l.modify (k / 8) (· ^^^ UInt8.ofNat (2 ^ (k % 8)))
theorem flip_len (l : List UInt8) (k : Nat) : (flip l k).length = l.length := by simp [flip]
theorem pow_lt8 (k : Nat) : 2 ^ (k % 8) < 256 := by
  have : k % 8 < 8 := Nat.mod_lt _ (by omega)
  exact Nat.pow_lt_pow_right (a := 2) (by omega) this
theorem num_flip (l : List UInt8) (k : Nat) (h : k < 8 * l.length) : num (flip l k) = num l ^^^ 2 ^ k := by
  induction l generalizing k with
  | nil => simp at h
  | cons c l ih =>
    by_cases hk : k < 8
    · have e0 : k / 8 = 0 := by omega
      have e1 : k % 8 = k := by omega
      have hp : (UInt8.ofNat (2 ^ k)).toNat = 2 ^ k := by
        rw [UInt8.toNat_ofNat']
        have := pow_lt8 k
        rw [e1] at this
        exact Nat.mod_eq_of_lt this
      unfold flip
      rw [e0, e1, List.modify_zero_cons, num_cons, num_cons, UInt8.toNat_xor, hp]
      ac_rfl
    · have e0 : k / 8 = (k - 8) / 8 + 1 := by omega
      have e1 : k % 8 = (k - 8) % 8 := by omega
      have hf : flip (c :: l) k = c :: flip l (k - 8) := by
        unfold flip
        rw [e0, e1, List.modify_succ_cons]
      rw [hf, num_cons, num_cons, ih (k - 8) (by simp at h; omega)]
      have hx : (num l ^^^ 2 ^ (k - 8)) * 2 ^ 8 = (num l * 2 ^ 8) ^^^ 2 ^ k := by
        have e2 : (2 : Nat) ^ k = 2 ^ (k - 8) * 2 ^ 8 := by rw [← Nat.pow_add]; congr 1; omega
        rw [e2]
        apply Nat.eq_of_testBit_eq; intro i
        simp only [Nat.testBit_mul_two_pow, Nat.testBit_xor]
        by_cases h : 8 ≤ i <;> simp [h]
      rw [hx]; ac_rfl
/-- Bits turned from one on, as a number has them: the first i of them. -/
def turns (l : List UInt8) (first bits : Nat) : Nat → List UInt8
  | 0 => l
  | i + 1 => if bits / 2 ^ i % 2 = 1 ∧ (first + i) / 8 < l.length then flip (turns l first bits i) (first + i) else turns l first bits i
theorem turns_len (l : List UInt8) (first bits i : Nat) : (turns l first bits i).length = l.length := by
  induction i with
  | zero => rfl
  | succ i ih =>
    simp only [turns]
    split
    · rw [flip_len, ih]
    · exact ih
/-- The lowest bits of a number, one more. -/
theorem mod_succ (b i : Nat) : b % 2 ^ (i + 1) = b % 2 ^ i ^^^ (if b / 2 ^ i % 2 = 1 then 2 ^ i else 0) := by
  apply Nat.eq_of_testBit_eq
  intro j
  rw [Nat.testBit_xor, Nat.testBit_mod_two_pow, Nat.testBit_mod_two_pow]
  have hb : (b / 2 ^ i % 2 = 1) ↔ b.testBit i = true := by
    rw [Nat.testBit_eq_decide_div_mod_eq, decide_eq_true_eq]
  by_cases hij : j = i
  · subst hij
    by_cases h : b.testBit j = true
    · rw [if_pos (hb.2 h)]; simp [h]
    · rw [if_neg (fun x => h (hb.1 x))]; simp at h; simp [h]
  · by_cases h : b / 2 ^ i % 2 = 1
    · rw [if_pos h, Nat.testBit_two_pow]
      have e : decide (i = j) = false := by simp; omega
      rw [e]
      by_cases h2 : j < i
      · simp [h2, show j < i + 1 from by omega]
      · simp [h2, show ¬ j < i + 1 from by omega]
    · rw [if_neg h, Nat.zero_testBit]
      by_cases h2 : j < i
      · simp [h2, show j < i + 1 from by omega]
      · simp [h2, show ¬ j < i + 1 from by omega]
theorem xor_mul_pow (a b f : Nat) : (a ^^^ b) * 2 ^ f = (a * 2 ^ f) ^^^ (b * 2 ^ f) := by
  apply Nat.eq_of_testBit_eq; intro i
  simp only [Nat.testBit_mul_two_pow, Nat.testBit_xor]
  by_cases h : f ≤ i <;> simp [h]
/-- As one number a text with bits turned is the number taken together with these bits, as far as there are bytes. -/
theorem num_turns (l : List UInt8) (first bits i : Nat) (hf : first ≤ 8 * l.length) :
    num (turns l first bits i) = num l ^^^ ((bits % 2 ^ (min i (8 * l.length - first))) * 2 ^ first) := by
  induction i with
  | zero => simp [turns, Nat.mod_one]
  | succ i ih =>
    simp only [turns]
    by_cases hk : (first + i) / 8 < l.length
    · have hm : min (i + 1) (8 * l.length - first) = i + 1 := by omega
      have hm' : min i (8 * l.length - first) = i := by omega
      rw [hm', ] at ih
      rw [hm, mod_succ, xor_mul_pow]
      by_cases hb : bits / 2 ^ i % 2 = 1
      · rw [if_pos ⟨hb, hk⟩, if_pos hb, num_flip _ _ (by rw [turns_len]; omega), ih, ← Nat.pow_add, Nat.add_comm i first, Nat.xor_assoc]
      · rw [if_neg (fun h => hb h.1), if_neg hb, ih, Nat.zero_mul, Nat.xor_zero]
    · have hm : min (i + 1) (8 * l.length - first) = min i (8 * l.length - first) := by omega
      rw [if_neg (fun h => hk h.2), hm, ih]
theorem turns_sealed (s : List UInt8) (first bits : Nat) (hb : bits < 4294967296) (hf : first < 8 * (seal_ s).length) :
    seal_ ((turns (seal_ s) first bits 32).take ((turns (seal_ s) first bits 32).length - 4)) = turns (seal_ s) first bits 32 ↔ turns (seal_ s) first bits 32 = seal_ s := by
  have hl := turns_len (seal_ s) first bits 32
  refine burst s _ (bits % 2 ^ (min 32 (8 * (seal_ s).length - first))) first ?_ (by rw [hl, seal_len']) (by omega) (num_turns _ _ _ _ (by omega))
  exact Nat.lt_of_le_of_lt (Nat.mod_le _ _) hb
end Crc
end Go.Proofs.YtdeepahaggkipaaDoor
/- A sealed text opened, as a plain function. -/
namespace Go.Proofs.YtdeepahaggkipaaDoor
namespace Crc
/-- A text without its sum, or what is wrong. -/
def opened (s : List UInt8) : Nat ⊕ List UInt8 :=
  if s.length < 4 then .inl 7 else if seal_ (s.take (s.length - 4)) = s then .inr (s.take (s.length - 4)) else .inl 15
theorem opened_seal (l : List UInt8) : opened (seal_ l) = .inr l := by
  have hl := seal_len' l
  have ht : (seal_ l).take ((seal_ l).length - 4) = l := by
    rw [hl, Nat.add_sub_cancel]; unfold seal_; exact List.take_left
  unfold opened
  rw [if_neg (by omega), ht, if_pos rfl]
theorem opened_inv {s t : List UInt8} (h : opened s = .inr t) : seal_ t = s := by
  unfold opened at h
  split at h
  · cases h
  · split at h
    · rename_i h2
      injection h with h; subst h; exact h2
    · cases h
end Crc
namespace Vary
theorem int_inv' {l : List UInt8} {m : Int} {n k : Nat} (h : int l m = .ok n k) : get l = .ok n k := by
  unfold int at h
  cases hg : get l with
  | bad e => rw [hg] at h; cases h
  | ok a b =>
    rw [hg] at h
    simp only at h
    split at h
    · cases h
    · exact h
end Vary
end Go.Proofs.YtdeepahaggkipaaDoor
/- Plain laws of pieces: how one is written, read back, and cut. -/
namespace Go.Proofs.YtdeepahaggkipaaDoor
namespace Chunk
structure Piece where
  name : Nat
  total : Int
  at_ : Int
  data : ByteArray
deriving DecidableEq
/-- What is wrong with a piece; 0: nothing. -/
def wrong (c : Piece) : Nat :=
  if c.total < 1 ∨ 4096 < c.total ∨ c.at_ < 0 ∨ c.total < c.at_ then 2
  else if c.data.size = 0 ∨ 256 < c.data.size then 4
  else if c.total - c.at_ < (c.data.size : Int) then 2 else 0
structure Fine (c : Piece) : Prop where
  t1 : 1 ≤ c.total
  t2 : c.total ≤ 4096
  a1 : 0 ≤ c.at_
  a2 : c.at_ ≤ c.total
  d1 : c.data.size ≠ 0
  d2 : c.data.size ≤ 256
  fit : (c.data.size : Int) ≤ c.total - c.at_
theorem fine_iff (c : Piece) : wrong c = 0 ↔ Fine c := by
  unfold wrong
  constructor
  · intro h
    split at h
    · cases h
    · split at h
      · cases h
      · split at h
        · cases h
        · exact ⟨by omega, by omega, by omega, by omega, by omega, by omega, by omega⟩
  · intro h
    obtain ⟨h1, h2, h3, h4, h5, h6, h7⟩ := h
    rw [if_neg (by omega), if_neg (by omega), if_neg (by omega)]
def inner (c : Piece) : List UInt8 := 67 :: (Crc.four c.name ++ (Vary.put c.total.toNat ++ (Vary.put c.at_.toNat ++ c.data.data.toList)))
def write (c : Piece) : List UInt8 := Crc.seal_ (inner c)
inductive Got where
  | ok (c : Piece)
  | bad (e : Nat)
/-- The number that four bytes are. -/
def le4 (l : List UInt8) : Nat := Crc.num (l.take 4)
theorem le4_lt (l : List UInt8) : le4 l < 4294967296 := by
  have h1 := Crc.num_lt (l.take 4)
  have h2 : 8 * (l.take 4).length ≤ 32 := by rw [List.length_take]; omega
  exact Nat.lt_of_lt_of_le h1 (Nat.pow_le_pow_right (n := 2) (by omega) h2)
/-- What lies behind the sum, if it is right. -/
def body (t : List UInt8) : Got :=
  if t.head? ≠ some 67 then .bad 5
  else if t.length < 5 then .bad 7
  else match Vary.int (t.drop 5) 4096 with
    | .bad e => .bad e
    | .ok n k => match Vary.int ((t.drop 5).drop k) 4096 with
      | .bad e => .bad e
      | .ok m j =>
        if wrong ⟨le4 (t.drop 1), n, m, ⟨(((t.drop 5).drop k).drop j).toArray⟩⟩ ≠ 0 then .bad (wrong ⟨le4 (t.drop 1), n, m, ⟨(((t.drop 5).drop k).drop j).toArray⟩⟩)
        else .ok ⟨le4 (t.drop 1), n, m, ⟨(((t.drop 5).drop k).drop j).toArray⟩⟩
def read (s : List UInt8) : Got :=
  match Crc.opened s with
  | .inl e => .bad e
  | .inr t => body t
theorem list_mk (s : ByteArray) : (⟨s.data.toList.toArray⟩ : ByteArray) = s := by cases s; simp
theorem mk_size (l : List UInt8) : (ByteArray.mk l.toArray).size = l.length := by simp [ByteArray.size]
theorem data_len (s : ByteArray) : s.data.toList.length = s.size := Array.length_toList
theorem four_len (n : Nat) : (Crc.four n).length = 4 := rfl
theorem inner_len (c : Piece) (h : Fine c) : (inner c).length ≤ 300 := by
  have h1 := Vary.put_len c.total.toNat (by have := h.t2; omega)
  have h2 := Vary.put_len c.at_.toNat (by have := h.t2; have := h.a2; omega)
  have h3 := data_len c.data
  have h4 := h.d2
  unfold inner
  simp only [List.length_cons, List.length_append, four_len]
  omega
theorem int_of_put (n : Nat) (m : Int) (r : List UInt8) (h : n < 18446744073709551616) (h0 : (n : Int) ≤ m) : Vary.int (Vary.put n ++ r) m = .ok n (Vary.put n).length :=
  Vary.int_ok (Vary.get_put n r h) (by omega)
/-- What is written is read. -/
theorem body_inner (c : Piece) (h : Fine c) (hn : c.name < 4294967296) : body (inner c) = .ok c := by
  have hf := (fine_iff c).2 h
  obtain ⟨h1, h2, h3, h4, h5, h6, h7⟩ := h
  have e5 : (inner c).drop 5 = Vary.put c.total.toNat ++ (Vary.put c.at_.toNat ++ c.data.data.toList) := by
    unfold inner
    rw [show (5 : Nat) = 4 + 1 from rfl, List.drop_succ_cons, List.drop_left' (four_len _)]
  have e1 : le4 ((inner c).drop 1) = c.name := by
    unfold inner le4
    rw [List.drop_succ_cons, List.drop_zero, List.take_left' (four_len _), Crc.num_four _ hn]
  have el : ¬ (inner c).length < 5 := by
    unfold inner
    simp only [List.length_cons, List.length_append, four_len]
    omega
  unfold body
  rw [if_neg (by simp [inner]), if_neg el, e5]
  simp only [int_of_put c.total.toNat 4096 _ (by omega) (by omega), List.drop_left, int_of_put c.at_.toNat 4096 _ (by omega) (by omega), e1]
  have e : (⟨c.name, (c.total.toNat : Int), (c.at_.toNat : Int), ⟨c.data.data.toList.toArray⟩⟩ : Piece) = c := by
    rw [list_mk]
    obtain ⟨a, b, d, f⟩ := c
    simp only [Piece.mk.injEq, true_and, and_true]
    simp only at h1 h3
    omega
  rw [e, if_neg (by omega)]
theorem read_write (c : Piece) (h : Fine c) (hn : c.name < 4294967296) : read (write c) = .ok c := by
  unfold read write
  rw [Crc.opened_seal]
  exact body_inner c h hn
/-- What is read is right, and written so. -/
theorem body_ok (t : List UInt8) (c : Piece) (h : body t = .ok c) : Fine c ∧ inner c = t ∧ c.name < 4294967296 := by
  unfold body at h
  by_cases h1 : t.head? ≠ some 67
  · rw [if_pos h1] at h; cases h
  · rw [if_neg h1] at h
    by_cases h2 : t.length < 5
    · rw [if_pos h2] at h; cases h
    · rw [if_neg h2] at h
      cases hi : Vary.int (t.drop 5) 4096 with
      | bad e => rw [hi] at h; cases h
      | ok n k =>
        rw [hi] at h
        simp only at h
        cases hj : Vary.int ((t.drop 5).drop k) 4096 with
        | bad e => rw [hj] at h; cases h
        | ok m j =>
          rw [hj] at h
          simp only at h
          by_cases hw : wrong ⟨le4 (t.drop 1), n, m, ⟨(((t.drop 5).drop k).drop j).toArray⟩⟩ ≠ 0
          · rw [if_pos hw] at h; cases h
          · rw [if_neg hw] at h
            injection h with h
            subst h
            have hf := (fine_iff _).1 (by omega : wrong ⟨le4 (t.drop 1), n, m, ⟨(((t.drop 5).drop k).drop j).toArray⟩⟩ = 0)
            have g1 := Vary.get_ok _ _ _ (Vary.int_inv' hi)
            have g2 := Vary.get_ok _ _ _ (Vary.int_inv' hj)
            match t, h1, h2 with
            | a :: b1 :: b2 :: b3 :: b4 :: r, h1, h2 =>
              have ha : a = 67 := by simpa using h1
              subst ha
              refine ⟨hf, ?_, ?_⟩
              · unfold inner
                have e4 : Crc.four (le4 (b1 :: b2 :: b3 :: b4 :: r)) = [b1, b2, b3, b4] := Crc.four_num [b1, b2, b3, b4] rfl
                simp only [List.drop_succ_cons, List.drop_zero] at g1 g2 ⊢
                rw [e4, Int.toNat_natCast, Int.toNat_natCast, g1.2.2.1, g2.2.2.1, List.take_append_drop, List.take_append_drop]
                rfl
              · exact le4_lt _
theorem write_read (s : List UInt8) (c : Piece) (h : read s = .ok c) : Fine c ∧ write c = s ∧ c.name < 4294967296 := by
  unfold read at h
  cases ho : Crc.opened s with
  | inl e => rw [ho] at h; cases h
  | inr t =>
    rw [ho] at h
    obtain ⟨h1, h2, h3⟩ := body_ok t c h
    refine ⟨h1, ?_, h3⟩
    unfold write
    rw [h2]; exact Crc.opened_inv ho
/-- A text in pieces of so many bytes. -/
def cut (nm total size : Nat) (l : List UInt8) (p : Nat) : Nat → List Piece
  | 0 => []
  | f + 1 => if p < l.length then ⟨nm, total, p, ⟨((l.drop p).take size).toArray⟩⟩ :: cut nm total size l (p + size) f else []
end Chunk
end Go.Proofs.YtdeepahaggkipaaDoor
/- Plain laws of a text in pieces. -/
namespace Go.Proofs.YtdeepahaggkipaaDoor
namespace Chunk
/-- How many pieces of so many bytes a text of so many has. -/
def cuts (n size : Nat) : Nat := (n + size - 1) / size
theorem lt_cuts {n size k : Nat} (hs : 1 ≤ size) : k < cuts n size ↔ k * size < n := by
  unfold cuts
  rw [Nat.lt_iff_add_one_le, Nat.le_div_iff_mul_le (by omega), Nat.add_mul]
  omega
/-- Piece number k of a text. -/
def pieceAt (s : ByteArray) (size k : Nat) : Piece := ⟨Crc.sum s.data.toList, s.size, (k * size : Nat), s.extract (k * size) (min s.size (k * size + size))⟩
def pieces (s : ByteArray) (size k : Nat) : List Piece := (List.range k).map (pieceAt s size)
theorem pieces_len (s : ByteArray) (size k : Nat) : (pieces s size k).length = k := by simp [pieces]
theorem pieces_get (s : ByteArray) (size k i : Nat) (h : i < (pieces s size k).length) : (pieces s size k)[i] = pieceAt s size i := by simp [pieces]
theorem pieces_succ (s : ByteArray) (size k : Nat) : pieces s size (k + 1) = pieces s size k ++ [pieceAt s size k] := by
  unfold pieces; rw [List.range_succ, List.map_append]; rfl
theorem pieces_all {s : ByteArray} {size k : Nat} (hs : 1 ≤ size) (h1 : s.size ≤ k * size) (h2 : k = 0 ∨ (k - 1) * size < s.size) : k = cuts s.size size := by
  have h3 : ¬ k < cuts s.size size := fun h => by have := (lt_cuts hs).1 h; omega
  rcases h2 with rfl | h2
  · omega
  · rcases Nat.eq_zero_or_pos k with rfl | hp
    · omega
    · have := (lt_cuts hs).2 h2
      omega
theorem pieceAt_size (s : ByteArray) (size k : Nat) (h : k * size < s.size) : (pieceAt s size k).data.size = min (s.size - k * size) size := by
  unfold pieceAt
  simp only [ByteArray.size_extract]
  omega
theorem pieceAt_fine (s : ByteArray) (size k : Nat) (h : k * size < s.size) (hs : 1 ≤ size) (hm : size ≤ 256) (hn : s.size ≤ 4096) : Fine (pieceAt s size k) := by
  have hz := pieceAt_size s size k h
  have e1 : (pieceAt s size k).total = s.size := rfl
  have e2 : (pieceAt s size k).at_ = (k * size : Nat) := rfl
  refine ⟨by omega, by omega, by omega, by omega, by omega, by omega, by omega⟩
theorem pieceAt_name (s : ByteArray) (size k : Nat) : (pieceAt s size k).name < 4294967296 := Crc.sum_lt _
/-- What stands ahead of piece k, and it, is what stands ahead of the next one. -/
theorem ahead_succ (s : ByteArray) (size k : Nat) (h : k * size < s.size) : s.extract 0 (k * size) ++ (pieceAt s size k).data = s.extract 0 (min s.size ((k + 1) * size)) := by
  unfold pieceAt
  simp only
  rw [Nat.add_mul, Nat.one_mul]
  apply ByteArray.ext
  rw [ByteArray.data_append, ByteArray.data_extract, ByteArray.data_extract, ByteArray.data_extract, Array.extract_append_extract]
  congr 1 <;> omega
theorem ahead_all (s : ByteArray) (k : Nat) (h : s.size ≤ k) : s.extract 0 k = s := by
  apply ByteArray.ext
  rw [ByteArray.data_extract]
  exact Array.extract_eq_self_of_le h
theorem write_len (c : Piece) (h : Fine c) : (write c).length ≤ 304 := by
  have := inner_len c h
  unfold write
  rw [Crc.seal_len']; omega
end Chunk
end Go.Proofs.YtdeepahaggkipaaDoor
