/- Plain laws of the sum: no program in sight. -/
namespace Go.Proofs.YtdpdnkjpjoccmaaDoor
namespace Crc
/-- One bit of the register. -/
def step1 (n : Nat) : Nat := if n % 2 = 1 then (n / 2) ^^^ 2197175160 else n / 2
def steps : Nat → Nat → Nat
  | 0, n => n
  | k + 1, n => step1 (steps k n)
def one (n : Nat) : Nat := steps 8 n
theorem step1_lt {n : Nat} (h : n < 4294967296) : step1 n < 4294967296 := by
  unfold step1
  split
  · exact Nat.xor_lt_two_pow (n := 32) (by omega) (by omega)
  · omega
theorem steps_lt (k : Nat) {n : Nat} (h : n < 4294967296) : steps k n < 4294967296 := by
  induction k with
  | zero => exact h
  | succ k ih => exact step1_lt ih
theorem one_lt {n : Nat} (h : n < 4294967296) : one n < 4294967296 := steps_lt 8 h
/-- All bits turned. -/
def inv (n : Nat) : Nat := 4294967295 - n
/-- One byte. -/
def byte (r : Nat) (c : UInt8) : Nat := one ((r % 256) ^^^ c.toNat) ^^^ (r / 256)
def run (r : Nat) : List UInt8 → Nat
  | [] => r
  | c :: l => run (byte r c) l
def more (n : Nat) (l : List UInt8) : Nat := inv (run (inv n) l)
theorem inv_lt (n : Nat) : inv n < 4294967296 := by unfold inv; omega
theorem byte_lt {r : Nat} (h : r < 4294967296) (c : UInt8) : byte r c < 4294967296 := by
  have hc := c.toNat_lt
  have h1 : (r % 256) ^^^ c.toNat < 4294967296 := Nat.xor_lt_two_pow (n := 32) (by omega) (by omega)
  exact Nat.xor_lt_two_pow (n := 32) (one_lt h1) (by omega)
theorem run_lt (l : List UInt8) : ∀ {r : Nat}, r < 4294967296 → run r l < 4294967296 := by
  induction l with
  | nil => intro r h; exact h
  | cons c l ih => intro r h; exact ih (byte_lt h c)
theorem run_append (a b : List UInt8) : ∀ r, run r (a ++ b) = run (run r a) b := by
  induction a with
  | nil => intro r; rfl
  | cons c a ih => intro r; exact ih _
theorem more_lt (n : Nat) (l : List UInt8) : more n l < 4294967296 := inv_lt _
def sum (l : List UInt8) : Nat := more 0 l
/-- The four bytes of a sum, the lowest one first. -/
def four (n : Nat) : List UInt8 := [UInt8.ofNat n, UInt8.ofNat (n / 256), UInt8.ofNat (n / 65536), UInt8.ofNat (n / 16777216)]
def seal_ (l : List UInt8) : List UInt8 := l ++ four (sum l)
theorem summed1 : sum [49, 50, 51, 52, 53, 54, 55, 56, 57] = 3808858755 := by decide +kernel
theorem summed2 : sum [] = 0 := by decide +kernel
theorem summed3 : more (sum [49, 50, 51, 52]) [53, 54, 55, 56, 57] = 3808858755 := by decide +kernel
theorem inv_inv {n : Nat} (h : n < 4294967296) : inv (inv n) = n := by unfold inv; omega
theorem more_sum (a b : List UInt8) : more (sum a) b = sum (a ++ b) := by
  unfold sum more
  rw [inv_inv (run_lt a (inv_lt 0)), run_append]
theorem sum_lt (l : List UInt8) : sum l < 4294967296 := more_lt 0 l
end Crc
end Go.Proofs.YtdpdnkjpjoccmaaDoor
