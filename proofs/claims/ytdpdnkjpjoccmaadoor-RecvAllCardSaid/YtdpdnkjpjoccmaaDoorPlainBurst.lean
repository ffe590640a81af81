/- Plain laws of bits that are turned: a text as one number, and what a burst does to the sum. -/
import Derived.Test.YtdpdnkjpjoccmaaDoorPlainCrc2
namespace Go.Proofs.YtdpdnkjpjoccmaaDoor
namespace Crc
/-- A text as one number, the first byte the lowest. -/
def num : List UInt8 → Nat
  | [] => 0
  | c :: l => c.toNat + 256 * num l
theorem num_lt (l : List UInt8) : num l < 2 ^ (8 * l.length) := by
  induction l with
  | nil => simp [num]
  | cons c l ih =>
    have hc := c.toNat_lt
    rw [List.length_cons, Nat.mul_add, Nat.pow_add, show (2 : Nat) ^ (8 * 1) = 256 from rfl]
    simp only [num]
    omega
theorem low_xor (a m : Nat) (h : a < 256) : a ^^^ (m * 256) = a + 256 * m := by
  apply Nat.eq_of_testBit_eq
  intro i
  have e : a + 256 * m = 2 ^ 8 * m + a := by omega
  rw [e, Nat.testBit_two_pow_mul_add m (by omega : a < 2 ^ 8), Nat.testBit_xor, show (256 : Nat) = 2 ^ 8 from rfl, Nat.testBit_mul_two_pow]
  by_cases hi : i < 8
  · simp [hi, show ¬ 8 ≤ i from by omega]
  · have : a.testBit i = false := Nat.testBit_lt_two_pow (Nat.lt_of_lt_of_le h (Nat.pow_le_pow_right (n := 2) (by omega) (by omega : 8 ≤ i)))
    simp [hi, show 8 ≤ i from by omega, this]
theorem num_cons (c : UInt8) (l : List UInt8) : num (c :: l) = c.toNat ^^^ (num l * 2 ^ 8) := by
  rw [show (2 : Nat) ^ 8 = 256 from rfl, low_xor _ _ c.toNat_lt]; rfl
theorem num_xor : ∀ (a b : List UInt8), a.length = b.length → num (List.zipWith (· ^^^ ·) a b) = num a ^^^ num b
  | [], [], _ => rfl
  | c :: a, d :: b, h => by
    rw [List.zipWith_cons_cons, num_cons, num_cons, num_cons, num_xor a b (by simpa using h), UInt8.toNat_xor]
    have : (num a ^^^ num b) * 2 ^ 8 = (num a * 2 ^ 8) ^^^ (num b * 2 ^ 8) := by
      apply Nat.eq_of_testBit_eq; intro i
      simp only [Nat.testBit_mul_two_pow, Nat.testBit_xor]
      by_cases h : 8 ≤ i <;> simp [h]
    rw [this]; ac_rfl
  | [], _ :: _, h => by simp at h
  | _ :: _, [], h => by simp at h
theorem num_inj : ∀ (a b : List UInt8), a.length = b.length → num a = num b → a = b
  | [], [], _, _ => rfl
  | c :: a, d :: b, h, e => by
    have hc := c.toNat_lt
    have hd := d.toNat_lt
    simp only [num] at e
    have h1 : c = d := UInt8.toNat_inj.1 (by omega)
    have h2 : a = b := num_inj a b (by simpa using h) (by omega)
    rw [h1, h2]
  | [], _ :: _, h, _ => by simp at h
  | _ :: _, [], h, _ => by simp at h
theorem num_append (a b : List UInt8) : num (a ++ b) = num a + 2 ^ (8 * a.length) * num b := by
  induction a with
  | nil => simp [num]
  | cons c a ih =>
    rw [List.cons_append, List.length_cons, Nat.mul_add, Nat.pow_add, show (2 : Nat) ^ (8 * 1) = 256 from rfl]
    simp only [num, ih]
    rw [Nat.mul_add, Nat.add_assoc, ← Nat.mul_assoc, Nat.mul_comm 256 (2 ^ (8 * a.length))]
/-- The register behind a text is that of one number, so many bits on. -/
theorem run_num (l : List UInt8) : ∀ r, run r l = steps (8 * l.length) (r ^^^ num l) := by
  induction l with
  | nil => intro r; simp [run, num, steps]
  | cons c l ih =>
    intro r
    show run (byte r c) l = _
    rw [ih, byte_eq, List.length_cons, Nat.mul_add, steps_add, num_cons]
    have : steps (8 * 1) (r ^^^ (c.toNat ^^^ num l * 2 ^ 8)) = steps 8 (r ^^^ c.toNat) ^^^ num l := by
      rw [show 8 * 1 = 8 from rfl, ← Nat.xor_assoc, steps_xor, steps_pow]
    rw [this]
/-- What is within thirty-two bits, wherever, is nothing, if the register behind it is nothing. -/
theorem steps_burst (n f V : Nat) (hV : V < 4294967296) (hf : f ≤ n) (h : steps n (V * 2 ^ f) = 0) : V = 0 := by
  have : n = (n - f) + f := by omega
  rw [this, steps_add, steps_pow] at h
  exact steps_eq_zero _ hV h
theorem num_four (x : Nat) (h : x < 4294967296) : num (four x) = x := by
  simp only [four, num, UInt8.toNat_ofNat']
  omega
theorem four_num (l : List UInt8) (h : l.length = 4) : four (num l) = l := by
  apply num_inj
  · simp [four, h]
  · have := num_lt l
    rw [h] at this
    exact num_four _ this
theorem xor_left {a b c : Nat} (h : c ^^^ a = c ^^^ b) : a = b := by
  apply xor_cancel (c := c); rw [Nat.xor_comm a c, Nat.xor_comm b c, h]
theorem steps_inj (k : Nat) {a b : Nat} (ha : a < 4294967296) (hb : b < 4294967296) (h : steps k a = steps k b) : a = b := by
  have : steps k (a ^^^ b) = 0 := by rw [steps_xor, h, Nat.xor_self]
  exact xor_eq_zero (steps_eq_zero k (xor_lt ha hb) this)
/-- A text is sealed just if the register behind it is what it is behind whatever is sealed. -/
theorem sealed_iff (u : List UInt8) (h : 4 ≤ u.length) : seal_ (u.take (u.length - 4)) = u ↔ run 4294967295 u = steps 32 4294967295 := by
  have hd : (u.drop (u.length - 4)).length = 4 := by simp; omega
  have hx : num (u.drop (u.length - 4)) < 4294967296 := by have := num_lt (u.drop (u.length - 4)); rwa [hd] at this
  have hr : run 4294967295 u = steps 32 (run 4294967295 (u.take (u.length - 4)) ^^^ num (u.drop (u.length - 4))) := by
    have e := run_append (u.take (u.length - 4)) (u.drop (u.length - 4)) 4294967295
    rw [List.take_append_drop] at e
    rw [e, run_num (u.drop (u.length - 4)), hd]
  have hrl := run_lt (u.take (u.length - 4)) (r := 4294967295) (by omega)
  constructor
  · intro hs
    have h4 : four (sum (u.take (u.length - 4))) = u.drop (u.length - 4) := by
      have e : u.take (u.length - 4) ++ four (sum (u.take (u.length - 4))) = u.take (u.length - 4) ++ u.drop (u.length - 4) := by
        rw [List.take_append_drop]; exact hs
      exact List.append_cancel_left e
    rw [hr, ← h4, num_four _ (sum_lt _), sum_eq, ← Nat.xor_assoc, Nat.xor_self, Nat.zero_xor]
  · intro hs
    rw [hr] at hs
    have e := steps_inj 32 (xor_lt hrl hx) (by omega) hs
    have e2 : num (u.drop (u.length - 4)) = sum (u.take (u.length - 4)) := by
      rw [sum_eq]
      apply xor_left (c := run 4294967295 (u.take (u.length - 4)))
      rw [e, ← Nat.xor_assoc, Nat.xor_self, Nat.zero_xor]
    unfold seal_
    rw [← e2, four_num _ hd, List.take_append_drop]
theorem seal_len' (l : List UInt8) : (seal_ l).length = l.length + 4 := by simp [seal_, four]
/-- What is sealed, and then turned within thirty-two bits, is sealed just if it is as it was. -/
theorem burst (s u : List UInt8) (V f : Nat) (hV : V < 4294967296) (hl : u.length = s.length + 4) (hf : f ≤ 8 * u.length)
    (hu : num u = num (seal_ s) ^^^ (V * 2 ^ f)) : seal_ (u.take (u.length - 4)) = u ↔ u = seal_ s := by
  have hsl := seal_len' s
  have ht : seal_ ((seal_ s).take ((seal_ s).length - 4)) = seal_ s := by
    rw [hsl, Nat.add_sub_cancel]
    have : (seal_ s).take s.length = s := by unfold seal_; exact List.take_left
    rw [this]
  constructor
  · intro h
    have h1 := (sealed_iff u (by omega)).1 h
    have h2 := (sealed_iff (seal_ s) (by omega)).1 ht
    rw [run_num, hu] at h1
    rw [run_num] at h2
    rw [hl] at h1
    rw [hsl] at h2
    rw [← Nat.xor_assoc, steps_xor, h2] at h1
    have h3 : steps (8 * (s.length + 4)) (V * 2 ^ f) = 0 := by
      apply xor_left (c := steps 32 4294967295); rw [h1, Nat.xor_zero]
    have h4 := steps_burst _ f V hV (by omega) h3
    rw [h4, Nat.zero_mul, Nat.xor_zero] at hu
    exact num_inj _ _ (by omega) hu
  · intro h
    rw [h]; exact ht
/-- One bit turned. -/
def flip (l : List UInt8) (k : Nat) : List UInt8 := l.modify (k / 8) (· ^^^ UInt8.ofNat (2 ^ (k % 8)))
theorem flip_len (l : List UInt8) (k : Nat) : (flip l k).length = l.length := by simp [flip]
theorem pow_lt8 (k : Nat) : 2 ^ (k % 8) < 256 := by
  have : k % 8 < 8 := Nat.mod_lt _ (by omega)
  exact Nat.pow_lt_pow_right (a := 2) (by omega) this
theorem num_flip (l : List UInt8) (k : Nat) (h : k < 8 * l.length) : num (flip l k) = num l ^^^ 2 ^ k := by
  induction l generalizing k with
  | nil => simp at h
  | cons c l ih =>
    by_cases hk : k < 8
    · have e0 : k / 8 = 0 := by omega
      have e1 : k % 8 = k := by omega
      have hp : (UInt8.ofNat (2 ^ k)).toNat = 2 ^ k := by
        rw [UInt8.toNat_ofNat']
        have := pow_lt8 k
        rw [e1] at this
        exact Nat.mod_eq_of_lt this
      unfold flip
      rw [e0, e1, List.modify_zero_cons, num_cons, num_cons, UInt8.toNat_xor, hp]
      ac_rfl
    · have e0 : k / 8 = (k - 8) / 8 + 1 := by omega
      have e1 : k % 8 = (k - 8) % 8 := by omega
      have hf : flip (c :: l) k = c :: flip l (k - 8) := by
        unfold flip
        rw [e0, e1, List.modify_succ_cons]
      rw [hf, num_cons, num_cons, ih (k - 8) (by simp at h; omega)]
      have hx : (num l ^^^ 2 ^ (k - 8)) * 2 ^ 8 = (num l * 2 ^ 8) ^^^ 2 ^ k := by
        have e2 : (2 : Nat) ^ k = 2 ^ (k - 8) * 2 ^ 8 := by rw [← Nat.pow_add]; congr 1; omega
        rw [e2]
        apply Nat.eq_of_testBit_eq; intro i
        simp only [Nat.testBit_mul_two_pow, Nat.testBit_xor]
        by_cases h : 8 ≤ i <;> simp [h]
      rw [hx]; ac_rfl
/-- Bits turned from one on, as a number has them: the first i of them. -/
def turns (l : List UInt8) (first bits : Nat) : Nat → List UInt8
  | 0 => l
  | i + 1 => if bits / 2 ^ i % 2 = 1 ∧ (first + i) / 8 < l.length then flip (turns l first bits i) (first + i) else turns l first bits i
theorem turns_len (l : List UInt8) (first bits i : Nat) : (turns l first bits i).length = l.length := by
  induction i with
  | zero => rfl
  | succ i ih =>
    simp only [turns]
    split
    · rw [flip_len, ih]
    · exact ih
/-- The lowest bits of a number, one more. -/
theorem mod_succ (b i : Nat) : b % 2 ^ (i + 1) = b % 2 ^ i ^^^ (if b / 2 ^ i % 2 = 1 then 2 ^ i else 0) := by
  apply Nat.eq_of_testBit_eq
  intro j
  rw [Nat.testBit_xor, Nat.testBit_mod_two_pow, Nat.testBit_mod_two_pow]
  have hb : (b / 2 ^ i % 2 = 1) ↔ b.testBit i = true := by
    rw [Nat.testBit_eq_decide_div_mod_eq, decide_eq_true_eq]
  by_cases hij : j = i
  · subst hij
    by_cases h : b.testBit j = true
    · rw [if_pos (hb.2 h)]; simp [h]
    · rw [if_neg (fun x => h (hb.1 x))]; simp at h; simp [h]
  · by_cases h : b / 2 ^ i % 2 = 1
    · rw [if_pos h, Nat.testBit_two_pow]
      have e : decide (i = j) = false := by simp; omega
      rw [e]
      by_cases h2 : j < i
      · simp [h2, show j < i + 1 from by omega]
      · simp [h2, show ¬ j < i + 1 from by omega]
    · rw [if_neg h, Nat.zero_testBit]
      by_cases h2 : j < i
      · simp [h2, show j < i + 1 from by omega]
      · simp [h2, show ¬ j < i + 1 from by omega]
theorem xor_mul_pow (a b f : Nat) : (a ^^^ b) * 2 ^ f = (a * 2 ^ f) ^^^ (b * 2 ^ f) := by
  apply Nat.eq_of_testBit_eq; intro i
  simp only [Nat.testBit_mul_two_pow, Nat.testBit_xor]
  by_cases h : f ≤ i <;> simp [h]
/-- As one number a text with bits turned is the number taken together with these bits, as far as there are bytes. -/
theorem num_turns (l : List UInt8) (first bits i : Nat) (hf : first ≤ 8 * l.length) :
    num (turns l first bits i) = num l ^^^ ((bits % 2 ^ (min i (8 * l.length - first))) * 2 ^ first) := by
  induction i with
  | zero => simp [turns, Nat.mod_one]
  | succ i ih =>
    simp only [turns]
    by_cases hk : (first + i) / 8 < l.length
    · have hm : min (i + 1) (8 * l.length - first) = i + 1 := by omega
      have hm' : min i (8 * l.length - first) = i := by omega
      rw [hm', ] at ih
      rw [hm, mod_succ, xor_mul_pow]
      by_cases hb : bits / 2 ^ i % 2 = 1
      · rw [if_pos ⟨hb, hk⟩, if_pos hb, num_flip _ _ (by rw [turns_len]; omega), ih, ← Nat.pow_add, Nat.add_comm i first, Nat.xor_assoc]
      · rw [if_neg (fun h => hb h.1), if_neg hb, ih, Nat.zero_mul, Nat.xor_zero]
    · have hm : min (i + 1) (8 * l.length - first) = min i (8 * l.length - first) := by omega
      rw [if_neg (fun h => hk h.2), hm, ih]
theorem turns_sealed (s : List UInt8) (first bits : Nat) (hb : bits < 4294967296) (hf : first < 8 * (seal_ s).length) :
    seal_ ((turns (seal_ s) first bits 32).take ((turns (seal_ s) first bits 32).length - 4)) = turns (seal_ s) first bits 32 ↔ turns (seal_ s) first bits 32 = seal_ s := by
  have hl := turns_len (seal_ s) first bits 32
  refine burst s _ (bits % 2 ^ (min 32 (8 * (seal_ s).length - first))) first ?_ (by rw [hl, seal_len']) (by omega) (num_turns _ _ _ _ (by omega))
  exact Nat.lt_of_le_of_lt (Nat.mod_le _ _) hb
end Crc
end Go.Proofs.YtdpdnkjpjoccmaaDoor
