/- Plain laws of numbers in as few bytes as they need. -/
namespace Go.Proofs.YtognjohloobliaaDoor
namespace Vary
/-- A number, seven bits a byte. -/
def put (n : Nat) : List UInt8 := if n < 128 then [UInt8.ofNat n] else UInt8.ofNat (n % 128 + 128) :: put (n / 128)
termination_by n
theorem put_small {n : Nat} (h : n < 128) : put n = [UInt8.ofNat n] := by rw [put, if_pos h]
theorem put_big {n : Nat} (h : ¬ n < 128) : put n = UInt8.ofNat (n % 128 + 128) :: put (n / 128) := by rw [put, if_neg h]
theorem put_ne (n : Nat) : put n ≠ [] := by
  by_cases h : n < 128
  · rw [put_small h]; simp
  · rw [put_big h]; simp
theorem put_pos (n : Nat) : 1 ≤ (put n).length := by
  have := put_ne n
  cases h : put n with
  | nil => exact absurd h this
  | cons _ _ => simp
inductive Got where
  | ok (n k : Nat)
  | bad (e : Nat)
deriving DecidableEq
/-- Byte by byte, from the i-th on, with what was gathered so far. -/
def go : List UInt8 → Nat → Nat → Got
  | [], _, _ => .bad 7
  | c :: r, i, acc =>
    if i = 9 ∧ 1 < c.toNat then .bad 4
    else if c.toNat < 128 then
      if c.toNat = 0 ∧ 0 < i then .bad 3 else .ok (acc + c.toNat % 128 * 2 ^ (7 * i)) (i + 1)
    else go r (i + 1) (acc + c.toNat % 128 * 2 ^ (7 * i))
def get (l : List UInt8) : Got := go l 0 0
theorem u8_small {n : Nat} (h : n < 256) : (UInt8.ofNat n).toNat = n := by
  rw [UInt8.toNat_ofNat']; exact Nat.mod_eq_of_lt h
/-- How much room there is from the i-th byte on. -/
def room (i : Nat) : Nat := 2 ^ (64 - 7 * i)
theorem room_succ {i : Nat} (h : i < 9) : room i = 128 * room (i + 1) := by
  unfold room
  rw [show 64 - 7 * i = 7 + (64 - 7 * (i + 1)) by omega, Nat.pow_add]
theorem room_nine : room 9 = 2 := rfl
theorem room_ge {i : Nat} (h : i < 9) : 256 ≤ room i := by
  rw [room_succ h]
  have : 2 ≤ room (i + 1) := by
    unfold room
    calc 2 = 2 ^ 1 := rfl
      _ ≤ _ := Nat.pow_le_pow_right (by omega) (by omega)
  omega
theorem shift_succ (i m : Nat) : m * 2 ^ (7 * (i + 1)) = m * 128 * 2 ^ (7 * i) := by
  rw [Nat.mul_add, Nat.pow_add, show (2 : Nat) ^ (7 * 1) = 128 from rfl, Nat.mul_comm (2 ^ (7 * i)) 128, Nat.mul_assoc]
theorem go_put (m : Nat) : ∀ (i acc : Nat) (r : List UInt8), i ≤ 9 → m < room i → (0 < m ∨ i = 0) → go (put m ++ r) i acc = .ok (acc + m * 2 ^ (7 * i)) (i + (put m).length) := by
  induction m using Nat.strongRecOn with
  | ind m ih =>
    intro i acc r hi hm h0
    by_cases h : m < 128
    · rw [put_small h, List.singleton_append]
      simp only [go, List.length_singleton]
      rw [u8_small (by omega), if_neg (fun hh => by obtain ⟨rfl, h1⟩ := hh; rw [room_nine] at hm; omega), if_pos h, if_neg (fun hh => by omega), Nat.mod_eq_of_lt h]
    · have hi9 : i < 9 := by
        rcases Nat.lt_or_ge i 9 with h9 | h9
        · exact h9
        · have : i = 9 := by omega
          subst this; rw [room_nine] at hm; omega
      rw [put_big h, List.cons_append]
      simp only [go]
      rw [u8_small (by omega), if_neg (by omega), if_neg (by omega), ih (m / 128) (by omega) (i + 1) _ r (by omega) (by rw [room_succ hi9] at hm; omega) (Or.inl (by omega)), shift_succ]
      have e1 : (m % 128 + 128) % 128 = m % 128 := by omega
      have e2 : acc + (m % 128 + 128) % 128 * 2 ^ (7 * i) + m / 128 * 128 * 2 ^ (7 * i) = acc + m * 2 ^ (7 * i) := by
        rw [e1, Nat.add_assoc, ← Nat.add_mul]
        congr 2; omega
      rw [e2, List.length_cons]
      congr 1; omega
theorem room_zero : room 0 = 18446744073709551616 := rfl
/-- What is written is read, whatever stands behind it. -/
theorem get_put (n : Nat) (r : List UInt8) (h : n < 18446744073709551616) : get (put n ++ r) = .ok n (put n).length := by
  have := go_put n 0 0 r (by omega) (by rw [room_zero]; exact h) (Or.inr rfl)
  simpa [get] using this
theorem go_ok (l : List UInt8) : ∀ (i acc n k : Nat), i ≤ 9 → go l i acc = .ok n k → ∃ m, n = acc + m * 2 ^ (7 * i) ∧ i < k ∧ k ≤ i + l.length ∧ put m = l.take (k - i) ∧ m < room i ∧ (0 < i → 0 < m) := by
  induction l with
  | nil => intro i acc n k _ h; simp [go] at h
  | cons c r ih =>
    intro i acc n k hi h
    have hc := c.toNat_lt
    simp only [go] at h
    by_cases h9 : i = 9 ∧ 1 < c.toNat
    · rw [if_pos h9] at h; cases h
    · rw [if_neg h9] at h
      by_cases h1 : c.toNat < 128
      · rw [if_pos h1] at h
        by_cases h0 : c.toNat = 0 ∧ 0 < i
        · rw [if_pos h0] at h; cases h
        · rw [if_neg h0] at h
          injection h with e1 e2
          refine ⟨c.toNat, by rw [← e1, Nat.mod_eq_of_lt h1], by omega, by simp; omega, ?_, ?_, by omega⟩
          · rw [put_small h1, ← e2, show i + 1 - i = 1 by omega, List.take_succ_cons, List.take_zero, UInt8.ofNat_toNat]
          · rcases Nat.lt_or_ge i 9 with hlt | hge
            · have := room_ge hlt; omega
            · have : i = 9 := by omega
              subst this; rw [room_nine]; omega
      · rw [if_neg h1] at h
        have hi9 : i < 9 := by omega
        obtain ⟨m, e1, e2, e3, e4, e5, e6⟩ := ih (i + 1) _ n k (by omega) h
        have hm := e6 (by omega)
        refine ⟨c.toNat % 128 + 128 * m, ?_, by omega, by simp; omega, ?_, by rw [room_succ hi9]; omega, by omega⟩
        · rw [e1, shift_succ, Nat.add_assoc, ← Nat.add_mul, Nat.mul_comm m 128]
        · rw [put_big (by omega)]
          have e7 : (c.toNat % 128 + 128 * m) % 128 + 128 = c.toNat := by omega
          have e8 : (c.toNat % 128 + 128 * m) / 128 = m := by omega
          rw [e7, e8, e4, UInt8.ofNat_toNat, show k - i = (k - (i + 1)) + 1 by omega, List.take_succ_cons]
/-- What is read is written so. -/
theorem get_ok (l : List UInt8) (n k : Nat) (h : get l = .ok n k) : 1 ≤ k ∧ k ≤ l.length ∧ put n = l.take k ∧ n < 18446744073709551616 := by
  obtain ⟨m, e1, e2, e3, e4, e5, _⟩ := go_ok l 0 0 n k (by omega) h
  have : n = m := by simpa using e1
  subst this
  exact ⟨by omega, by omega, by simpa using e4, by rw [← room_zero]; exact e5⟩
theorem put_len (n : Nat) (h : n < 18446744073709551616) : (put n).length ≤ 10 := by
  have h1 := get_put n [] h
  have hk : ∀ (l : List UInt8) (i acc n k : Nat), i ≤ 9 → go l i acc = .ok n k → k ≤ 10 := by
    intro l
    induction l with
    | nil => intro i acc n k _ h; simp [go] at h
    | cons c r ih =>
      intro i acc n k hi h
      simp only [go] at h
      split at h
      · cases h
      · rename_i h9
        split at h
        · split at h
          · cases h
          · injection h with e1 e2; omega
        · exact ih (i + 1) _ n k (by omega) h
  exact hk _ 0 0 _ _ (by omega) h1
/-- No beginning is one. -/
theorem go_cut (m : Nat) : ∀ (i acc j : Nat), i ≤ 9 → m < room i → j < (put m).length → go ((put m).take j) i acc = .bad 7 := by
  induction m using Nat.strongRecOn with
  | ind m ih =>
    intro i acc j hi hm hj
    by_cases h : m < 128
    · rw [put_small h] at hj ⊢
      have : j = 0 := by simp at hj; omega
      subst this; rfl
    · have hi9 : i < 9 := by
        rcases Nat.lt_or_ge i 9 with h9 | h9
        · exact h9
        · have : i = 9 := by omega
          subst this; rw [room_nine] at hm; omega
      rw [put_big h] at hj ⊢
      cases j with
      | zero => rfl
      | succ j =>
        rw [List.take_succ_cons]
        simp only [go]
        rw [u8_small (by omega), if_neg (by omega), if_neg (by omega)]
        exact ih (m / 128) (by omega) (i + 1) _ j (by omega) (by rw [room_succ hi9] at hm; omega) (by simpa using hj)
theorem get_cut (n j : Nat) (h : n < 18446744073709551616) (hj : j < (put n).length) : get ((put n).take j) = .bad 7 :=
  go_cut n 0 0 j (by omega) (by rw [room_zero]; exact h) hj
/-- A number that is less has no more bytes. -/
theorem put_mono (a : Nat) : ∀ b, a ≤ b → (put a).length ≤ (put b).length := by
  induction a using Nat.strongRecOn with
  | ind a ih =>
    intro b hab
    by_cases h : a < 128
    · rw [put_small h]; exact put_pos b
    · rw [put_big (n := a) h, put_big (n := b) (by omega), List.length_cons, List.length_cons]
      have := ih (a / 128) (by omega) (b / 128) (by omega)
      omega
/-- A number of no more than so much. -/
def int (l : List UInt8) (most : Int) : Got :=
  match get l with
  | .bad e => .bad e
  | .ok n k => if most < 0 ∨ most < (n : Int) then .bad 2 else .ok n k
theorem int_bad {l : List UInt8} {most : Int} {e : Nat} (h : get l = .bad e) : int l most = .bad e := by simp only [int, h]
theorem int_ok {l : List UInt8} {most : Int} {n k : Nat} (h : get l = .ok n k) (hm : ¬ (most < 0 ∨ most < (n : Int))) : int l most = .ok n k := by simp only [int, h]; rw [if_neg hm]
theorem int_range {l : List UInt8} {most : Int} {n k : Nat} (h : get l = .ok n k) (hm : most < 0 ∨ most < (n : Int)) : int l most = .bad 2 := by simp only [int, h]; rw [if_pos hm]
/-- A sign below. -/
def zig (n : Int) : Nat := if 0 ≤ n then (2 * n).toNat else (-2 * n - 1).toNat
def zag (u : Nat) : Int := if u % 2 = 0 then ((u / 2 : Nat) : Int) else -((u / 2 : Nat) : Int) - 1
theorem zag_zig (n : Int) : zag (zig n) = n := by
  unfold zig
  by_cases h : 0 ≤ n
  · rw [if_pos h]; unfold zag; rw [if_pos (by omega)]; omega
  · rw [if_neg h]; unfold zag; rw [if_neg (by omega)]; omega
theorem zig_zag (u : Nat) : zig (zag u) = u := by
  unfold zag
  by_cases h : u % 2 = 0
  · rw [if_pos h]; unfold zig; rw [if_pos (by omega)]; omega
  · rw [if_neg h]; unfold zig; rw [if_neg (by omega)]; omega
theorem zig_lt (n : Int) (h1 : -9223372036854775808 ≤ n) (h2 : n ≤ 9223372036854775807) : zig n < 18446744073709551616 := by
  unfold zig; split <;> omega
theorem zag_lt (u : Nat) (h : u < 18446744073709551616) : -9223372036854775808 ≤ zag u ∧ zag u ≤ 9223372036854775807 := by
  unfold zag; split <;> omega
end Vary
end Go.Proofs.YtognjohloobliaaDoor
/- Plain laws of texts with their lengths ahead. -/
namespace Go.Proofs.YtognjohloobliaaDoor
namespace Span
inductive Got where
  | ok (t : List UInt8) (k : Nat)
  | bad (e : Nat)
def put (l : List UInt8) : List UInt8 := Vary.put l.length ++ l
def get (l : List UInt8) : Got :=
  match Vary.int l 2000 with
  | .bad e => if e = 2 then .bad 4 else .bad e
  | .ok n k => if l.length < k + n then .bad 7 else .ok ((l.drop k).take n) (k + n)
theorem get_bad {l : List UInt8} {e : Nat} (h : Vary.int l 2000 = .bad e) : get l = if e = 2 then .bad 4 else .bad e := by simp only [get, h]
theorem get_short {l : List UInt8} {n k : Nat} (h : Vary.int l 2000 = .ok n k) (hl : l.length < k + n) : get l = .bad 7 := by simp only [get, h]; rw [if_pos hl]
theorem get_full {l : List UInt8} {n k : Nat} (h : Vary.int l 2000 = .ok n k) (hl : ¬ l.length < k + n) : get l = .ok ((l.drop k).take n) (k + n) := by simp only [get, h]; rw [if_neg hl]
theorem int_inv {l : List UInt8} {n k : Nat} {m : Int} (h : Vary.int l m = .ok n k) : Vary.get l = .ok n k ∧ (n : Int) ≤ m := by
  simp only [Vary.int] at h
  split at h
  · cases h
  · rename_i n' k' hg
    split at h
    · cases h
    · injection h with e1 e2
      subst e1; subst e2
      exact ⟨hg, by omega⟩
/-- What is written is read, whatever stands behind. -/
theorem get_put (l r : List UInt8) (h : l.length ≤ 2000) : get (put l ++ r) = .ok l (put l).length := by
  have h1 := Vary.get_put l.length (l ++ r) (by omega)
  rw [← List.append_assoc] at h1
  have h2 : Vary.int (put l ++ r) 2000 = .ok l.length (Vary.put l.length).length := Vary.int_ok h1 (by omega)
  have hl : (put l ++ r).length = (Vary.put l.length).length + l.length + r.length := by simp [put]; omega
  rw [get_full h2 (by omega)]
  congr 1
  · unfold put
    rw [List.append_assoc, List.drop_left, List.take_left]
  · simp [put]
/-- What is read is written so. -/
theorem get_ok {l t : List UInt8} {k : Nat} (h : get l = .ok t k) : t.length ≤ 2000 ∧ 1 ≤ k ∧ k ≤ l.length ∧ put t = l.take k ∧ (put t).length = k := by
  simp only [get] at h
  split at h
  · split at h <;> cases h
  · rename_i n k' hi
    split at h
    · cases h
    · rename_i hl
      injection h with e1 e2
      obtain ⟨hg, hn⟩ := int_inv hi
      obtain ⟨h1, h2, h3, h4⟩ := Vary.get_ok _ _ _ hg
      have ht : t.length = n := by rw [← e1]; simp; omega
      refine ⟨by omega, by omega, by omega, ?_, ?_⟩
      · unfold put
        rw [ht, h3, ← e1, ← e2, List.take_add]
      · unfold put
        rw [List.length_append, ht, h3, ← e2]; simp; omega
/-- No beginning is one. -/
theorem get_cut (l : List UInt8) (j : Nat) (h : l.length ≤ 2000) (hj : j < (put l).length) : get ((put l).take j) = .bad 7 := by
  have hpl : (put l).length = (Vary.put l.length).length + l.length := by simp [put]
  by_cases hc : j < (Vary.put l.length).length
  · have e : (put l).take j = (Vary.put l.length).take j := by
      unfold put; rw [List.take_append_of_le_length (by omega)]
    have h1 := Vary.get_cut l.length j (by omega) hc
    rw [e, get_bad (Vary.int_bad h1), if_neg (by omega)]
  · have e : (put l).take j = Vary.put l.length ++ l.take (j - (Vary.put l.length).length) := by
      unfold put; rw [List.take_append, List.take_of_length_le (by omega)]
    have h1 := Vary.get_put l.length (l.take (j - (Vary.put l.length).length)) (by omega)
    rw [← e] at h1
    exact get_short (Vary.int_ok h1 (by omega)) (by rw [List.length_take]; omega)
end Span
end Go.Proofs.YtognjohloobliaaDoor
