/- Plain laws of numbers in as few bytes as they need. -/
namespace Go.Proofs.YtognjohloobliaaGreatDoor
namespace Vary
/-- A number, seven bits a byte. -/
def put (n : Nat) : List UInt8 := if n < 128 then [UInt8.ofNat n] else UInt8.ofNat (n % 128 + 128) :: put (n / 128)
termination_by n
theorem put_small {n : Nat} (h : n < 128) : put n = [UInt8.ofNat n] := by rw [put, if_pos h]
theorem put_big {n : Nat} (h : ¬ n < 128) : put n = UInt8.ofNat (n % 128 + 128) :: put (n / 128) := by rw [put, if_neg h]
inductive Got where
 | ok (n k : Nat)
 | bad (e : Nat)
deriving DecidableEq
/-- Byte by byte, from the i-th on, with what was gathered so far. -/
def go : List UInt8 → Nat → Nat → Got
 | [], _, _ => .bad 7
 | c :: r, i, acc =>
  if i = 9 ∧ 1 < c.toNat then .bad 4
  else if c.toNat < 128 then
   if c.toNat = 0 ∧ 0 < i then .bad 3 else .ok (acc + c.toNat % 128 * 2 ^ (7 * i)) (i + 1)
  else go r (i + 1) (acc + c.toNat % 128 * 2 ^ (7 * i))
def get (l : List UInt8) : Got := go l 0 0
theorem u8_small {n : Nat} (h : n < 256) : (UInt8.ofNat n).toNat = n := by
 rw [UInt8.toNat_ofNat']; exact Nat.mod_eq_of_lt h
/-- How much room there is from the i-th byte on. -/
def room (i : Nat) : Nat := 2 ^ (64 - 7 * i)
theorem room_succ {i : Nat} (h : i < 9) : room i = 128 * room (i + 1) := by
 unfold room
 rw [show 64 - 7 * i = 7 + (64 - 7 * (i + 1)) by omega, Nat.pow_add]
theorem room_nine : room 9 = 2 := rfl
theorem shift_succ (i m : Nat) : m * 2 ^ (7 * (i + 1)) = m * 128 * 2 ^ (7 * i) := by
 rw [Nat.mul_add, Nat.pow_add, show (2 : Nat) ^ (7 * 1) = 128 from rfl, Nat.mul_comm (2 ^ (7 * i)) 128, Nat.mul_assoc]
theorem go_put (m : Nat) : ∀ (i acc : Nat) (r : List UInt8), i ≤ 9 → m < room i → (0 < m ∨ i = 0) → go (put m ++ r) i acc = .ok (acc + m * 2 ^ (7 * i)) (i + (put m).length) := by
 induction m using Nat.strongRecOn with
 | ind m ih =>
  intro i acc r hi hm h0
  by_cases h : m < 128
  ·rw [put_small h, List.singleton_append]
   simp only [go, List.length_singleton]
   rw [u8_small (by omega), if_neg (fun hh => by obtain ⟨rfl, h1⟩ := hh; rw [room_nine] at hm; omega), if_pos h, if_neg (fun hh => by omega), Nat.mod_eq_of_lt h]
  ·have hi9 : i < 9 := by
    rcases Nat.lt_or_ge i 9 with h9 | h9
    ·exact h9
    ·have : i = 9 := by omega
     subst this; rw [room_nine] at hm; omega
   rw [put_big h, List.cons_append]
   simp only [go]
   rw [u8_small (by omega), if_neg (by omega), if_neg (by omega), ih (m / 128) (by omega) (i + 1) _ r (by omega) (by rw [room_succ hi9] at hm; omega) (Or.inl (by omega)), shift_succ]
   have e1 : (m % 128 + 128) % 128 = m % 128 := by omega
   have e2 : acc + (m % 128 + 128) % 128 * 2 ^ (7 * i) + m / 128 * 128 * 2 ^ (7 * i) = acc + m * 2 ^ (7 * i) := by
    rw [e1, Nat.add_assoc, ← Nat.add_mul]
    congr 2; omega
   rw [e2, List.length_cons]
   congr 1; omega
theorem room_zero : room 0 = 18446744073709551616 := rfl
/-- What is written is read, whatever stands behind it. -/
theorem get_put (n : Nat) (r : List UInt8) (h : n < 18446744073709551616) : get (put n ++ r) = .ok n (put n).length := by
 have := go_put n 0 0 r (by omega) (by rw [room_zero]; exact h) (Or.inr rfl)
 simpa [get] using this
theorem put_len (n : Nat) (h : n < 18446744073709551616) : (put n).length ≤ 10 := by
 have h1 := get_put n [] h
 have hk : ∀ (l : List UInt8) (i acc n k : Nat), i ≤ 9 → go l i acc = .ok n k → k ≤ 10 := by
  intro l
  induction l with
  | nil => intro i acc n k _ h; simp [go] at h
  | cons c r ih =>
   intro i acc n k hi h
   simp only [go] at h
   split at h
   ·cases h
   ·rename_i h9
    split at h
    ·split at h
     ·cases h
     ·injection h with e1 e2; omega
    ·exact ih (i + 1) _ n k (by omega) h
 exact hk _ 0 0 _ _ (by omega) h1
end Vary
end Go.Proofs.YtognjohloobliaaGreatDoor
/- Plain laws of texts with their lengths ahead. -/
namespace Go.Proofs.YtognjohloobliaaGreatDoor
namespace Span
end Span
end Go.Proofs.YtognjohloobliaaGreatDoor
/- Plain words for vectors. -/
namespace Go.Proofs.YtognjohloobliaaGreatDoor
namespace Vec
/-- An entry: its replica, its time. -/
structure Entry where
 r : Int
 t : Int
deriving DecidableEq
/-- How far a replica is known. -/
def of : List Entry → Int → Int
 | [], _ => 0
 | x :: l, r => if x.r = r then x.t else of l r
theorem of_drop (l : List Entry) (k : Nat) (r : Int) (h : k < l.length) : of (l.drop k) r = if l[k].r = r then l[k].t else of (l.drop (k + 1)) r := by
 rw [List.drop_eq_getElem_cons h]; rfl
end Vec
end Go.Proofs.YtognjohloobliaaGreatDoor
/- Plain laws of vectors: what is right, joined, covered. -/
namespace Go.Proofs.YtognjohloobliaaGreatDoor
/-- An error: none, a number, or a number at a place. -/
inductive Err where
 | ok
 | no (n : Nat)
 | at_ (n i : Nat)
deriving DecidableEq
def Err.code : Err → Nat
 | .ok => 0
 | .no n => n
 | .at_ n _ => n
namespace Vec
set_option linter.unusedVariables false
def Sorted (l : List Entry) : Prop := l.Pairwise (fun x y => x.r < y.r)
def Pos (l : List Entry) : Prop := ∀ x ∈ l, 1 ≤ x.t
theorem of_zero {l : List Entry} {r : Int} (h : ∀ y ∈ l, y.r ≠ r) : of l r = 0 := by
 induction l with
 | nil => rfl
 | cons x l ih =>
  simp only [of]
  rw [if_neg (h x (List.mem_cons_self ..))]
  exact ih fun y hy => h y (List.mem_cons_of_mem _ hy)
theorem of_pos {l : List Entry} (hp : Pos l) (r : Int) : 0 ≤ of l r := by
 induction l with
 | nil => exact Int.le_refl 0
 | cons x l ih =>
  simp only [of]
  split
  ·have := hp x (List.mem_cons_self ..); omega
  ·exact ih fun y hy => hp y (List.mem_cons_of_mem _ hy)
theorem sorted_head {x : Entry} {l : List Entry} (h : Sorted (x :: l)) : (∀ y ∈ l, x.r < y.r) ∧ Sorted l := List.pairwise_cons.1 h
theorem of_mem {l : List Entry} (h : Sorted l) {x : Entry} (hx : x ∈ l) : of l x.r = x.t := by
 induction l with
 | nil => cases hx
 | cons y l ih =>
  obtain ⟨h1, h2⟩ := sorted_head h
  simp only [of]
  rcases List.mem_cons.1 hx with rfl | hm
  ·rw [if_pos rfl]
  ·have := h1 x hm
   rw [if_neg (by omega)]
   exact ih h2 hm
theorem of_head {x : Entry} {l : List Entry} {r : Int} (h : x.r ≠ r) : of (x :: l) r = of l r := by
 simp only [of]; rw [if_neg h]
theorem of_self {x : Entry} {l : List Entry} : of (x :: l) x.r = x.t := by simp [of]
/-- Two that know as much are one. -/
theorem ext {a b : List Entry} (ha : Sorted a) (hb : Sorted b) (pa : Pos a) (pb : Pos b) (h : ∀ r, of a r = of b r) : a = b := by
 induction a generalizing b with
 | nil =>
  cases b with
  | nil => rfl
  | cons y b =>
   have h1 := h y.r
   rw [of_self] at h1
   have := pb y (List.mem_cons_self ..)
   simp only [of] at h1; omega
 | cons x a ih =>
  cases b with
  | nil =>
   have h1 := h x.r
   rw [of_self] at h1
   have := pa x (List.mem_cons_self ..)
   simp only [of] at h1; omega
  | cons y b =>
   obtain ⟨a1, a2⟩ := sorted_head ha
   obtain ⟨b1, b2⟩ := sorted_head hb
   have px := pa x (List.mem_cons_self ..)
   have py := pb y (List.mem_cons_self ..)
   have hr : x.r = y.r := by
    rcases Int.lt_trichotomy x.r y.r with hlt | he | hlt
    ·have h1 := h x.r
     rw [of_self, of_zero (l := y :: b) (fun z hz => by
      rcases List.mem_cons.1 hz with rfl | hz
      ·omega
      ·have := b1 z hz; omega)] at h1
     omega
    ·exact he
    ·have h1 := h y.r
     rw [of_self, of_zero (l := x :: a) (fun z hz => by
      rcases List.mem_cons.1 hz with rfl | hz
      ·omega
      ·have := a1 z hz; omega)] at h1
     omega
   have ht : x.t = y.t := by
    have h1 := h x.r
    rw [of_self, hr, of_self] at h1; exact h1
   have hxy : x = y := by
    cases x; cases y; simp only at hr ht; rw [hr, ht]
   subst hxy
   rw [ih a2 b2 (fun z hz => pa z (List.mem_cons_of_mem _ hz)) (fun z hz => pb z (List.mem_cons_of_mem _ hz)) (fun r => by
    by_cases hx : x.r = r
    ·rw [of_zero (fun z hz => by have := a1 z hz; omega), of_zero (fun z hz => by have := b1 z hz; omega)]
    ·have := h r
     rw [of_head hx, of_head hx] at this; exact this)]
/-- Both together. -/
def merge : List Entry → List Entry → List Entry
 | [], b => b
 | x :: a, [] => x :: a
 | x :: a, y :: b =>
  if x.r < y.r then x :: merge a (y :: b)
  else if y.r < x.r then y :: merge (x :: a) b
  else ⟨x.r, max x.t y.t⟩ :: merge a b
termination_by a b => a.length + b.length
theorem merge_nil (b : List Entry) : merge [] b = b := by rw [merge]
theorem merge_nil' (a : List Entry) : merge a [] = a := by cases a <;> rw [merge]
theorem merge_lt {x y : Entry} {a b : List Entry} (h : x.r < y.r) : merge (x :: a) (y :: b) = x :: merge a (y :: b) := by rw [merge, if_pos h]
theorem merge_gt {x y : Entry} {a b : List Entry} (h : y.r < x.r) : merge (x :: a) (y :: b) = y :: merge (x :: a) b := by rw [merge, if_neg (by omega), if_pos h]
theorem merge_eq {x y : Entry} {a b : List Entry} (h : x.r = y.r) : merge (x :: a) (y :: b) = ⟨x.r, max x.t y.t⟩ :: merge a b := by rw [merge, if_neg (by omega), if_neg (by omega)]
theorem merge_all {Q : Entry → Prop} (hQ : ∀ x y : Entry, Q x → Q y → x.r = y.r → Q ⟨x.r, max x.t y.t⟩) (a b : List Entry) (ha : ∀ x ∈ a, Q x) (hb : ∀ x ∈ b, Q x) : ∀ x ∈ merge a b, Q x := by
 match a, b with
 | [], b => rw [merge_nil]; exact hb
 | x :: a, [] => rw [merge_nil']; exact ha
 | x :: a, y :: b =>
  rcases Int.lt_trichotomy x.r y.r with h | h | h
  ·rw [merge_lt h]
   intro z hz
   rcases List.mem_cons.1 hz with rfl | hz
   ·exact ha z (List.mem_cons_self ..)
   ·exact merge_all hQ a (y :: b) (fun z hz => ha z (List.mem_cons_of_mem _ hz)) hb z hz
  ·rw [merge_eq h]
   intro z hz
   rcases List.mem_cons.1 hz with rfl | hz
   ·exact hQ x y (ha x (List.mem_cons_self ..)) (hb y (List.mem_cons_self ..)) h
   ·exact merge_all hQ a b (fun z hz => ha z (List.mem_cons_of_mem _ hz)) (fun z hz => hb z (List.mem_cons_of_mem _ hz)) z hz
  ·rw [merge_gt h]
   intro z hz
   rcases List.mem_cons.1 hz with rfl | hz
   ·exact hb z (List.mem_cons_self ..)
   ·exact merge_all hQ (x :: a) b ha (fun z hz => hb z (List.mem_cons_of_mem _ hz)) z hz
termination_by a.length + b.length
theorem merge_pos {a b : List Entry} (ha : Pos a) (hb : Pos b) : Pos (merge a b) := merge_all (Q := fun x => 1 ≤ x.t) (fun x y h1 h2 _ => by show 1 ≤ max x.t y.t; omega) a b ha hb
theorem merge_above {a b : List Entry} {k : Int} (ha : ∀ x ∈ a, k < x.r) (hb : ∀ x ∈ b, k < x.r) : ∀ x ∈ merge a b, k < x.r := merge_all (Q := fun x => k < x.r) (fun x y h1 _ _ => h1) a b ha hb
theorem merge_sorted (a b : List Entry) (ha : Sorted a) (hb : Sorted b) : Sorted (merge a b) := by
 match a, b with
 | [], b => rw [merge_nil]; exact hb
 | x :: a, [] => rw [merge_nil']; exact ha
 | x :: a, y :: b =>
  obtain ⟨a1, a2⟩ := sorted_head ha
  obtain ⟨b1, b2⟩ := sorted_head hb
  rcases Int.lt_trichotomy x.r y.r with h | h | h
  ·rw [merge_lt h]
   refine List.pairwise_cons.2 ⟨merge_above a1 (fun z hz => ?_), merge_sorted a (y :: b) a2 hb⟩
   rcases List.mem_cons.1 hz with rfl | hz
   ·exact h
   ·have := b1 z hz; omega
  ·rw [merge_eq h]
   exact List.pairwise_cons.2 ⟨merge_above a1 (fun z hz => by have := b1 z hz; show x.r < z.r; omega), merge_sorted a b a2 b2⟩
  ·rw [merge_gt h]
   refine List.pairwise_cons.2 ⟨merge_above (fun z hz => ?_) b1, merge_sorted (x :: a) b ha b2⟩
   rcases List.mem_cons.1 hz with rfl | hz
   ·exact h
   ·have := a1 z hz; omega
termination_by a.length + b.length
theorem of_merge (a b : List Entry) (ha : Sorted a) (hb : Sorted b) (pa : Pos a) (pb : Pos b) (r : Int) : of (merge a b) r = max (of a r) (of b r) := by
 match a, b with
 | [], b => rw [merge_nil]; have := of_pos pb r; simp only [of]; omega
 | x :: a, [] => rw [merge_nil']; have := of_pos pa r; simp only [of] at *; omega
 | x :: a, y :: b =>
  obtain ⟨a1, a2⟩ := sorted_head ha
  obtain ⟨b1, b2⟩ := sorted_head hb
  have pa' : Pos a := fun z hz => pa z (List.mem_cons_of_mem _ hz)
  have pb' : Pos b := fun z hz => pb z (List.mem_cons_of_mem _ hz)
  have px := pa x (List.mem_cons_self ..)
  have py := pb y (List.mem_cons_self ..)
  rcases Int.lt_trichotomy x.r y.r with h | h | h
  ·rw [merge_lt h]
   by_cases hx : x.r = r
   ·subst hx
    have h0 : of (y :: b) x.r = 0 := of_zero fun z hz => by
     rcases List.mem_cons.1 hz with rfl | hz
     ·omega
     ·have := b1 z hz; omega
    rw [of_self, of_self, h0]; omega
   ·rw [of_head hx, of_head hx]; exact of_merge a (y :: b) a2 hb pa' pb r
  ·rw [merge_eq h]
   by_cases hx : x.r = r
   ·have e1 : of (⟨x.r, max x.t y.t⟩ :: merge a b) r = max x.t y.t := by rw [← hx]; exact of_self
    have e2 : of (x :: a) r = x.t := by rw [← hx]; exact of_self
    have e3 : of (y :: b) r = y.t := by rw [← hx, h]; exact of_self
    rw [e1, e2, e3]
   ·have e1 : of (⟨x.r, max x.t y.t⟩ :: merge a b) r = of (merge a b) r := of_head hx
    rw [e1, of_head hx, of_head (by omega)]; exact of_merge a b a2 b2 pa' pb' r
  ·rw [merge_gt h]
   by_cases hy : y.r = r
   ·subst hy
    have h0 : of (x :: a) y.r = 0 := of_zero fun z hz => by
     rcases List.mem_cons.1 hz with rfl | hz
     ·omega
     ·have := a1 z hz; omega
    rw [of_self, of_self, h0]; omega
   ·rw [of_head hy, of_head hy]; exact of_merge (x :: a) b ha b2 pa pb' r
termination_by a.length + b.length
/-- What is wrong with an entry behind another one; 0: nothing. -/
def wrong (prev : Option Entry) (x : Entry) : Nat :=
 if x.r < 0 ∨ 200 < x.r ∨ x.t < 1 ∨ 1099511627776 < x.t then 2
 else match prev with
  | none => 0
  | some p => if x.r ≤ p.r then 10 else 0
def wrongs : List Entry → Option Entry → Nat → Err
 | [], _, _ => .ok
 | x :: l, prev, i => if wrong prev x ≠ 0 then .at_ (wrong prev x) i else wrongs l (some x) (i + 1)
def right (l : List Entry) : Err := if 16 < l.length then .no 4 else wrongs l none 0
structure Fine (l : List Entry) : Prop where
 len : l.length ≤ 16
 sorted : Sorted l
 each : ∀ x ∈ l, 0 ≤ x.r ∧ x.r ≤ 200 ∧ 1 ≤ x.t ∧ x.t ≤ 1099511627776
theorem Fine.pos {l : List Entry} (h : Fine l) : Pos l := fun x hx => (h.each x hx).2.2.1
theorem wrongs_ok (l : List Entry) (prev : Option Entry) (i : Nat) : wrongs l prev i = .ok ↔ (Sorted l ∧ (∀ x ∈ l, 0 ≤ x.r ∧ x.r ≤ 200 ∧ 1 ≤ x.t ∧ x.t ≤ 1099511627776) ∧ ∀ p, prev = some p → ∀ x ∈ l, p.r < x.r) := by
 induction l generalizing prev i with
 | nil => simp [wrongs, Sorted]
 | cons x l ih =>
  simp only [wrongs]
  by_cases hw : wrong prev x ≠ 0
  ·rw [if_pos hw]
   constructor
   ·intro h; cases h
   ·rintro ⟨_, h2, h3⟩
    exfalso
    apply hw
    have hx := h2 x (List.mem_cons_self ..)
    unfold wrong
    rw [if_neg (by omega)]
    cases prev with
    | none => rfl
    | some p =>
     have := h3 p rfl x (List.mem_cons_self ..)
     simp only
     rw [if_neg (by omega)]
  ·rw [if_neg hw, ih]
   have hw0 : wrong prev x = 0 := by omega
   unfold wrong at hw0
   split at hw0
   ·cases hw0
   ·rename_i hr
    constructor
    ·rintro ⟨h1, h2, h3⟩
     refine ⟨List.pairwise_cons.2 ⟨h3 x rfl, h1⟩, fun z hz => ?_, fun p hp z hz => ?_⟩
     ·rcases List.mem_cons.1 hz with rfl | hz
      ·omega
      ·exact h2 z hz
     ·subst hp
      simp only at hw0
      have hpx : p.r < x.r := by
       by_cases h : x.r ≤ p.r
       ·rw [if_pos h] at hw0; cases hw0
       ·omega
      rcases List.mem_cons.1 hz with rfl | hz
      ·exact hpx
      ·have := h3 x rfl z hz; omega
    ·rintro ⟨h1, h2, h3⟩
     obtain ⟨s1, s2⟩ := sorted_head h1
     exact ⟨s2, fun z hz => h2 z (List.mem_cons_of_mem _ hz), fun p hp z hz => by cases hp; exact s1 z hz⟩
theorem right_iff (l : List Entry) : right l = .ok ↔ Fine l := by
 unfold right
 by_cases h : 16 < l.length
 ·rw [if_pos h]
  constructor
  ·intro h; cases h
  ·intro hf; have := hf.len; omega
 ·rw [if_neg h, wrongs_ok]
  constructor
  ·rintro ⟨h1, h2, _⟩; exact ⟨by omega, h1, h2⟩
  ·rintro ⟨_, h1, h2⟩; exact ⟨h1, h2, fun p hp => by cases hp⟩
theorem merge_fine {a b : List Entry} (ha : Fine a) (hb : Fine b) (hl : (merge a b).length ≤ 16) : Fine (merge a b) :=
 ⟨hl, merge_sorted _ _ ha.sorted hb.sorted, merge_all (Q := fun x => 0 ≤ x.r ∧ x.r ≤ 200 ∧ 1 ≤ x.t ∧ x.t ≤ 1099511627776) (fun x y h1 h2 _ => ⟨h1.1, h1.2.1, by show 1 ≤ max x.t y.t; omega, by show max x.t y.t ≤ _; omega⟩) a b ha.each hb.each⟩
/-- Whether the first one knows all that the other one does. -/
def Covers (a b : List Entry) : Prop := ∀ r, of b r ≤ of a r
theorem covers_iff {a b : List Entry} (hb : Sorted b) (pa : Pos a) : (∀ x ∈ b, x.t ≤ of a x.r) ↔ Covers a b := by
 constructor
 ·intro h r
  by_cases hr : ∃ x ∈ b, x.r = r
  ·obtain ⟨x, hx, rfl⟩ := hr
   rw [of_mem hb hx]; exact h x hx
  ·rw [of_zero (fun y hy e => hr ⟨y, hy, e⟩)]; exact of_pos pa r
 ·intro h x hx
  have := h x.r
  rw [of_mem hb hx] at this; exact this
theorem covers_refl (a : List Entry) : Covers a a := fun _ => Int.le_refl _
theorem covers_trans {a b c : List Entry} (h1 : Covers a b) (h2 : Covers b c) : Covers a c := fun r => Int.le_trans (h2 r) (h1 r)
theorem covers_least {a b c : List Entry} (ha : Fine a) (hb : Fine b) (h1 : Covers c a) (h2 : Covers c b) : Covers c (merge a b) := fun r => by
 rw [of_merge a b ha.sorted hb.sorted ha.pos hb.pos]; have := h1 r; have := h2 r; omega
end Vec
end Go.Proofs.YtognjohloobliaaGreatDoor
/- Plain laws of vectors as bytes. -/
namespace Go.Proofs.YtognjohloobliaaGreatDoor
namespace Vec
set_option linter.unusedVariables false
/-- How long a run beside each other is, so many of which have been seen. -/
def ext_ (r : Int) (k : Nat) : List Entry → Nat
 | [] => k
 | y :: l => if y.r = r + k then ext_ r (k + 1) l else k
theorem ext_ge (r : Int) (k : Nat) (l : List Entry) : k ≤ ext_ r k l := by
 induction l generalizing k with
 | nil => exact Nat.le_refl _
 | cons y l ih =>
  simp only [ext_]
  split
  ·have := ih (k + 1); omega
  ·exact Nat.le_refl _
theorem ext_le (r : Int) (k : Nat) (l : List Entry) : ext_ r k l ≤ k + l.length := by
 induction l generalizing k with
 | nil => simp [ext_]
 | cons y l ih =>
  simp only [ext_]
  split
  ·have := ih (k + 1); simp only [List.length_cons]; omega
  ·omega
theorem ext_drop (l : List Entry) (r : Int) (i k : Nat) (h : i < l.length) : ext_ r k (l.drop i) = if l[i].r = r + k then ext_ r (k + 1) (l.drop (i + 1)) else k := by
 rw [List.drop_eq_getElem_cons h]; rfl
theorem ext_end (l : List Entry) (r : Int) (i k : Nat) (h : l.length ≤ i) : ext_ r k (l.drop i) = k := by
 rw [List.drop_of_length_le h]; rfl
def times (l : List Entry) : List UInt8 := l.flatMap fun x => Vary.put x.t.toNat
/-- Runs, and their bytes. -/
def enc (first : Bool) (next : Int) : List Entry → Nat × List UInt8
 | [] => (0, [])
 | x :: l =>
  ((enc false (x.r + (ext_ x.r 1 l : Nat)) (l.drop (ext_ x.r 1 l - 1))).1 + 1,
   Vary.put (x.r - next - (if first then 0 else 1)).toNat ++ (Vary.put (ext_ x.r 1 l - 1) ++ (times ((x :: l).take (ext_ x.r 1 l)) ++ (enc false (x.r + (ext_ x.r 1 l : Nat)) (l.drop (ext_ x.r 1 l - 1))).2)))
termination_by l => l.length
decreasing_by all_goals (simp only [List.length_drop, List.length_cons]; omega)
theorem enc_nil (first : Bool) (next : Int) : enc first next [] = (0, []) := by rw [enc]
theorem enc_cons (first : Bool) (next : Int) (x : Entry) (l : List Entry) : enc first next (x :: l) = ((enc false (x.r + (ext_ x.r 1 l : Nat)) (l.drop (ext_ x.r 1 l - 1))).1 + 1,
   Vary.put (x.r - next - (if first then 0 else 1)).toNat ++ (Vary.put (ext_ x.r 1 l - 1) ++ (times ((x :: l).take (ext_ x.r 1 l)) ++ (enc false (x.r + (ext_ x.r 1 l : Nat)) (l.drop (ext_ x.r 1 l - 1))).2))) := by rw [enc]
def write (l : List Entry) : List UInt8 := Vary.put (enc true 0 l).1 ++ (enc true 0 l).2
theorem times_len (l : List Entry) (h : ∀ x ∈ l, x.t ≤ 1099511627776) : (times l).length ≤ 10 * l.length := by
 induction l with
 | nil => simp [times]
 | cons x l ih =>
  have h1 := ih fun y hy => h y (List.mem_cons_of_mem _ hy)
  have h2 := Vary.put_len x.t.toNat (by have := h x (List.mem_cons_self ..); omega)
  unfold times at *
  rw [List.flatMap_cons, List.length_append, List.length_cons]; omega
theorem enc_len (first : Bool) (next : Int) (l : List Entry) (h : ∀ x ∈ l, 0 ≤ x.r ∧ x.r ≤ 200 ∧ x.t ≤ 1099511627776) (hn : 0 ≤ next) (hl : l.length ≤ 1000) : (enc first next l).2.length ≤ 30 * l.length ∧ (enc first next l).1 ≤ l.length := by
 match l with
 | [] => rw [enc_nil]; simp
 | x :: l =>
  rw [enc_cons]
  have hx := h x (List.mem_cons_self ..)
  have hg := ext_ge x.r 1 l
  have hle := ext_le x.r 1 l
  have hl' : l.length ≤ 1000 := by simp only [List.length_cons] at hl; omega
  obtain ⟨i1, i2⟩ := enc_len false (x.r + (ext_ x.r 1 l : Nat)) (l.drop (ext_ x.r 1 l - 1)) (fun y hy => h y (List.mem_cons_of_mem _ (List.mem_of_mem_drop hy))) (by omega) (by rw [List.length_drop]; omega)
  have p1 := Vary.put_len (x.r - next - (if first then 0 else 1)).toNat (by split <;> omega)
  have p2 := Vary.put_len (ext_ x.r 1 l - 1) (by omega)
  have p3 := times_len ((x :: l).take (ext_ x.r 1 l)) (fun y hy => (h y (List.mem_of_mem_take hy)).2.2)
  rw [List.length_take] at p3
  rw [List.length_drop] at i1 i2
  simp only [List.length_append, List.length_cons] at *
  refine ⟨?_, ?_⟩
  ·omega
  ·omega
termination_by l.length
decreasing_by all_goals (simp only [List.length_drop, List.length_cons]; omega)
/-- What comes behind a run is farther. -/
theorem run_next (l : List Entry) (hs : Sorted l) (i : Nat) (hi : i < l.length) (k : Nat) (hk : 1 ≤ k) (h : ∀ j, j < k → ∃ hj : i + j < l.length, l[i + j].r = l[i].r + j) (hn : i + k < l.length) : l[i].r + k ≤ l[i + k].r := by
 obtain ⟨hj, he⟩ := h (k - 1) (by omega)
 have := List.pairwise_iff_getElem.1 hs (i + (k - 1)) (i + k) hj hn (by omega)
 omega
end Vec
end Go.Proofs.YtognjohloobliaaGreatDoor
/- Plain laws of vectors read from bytes. -/
namespace Go.Proofs.YtognjohloobliaaGreatDoor
namespace Vec
set_option linter.unusedVariables false
end Vec
end Go.Proofs.YtognjohloobliaaGreatDoor
/- Writes in plain words: what is right, their tails, and what fills them. No program. -/
namespace Go.Proofs.YtognjohloobliaaGreatDoor
structure Wr where
 t : Int
 r : Int
 k : Int
 key : List UInt8
 val : List UInt8
 n : Int
namespace Wr
def idRight (t r : Int) : Bool := decide (1 ≤ t ∧ t ≤ 1099511627776 ∧ 0 ≤ r ∧ r ≤ 200)
def right (x : Wr) : Nat :=
 if x.k < 1 ∨ 4 < x.k then 1
 else if idRight x.t x.r = false then 2
 else if 40 < x.key.length ∨ 300 < x.val.length then 4
 else if (x.k ≠ 1 ∧ x.k ≠ 4 ∧ x.val ≠ []) ∨ (x.k ≠ 3 ∧ x.k ≠ 4 ∧ x.n ≠ 0) then 3
 else if (x.k = 3 ∧ (x.n < -1125899906842624 ∨ 1125899906842624 < x.n)) ∨ (x.k = 4 ∧ (x.n < 0 ∨ 1000 < x.n)) then 2
 else 0
theorem right_zero {x : Wr} (h : right x = 0) : 1 ≤ x.k ∧ x.k ≤ 4 ∧ 1 ≤ x.t ∧ x.t ≤ 1099511627776 ∧ 0 ≤ x.r ∧ x.r ≤ 200 ∧ x.key.length ≤ 40 ∧ x.val.length ≤ 300 ∧ (x.k = 2 ∨ x.k = 3 → x.val = []) ∧ (x.k = 1 ∨ x.k = 2 → x.n = 0) ∧ (x.k = 3 → -1125899906842624 ≤ x.n ∧ x.n ≤ 1125899906842624) ∧ (x.k = 4 → 0 ≤ x.n ∧ x.n ≤ 1000) := by
 unfold right at h
 by_cases h1 : x.k < 1 ∨ 4 < x.k
 ·rw [if_pos h1] at h; cases h
 rw [if_neg h1] at h
 by_cases h2 : idRight x.t x.r = false
 ·rw [if_pos h2] at h; cases h
 rw [if_neg h2] at h
 by_cases h3 : 40 < x.key.length ∨ 300 < x.val.length
 ·rw [if_pos h3] at h; cases h
 rw [if_neg h3] at h
 by_cases h4 : (x.k ≠ 1 ∧ x.k ≠ 4 ∧ x.val ≠ []) ∨ (x.k ≠ 3 ∧ x.k ≠ 4 ∧ x.n ≠ 0)
 ·rw [if_pos h4] at h; cases h
 rw [if_neg h4] at h
 by_cases h5 : (x.k = 3 ∧ (x.n < -1125899906842624 ∨ 1125899906842624 < x.n)) ∨ (x.k = 4 ∧ (x.n < 0 ∨ 1000 < x.n))
 ·rw [if_pos h5] at h; cases h
 simp only [idRight, decide_eq_false_iff_not, Decidable.not_not] at h2
 refine ⟨by omega, by omega, h2.1, h2.2.1, h2.2.2.1, h2.2.2.2, by omega, by omega, fun h => ?_, fun h => ?_, fun h => by omega, fun h => by omega⟩
 ·by_cases hv : x.val = []
  ·exact hv
  ·exact absurd (Or.inl ⟨by omega, by omega, hv⟩) h4
 ·omega
end Wr
end Go.Proofs.YtognjohloobliaaGreatDoor
/- Batches in plain words: what is right. No program. -/
namespace Go.Proofs.YtognjohloobliaaGreatDoor
namespace Bat
set_option linter.unusedVariables false
def within (t r : Int) (a b : List Vec.Entry) : Bool := decide (Vec.of a r < t) && decide (t ≤ Vec.of b r)
def covers (a b : List Vec.Entry) : Bool := decide (Vec.right a = .ok) && (decide (Vec.right b = .ok) && b.all fun x => decide (x.t ≤ Vec.of a x.r))
def Later (p x : Wr) : Prop := p.t < x.t ∨ (p.t = x.t ∧ p.r < x.r)
instance (p x : Wr) : Decidable (Later p x) := by unfold Later; infer_instance
def behind (prev : Option Wr) (x : Wr) : Bool := match prev with
 | none => true
 | some p => decide (Later p x)
def wrong (f h : List Vec.Entry) (prev : Option Wr) (x : Wr) : Nat :=
 if Wr.right x ≠ 0 then Wr.right x
 else if behind prev x = false then 10
 else if within x.t x.r f h = false then 6 else 0
def wrongs (f h : List Vec.Entry) : List Wr → Option Wr → Nat → Err
 | [], _, _ => .ok
 | x :: l, prev, i => if wrong f h prev x ≠ 0 then .at_ (wrong f h prev x) i else wrongs f h l (some x) (i + 1)
def right (f h : List Vec.Entry) (ws : List Wr) : Err :=
 if Vec.right f ≠ .ok then .no (Vec.right f).code
 else if Vec.right h ≠ .ok then .no (Vec.right h).code
 else if covers h f = false then .no 13
 else if 60 < ws.length then .no 4
 else wrongs f h ws none 0
structure Fine (f h : List Vec.Entry) (ws : List Wr) : Prop where
 from_ : Vec.right f = .ok
 have_ : Vec.right h = .ok
 cov : covers h f = true
 len : ws.length ≤ 60
 each : ∀ x ∈ ws, Wr.right x = 0 ∧ within x.t x.r f h = true
 order : ws.Pairwise Later
theorem later_trans {a b c : Wr} (h1 : Later a b) (h2 : Later b c) : Later a c := by unfold Later at *; omega
theorem wrongs_ok (f h : List Vec.Entry) (l : List Wr) (prev : Option Wr) (i : Nat) : wrongs f h l prev i = .ok ↔ ((∀ x ∈ l, Wr.right x = 0 ∧ within x.t x.r f h = true) ∧ l.Pairwise Later ∧ ∀ p, prev = some p → ∀ x ∈ l, Later p x) := by
 induction l generalizing prev i with
 | nil => simp [wrongs]
 | cons x l ih =>
  simp only [wrongs]
  by_cases hw : wrong f h prev x ≠ 0
  ·rw [if_pos hw]
   constructor
   ·intro h; cases h
   ·rintro ⟨h1, h2, h3⟩
    exfalso
    apply hw
    obtain ⟨a1, a2⟩ := h1 x (List.mem_cons_self ..)
    unfold wrong
    rw [if_neg (by simp [a1]), if_neg, if_neg (by simp [a2])]
    cases prev with
    | none => simp [behind]
    | some p => simp [behind, h3 p rfl x (List.mem_cons_self ..)]
  ·rw [if_neg hw, ih]
   have hw0 : wrong f h prev x = 0 := by omega
   unfold wrong at hw0
   by_cases r0 : Wr.right x ≠ 0
   ·rw [if_pos r0] at hw0; exact absurd hw0 r0
   rw [if_neg r0] at hw0
   by_cases r1 : behind prev x = false
   ·rw [if_pos r1] at hw0; cases hw0
   rw [if_neg r1] at hw0
   by_cases r2 : within x.t x.r f h = false
   ·rw [if_pos r2] at hw0; cases hw0
   have r0 : Wr.right x = 0 := by omega
   have r2 : within x.t x.r f h = true := by simpa using r2
   have r1 : behind prev x = true := by simpa using r1
   constructor
   ·rintro ⟨h1, h2, h3⟩
    refine ⟨fun y hy => ?_, List.pairwise_cons.2 ⟨fun y hy => h3 x rfl y hy, h2⟩, fun p hp y hy => ?_⟩
    ·rcases List.mem_cons.1 hy with rfl | hy
     ·exact ⟨r0, r2⟩
     ·exact h1 y hy
    ·subst hp
     have hpx : Later p x := by simpa [behind] using r1
     rcases List.mem_cons.1 hy with rfl | hy
     ·exact hpx
     ·exact later_trans hpx (h3 x rfl y hy)
   ·rintro ⟨h1, h2, h3⟩
    obtain ⟨s1, s2⟩ := List.pairwise_cons.1 h2
    exact ⟨fun y hy => h1 y (List.mem_cons_of_mem _ hy), s2, fun p hp y hy => by cases hp; exact s1 y hy⟩
theorem right_iff (f h : List Vec.Entry) (ws : List Wr) : right f h ws = .ok ↔ Fine f h ws := by
 unfold right
 by_cases h1 : Vec.right f ≠ .ok
 ·rw [if_pos h1]; exact ⟨fun h => (by cases h), fun h => absurd h.from_ h1⟩
 rw [if_neg h1]
 by_cases h2 : Vec.right h ≠ .ok
 ·rw [if_pos h2]; exact ⟨fun h => (by cases h), fun h => absurd h.have_ h2⟩
 rw [if_neg h2]
 by_cases h3 : covers h f = false
 ·rw [if_pos h3]; exact ⟨fun h => (by cases h), fun h => absurd h.cov (by simp [h3])⟩
 rw [if_neg h3]
 by_cases h4 : 60 < ws.length
 ·rw [if_pos h4]; exact ⟨fun h => (by cases h), fun h => absurd h.len (by omega)⟩
 rw [if_neg h4, wrongs_ok]
 constructor
 ·rintro ⟨a, b, _⟩
  exact ⟨by simpa using h1, by simpa using h2, by simpa using h3, by omega, a, b⟩
 ·intro hf
  exact ⟨hf.each, hf.order, fun p hp => by cases hp⟩
theorem covers_iff' {a b : List Vec.Entry} : covers a b = true ↔ Vec.right a = .ok ∧ Vec.right b = .ok ∧ Vec.Covers a b := by
 unfold covers
 simp only [Bool.and_eq_true, decide_eq_true_eq, List.all_eq_true]
 constructor
 ·rintro ⟨h1, h2, h3⟩
  exact ⟨h1, h2, (Vec.covers_iff ((Vec.right_iff b).1 h2).sorted ((Vec.right_iff a).1 h1).pos).1 h3⟩
 ·rintro ⟨h1, h2, h3⟩
  exact ⟨h1, h2, (Vec.covers_iff ((Vec.right_iff b).1 h2).sorted ((Vec.right_iff a).1 h1).pos).2 h3⟩
end Bat
end Go.Proofs.YtognjohloobliaaGreatDoor
