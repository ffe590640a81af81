/- Stores in plain words: what writes come to, key by key; lists of cells by rising keys. No program. -/
import Derived.Lib.Bytealg
namespace Go.Proofs.YtognjohloobliaaGreatDoor
set_option linter.unusedVariables false
set_option linter.unusedSimpArgs false
namespace St
open Go.Lib
def lt (a b : ByteArray) : Bool := decide (compareBytes a.data.toList b.data.toList < 0)
theorem ext_ {a b : ByteArray} (h : a.data.toList = b.data.toList) : a = b := by
 cases a; cases b; simp_all
theorem cmp_refl : ∀ a : List UInt8, compareBytes a a = 0
 | [] => by simp [compareBytes]
 | a :: l => by simp [compareBytes, cmp_refl l]
theorem cmp_eq : ∀ a b : List UInt8, compareBytes a b = 0 → a = b
 | [], [], _ => rfl
 | [], _ :: _, h => by simp [compareBytes] at h
 | _ :: _, [], h => by simp [compareBytes] at h
 | a :: l, b :: m, h => by
  rw [compareBytes] at h
  by_cases h1 : a < b
  ·rw [if_pos h1] at h; cases h
  ·rw [if_neg h1] at h
   by_cases h2 : b < a
   ·rw [if_pos h2] at h; cases h
   ·rw [if_neg h2] at h
    have e : a = b := by
     rw [UInt8.lt_iff_toNat_lt] at h1 h2
     exact UInt8.toNat_inj.1 (by omega)
    rw [e, cmp_eq l m h]
theorem cmp_neg : ∀ a b : List UInt8, compareBytes b a = - compareBytes a b
 | [], [] => by simp [compareBytes]
 | [], _ :: _ => by simp [compareBytes]
 | _ :: _, [] => by simp [compareBytes]
 | a :: l, b :: m => by
  rw [compareBytes, compareBytes]
  by_cases h1 : a < b
  ·have h2 : ¬ b < a := by rw [UInt8.lt_iff_toNat_lt] at h1 ⊢; omega
   rw [if_neg h2, if_pos h1, if_pos h1]; rfl
  ·by_cases h2 : b < a
   ·rw [if_pos h2, if_neg h1, if_pos h2]
   ·rw [if_neg h2, if_neg h1, if_neg h1, if_neg h2, cmp_neg l m]
theorem cmp_trans : ∀ a b c : List UInt8, compareBytes a b < 0 → compareBytes b c < 0 → compareBytes a c < 0
 | [], b, [], h1, h2 => by
  rw [cmp_neg] at h2; omega
 | [], _, _ :: _, _, _ => by simp [compareBytes]
 | _ :: _, [], _, h1, _ => by simp [compareBytes] at h1
 | _ :: _, _ :: _, [], _, h2 => by simp [compareBytes] at h2
 | a :: l, b :: m, c :: n, h1, h2 => by
  rw [compareBytes] at h1 h2 ⊢
  have key : ∀ x y : UInt8, x < y ↔ x.toNat < y.toNat := fun x y => UInt8.lt_iff_toNat_lt
  simp only [key] at *
  by_cases e1 : a.toNat < c.toNat
  ·rw [if_pos e1]; decide
  ·rw [if_neg e1]
   by_cases e2 : a.toNat < b.toNat
   ·have e3 : c.toNat < b.toNat := by omega
    rw [if_neg (by omega), if_pos e3] at h2; omega
   ·rw [if_neg e2] at h1
    by_cases e3 : b.toNat < a.toNat
    ·rw [if_pos e3] at h1; omega
    ·rw [if_neg e3] at h1
     rw [if_neg (by omega)] at h2
     by_cases e4 : c.toNat < b.toNat
     ·rw [if_pos e4] at h2; omega
     ·rw [if_neg e4] at h2
      rw [if_neg (by omega)]
      exact cmp_trans l m n h1 h2
theorem lt_irrefl (a : ByteArray) : lt a a = false := by simp [lt, cmp_refl]
theorem lt_asymm {a b : ByteArray} (h : lt a b = true) : lt b a = false := by
 simp only [lt, decide_eq_true_eq, decide_eq_false_iff_not] at *
 rw [cmp_neg]; omega
theorem lt_trans {a b c : ByteArray} (h : lt a b = true) (k : lt b c = true) : lt a c = true := by
 simp only [lt, decide_eq_true_eq] at *
 exact cmp_trans _ _ _ h k
theorem lt_total {a b : ByteArray} (h : a ≠ b) (k : lt b a = false) : lt a b = true := by
 simp only [lt, decide_eq_true_eq, decide_eq_false_iff_not] at *
 rw [cmp_neg] at k
 have : compareBytes a.data.toList b.data.toList ≠ 0 := fun e => h (ext_ (cmp_eq _ _ e))
 omega
structure W where
 k : Int
 key : ByteArray
 val : ByteArray
 n : Int
structure Val where
 has : Bool
 text : ByteArray
 sum : Int
 list : List ByteArray
structure Cel where
 key : ByteArray
 val : Val
def no : Val := ⟨false, ⟨#[]⟩, 0, []⟩
def ins (l : List ByteArray) (i : Nat) (x : ByteArray) : List ByteArray := l.take i ++ [x] ++ l.drop i
def step (v : Val) (x : W) : Val :=
 if x.k = 1 then { v with has := true, text := x.val }
 else if x.k = 2 then no
 else if x.k = 3 then { v with sum := v.sum + x.n }
 else { v with list := ins v.list (min x.n.toNat v.list.length) x.val }
/-- What writes come to under a key. -/
def at_ (l : List W) (key : ByteArray) : Val := (l.filter fun x => decide (x.key = key)).foldl step no
def Val.some_ (v : Val) : Bool := v.has || decide (v.sum ≠ 0) || decide (0 < v.list.length)
def IsCells (C : List Cel) (F : ByteArray → Val) : Prop := C.Pairwise (fun a b => lt a.key b.key = true) ∧ ∀ c, c ∈ C ↔ (c.val.some_ = true ∧ F c.key = c.val)
theorem sorted_ext {α : Type} {R : α → α → Prop} (irr : ∀ a, ¬ R a a) (asym : ∀ a b, R a b → ¬ R b a) : ∀ {l m : List α}, l.Pairwise R → m.Pairwise R → (∀ a, a ∈ l ↔ a ∈ m) → l = m
 | [], [], _, _, _ => rfl
 | [], b :: m, _, _, h => by have := (h b).2 (by simp); cases this
 | a :: l, [], _, _, h => by have := (h a).1 (by simp); cases this
 | a :: l, b :: m, h1, h2, h => by
  obtain ⟨p1, p2⟩ := List.pairwise_cons.1 h1
  obtain ⟨q1, q2⟩ := List.pairwise_cons.1 h2
  have hab : a = b := by
   rcases List.mem_cons.1 ((h a).1 (by simp)) with e | e
   ·exact e
   ·rcases List.mem_cons.1 ((h b).2 (by simp)) with e' | e'
    ·exact e'.symm
    ·exact absurd (p1 b e') (asym _ _ (q1 a e))
  subst hab
  rw [sorted_ext irr asym p2 q2 fun c => ?_]
  constructor
  ·intro hc
   rcases List.mem_cons.1 ((h c).1 (List.mem_cons_of_mem _ hc)) with e | e
   ·exact absurd (e ▸ p1 c hc) (irr a)
   ·exact e
  ·intro hc
   rcases List.mem_cons.1 ((h c).2 (List.mem_cons_of_mem _ hc)) with e | e
   ·exact absurd (e ▸ q1 c hc) (irr a)
   ·exact e
theorem IsCells.unique {C C' : List Cel} {F : ByteArray → Val} (h : IsCells C F) (h' : IsCells C' F) : C = C' :=
 sorted_ext (fun a e => by rw [lt_irrefl] at e; cases e) (fun a b e e' => by rw [lt_asymm e] at e'; cases e') h.1 h'.1 fun c => (h.2 c).trans (h'.2 c).symm
theorem IsCells.congr {C : List Cel} {F G : ByteArray → Val} (h : IsCells C F) (hF : ∀ s, F s = G s) : IsCells C G := by
 rw [← show F = G from funext hF]; exact h
theorem at_snoc (l : List W) (x : W) (key : ByteArray) : at_ (l ++ [x]) key = if x.key = key then step (at_ l key) x else at_ l key := by
 unfold at_
 rw [List.filter_append, List.foldl_append]
 by_cases h : x.key = key
 ·rw [if_pos h, List.filter_cons_of_pos (by simpa using h)]; rfl
 ·rw [if_neg h, List.filter_cons_of_neg (by simpa using h)]; rfl
theorem ins_len (l : List ByteArray) (i : Nat) (x : ByteArray) : (ins l i x).length = l.length + 1 := by
 unfold ins
 simp only [List.length_append, List.length_take, List.length_drop, List.length_singleton]; omega
/-- How much sums and lists can be. -/
structure Fits (v : Val) (m : Nat) : Prop where
 lo : -(m * 1125899906842624 : Int) ≤ v.sum
 hi : v.sum ≤ (m * 1125899906842624 : Int)
 len : v.list.length ≤ m
 text : v.text.size ≤ 300
 each : ∀ s ∈ v.list, s.size ≤ 300
structure Good (x : W) : Prop where
 k1 : 1 ≤ x.k
 k4 : x.k ≤ 4
 key : x.key.size ≤ 40
 val : x.val.size ≤ 300
 add : x.k = 3 → -1125899906842624 ≤ x.n ∧ x.n ≤ 1125899906842624
 ins : x.k = 4 → 0 ≤ x.n ∧ x.n ≤ 1000
theorem Fits.no (m : Nat) : Fits no m := ⟨by unfold St.no; simp only; omega, by unfold St.no; simp only; omega, Nat.zero_le _, by simp [St.no, ByteArray.size], fun s h => by cases h⟩
theorem Fits.mono {v : Val} {m n : Nat} (h : Fits v m) (hn : m ≤ n) : Fits v n := ⟨by have := h.lo; omega, by have := h.hi; omega, by have := h.len; omega, h.text, h.each⟩
theorem Fits.step {v : Val} {m : Nat} (h : Fits v m) {x : W} (hx : Good x) : Fits (step v x) (m + 1) := by
 have h1 := h.lo; have h2 := h.hi; have h3 := h.len; have g := hx.add
 unfold St.step
 split
 ·exact ⟨by simp only; omega, by simp only; omega, by simp only; omega, hx.val, h.each⟩
 split
 ·exact Fits.no _
 split
 ·rename_i h3'
  have := g h3'
  exact ⟨by simp only; omega, by simp only; omega, by simp only; omega, h.text, h.each⟩
 ·refine ⟨by simp only; omega, by simp only; omega, by simp only [ins_len]; omega, h.text, fun s hs => ?_⟩
  simp only [St.ins, List.mem_append, List.mem_singleton] at hs
  rcases hs with (hs | hs) | hs
  ·exact h.each s (List.mem_of_mem_take hs)
  ·rw [hs]; exact hx.val
  ·exact h.each s (List.mem_of_mem_drop hs)
/-- A key of which something is told was written. -/
theorem at_none (l : List W) (key : ByteArray) (h : ∀ x ∈ l, x.key ≠ key) : at_ l key = no := by
 unfold at_
 rw [List.filter_eq_nil_iff.2 fun x hx => by simpa using h x hx]; rfl
/-- Some cells are all that have something. -/
theorem cells_of {C : List Cel} {F : ByteArray → Val} (D : List Cel) (hp : C.Perm D) (hs : C.Pairwise fun a b => lt b.key a.key = false) (hn : (D.map (·.key)).Nodup) (hD : ∀ c, c ∈ D ↔ (c.val.some_ = true ∧ F c.key = c.val)) : IsCells C F := by
 have hn' : (C.map (·.key)).Nodup := ((hp.map _).nodup_iff).2 hn
 refine ⟨?_, fun c => (hp.mem_iff).trans (hD c)⟩
 rw [List.Nodup, List.pairwise_map] at hn'
 exact (List.Pairwise.and hs hn').imp fun h => lt_total h.2 h.1
end St
end Go.Proofs.YtognjohloobliaaGreatDoor
