/- Frames of version 1 in plain words: what is written, what is read. No program. -/
import Derived.Test.YtognjohloobliaaGreatDoorK24
import Derived.Test.YtognjohloobliaaGreatDoorK23
import Derived.Test.YtognjohloobliaaGreatDoorK21
namespace Go.Proofs.YtognjohloobliaaGreatDoor
namespace Fst
set_option linter.unusedVariables false
def ent (x : Vec.Entry) : List UInt8 := Vary.put x.r.toNat ++ Vary.put x.t.toNat
def plain (l : List Vec.Entry) : List UInt8 := Vary.put l.length ++ l.flatMap ent
def one (x : Wr) : List UInt8 := UInt8.ofNat x.k.toNat :: (Vary.put x.t.toNat ++ (Vary.put x.r.toNat ++ (Span.put x.key ++ Wr.tail x)))
def inner (f h : List Vec.Entry) (ws : List Wr) : List UInt8 := plain f ++ (plain h ++ (Vary.put ws.length ++ ws.flatMap one))
def write (f h : List Vec.Entry) (ws : List Wr) : List UInt8 := Frame.around 1 (inner f h ws)
/-- What a taker has: the bytes that are left, and whether something was wrong. -/
structure Tk where
 s : List UInt8
 e : Bool
def num (t : Tk) (most : Int) : Nat × Tk := if t.e = true then (0, t) else match Vary.int t.s most with
 | .ok n k => (n, ⟨t.s.drop k, false⟩)
 | .bad _ => (0, ⟨t.s, true⟩)
def ents : Nat → Tk → List Vec.Entry × Tk
 | 0, t => ([], t)
 | n + 1, t => (⟨(num t 200).1, (num (num t 200).2 1099511627776).1⟩ :: (ents n (num (num t 200).2 1099511627776).2).1, (ents n (num (num t 200).2 1099511627776).2).2)
def vec (t : Tk) : List Vec.Entry × Tk := ents (num t 16).1 (num t 16).2
def zero : Wr := ⟨0, 0, 0, [], [], 0⟩
def rest (k m r : Nat) (t : Tk) : Wr × Tk := if t.e = true then (zero, t) else match Span.get t.s with
 | .bad _ => (zero, ⟨t.s, true⟩)
 | .ok key n => match Wr.fill ⟨m, r, k, key, [], 0⟩ (t.s.drop n) with
  | .bad _ => (zero, ⟨t.s.drop n, true⟩)
  | .ok x i => (x, ⟨(t.s.drop n).drop i, false⟩)
def wrt (t : Tk) : Wr × Tk := if t.e = true then (zero, t) else match t.s with
 | [] => (zero, ⟨[], true⟩)
 | b :: r => if b.toNat < 1 ∨ 4 < b.toNat then (zero, ⟨b :: r, true⟩) else
  rest b.toNat (num ⟨r, false⟩ 1099511627776).1 (num (num ⟨r, false⟩ 1099511627776).2 200).1 (num (num ⟨r, false⟩ 1099511627776).2 200).2
def wrts : Nat → Tk → List Wr × Tk
 | 0, t => ([], t)
 | n + 1, t => ((wrt t).1 :: (wrts n (wrt t).2).1, (wrts n (wrt t).2).2)
def read (S : List UInt8) : Option (List Vec.Entry × List Vec.Entry × List Wr) :=
 let a := vec ⟨S, false⟩
 let b := vec a.2
 let m := num b.2 60
 let c := wrts m.1 m.2
 if c.2.e = true then none else if c.2.s ≠ [] then none else if Bat.right a.1 b.1 c.1 = .ok then some (a.1, b.1, c.1) else none
theorem num_le (t : Tk) (m : Int) (h : 0 ≤ m) : ((num t m).1 : Int) ≤ m := by
 unfold num
 split
 ·exact h
 ·split
  ·rename_i n k hi
   exact (Vec.int_get hi).2
  ·exact h
/-! what is written is read -/
theorem num_put (n : Nat) (m : Int) (r : List UInt8) (h : n < 18446744073709551616) (h0 : (n : Int) ≤ m) : num ⟨Vary.put n ++ r, false⟩ m = (n, ⟨r, false⟩) := by
 unfold num
 rw [if_neg (by simp)]
 simp only
 rw [Vec.int_put' n m r h h0]
 simp
theorem ents_put (l : List Vec.Entry) (r : List UInt8) (h : ∀ x ∈ l, 0 ≤ x.r ∧ x.r ≤ 200 ∧ 0 ≤ x.t ∧ x.t ≤ 1099511627776) : ents l.length ⟨l.flatMap ent ++ r, false⟩ = (l, ⟨r, false⟩) := by
 induction l with
 | nil => rfl
 | cons x l ih =>
  obtain ⟨h1, h2, h3, h4⟩ := h x (List.mem_cons_self ..)
  have ih := ih fun y hy => h y (List.mem_cons_of_mem _ hy)
  rw [List.length_cons, ents, List.flatMap_cons]
  unfold ent
  rw [List.append_assoc, List.append_assoc, num_put _ _ _ (by omega) (by omega)]
  simp only
  rw [num_put _ _ _ (by omega) (by omega)]
  simp only
  change _ = (x :: l, _)
  rw [show l.flatMap (fun x => Vary.put x.r.toNat ++ Vary.put x.t.toNat) = l.flatMap ent from rfl, ih]
  simp only
  rw [Int.toNat_of_nonneg h1, Int.toNat_of_nonneg h3]
theorem vec_put (l : List Vec.Entry) (r : List UInt8) (hr : Vec.right l = .ok) : vec ⟨plain l ++ r, false⟩ = (l, ⟨r, false⟩) := by
 have hF := (Vec.right_iff l).1 hr
 have h16 := hF.len
 unfold vec plain
 rw [List.append_assoc, num_put _ _ _ (by omega) (by omega)]
 simp only
 exact ents_put l r fun x hxm => by have := hF.each x hxm; omega
theorem wrt_put (x : Wr) (r : List UInt8) (h : Wr.right x = 0) : wrt ⟨one x ++ r, false⟩ = (x, ⟨r, false⟩) := by
 obtain ⟨h1, h2, h3, h4, h5, h6, h7, h8, -⟩ := Wr.right_zero h
 have hk : (UInt8.ofNat x.k.toNat).toNat = x.k.toNat := Vary.u8_small (by omega)
 unfold wrt one
 rw [if_neg (by simp)]
 simp only [List.cons_append]
 rw [hk, if_neg (by omega)]
 simp only [List.append_assoc]
 rw [num_put _ _ _ (by omega) (by omega)]
 simp only
 rw [num_put _ _ _ (by omega) (by omega)]
 unfold rest
 simp only
 rw [if_neg (by simp), Span.get_put _ _ (by omega)]
 simp only
 rw [List.drop_left]
 have hf := Wr.fill_tail x r h
 have hx : ({ x with val := [], n := 0 } : Wr) = ⟨(x.t.toNat : Int), (x.r.toNat : Int), (x.k.toNat : Int), x.key, [], 0⟩ := by
  rw [Int.toNat_of_nonneg (by omega), Int.toNat_of_nonneg h5, Int.toNat_of_nonneg (by omega)]
 rw [hx] at hf
 rw [hf]
 simp only
 rw [List.drop_left]
theorem wrts_put (l : List Wr) (r : List UInt8) (h : ∀ x ∈ l, Wr.right x = 0) : wrts l.length ⟨l.flatMap one ++ r, false⟩ = (l, ⟨r, false⟩) := by
 induction l with
 | nil => rfl
 | cons x l ih =>
  have ih := ih fun y hy => h y (List.mem_cons_of_mem _ hy)
  rw [List.length_cons, wrts, List.flatMap_cons, List.append_assoc, wrt_put _ _ (h x (List.mem_cons_self ..))]
  simp only
  rw [ih]
theorem read_inner {f h : List Vec.Entry} {ws : List Wr} (hr : Bat.right f h ws = .ok) : read (inner f h ws) = some (f, h, ws) := by
 have hF := (Bat.right_iff f h ws).1 hr
 unfold read inner
 simp only
 rw [vec_put f _ hF.from_]
 simp only
 rw [vec_put h _ hF.have_]
 simp only
 rw [num_put _ _ _ (by have := hF.len; omega) (by have := hF.len; omega)]
 simp only
 have hw := wrts_put ws [] (fun x hx => (hF.each x hx).1)
 rw [List.append_nil] at hw
 rw [hw]
 simp only
 rw [if_neg (by simp), if_neg (by simp), if_pos hr]
/-! just one way -/
theorem ents_len : ∀ (n : Nat) (t : Tk), (ents n t).1.length = n
 | 0, t => rfl
 | n + 1, t => by rw [ents]; simp only [List.length_cons]; rw [ents_len n]
theorem vec_len (t : Tk) : (vec t).1.length ≤ 16 := by
 unfold vec
 rw [ents_len]
 have := num_le t 16 (by omega)
 omega
theorem wrts_len : ∀ (n : Nat) (t : Tk), (wrts n t).1.length = n
 | 0, t => rfl
 | n + 1, t => by rw [wrts]; simp only [List.length_cons]; rw [wrts_len n]
end Fst
end Go.Proofs.YtognjohloobliaaGreatDoor
/- Walks of keep.big, keep.held. -/
namespace Go.Proofs.YtognjohloobliaaGreatDoor
open Go.RowKit
set_option linter.unusedVariables false
set_option linter.unusedSimpArgs false
end Go.Proofs.YtognjohloobliaaGreatDoor
