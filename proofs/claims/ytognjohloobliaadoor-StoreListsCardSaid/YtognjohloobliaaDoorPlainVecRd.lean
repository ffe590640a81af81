/- Plain words for vectors. -/
import Derived.Test.YtognjohloobliaaDoorPlainSpan
namespace Go.Proofs.YtognjohloobliaaDoor
namespace Vec
/-- An entry: its replica, its time. -/
structure Entry where
  r : Int
  t : Int
deriving DecidableEq
/-- How far a replica is known. -/
def of : List Entry → Int → Int
  | [], _ => 0
  | x :: l, r => if x.r = r then x.t else of l r
theorem of_drop (l : List Entry) (k : Nat) (r : Int) (h : k < l.length) : of (l.drop k) r = if l[k].r = r then l[k].t else of (l.drop (k + 1)) r := by
  rw [List.drop_eq_getElem_cons h]; rfl
end Vec
end Go.Proofs.YtognjohloobliaaDoor
/- Plain laws of vectors: what is right, joined, covered. -/
namespace Go.Proofs.YtognjohloobliaaDoor
/-- An error: none, a number, or a number at a place. -/
inductive Err where
  | ok
  | no (n : Nat)
  | at_ (n i : Nat)
deriving DecidableEq
def Err.code : Err → Nat
  | .ok => 0
  | .no n => n
  | .at_ n _ => n
namespace Vec
set_option linter.unusedVariables false
def Sorted (l : List Entry) : Prop := l.Pairwise (fun x y => x.r < y.r)
def Pos (l : List Entry) : Prop := ∀ x ∈ l, 1 ≤ x.t
theorem of_zero {l : List Entry} {r : Int} (h : ∀ y ∈ l, y.r ≠ r) : of l r = 0 := by
  induction l with
  | nil => rfl
  | cons x l ih =>
    simp only [of]
    rw [if_neg (h x (List.mem_cons_self ..))]
    exact ih fun y hy => h y (List.mem_cons_of_mem _ hy)
theorem of_pos {l : List Entry} (hp : Pos l) (r : Int) : 0 ≤ of l r := by
  induction l with
  | nil => exact Int.le_refl 0
  | cons x l ih =>
    simp only [of]
    split
    · have := hp x (List.mem_cons_self ..); omega
    · exact ih fun y hy => hp y (List.mem_cons_of_mem _ hy)
theorem sorted_head {x : Entry} {l : List Entry} (h : Sorted (x :: l)) : (∀ y ∈ l, x.r < y.r) ∧ Sorted l := List.pairwise_cons.1 h
theorem of_mem {l : List Entry} (h : Sorted l) {x : Entry} (hx : x ∈ l) : of l x.r = x.t := by
  induction l with
  | nil => cases hx
  | cons y l ih =>
    obtain ⟨h1, h2⟩ := sorted_head h
    simp only [of]
    rcases List.mem_cons.1 hx with rfl | hm
    · rw [if_pos rfl]
    · have := h1 x hm
      rw [if_neg (by omega)]
      exact ih h2 hm
theorem of_head {x : Entry} {l : List Entry} {r : Int} (h : x.r ≠ r) : of (x :: l) r = of l r := by
  simp only [of]; rw [if_neg h]
theorem of_self {x : Entry} {l : List Entry} : of (x :: l) x.r = x.t := by simp [of]
/-- Two that know as much are one. -/
theorem ext {a b : List Entry} (ha : Sorted a) (hb : Sorted b) (pa : Pos a) (pb : Pos b) (h : ∀ r, of a r = of b r) : a = b := by
  induction a generalizing b with
  | nil =>
    cases b with
    | nil => rfl
    | cons y b =>
      have h1 := h y.r
      rw [of_self] at h1
      have := pb y (List.mem_cons_self ..)
      simp only [of] at h1; omega
  | cons x a ih =>
    cases b with
    | nil =>
      have h1 := h x.r
      rw [of_self] at h1
      have := pa x (List.mem_cons_self ..)
      simp only [of] at h1; omega
    | cons y b =>
      obtain ⟨a1, a2⟩ := sorted_head ha
      obtain ⟨b1, b2⟩ := sorted_head hb
      have px := pa x (List.mem_cons_self ..)
      have py := pb y (List.mem_cons_self ..)
      have hr : x.r = y.r := by
        rcases Int.lt_trichotomy x.r y.r with hlt | he | hlt
        · have h1 := h x.r
          rw [of_self, of_zero (l := y :: b) (fun z hz => by
            rcases List.mem_cons.1 hz with rfl | hz
            · omega
            · have := b1 z hz; omega)] at h1
          omega
        · exact he
        · have h1 := h y.r
          rw [of_self, of_zero (l := x :: a) (fun z hz => by
            rcases List.mem_cons.1 hz with rfl | hz
            · omega
            · have := a1 z hz; omega)] at h1
          omega
      have ht : x.t = y.t := by
        have h1 := h x.r
        rw [of_self, hr, of_self] at h1; exact h1
      have hxy : x = y := by
        cases x; cases y; simp only at hr ht; rw [hr, ht]
      subst hxy
      rw [ih a2 b2 (fun z hz => pa z (List.mem_cons_of_mem _ hz)) (fun z hz => pb z (List.mem_cons_of_mem _ hz)) (fun r => by
        by_cases hx : x.r = r
        · rw [of_zero (fun z hz => by have := a1 z hz; omega), of_zero (fun z hz => by have := b1 z hz; omega)]
        · have := h r
          rw [of_head hx, of_head hx] at this; exact this)]
/-- Both together. -/
def merge : List Entry → List Entry → List Entry
  | [], b => b
  | x :: a, [] => x :: a
  | x :: a, y :: b =>
    if x.r < y.r then x :: merge a (y :: b)
    else if y.r < x.r then y :: merge (x :: a) b
    else ⟨x.r, max x.t y.t⟩ :: merge a b
termination_by a b => a.length + b.length
theorem merge_nil (b : List Entry) : merge [] b = b := by rw [merge]
theorem merge_nil' (a : List Entry) : merge a [] = a := by cases a <;> rw [merge]
theorem merge_lt {x y : Entry} {a b : List Entry} (h : x.r < y.r) : merge (x :: a) (y :: b) = x :: merge a (y :: b) := by rw [merge, if_pos h]
theorem merge_gt {x y : Entry} {a b : List Entry} (h : y.r < x.r) : merge (x :: a) (y :: b) = y :: merge (x :: a) b := by rw [merge, if_neg (by omega), if_pos h]
theorem merge_eq {x y : Entry} {a b : List Entry} (h : x.r = y.r) : merge (x :: a) (y :: b) = ⟨x.r, max x.t y.t⟩ :: merge a b := by rw [merge, if_neg (by omega), if_neg (by omega)]
theorem merge_all {Q : Entry → Prop} (hQ : ∀ x y : Entry, Q x → Q y → x.r = y.r → Q ⟨x.r, max x.t y.t⟩) (a b : List Entry) (ha : ∀ x ∈ a, Q x) (hb : ∀ x ∈ b, Q x) : ∀ x ∈ merge a b, Q x := by
  match a, b with
  | [], b => rw [merge_nil]; exact hb
  | x :: a, [] => rw [merge_nil']; exact ha
  | x :: a, y :: b =>
    rcases Int.lt_trichotomy x.r y.r with h | h | h
    · rw [merge_lt h]
      intro z hz
      rcases List.mem_cons.1 hz with rfl | hz
      · exact ha z (List.mem_cons_self ..)
      · exact merge_all hQ a (y :: b) (fun z hz => ha z (List.mem_cons_of_mem _ hz)) hb z hz
    · rw [merge_eq h]
      intro z hz
      rcases List.mem_cons.1 hz with rfl | hz
      · exact hQ x y (ha x (List.mem_cons_self ..)) (hb y (List.mem_cons_self ..)) h
      · exact merge_all hQ a b (fun z hz => ha z (List.mem_cons_of_mem _ hz)) (fun z hz => hb z (List.mem_cons_of_mem _ hz)) z hz
    · rw [merge_gt h]
      intro z hz
      rcases List.mem_cons.1 hz with rfl | hz
      · exact hb z (List.mem_cons_self ..)
      · exact merge_all hQ (x :: a) b ha (fun z hz => hb z (List.mem_cons_of_mem _ hz)) z hz
termination_by a.length + b.length
theorem merge_pos {a b : List Entry} (ha : Pos a) (hb : Pos b) : Pos (merge a b) := merge_all (Q := fun x => 1 ≤ x.t) (fun x y h1 h2 _ => by show 1 ≤ max x.t y.t; omega) a b ha hb
theorem merge_above {a b : List Entry} {k : Int} (ha : ∀ x ∈ a, k < x.r) (hb : ∀ x ∈ b, k < x.r) : ∀ x ∈ merge a b, k < x.r := merge_all (Q := fun x => k < x.r) (fun x y h1 _ _ => h1) a b ha hb
theorem merge_sorted (a b : List Entry) (ha : Sorted a) (hb : Sorted b) : Sorted (merge a b) := by
  match a, b with
  | [], b => rw [merge_nil]; exact hb
  | x :: a, [] => rw [merge_nil']; exact ha
  | x :: a, y :: b =>
    obtain ⟨a1, a2⟩ := sorted_head ha
    obtain ⟨b1, b2⟩ := sorted_head hb
    rcases Int.lt_trichotomy x.r y.r with h | h | h
    · rw [merge_lt h]
      refine List.pairwise_cons.2 ⟨merge_above a1 (fun z hz => ?_), merge_sorted a (y :: b) a2 hb⟩
      rcases List.mem_cons.1 hz with rfl | hz
      · exact h
      · have := b1 z hz; omega
    · rw [merge_eq h]
      exact List.pairwise_cons.2 ⟨merge_above a1 (fun z hz => by have := b1 z hz; show x.r < z.r; omega), merge_sorted a b a2 b2⟩
    · rw [merge_gt h]
      refine List.pairwise_cons.2 ⟨merge_above (fun z hz => ?_) b1, merge_sorted (x :: a) b ha b2⟩
      rcases List.mem_cons.1 hz with rfl | hz
      · exact h
      · have := a1 z hz; omega
termination_by a.length + b.length
theorem of_merge (a b : List Entry) (ha : Sorted a) (hb : Sorted b) (pa : Pos a) (pb : Pos b) (r : Int) : of (merge a b) r = max (of a r) (of b r) := by
  match a, b with
  | [], b => rw [merge_nil]; have := of_pos pb r; simp only [of]; omega
  | x :: a, [] => rw [merge_nil']; have := of_pos pa r; simp only [of] at *; omega
  | x :: a, y :: b =>
    obtain ⟨a1, a2⟩ := sorted_head ha
    obtain ⟨b1, b2⟩ := sorted_head hb
    have pa' : Pos a := fun z hz => pa z (List.mem_cons_of_mem _ hz)
    have pb' : Pos b := fun z hz => pb z (List.mem_cons_of_mem _ hz)
    have px := pa x (List.mem_cons_self ..)
    have py := pb y (List.mem_cons_self ..)
    rcases Int.lt_trichotomy x.r y.r with h | h | h
    · rw [merge_lt h]
      by_cases hx : x.r = r
      · subst hx
        have h0 : of (y :: b) x.r = 0 := of_zero fun z hz => by
          rcases List.mem_cons.1 hz with rfl | hz
          · omega
          · have := b1 z hz; omega
        rw [of_self, of_self, h0]; omega
      · rw [of_head hx, of_head hx]; exact of_merge a (y :: b) a2 hb pa' pb r
    · rw [merge_eq h]
      by_cases hx : x.r = r
      · have e1 : of (⟨x.r, max x.t y.t⟩ :: merge a b) r = max x.t y.t := by rw [← hx]; exact of_self
        have e2 : of (x :: a) r = x.t := by rw [← hx]; exact of_self
        have e3 : of (y :: b) r = y.t := by rw [← hx, h]; exact of_self
        rw [e1, e2, e3]
      · have e1 : of (⟨x.r, max x.t y.t⟩ :: merge a b) r = of (merge a b) r := of_head hx
        rw [e1, of_head hx, of_head (by omega)]; exact of_merge a b a2 b2 pa' pb' r
    · rw [merge_gt h]
      by_cases hy : y.r = r
      · subst hy
        have h0 : of (x :: a) y.r = 0 := of_zero fun z hz => by
          rcases List.mem_cons.1 hz with rfl | hz
          · omega
          · have := a1 z hz; omega
        rw [of_self, of_self, h0]; omega
      · rw [of_head hy, of_head hy]; exact of_merge (x :: a) b ha b2 pa pb' r
termination_by a.length + b.length
theorem merge_comm {a b : List Entry} (ha : Sorted a) (hb : Sorted b) (pa : Pos a) (pb : Pos b) : merge a b = merge b a :=
  ext (merge_sorted _ _ ha hb) (merge_sorted _ _ hb ha) (merge_pos pa pb) (merge_pos pb pa) fun r => by
    rw [of_merge a b ha hb pa pb, of_merge b a hb ha pb pa]; omega
theorem merge_self {a : List Entry} (ha : Sorted a) (pa : Pos a) : merge a a = a :=
  ext (merge_sorted _ _ ha ha) ha (merge_pos pa pa) pa fun r => by rw [of_merge a a ha ha pa pa]; omega
theorem merge_assoc {a b c : List Entry} (ha : Sorted a) (hb : Sorted b) (hc : Sorted c) (pa : Pos a) (pb : Pos b) (pc : Pos c) : merge (merge a b) c = merge a (merge b c) :=
  ext (merge_sorted _ _ (merge_sorted _ _ ha hb) hc) (merge_sorted _ _ ha (merge_sorted _ _ hb hc)) (merge_pos (merge_pos pa pb) pc) (merge_pos pa (merge_pos pb pc)) fun r => by
    rw [of_merge _ c (merge_sorted _ _ ha hb) hc (merge_pos pa pb) pc, of_merge a b ha hb pa pb, of_merge a _ ha (merge_sorted _ _ hb hc) pa (merge_pos pb pc), of_merge b c hb hc pb pc]; omega
/-- What is wrong with an entry behind another one; 0: nothing. -/
def wrong (prev : Option Entry) (x : Entry) : Nat :=
  if x.r < 0 ∨ 200 < x.r ∨ x.t < 1 ∨ 1099511627776 < x.t then 2
  else match prev with
    | none => 0
    | some p => if x.r ≤ p.r then 10 else 0
def wrongs : List Entry → Option Entry → Nat → Err
  | [], _, _ => .ok
  | x :: l, prev, i => if wrong prev x ≠ 0 then .at_ (wrong prev x) i else wrongs l (some x) (i + 1)
def right (l : List Entry) : Err := if 16 < l.length then .no 4 else wrongs l none 0
structure Fine (l : List Entry) : Prop where
  len : l.length ≤ 16
  sorted : Sorted l
  each : ∀ x ∈ l, 0 ≤ x.r ∧ x.r ≤ 200 ∧ 1 ≤ x.t ∧ x.t ≤ 1099511627776
theorem Fine.pos {l : List Entry} (h : Fine l) : Pos l := fun x hx => (h.each x hx).2.2.1
theorem wrongs_ok (l : List Entry) (prev : Option Entry) (i : Nat) : wrongs l prev i = .ok ↔ (Sorted l ∧ (∀ x ∈ l, 0 ≤ x.r ∧ x.r ≤ 200 ∧ 1 ≤ x.t ∧ x.t ≤ 1099511627776) ∧ ∀ p, prev = some p → ∀ x ∈ l, p.r < x.r) := by
  induction l generalizing prev i with
  | nil => simp [wrongs, Sorted]
  | cons x l ih =>
    simp only [wrongs]
    by_cases hw : wrong prev x ≠ 0
    · rw [if_pos hw]
      constructor
      · intro h; cases h
      · rintro ⟨_, h2, h3⟩
        exfalso
        apply hw
        have hx := h2 x (List.mem_cons_self ..)
        unfold wrong
        rw [if_neg (by omega)]
        cases prev with
        | none => rfl
        | some p =>
          have := h3 p rfl x (List.mem_cons_self ..)
          simp only
          rw [if_neg (by omega)]
    · rw [if_neg hw, ih]
      have hw0 : wrong prev x = 0 := by omega
      unfold wrong at hw0
      split at hw0
      · cases hw0
      · rename_i hr
        constructor
        · rintro ⟨h1, h2, h3⟩
          refine ⟨List.pairwise_cons.2 ⟨h3 x rfl, h1⟩, fun z hz => ?_, fun p hp z hz => ?_⟩
          · rcases List.mem_cons.1 hz with rfl | hz
            · omega
            · exact h2 z hz
          · subst hp
            simp only at hw0
            have hpx : p.r < x.r := by
              by_cases h : x.r ≤ p.r
              · rw [if_pos h] at hw0; cases hw0
              · omega
            rcases List.mem_cons.1 hz with rfl | hz
            · exact hpx
            · have := h3 x rfl z hz; omega
        · rintro ⟨h1, h2, h3⟩
          obtain ⟨s1, s2⟩ := sorted_head h1
          exact ⟨s2, fun z hz => h2 z (List.mem_cons_of_mem _ hz), fun p hp z hz => by cases hp; exact s1 z hz⟩
theorem right_iff (l : List Entry) : right l = .ok ↔ Fine l := by
  unfold right
  by_cases h : 16 < l.length
  · rw [if_pos h]
    constructor
    · intro h; cases h
    · intro hf; have := hf.len; omega
  · rw [if_neg h, wrongs_ok]
    constructor
    · rintro ⟨h1, h2, _⟩; exact ⟨by omega, h1, h2⟩
    · rintro ⟨_, h1, h2⟩; exact ⟨h1, h2, fun p hp => by cases hp⟩
theorem merge_fine {a b : List Entry} (ha : Fine a) (hb : Fine b) (hl : (merge a b).length ≤ 16) : Fine (merge a b) :=
  ⟨hl, merge_sorted _ _ ha.sorted hb.sorted, merge_all (Q := fun x => 0 ≤ x.r ∧ x.r ≤ 200 ∧ 1 ≤ x.t ∧ x.t ≤ 1099511627776) (fun x y h1 h2 _ => ⟨h1.1, h1.2.1, by show 1 ≤ max x.t y.t; omega, by show max x.t y.t ≤ _; omega⟩) a b ha.each hb.each⟩
/-- Whether the first one knows all that the other one does. -/
def Covers (a b : List Entry) : Prop := ∀ r, of b r ≤ of a r
theorem covers_iff {a b : List Entry} (hb : Sorted b) (pa : Pos a) : (∀ x ∈ b, x.t ≤ of a x.r) ↔ Covers a b := by
  constructor
  · intro h r
    by_cases hr : ∃ x ∈ b, x.r = r
    · obtain ⟨x, hx, rfl⟩ := hr
      rw [of_mem hb hx]; exact h x hx
    · rw [of_zero (fun y hy e => hr ⟨y, hy, e⟩)]; exact of_pos pa r
  · intro h x hx
    have := h x.r
    rw [of_mem hb hx] at this; exact this
theorem covers_refl (a : List Entry) : Covers a a := fun _ => Int.le_refl _
theorem covers_trans {a b c : List Entry} (h1 : Covers a b) (h2 : Covers b c) : Covers a c := fun r => Int.le_trans (h2 r) (h1 r)
theorem covers_antisymm {a b : List Entry} (ha : Fine a) (hb : Fine b) (h1 : Covers a b) (h2 : Covers b a) : a = b :=
  ext ha.sorted hb.sorted ha.pos hb.pos fun r => Int.le_antisymm (h2 r) (h1 r)
theorem covers_merge {a b : List Entry} (ha : Fine a) (hb : Fine b) : Covers (merge a b) a ∧ Covers (merge a b) b :=
  ⟨fun r => by rw [of_merge a b ha.sorted hb.sorted ha.pos hb.pos]; omega, fun r => by rw [of_merge a b ha.sorted hb.sorted ha.pos hb.pos]; omega⟩
theorem covers_least {a b c : List Entry} (ha : Fine a) (hb : Fine b) (h1 : Covers c a) (h2 : Covers c b) : Covers c (merge a b) := fun r => by
  rw [of_merge a b ha.sorted hb.sorted ha.pos hb.pos]; have := h1 r; have := h2 r; omega
/-- How many there are in both together. -/
theorem merge_len (a b : List Entry) (ha : Sorted a) (hb : Sorted b) (pa : Pos a) : (merge a b).length = a.length + (b.filter fun x => of a x.r = 0).length := by
  match a, b with
  | [], b =>
    rw [merge_nil]
    have : (b.filter fun x => decide (of [] x.r = 0)) = b := List.filter_eq_self.2 fun x _ => by simp [of]
    rw [this]; simp
  | x :: a, [] => rw [merge_nil']; simp
  | x :: a, y :: b =>
    obtain ⟨a1, a2⟩ := sorted_head ha
    obtain ⟨b1, b2⟩ := sorted_head hb
    have pa' : Pos a := fun z hz => pa z (List.mem_cons_of_mem _ hz)
    have px := pa x (List.mem_cons_self ..)
    rcases Int.lt_trichotomy x.r y.r with h | h | h
    · rw [merge_lt h, List.length_cons, merge_len a (y :: b) a2 hb pa']
      have : ((y :: b).filter fun z => decide (of (x :: a) z.r = 0)) = ((y :: b).filter fun z => decide (of a z.r = 0)) := List.filter_congr fun z hz => by
        have hz' : x.r ≠ z.r := by
          rcases List.mem_cons.1 hz with rfl | hz
          · omega
          · have := b1 z hz; omega
        rw [of_head hz']
      rw [this, List.length_cons]; omega
    · rw [merge_eq h, List.length_cons, merge_len a b a2 b2 pa']
      have e0 : decide (of (x :: a) y.r = 0) = false := by
        rw [← h, of_self]; simp; omega
      have : ((y :: b).filter fun z => decide (of (x :: a) z.r = 0)) = (b.filter fun z => decide (of a z.r = 0)) := by
        rw [List.filter_cons, e0]
        simp only [Bool.false_eq_true, if_false]
        refine List.filter_congr fun z hz => ?_
        have := b1 z hz
        rw [of_head (by omega)]
      rw [this, List.length_cons]; omega
    · rw [merge_gt h, List.length_cons, merge_len (x :: a) b ha b2 pa]
      have e0 : decide (of (x :: a) y.r = 0) = true := by
        rw [of_zero fun z hz => by
          rcases List.mem_cons.1 hz with rfl | hz
          · omega
          · have := a1 z hz; omega]
        rfl
      rw [List.filter_cons, e0]
      simp only [if_true, List.length_cons]; omega
termination_by a.length + b.length
end Vec
end Go.Proofs.YtognjohloobliaaDoor
/- Plain laws of vectors as bytes. -/
namespace Go.Proofs.YtognjohloobliaaDoor
namespace Vec
set_option linter.unusedVariables false
/-- How long a run beside each other is, so many of which have been seen. -/
def ext_ (r : Int) (k : Nat) : List Entry → Nat
  | [] => k
  | y :: l => if y.r = r + k then ext_ r (k + 1) l else k
theorem ext_ge (r : Int) (k : Nat) (l : List Entry) : k ≤ ext_ r k l := by
  induction l generalizing k with
  | nil => exact Nat.le_refl _
  | cons y l ih =>
    simp only [ext_]
    split
    · have := ih (k + 1); omega
    · exact Nat.le_refl _
theorem ext_le (r : Int) (k : Nat) (l : List Entry) : ext_ r k l ≤ k + l.length := by
  induction l generalizing k with
  | nil => simp [ext_]
  | cons y l ih =>
    simp only [ext_]
    split
    · have := ih (k + 1); simp only [List.length_cons]; omega
    · omega
theorem ext_drop (l : List Entry) (r : Int) (i k : Nat) (h : i < l.length) : ext_ r k (l.drop i) = if l[i].r = r + k then ext_ r (k + 1) (l.drop (i + 1)) else k := by
  rw [List.drop_eq_getElem_cons h]; rfl
theorem ext_end (l : List Entry) (r : Int) (i k : Nat) (h : l.length ≤ i) : ext_ r k (l.drop i) = k := by
  rw [List.drop_of_length_le h]; rfl
def times (l : List Entry) : List UInt8 := l.flatMap fun x => Vary.put x.t.toNat
/-- Runs, and their bytes. -/
def enc (first : Bool) (next : Int) : List Entry → Nat × List UInt8
  | [] => (0, [])
  | x :: l =>
    ((enc false (x.r + (ext_ x.r 1 l : Nat)) (l.drop (ext_ x.r 1 l - 1))).1 + 1,
      Vary.put (x.r - next - (if first then 0 else 1)).toNat ++ (Vary.put (ext_ x.r 1 l - 1) ++ (times ((x :: l).take (ext_ x.r 1 l)) ++ (enc false (x.r + (ext_ x.r 1 l : Nat)) (l.drop (ext_ x.r 1 l - 1))).2)))
termination_by l => l.length
decreasing_by all_goals (simp only [List.length_drop, List.length_cons]; omega)
theorem enc_nil (first : Bool) (next : Int) : enc first next [] = (0, []) := by rw [enc]
theorem enc_cons (first : Bool) (next : Int) (x : Entry) (l : List Entry) : enc first next (x :: l) = ((enc false (x.r + (ext_ x.r 1 l : Nat)) (l.drop (ext_ x.r 1 l - 1))).1 + 1,
      Vary.put (x.r - next - (if first then 0 else 1)).toNat ++ (Vary.put (ext_ x.r 1 l - 1) ++ (times ((x :: l).take (ext_ x.r 1 l)) ++ (enc false (x.r + (ext_ x.r 1 l : Nat)) (l.drop (ext_ x.r 1 l - 1))).2))) := by rw [enc]
def write (l : List Entry) : List UInt8 := Vary.put (enc true 0 l).1 ++ (enc true 0 l).2
theorem times_len (l : List Entry) (h : ∀ x ∈ l, x.t ≤ 1099511627776) : (times l).length ≤ 10 * l.length := by
  induction l with
  | nil => simp [times]
  | cons x l ih =>
    have h1 := ih fun y hy => h y (List.mem_cons_of_mem _ hy)
    have h2 := Vary.put_len x.t.toNat (by have := h x (List.mem_cons_self ..); omega)
    unfold times at *
    rw [List.flatMap_cons, List.length_append, List.length_cons]; omega
theorem enc_len (first : Bool) (next : Int) (l : List Entry) (h : ∀ x ∈ l, 0 ≤ x.r ∧ x.r ≤ 200 ∧ x.t ≤ 1099511627776) (hn : 0 ≤ next) (hl : l.length ≤ 1000) : (enc first next l).2.length ≤ 30 * l.length ∧ (enc first next l).1 ≤ l.length := by
  match l with
  | [] => rw [enc_nil]; simp
  | x :: l =>
    rw [enc_cons]
    have hx := h x (List.mem_cons_self ..)
    have hg := ext_ge x.r 1 l
    have hle := ext_le x.r 1 l
    have hl' : l.length ≤ 1000 := by simp only [List.length_cons] at hl; omega
    obtain ⟨i1, i2⟩ := enc_len false (x.r + (ext_ x.r 1 l : Nat)) (l.drop (ext_ x.r 1 l - 1)) (fun y hy => h y (List.mem_cons_of_mem _ (List.mem_of_mem_drop hy))) (by omega) (by rw [List.length_drop]; omega)
    have p1 := Vary.put_len (x.r - next - (if first then 0 else 1)).toNat (by split <;> omega)
    have p2 := Vary.put_len (ext_ x.r 1 l - 1) (by omega)
    have p3 := times_len ((x :: l).take (ext_ x.r 1 l)) (fun y hy => (h y (List.mem_of_mem_take hy)).2.2)
    rw [List.length_take] at p3
    rw [List.length_drop] at i1 i2
    simp only [List.length_append, List.length_cons] at *
    refine ⟨?_, ?_⟩
    · omega
    · omega
termination_by l.length
decreasing_by all_goals (simp only [List.length_drop, List.length_cons]; omega)
/-- What comes behind a run is farther. -/
theorem run_next (l : List Entry) (hs : Sorted l) (i : Nat) (hi : i < l.length) (k : Nat) (hk : 1 ≤ k) (h : ∀ j, j < k → ∃ hj : i + j < l.length, l[i + j].r = l[i].r + j) (hn : i + k < l.length) : l[i].r + k ≤ l[i + k].r := by
  obtain ⟨hj, he⟩ := h (k - 1) (by omega)
  have := List.pairwise_iff_getElem.1 hs (i + (k - 1)) (i + k) hj hn (by omega)
  omega
end Vec
end Go.Proofs.YtognjohloobliaaDoor
/- Plain laws of vectors read from bytes. -/
namespace Go.Proofs.YtognjohloobliaaDoor
namespace Vec
set_option linter.unusedVariables false
/-- What is read: entries, and of how many bytes; or what is wrong. -/
inductive Part where
  | bad (e : Nat)
  | ok (l : List Entry) (k : Nat)
def Part.ahead (es : List Entry) (j : Nat) : Part → Part
  | .bad e => .bad e
  | .ok l k => .ok (es ++ l) (j + k)
theorem ahead_ahead (a b : List Entry) (j k : Nat) (x : Part) : Part.ahead a j (Part.ahead b k x) = Part.ahead (a ++ b) (j + k) x := by
  cases x with
  | bad e => rfl
  | ok l n => simp only [Part.ahead, List.append_assoc, Nat.add_assoc]
theorem ahead_nil (x : Part) : Part.ahead [] 0 x = x := by
  cases x with
  | bad e => rfl
  | ok l n => simp [Part.ahead]
/-- So many times, of replicas beside each other. -/
def rtimes : Nat → Int → List UInt8 → Part
  | 0, _, _ => .ok [] 0
  | c + 1, next, l => match Vary.int l 1099511627776 with
    | .bad e => .bad e
    | .ok t j => Part.ahead [⟨next, t⟩] j (rtimes c (next + 1) (l.drop j))
def Part.andThen (p : Part) (f : Nat → Part) : Part :=
  match p with
  | .bad e => .bad e
  | .ok es k => Part.ahead es k (f k)
/-- So many runs. -/
def rruns : Nat → Bool → Int → List UInt8 → Part
  | 0, _, _, _ => .ok [] 0
  | c + 1, first, next, l => match Vary.int l 200 with
    | .bad e => .bad e
    | .ok g j => match Vary.int (l.drop j) 16 with
      | .bad e => .bad e
      | .ok m i => Part.ahead [] (j + i) ((rtimes (m + 1) (next + g + (if first then 0 else 1)) (l.drop (j + i))).andThen fun k => rruns c false (next + g + (if first then 0 else 1) + (m + 1 : Nat)) (l.drop (j + i + k)))
def Part.fin : Part → Part
  | .bad e => .bad e
  | .ok l k => if right l = .ok then .ok l k else .bad (right l).code
def read (s : List UInt8) : Part :=
  match Vary.int s 16 with
  | .bad e => .bad e
  | .ok n j => Part.fin (Part.ahead [] j (rruns n true 0 (s.drop j)))
/-- Beside each other, from here on. -/
def Consec : Int → List Entry → Prop
  | _, [] => True
  | r, x :: l => x.r = r ∧ Consec (r + 1) l
theorem ext_take (l : List Entry) (r : Int) (k : Nat) : Consec (r + k) (l.take (ext_ r k l - k)) := by
  induction l generalizing k with
  | nil => simp [Consec]
  | cons y l ih =>
    simp only [ext_]
    split
    · rename_i h
      have h1 := ext_ge r (k + 1) l
      have e : ext_ r (k + 1) l - k = (ext_ r (k + 1) l - (k + 1)) + 1 := by omega
      rw [e, List.take_succ_cons]
      refine ⟨h, ?_⟩
      have := ih (k + 1)
      rw [show r + ((k + 1 : Nat) : Int) = r + k + 1 by omega] at this
      exact this
    · rw [Nat.sub_self, List.take_zero]; trivial
theorem ext_head (l : List Entry) (r : Int) (k : Nat) (hs : Sorted l) (hl : ∀ y ∈ l, r + k - 1 < y.r) : ∀ y, (l.drop (ext_ r k l - k)).head? = some y → r + (ext_ r k l : Nat) + 1 ≤ y.r := by
  induction l generalizing k with
  | nil => intro y hy; simp at hy
  | cons x l ih =>
    intro y hy
    simp only [ext_] at hy ⊢
    obtain ⟨h1, h2⟩ := sorted_head hs
    have hx := hl x (List.mem_cons_self ..)
    split at hy
    · rename_i h
      rw [if_pos h]
      have hg := ext_ge r (k + 1) l
      have e : ext_ r (k + 1) l - k = (ext_ r (k + 1) l - (k + 1)) + 1 := by omega
      rw [e, List.drop_succ_cons] at hy
      exact ih (k + 1) h2 (fun z hz => by have := h1 z hz; omega) y hy
    · rename_i h
      rw [if_neg h]
      rw [Nat.sub_self, List.drop_zero] at hy
      injection hy with hy
      subst hy
      omega
theorem int_put' (n : Nat) (m : Int) (r : List UInt8) (h : n < 18446744073709551616) (h0 : (n : Int) ≤ m) : Vary.int (Vary.put n ++ r) m = .ok n (Vary.put n).length :=
  Vary.int_ok (Vary.get_put n r h) (by omega)
theorem rtimes_put (l : List Entry) (r : Int) (more : List UInt8) (hc : Consec r l) (ht : ∀ x ∈ l, 1 ≤ x.t ∧ x.t ≤ 1099511627776) : rtimes l.length r (times l ++ more) = .ok l (times l).length := by
  induction l generalizing r with
  | nil => rfl
  | cons x l ih =>
    obtain ⟨h1, h2⟩ := hc
    have hx := ht x (List.mem_cons_self ..)
    have e1 : times (x :: l) = Vary.put x.t.toNat ++ times l := rfl
    have i1 := ih (r + 1) h2 fun y hy => ht y (List.mem_cons_of_mem _ hy)
    rw [e1, List.append_assoc, List.length_cons, rtimes, int_put' x.t.toNat _ _ (by omega) (by omega)]
    simp only
    rw [List.drop_left, i1]
    have e2 : (⟨r, (x.t.toNat : Int)⟩ : Entry) = x := by
      obtain ⟨a, b⟩ := x
      simp only [Entry.mk.injEq] at *
      omega
    rw [e2]
    simp [Part.ahead]
/-- What is written is read. -/
theorem rruns_enc (l : List Entry) (first : Bool) (next : Int) (more : List UInt8) (hs : Sorted l) (hl : l.length ≤ 16) (he : ∀ x ∈ l, 0 ≤ x.r ∧ x.r ≤ 200 ∧ 1 ≤ x.t ∧ x.t ≤ 1099511627776) (h0 : 0 ≤ next)
    (hh : ∀ y, l.head? = some y → next + (if first then 0 else 1) ≤ y.r) : rruns (enc first next l).1 first next ((enc first next l).2 ++ more) = .ok l (enc first next l).2.length := by
  match l with
  | [] => rw [enc_nil]; rfl
  | x :: l =>
    have hg := ext_ge x.r 1 l
    have hle := ext_le x.r 1 l
    obtain ⟨h1, h2⟩ := sorted_head hs
    have hx := he x (List.mem_cons_self ..)
    have hxn := hh x rfl
    simp only [List.length_cons] at hl
    have hd := ext_head l x.r 1 h2 (fun y hy => by have := h1 y hy; omega)
    have i1 := rruns_enc (l.drop (ext_ x.r 1 l - 1)) false (x.r + (ext_ x.r 1 l : Nat)) more (List.Pairwise.drop h2) (by rw [List.length_drop]; omega) (fun y hy => he y (List.mem_cons_of_mem _ (List.mem_of_mem_drop hy))) (by omega) (fun y hy => by have := hd y hy; simpa using this)
    have hco : Consec x.r ((x :: l).take (ext_ x.r 1 l)) := by
      have := ext_take l x.r 1
      obtain ⟨k, hk⟩ : ∃ k, ext_ x.r 1 l = k + 1 := ⟨ext_ x.r 1 l - 1, by omega⟩
      rw [hk] at this ⊢
      rw [List.take_succ_cons]
      exact ⟨rfl, by simpa using this⟩
    have hlen : ((x :: l).take (ext_ x.r 1 l)).length = ext_ x.r 1 l := by rw [List.length_take, List.length_cons]; omega
    have ht := fun m => rtimes_put ((x :: l).take (ext_ x.r 1 l)) x.r m hco (fun y hy => (he y (List.mem_of_mem_take hy)).2.2)
    rw [hlen] at ht
    have hgap : 0 ≤ x.r - next - (if first then 0 else 1) := by omega
    have hgap2 : x.r - next - (if first then 0 else 1) ≤ 200 := by split <;> omega
    generalize hG : x.r - next - (if first then 0 else 1) = G at *
    have hnx : next + (G.toNat : Int) + (if first then 0 else 1) = x.r := by omega
    have hdr : (x :: l).drop (ext_ x.r 1 l) = l.drop (ext_ x.r 1 l - 1) := by
      obtain ⟨k, hk⟩ : ∃ k, ext_ x.r 1 l = k + 1 := ⟨ext_ x.r 1 l - 1, by omega⟩
      rw [hk, List.drop_succ_cons, Nat.add_sub_cancel]
    have htd : (x :: l).take (ext_ x.r 1 l) ++ l.drop (ext_ x.r 1 l - 1) = x :: l := by rw [← hdr, List.take_append_drop]
    rw [enc_cons, hG]
    generalize hE : enc false (x.r + (ext_ x.r 1 l : Nat)) (l.drop (ext_ x.r 1 l - 1)) = E at *
    obtain ⟨c, bs⟩ := E
    generalize (x :: l).take (ext_ x.r 1 l) = run at *
    generalize l.drop (ext_ x.r 1 l - 1) = rest at *
    generalize ext_ x.r 1 l = n at *
    obtain ⟨m, rfl⟩ : ∃ m, n = m + 1 := ⟨n - 1, by omega⟩
    simp only [Nat.add_sub_cancel, List.append_assoc] at *
    rw [rruns, int_put' G.toNat _ _ (by omega) (by omega)]
    simp only [List.drop_left]
    rw [int_put' m _ _ (by omega) (by omega)]
    simp only [← List.drop_drop, List.drop_left, hnx]
    rw [ht]
    simp only [Part.andThen, List.drop_left, i1, Part.ahead, htd, List.nil_append, List.length_append]
    congr 1
    omega
termination_by l.length
decreasing_by all_goals (simp only [List.length_drop, List.length_cons]; omega)
theorem read_write (l : List Entry) (more : List UInt8) (h : right l = .ok) : read (write l ++ more) = .ok l (write l).length := by
  have hf := (right_iff l).1 h
  have hl := enc_len true 0 l (fun x hx => ⟨(hf.each x hx).1, (hf.each x hx).2.1, (hf.each x hx).2.2.2⟩) (by omega) (by have := hf.len; omega)
  have h1 := rruns_enc l true 0 more hf.sorted hf.len hf.each (by omega) (fun y hy => by
    have := hf.each y (List.mem_of_mem_head? hy)
    simp; omega)
  have h2 := hf.len
  unfold read write
  rw [List.append_assoc, int_put' (enc true 0 l).1 16 _ (by omega) (by omega)]
  simp only [List.drop_left, h1, Part.ahead, Part.fin, List.nil_append, h, if_pos, List.length_append]
theorem rtimes_ok (c : Nat) (r : Int) (b : List UInt8) (es : List Entry) (k : Nat) (h : rtimes c r b = .ok es k) : es.length = c ∧ Consec r es ∧ times es = b.take k ∧ k ≤ b.length := by
  induction c generalizing r b es k with
  | zero =>
    injection h with h1 h2
    subst h1; subst h2
    exact ⟨rfl, trivial, rfl, by omega⟩
  | succ c ih =>
    rw [rtimes] at h
    cases hi : Vary.int b 1099511627776 with
    | bad e => rw [hi] at h; cases h
    | ok t j =>
      rw [hi] at h
      simp only at h
      cases hr : rtimes c (r + 1) (b.drop j) with
      | bad e => rw [hr] at h; cases h
      | ok l n =>
        rw [hr] at h
        simp only [Part.ahead, Part.ok.injEq] at h
        obtain ⟨rfl, rfl⟩ := h
        obtain ⟨i1, i2, i3, i4⟩ := ih _ _ _ _ hr
        have g : Vary.get b = .ok t j := by
          unfold Vary.int at hi
          cases hg : Vary.get b with
          | bad e => rw [hg] at hi; cases hi
          | ok a d =>
            rw [hg] at hi
            simp only at hi
            split at hi
            · cases hi
            · exact hi
        obtain ⟨g1, g2, g3, g4⟩ := Vary.get_ok _ _ _ g
        rw [List.length_drop] at i4
        refine ⟨by simp [i1], ⟨rfl, i2⟩, ?_, by omega⟩
        show Vary.put (t : Int).toNat ++ times l = _
        rw [Int.toNat_natCast, g3, i3, List.take_add]
theorem ext_consec (u : List Entry) (rest : List Entry) (r : Int) (k : Nat) (h : Consec (r + k) u) (hr : ∀ y, rest.head? = some y → y.r ≠ r + k + u.length) : ext_ r k (u ++ rest) = k + u.length := by
  induction u generalizing k with
  | nil =>
    cases rest with
    | nil => rfl
    | cons y rest =>
      have := hr y rfl
      rw [List.nil_append, ext_, if_neg (by simpa using this)]; rfl
  | cons x u ih =>
    obtain ⟨h1, h2⟩ := h
    rw [List.cons_append, ext_, if_pos h1, ih (k + 1) (by rw [show r + ((k + 1 : Nat) : Int) = r + k + 1 by omega]; exact h2) (fun y hy => by
      have := hr y hy
      simp only [List.length_cons] at this
      omega)]
    simp only [List.length_cons]; omega
theorem int_get {b : List UInt8} {m : Int} {t j : Nat} (hi : Vary.int b m = .ok t j) : Vary.get b = .ok t j ∧ (t : Int) ≤ m := by
  unfold Vary.int at hi
  cases hg : Vary.get b with
  | bad e => rw [hg] at hi; cases hi
  | ok a d =>
    rw [hg] at hi
    simp only at hi
    split at hi
    · cases hi
    · injection hi with e1 e2
      subst e1; subst e2
      exact ⟨rfl, by omega⟩
theorem rruns_ok (c : Nat) (first : Bool) (next : Int) (b : List UInt8) (es : List Entry) (k : Nat) (h : rruns c first next b = .ok es k) :
    enc first next es = (c, b.take k) ∧ k ≤ b.length ∧ ∀ y, es.head? = some y → next + (if first then 0 else 1) ≤ y.r := by
  induction c generalizing first next b es k with
  | zero =>
    injection h with h1 h2
    subst h1; subst h2
    exact ⟨by rw [enc_nil, List.take_zero], by omega, by simp⟩
  | succ c ih =>
    rw [rruns] at h
    cases hi : Vary.int b 200 with
    | bad e => rw [hi] at h; cases h
    | ok g j =>
      rw [hi] at h
      simp only at h
      cases hj : Vary.int (b.drop j) 16 with
      | bad e => rw [hj] at h; cases h
      | ok m i =>
        rw [hj] at h
        simp only at h
        cases ht : rtimes (m + 1) (next + g + (if first then 0 else 1)) (b.drop (j + i)) with
        | bad e => rw [ht] at h; cases h
        | ok run n =>
          rw [ht] at h
          simp only [Part.andThen] at h
          cases hr : rruns c false (next + g + (if first then 0 else 1) + (m + 1 : Nat)) (b.drop (j + i + n)) with
          | bad e => rw [hr] at h; cases h
          | ok rest q =>
            rw [hr] at h
            simp only [Part.ahead, Part.ok.injEq, List.nil_append] at h
            obtain ⟨rfl, rfl⟩ := h
            obtain ⟨r1, r2, r3⟩ := ih _ _ _ _ _ hr
            obtain ⟨t1, t2, t3, t4⟩ := rtimes_ok _ _ _ _ _ ht
            obtain ⟨p1, p2, p3, p4⟩ := Vary.get_ok _ _ _ (int_get hi).1
            obtain ⟨q1, q2, q3, q4⟩ := Vary.get_ok _ _ _ (int_get hj).1
            rw [List.length_drop] at r2 t4 q2
            match run, t1, t2 with
            | x :: u, t1, t2 =>
              obtain ⟨x1, x2⟩ := t2
              simp only [List.length_cons, Nat.add_right_cancel_iff] at t1
              rw [← x1] at x2 r1 r3
              have hext : ext_ x.r 1 (u ++ rest) = m + 1 := by
                rw [ext_consec u rest x.r 1 (by simpa using x2) (fun y hy => by
                  have := r3 y hy
                  simp only [Bool.false_eq_true, if_false] at this
                  rw [t1]; omega), t1]; omega
              rw [List.cons_append, enc_cons, hext, Nat.add_sub_cancel, List.drop_left' t1, r1, List.take_succ_cons, List.take_left' t1, t3]
              have hz : (x.r - next - (if first then 0 else 1)).toNat = g := by omega
              rw [hz, p3, q3]
              refine ⟨?_, by omega, fun y hy => ?_⟩
              · congr 1
                rw [List.take_add (i := j + i), List.take_add (i := j) (j := i), List.take_add (i := n), List.drop_drop]
                simp only [List.append_assoc, Nat.add_assoc]
              · injection hy with hy
                subst hy
                omega
theorem read_ok (s : List UInt8) (l : List Entry) (n : Nat) (h : read s = .ok l n) : right l = .ok ∧ 1 ≤ n ∧ n ≤ s.length ∧ write l = s.take n := by
  unfold read at h
  cases hi : Vary.int s 16 with
  | bad e => rw [hi] at h; cases h
  | ok c j =>
    rw [hi] at h
    simp only at h
    cases hr : rruns c true 0 (s.drop j) with
    | bad e => rw [hr] at h; cases h
    | ok es k =>
      rw [hr] at h
      simp only [Part.ahead, Part.fin, List.nil_append] at h
      split at h
      · rename_i hw
        injection h with h1 h2
        subst h1; subst h2
        obtain ⟨r1, r2, r3⟩ := rruns_ok _ _ _ _ _ _ hr
        obtain ⟨p1, p2, p3, p4⟩ := Vary.get_ok _ _ _ (int_get hi).1
        rw [List.length_drop] at r2
        refine ⟨hw, by omega, by omega, ?_⟩
        unfold write
        rw [r1, p3, List.take_add]
      · cases h
end Vec
end Go.Proofs.YtognjohloobliaaDoor
