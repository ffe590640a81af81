/- Plain words for vectors. -/
namespace Go.Proofs.YtlgaklbfjjpfkaaDoor
namespace Vec
/-- An entry: its replica, its time. -/
structure Entry where
  r : Int
  t : Int
deriving DecidableEq
/-- How far a replica is known. -/
def of : List Entry → Int → Int
  | [], _ => 0
  | x :: l, r => if x.r = r then x.t else of l r
theorem of_drop (l : List Entry) (k : Nat) (r : Int) (h : k < l.length) : of (l.drop k) r = if l[k].r = r then l[k].t else of (l.drop (k + 1)) r := by
  rw [List.drop_eq_getElem_cons h]; rfl
end Vec
end Go.Proofs.YtlgaklbfjjpfkaaDoor
/- Plain laws of vectors: what is right, joined, covered. -/
namespace Go.Proofs.YtlgaklbfjjpfkaaDoor
/-- An error: none, a number, or a number at a place. -/
inductive Err where
  | ok
  | no (n : Nat)
  | at_ (n i : Nat)
deriving DecidableEq
def Err.code : Err → Nat
  | .ok => 0
  | .no n => n
  | .at_ n _ => n
namespace Vec
set_option linter.unusedVariables false
def Sorted (l : List Entry) : Prop := l.Pairwise (fun x y => x.r < y.r)
def Pos (l : List Entry) : Prop := ∀ x ∈ l, 1 ≤ x.t
theorem of_zero {l : List Entry} {r : Int} (h : ∀ y ∈ l, y.r ≠ r) : of l r = 0 := by
  induction l with
  | nil => rfl
  | cons x l ih =>
    simp only [of]
    rw [if_neg (h x (List.mem_cons_self ..))]
    exact ih fun y hy => h y (List.mem_cons_of_mem _ hy)
theorem of_pos {l : List Entry} (hp : Pos l) (r : Int) : 0 ≤ of l r := by
  induction l with
  | nil => exact Int.le_refl 0
  | cons x l ih =>
    simp only [of]
    split
    · have := hp x (List.mem_cons_self ..); omega
    · exact ih fun y hy => hp y (List.mem_cons_of_mem _ hy)
theorem sorted_head {x : Entry} {l : List Entry} (h : Sorted (x :: l)) : (∀ y ∈ l, x.r < y.r) ∧ Sorted l := List.pairwise_cons.1 h
theorem of_mem {l : List Entry} (h : Sorted l) {x : Entry} (hx : x ∈ l) : of l x.r = x.t := by
  induction l with
  | nil => cases hx
  | cons y l ih =>
    obtain ⟨h1, h2⟩ := sorted_head h
    simp only [of]
    rcases List.mem_cons.1 hx with rfl | hm
    · rw [if_pos rfl]
    · have := h1 x hm
      rw [if_neg (by omega)]
      exact ih h2 hm
theorem of_head {x : Entry} {l : List Entry} {r : Int} (h : x.r ≠ r) : of (x :: l) r = of l r := by
  simp only [of]; rw [if_neg h]
theorem of_self {x : Entry} {l : List Entry} : of (x :: l) x.r = x.t := by simp [of]
/-- Two that know as much are one. -/
theorem ext {a b : List Entry} (ha : Sorted a) (hb : Sorted b) (pa : Pos a) (pb : Pos b) (h : ∀ r, of a r = of b r) : a = b := by
  induction a generalizing b with
  | nil =>
    cases b with
    | nil => rfl
    | cons y b =>
      have h1 := h y.r
      rw [of_self] at h1
      have := pb y (List.mem_cons_self ..)
      simp only [of] at h1; omega
  | cons x a ih =>
    cases b with
    | nil =>
      have h1 := h x.r
      rw [of_self] at h1
      have := pa x (List.mem_cons_self ..)
      simp only [of] at h1; omega
    | cons y b =>
      obtain ⟨a1, a2⟩ := sorted_head ha
      obtain ⟨b1, b2⟩ := sorted_head hb
      have px := pa x (List.mem_cons_self ..)
      have py := pb y (List.mem_cons_self ..)
      have hr : x.r = y.r := by
        rcases Int.lt_trichotomy x.r y.r with hlt | he | hlt
        · have h1 := h x.r
          rw [of_self, of_zero (l := y :: b) (fun z hz => by
            rcases List.mem_cons.1 hz with rfl | hz
            · omega
            · have := b1 z hz; omega)] at h1
          omega
        · exact he
        · have h1 := h y.r
          rw [of_self, of_zero (l := x :: a) (fun z hz => by
            rcases List.mem_cons.1 hz with rfl | hz
            · omega
            · have := a1 z hz; omega)] at h1
          omega
      have ht : x.t = y.t := by
        have h1 := h x.r
        rw [of_self, hr, of_self] at h1; exact h1
      have hxy : x = y := by
        cases x; cases y; simp only at hr ht; rw [hr, ht]
      subst hxy
      rw [ih a2 b2 (fun z hz => pa z (List.mem_cons_of_mem _ hz)) (fun z hz => pb z (List.mem_cons_of_mem _ hz)) (fun r => by
        by_cases hx : x.r = r
        · rw [of_zero (fun z hz => by have := a1 z hz; omega), of_zero (fun z hz => by have := b1 z hz; omega)]
        · have := h r
          rw [of_head hx, of_head hx] at this; exact this)]
/-- Both together. -/
def merge : List Entry → List Entry → List Entry
  | [], b => b
  | x :: a, [] => x :: a
  | x :: a, y :: b =>
    if x.r < y.r then x :: merge a (y :: b)
    else if y.r < x.r then y :: merge (x :: a) b
    else ⟨x.r, max x.t y.t⟩ :: merge a b
termination_by a b => a.length + b.length
theorem merge_nil (b : List Entry) : merge [] b = b := by rw [merge]
theorem merge_nil' (a : List Entry) : merge a [] = a := by cases a <;> rw [merge]
theorem merge_lt {x y : Entry} {a b : List Entry} (h : x.r < y.r) : merge (x :: a) (y :: b) = x :: merge a (y :: b) := by rw [merge, if_pos h]
theorem merge_gt {x y : Entry} {a b : List Entry} (h : y.r < x.r) : merge (x :: a) (y :: b) = y :: merge (x :: a) b := by rw [merge, if_neg (by omega), if_pos h]
theorem merge_eq {x y : Entry} {a b : List Entry} (h : x.r = y.r) : merge (x :: a) (y :: b) = ⟨x.r, max x.t y.t⟩ :: merge a b := by rw [merge, if_neg (by omega), if_neg (by omega)]
theorem merge_all {Q : Entry → Prop} (hQ : ∀ x y : Entry, Q x → Q y → x.r = y.r → Q ⟨x.r, max x.t y.t⟩) (a b : List Entry) (ha : ∀ x ∈ a, Q x) (hb : ∀ x ∈ b, Q x) : ∀ x ∈ merge a b, Q x := by
  match a, b with
  | [], b => rw [merge_nil]; exact hb
  | x :: a, [] => rw [merge_nil']; exact ha
  | x :: a, y :: b =>
    rcases Int.lt_trichotomy x.r y.r with h | h | h
    · rw [merge_lt h]
      intro z hz
      rcases List.mem_cons.1 hz with rfl | hz
      · exact ha z (List.mem_cons_self ..)
      · exact merge_all hQ a (y :: b) (fun z hz => ha z (List.mem_cons_of_mem _ hz)) hb z hz
    · rw [merge_eq h]
      intro z hz
      rcases List.mem_cons.1 hz with rfl | hz
      · exact hQ x y (ha x (List.mem_cons_self ..)) (hb y (List.mem_cons_self ..)) h
      · exact merge_all hQ a b (fun z hz => ha z (List.mem_cons_of_mem _ hz)) (fun z hz => hb z (List.mem_cons_of_mem _ hz)) z hz
    · rw [merge_gt h]
      intro z hz
      rcases List.mem_cons.1 hz with rfl | hz
      · exact hb z (List.mem_cons_self ..)
      · exact merge_all hQ (x :: a) b ha (fun z hz => hb z (List.mem_cons_of_mem _ hz)) z hz
termination_by a.length + b.length
theorem merge_pos {a b : List Entry} (ha : Pos a) (hb : Pos b) : Pos (merge a b) := merge_all (Q := fun x => 1 ≤ x.t) (fun x y h1 h2 _ => by show 1 ≤ max x.t y.t; omega) a b ha hb
theorem merge_above {a b : List Entry} {k : Int} (ha : ∀ x ∈ a, k < x.r) (hb : ∀ x ∈ b, k < x.r) : ∀ x ∈ merge a b, k < x.r := merge_all (Q := fun x => k < x.r) (fun x y h1 _ _ => h1) a b ha hb
theorem merge_sorted (a b : List Entry) (ha : Sorted a) (hb : Sorted b) : Sorted (merge a b) := by
  match a, b with
  | [], b => rw [merge_nil]; exact hb
  | x :: a, [] => rw [merge_nil']; exact ha
  | x :: a, y :: b =>
    obtain ⟨a1, a2⟩ := sorted_head ha
    obtain ⟨b1, b2⟩ := sorted_head hb
    rcases Int.lt_trichotomy x.r y.r with h | h | h
    · rw [merge_lt h]
      refine List.pairwise_cons.2 ⟨merge_above a1 (fun z hz => ?_), merge_sorted a (y :: b) a2 hb⟩
      rcases List.mem_cons.1 hz with rfl | hz
      · exact h
      · have := b1 z hz; omega
    · rw [merge_eq h]
      exact List.pairwise_cons.2 ⟨merge_above a1 (fun z hz => by have := b1 z hz; show x.r < z.r; omega), merge_sorted a b a2 b2⟩
    · rw [merge_gt h]
      refine List.pairwise_cons.2 ⟨merge_above (fun z hz => ?_) b1, merge_sorted (x :: a) b ha b2⟩
      rcases List.mem_cons.1 hz with rfl | hz
      · exact h
      · have := a1 z hz; omega
termination_by a.length + b.length
theorem of_merge (a b : List Entry) (ha : Sorted a) (hb : Sorted b) (pa : Pos a) (pb : Pos b) (r : Int) : of (merge a b) r = max (of a r) (of b r) := by
  match a, b with
  | [], b => rw [merge_nil]; have := of_pos pb r; simp only [of]; omega
  | x :: a, [] => rw [merge_nil']; have := of_pos pa r; simp only [of] at *; omega
  | x :: a, y :: b =>
    obtain ⟨a1, a2⟩ := sorted_head ha
    obtain ⟨b1, b2⟩ := sorted_head hb
    have pa' : Pos a := fun z hz => pa z (List.mem_cons_of_mem _ hz)
    have pb' : Pos b := fun z hz => pb z (List.mem_cons_of_mem _ hz)
    have px := pa x (List.mem_cons_self ..)
    have py := pb y (List.mem_cons_self ..)
    rcases Int.lt_trichotomy x.r y.r with h | h | h
    · rw [merge_lt h]
      by_cases hx : x.r = r
      · subst hx
        have h0 : of (y :: b) x.r = 0 := of_zero fun z hz => by
          rcases List.mem_cons.1 hz with rfl | hz
          · omega
          · have := b1 z hz; omega
        rw [of_self, of_self, h0]; omega
      · rw [of_head hx, of_head hx]; exact of_merge a (y :: b) a2 hb pa' pb r
    · rw [merge_eq h]
      by_cases hx : x.r = r
      · have e1 : of (⟨x.r, max x.t y.t⟩ :: merge a b) r = max x.t y.t := by rw [← hx]; exact of_self
        have e2 : of (x :: a) r = x.t := by rw [← hx]; exact of_self
        have e3 : of (y :: b) r = y.t := by rw [← hx, h]; exact of_self
        rw [e1, e2, e3]
      · have e1 : of (⟨x.r, max x.t y.t⟩ :: merge a b) r = of (merge a b) r := of_head hx
        rw [e1, of_head hx, of_head (by omega)]; exact of_merge a b a2 b2 pa' pb' r
    · rw [merge_gt h]
      by_cases hy : y.r = r
      · subst hy
        have h0 : of (x :: a) y.r = 0 := of_zero fun z hz => by
          rcases List.mem_cons.1 hz with rfl | hz
          · omega
          · have := a1 z hz; omega
        rw [of_self, of_self, h0]; omega
      · rw [of_head hy, of_head hy]; exact of_merge (x :: a) b ha b2 pa pb' r
termination_by a.length + b.length
theorem merge_comm {a b : List Entry} (ha : Sorted a) (hb : Sorted b) (pa : Pos a) (pb : Pos b) : merge a b = merge b a :=
  ext (merge_sorted _ _ ha hb) (merge_sorted _ _ hb ha) (merge_pos pa pb) (merge_pos pb pa) fun r => by
    rw [of_merge a b ha hb pa pb, of_merge b a hb ha pb pa]; omega
theorem merge_self {a : List Entry} (ha : Sorted a) (pa : Pos a) : merge a a = a :=
  ext (merge_sorted _ _ ha ha) ha (merge_pos pa pa) pa fun r => by rw [of_merge a a ha ha pa pa]; omega
theorem merge_assoc {a b c : List Entry} (ha : Sorted a) (hb : Sorted b) (hc : Sorted c) (pa : Pos a) (pb : Pos b) (pc : Pos c) : merge (merge a b) c = merge a (merge b c) :=
  ext (merge_sorted _ _ (merge_sorted _ _ ha hb) hc) (merge_sorted _ _ ha (merge_sorted _ _ hb hc)) (merge_pos (merge_pos pa pb) pc) (merge_pos pa (merge_pos pb pc)) fun r => by
    rw [of_merge _ c (merge_sorted _ _ ha hb) hc (merge_pos pa pb) pc, of_merge a b ha hb pa pb, of_merge a _ ha (merge_sorted _ _ hb hc) pa (merge_pos pb pc), of_merge b c hb hc pb pc]; omega
/-- What is wrong with an entry behind another one; 0: nothing. -/
def wrong (prev : Option Entry) (x : Entry) : Nat :=
  if x.r < 0 ∨ 200 < x.r ∨ x.t < 1 ∨ 1099511627776 < x.t then 2
  else match prev with
    | none => 0
    | some p => if x.r ≤ p.r then 10 else 0
def wrongs : List Entry → Option Entry → Nat → Err
  | [], _, _ => .ok
  | x :: l, prev, i => if wrong prev x ≠ 0 then .at_ (wrong prev x) i else wrongs l (some x) (i + 1)
def right (l : List Entry) : Err := if 16 < l.length then .no 4 else wrongs l none 0
structure Fine (l : List Entry) : Prop where
  len : l.length ≤ 16
  sorted : Sorted l
  each : ∀ x ∈ l, 0 ≤ x.r ∧ x.r ≤ 200 ∧ 1 ≤ x.t ∧ x.t ≤ 1099511627776
theorem Fine.pos {l : List Entry} (h : Fine l) : Pos l := fun x hx => (h.each x hx).2.2.1
theorem wrongs_ok (l : List Entry) (prev : Option Entry) (i : Nat) : wrongs l prev i = .ok ↔ (Sorted l ∧ (∀ x ∈ l, 0 ≤ x.r ∧ x.r ≤ 200 ∧ 1 ≤ x.t ∧ x.t ≤ 1099511627776) ∧ ∀ p, prev = some p → ∀ x ∈ l, p.r < x.r) := by
  induction l generalizing prev i with
  | nil => simp [wrongs, Sorted]
  | cons x l ih =>
    simp only [wrongs]
    by_cases hw : wrong prev x ≠ 0
    · rw [if_pos hw]
      constructor
      · intro h; cases h
      · rintro ⟨_, h2, h3⟩
        exfalso
        apply hw
        have hx := h2 x (List.mem_cons_self ..)
        unfold wrong
        rw [if_neg (by omega)]
        cases prev with
        | none => rfl
        | some p =>
          have := h3 p rfl x (List.mem_cons_self ..)
          simp only
          rw [if_neg (by omega)]
    · rw [if_neg hw, ih]
      have hw0 : wrong prev x = 0 := by omega
      unfold wrong at hw0
      split at hw0
      · cases hw0
      · rename_i hr
        constructor
        · rintro ⟨h1, h2, h3⟩
          refine ⟨List.pairwise_cons.2 ⟨h3 x rfl, h1⟩, fun z hz => ?_, fun p hp z hz => ?_⟩
          · rcases List.mem_cons.1 hz with rfl | hz
            · omega
            · exact h2 z hz
          · subst hp
            simp only at hw0
            have hpx : p.r < x.r := by
              by_cases h : x.r ≤ p.r
              · rw [if_pos h] at hw0; cases hw0
              · omega
            rcases List.mem_cons.1 hz with rfl | hz
            · exact hpx
            · have := h3 x rfl z hz; omega
        · rintro ⟨h1, h2, h3⟩
          obtain ⟨s1, s2⟩ := sorted_head h1
          exact ⟨s2, fun z hz => h2 z (List.mem_cons_of_mem _ hz), fun p hp z hz => by cases hp; exact s1 z hz⟩
theorem right_iff (l : List Entry) : right l = .ok ↔ Fine l := by
  unfold right
  by_cases h : 16 < l.length
  · rw [if_pos h]
    constructor
    · intro h; cases h
    · intro hf; have := hf.len; omega
  · rw [if_neg h, wrongs_ok]
    constructor
    · rintro ⟨h1, h2, _⟩; exact ⟨by omega, h1, h2⟩
    · rintro ⟨_, h1, h2⟩; exact ⟨h1, h2, fun p hp => by cases hp⟩
theorem merge_fine {a b : List Entry} (ha : Fine a) (hb : Fine b) (hl : (merge a b).length ≤ 16) : Fine (merge a b) :=
  ⟨hl, merge_sorted _ _ ha.sorted hb.sorted, merge_all (Q := fun x => 0 ≤ x.r ∧ x.r ≤ 200 ∧ 1 ≤ x.t ∧ x.t ≤ 1099511627776) (fun x y h1 h2 _ => ⟨h1.1, h1.2.1, by show 1 ≤ max x.t y.t; omega, by show max x.t y.t ≤ _; omega⟩) a b ha.each hb.each⟩
/-- Whether the first one knows all that the other one does. -/
def Covers (a b : List Entry) : Prop := ∀ r, of b r ≤ of a r
theorem covers_iff {a b : List Entry} (hb : Sorted b) (pa : Pos a) : (∀ x ∈ b, x.t ≤ of a x.r) ↔ Covers a b := by
  constructor
  · intro h r
    by_cases hr : ∃ x ∈ b, x.r = r
    · obtain ⟨x, hx, rfl⟩ := hr
      rw [of_mem hb hx]; exact h x hx
    · rw [of_zero (fun y hy e => hr ⟨y, hy, e⟩)]; exact of_pos pa r
  · intro h x hx
    have := h x.r
    rw [of_mem hb hx] at this; exact this
theorem covers_refl (a : List Entry) : Covers a a := fun _ => Int.le_refl _
theorem covers_trans {a b c : List Entry} (h1 : Covers a b) (h2 : Covers b c) : Covers a c := fun r => Int.le_trans (h2 r) (h1 r)
theorem covers_antisymm {a b : List Entry} (ha : Fine a) (hb : Fine b) (h1 : Covers a b) (h2 : Covers b a) : a = b :=
  ext ha.sorted hb.sorted ha.pos hb.pos fun r => Int.le_antisymm (h2 r) (h1 r)
theorem covers_merge {a b : List Entry} (ha : Fine a) (hb : Fine b) : Covers (merge a b) a ∧ Covers (merge a b) b :=
  ⟨fun r => by rw [of_merge a b ha.sorted hb.sorted ha.pos hb.pos]; omega, fun r => by rw [of_merge a b ha.sorted hb.sorted ha.pos hb.pos]; omega⟩
theorem covers_least {a b c : List Entry} (ha : Fine a) (hb : Fine b) (h1 : Covers c a) (h2 : Covers c b) : Covers c (merge a b) := fun r => by
  rw [of_merge a b ha.sorted hb.sorted ha.pos hb.pos]; have := h1 r; have := h2 r; omega
/-- How many there are in both together. -/
theorem merge_len (a b : List Entry) (ha : Sorted a) (hb : Sorted b) (pa : Pos a) : (merge a b).length = a.length + (b.filter fun x => of a x.r = 0).length := by
  match a, b with
  | [], b =>
    rw [merge_nil]
    have : (b.filter fun x => decide (of [] x.r = 0)) = b := List.filter_eq_self.2 fun x _ => by simp [of]
    rw [this]; simp
  | x :: a, [] => rw [merge_nil']; simp
  | x :: a, y :: b =>
    obtain ⟨a1, a2⟩ := sorted_head ha
    obtain ⟨b1, b2⟩ := sorted_head hb
    have pa' : Pos a := fun z hz => pa z (List.mem_cons_of_mem _ hz)
    have px := pa x (List.mem_cons_self ..)
    rcases Int.lt_trichotomy x.r y.r with h | h | h
    · rw [merge_lt h, List.length_cons, merge_len a (y :: b) a2 hb pa']
      have : ((y :: b).filter fun z => decide (of (x :: a) z.r = 0)) = ((y :: b).filter fun z => decide (of a z.r = 0)) := List.filter_congr fun z hz => by
        have hz' : x.r ≠ z.r := by
          rcases List.mem_cons.1 hz with rfl | hz
          · omega
          · have := b1 z hz; omega
        rw [of_head hz']
      rw [this, List.length_cons]; omega
    · rw [merge_eq h, List.length_cons, merge_len a b a2 b2 pa']
      have e0 : decide (of (x :: a) y.r = 0) = false := by
        rw [← h, of_self]; simp; omega
      have : ((y :: b).filter fun z => decide (of (x :: a) z.r = 0)) = (b.filter fun z => decide (of a z.r = 0)) := by
        rw [List.filter_cons, e0]
        simp only [Bool.false_eq_true, if_false]
        refine List.filter_congr fun z hz => ?_
        have := b1 z hz
        rw [of_head (by omega)]
      rw [this, List.length_cons]; omega
    · rw [merge_gt h, List.length_cons, merge_len (x :: a) b ha b2 pa]
      have e0 : decide (of (x :: a) y.r = 0) = true := by
        rw [of_zero fun z hz => by
          rcases List.mem_cons.1 hz with rfl | hz
          · omega
          · have := a1 z hz; omega]
        rfl
      rw [List.filter_cons, e0]
      simp only [if_true, List.length_cons]; omega
termination_by a.length + b.length
end Vec
end Go.Proofs.YtlgaklbfjjpfkaaDoor
