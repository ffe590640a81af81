/- Batches in plain words: what is right. No program. -/
import Derived.Test.YtlgaklbfjjpfkaaDoorPlainWrite
import Derived.Test.YtlgaklbfjjpfkaaDoorPlainVec2
namespace Go.Proofs.YtlgaklbfjjpfkaaDoor
namespace Bat
set_option linter.unusedVariables false
def within (t r : Int) (a b : List Vec.Entry) : Bool := decide (Vec.of a r < t) && decide (t ≤ Vec.of b r)
def covers (a b : List Vec.Entry) : Bool := decide (Vec.right a = .ok) && (decide (Vec.right b = .ok) && b.all fun x => decide (x.t ≤ Vec.of a x.r))
def Later (p x : Wr) : Prop := p.t < x.t ∨ (p.t = x.t ∧ p.r < x.r)
instance (p x : Wr) : Decidable (Later p x) := by unfold Later; infer_instance
def behind (prev : Option Wr) (x : Wr) : Bool := match prev with
  | none => true
  | some p => decide (Later p x)
def wrong (f h : List Vec.Entry) (prev : Option Wr) (x : Wr) : Nat :=
  if Wr.right x ≠ 0 then Wr.right x
  else if behind prev x = false then 10
  else if within x.t x.r f h = false then 6 else 0
def wrongs (f h : List Vec.Entry) : List Wr → Option Wr → Nat → Err
  | [], _, _ => .ok
  | x :: l, prev, i => if wrong f h prev x ≠ 0 then .at_ (wrong f h prev x) i else wrongs f h l (some x) (i + 1)
def right (f h : List Vec.Entry) (ws : List Wr) : Err :=
  if Vec.right f ≠ .ok then .no (Vec.right f).code
  else if Vec.right h ≠ .ok then .no (Vec.right h).code
  else if covers h f = false then .no 13
  else if 60 < ws.length then .no 4
  else wrongs f h ws none 0
structure Fine (f h : List Vec.Entry) (ws : List Wr) : Prop where
  from_ : Vec.right f = .ok
  have_ : Vec.right h = .ok
  cov : covers h f = true
  len : ws.length ≤ 60
  each : ∀ x ∈ ws, Wr.right x = 0 ∧ within x.t x.r f h = true
  order : ws.Pairwise Later
theorem later_trans {a b c : Wr} (h1 : Later a b) (h2 : Later b c) : Later a c := by unfold Later at *; omega
theorem wrongs_ok (f h : List Vec.Entry) (l : List Wr) (prev : Option Wr) (i : Nat) : wrongs f h l prev i = .ok ↔ ((∀ x ∈ l, Wr.right x = 0 ∧ within x.t x.r f h = true) ∧ l.Pairwise Later ∧ ∀ p, prev = some p → ∀ x ∈ l, Later p x) := by
  induction l generalizing prev i with
  | nil => simp [wrongs]
  | cons x l ih =>
    simp only [wrongs]
    by_cases hw : wrong f h prev x ≠ 0
    · rw [if_pos hw]
      constructor
      · intro h; cases h
      · rintro ⟨h1, h2, h3⟩
        exfalso
        apply hw
        obtain ⟨a1, a2⟩ := h1 x (List.mem_cons_self ..)
        unfold wrong
        rw [if_neg (by simp [a1]), if_neg, if_neg (by simp [a2])]
        cases prev with
        | none => simp [behind]
        | some p => simp [behind, h3 p rfl x (List.mem_cons_self ..)]
    · rw [if_neg hw, ih]
      have hw0 : wrong f h prev x = 0 := by omega
      unfold wrong at hw0
      by_cases r0 : Wr.right x ≠ 0
      · rw [if_pos r0] at hw0; exact absurd hw0 r0
      rw [if_neg r0] at hw0
      by_cases r1 : behind prev x = false
      · rw [if_pos r1] at hw0; cases hw0
      rw [if_neg r1] at hw0
      by_cases r2 : within x.t x.r f h = false
      · rw [if_pos r2] at hw0; cases hw0
      have r0 : Wr.right x = 0 := by omega
      have r2 : within x.t x.r f h = true := by simpa using r2
      have r1 : behind prev x = true := by simpa using r1
      constructor
      · rintro ⟨h1, h2, h3⟩
        refine ⟨fun y hy => ?_, List.pairwise_cons.2 ⟨fun y hy => h3 x rfl y hy, h2⟩, fun p hp y hy => ?_⟩
        · rcases List.mem_cons.1 hy with rfl | hy
          · exact ⟨r0, r2⟩
          · exact h1 y hy
        · subst hp
          have hpx : Later p x := by simpa [behind] using r1
          rcases List.mem_cons.1 hy with rfl | hy
          · exact hpx
          · exact later_trans hpx (h3 x rfl y hy)
      · rintro ⟨h1, h2, h3⟩
        obtain ⟨s1, s2⟩ := List.pairwise_cons.1 h2
        exact ⟨fun y hy => h1 y (List.mem_cons_of_mem _ hy), s2, fun p hp y hy => by cases hp; exact s1 y hy⟩
theorem right_iff (f h : List Vec.Entry) (ws : List Wr) : right f h ws = .ok ↔ Fine f h ws := by
  unfold right
  by_cases h1 : Vec.right f ≠ .ok
  · rw [if_pos h1]; exact ⟨fun h => (by cases h), fun h => absurd h.from_ h1⟩
  rw [if_neg h1]
  by_cases h2 : Vec.right h ≠ .ok
  · rw [if_pos h2]; exact ⟨fun h => (by cases h), fun h => absurd h.have_ h2⟩
  rw [if_neg h2]
  by_cases h3 : covers h f = false
  · rw [if_pos h3]; exact ⟨fun h => (by cases h), fun h => absurd h.cov (by simp [h3])⟩
  rw [if_neg h3]
  by_cases h4 : 60 < ws.length
  · rw [if_pos h4]; exact ⟨fun h => (by cases h), fun h => absurd h.len (by omega)⟩
  rw [if_neg h4, wrongs_ok]
  constructor
  · rintro ⟨a, b, _⟩
    exact ⟨by simpa using h1, by simpa using h2, by simpa using h3, by omega, a, b⟩
  · intro hf
    exact ⟨hf.each, hf.order, fun p hp => by cases hp⟩
theorem covers_iff' {a b : List Vec.Entry} : covers a b = true ↔ Vec.right a = .ok ∧ Vec.right b = .ok ∧ Vec.Covers a b := by
  unfold covers
  simp only [Bool.and_eq_true, decide_eq_true_eq, List.all_eq_true]
  constructor
  · rintro ⟨h1, h2, h3⟩
    exact ⟨h1, h2, (Vec.covers_iff ((Vec.right_iff b).1 h2).sorted ((Vec.right_iff a).1 h1).pos).1 h3⟩
  · rintro ⟨h1, h2, h3⟩
    exact ⟨h1, h2, (Vec.covers_iff ((Vec.right_iff b).1 h2).sorted ((Vec.right_iff a).1 h1).pos).2 h3⟩
/-- FROM LESS, TO MORE. -/
theorem wide {f h g k : List Vec.Entry} {ws : List Wr} (hf : Fine f h ws) (h1 : covers f g = true) (h2 : covers k h = true) : Fine g k ws := by
  obtain ⟨a1, a2, a3⟩ := covers_iff'.1 h1
  obtain ⟨b1, b2, b3⟩ := covers_iff'.1 h2
  obtain ⟨c1, c2, c3⟩ := covers_iff'.1 hf.cov
  refine ⟨a2, b1, covers_iff'.2 ⟨b1, a2, fun r => by have := a3 r; have := b3 r; have := c3 r; omega⟩, hf.len, fun x hx => ⟨(hf.each x hx).1, ?_⟩, hf.order⟩
  have := (hf.each x hx).2
  unfold within at *
  simp only [Bool.and_eq_true, decide_eq_true_eq] at *
  have := a3 x.r; have := b3 x.r
  omega
theorem sub_fine {f h g k : List Vec.Entry} {ws : List Wr} (hf : Fine f h ws) (h1 : Vec.right g = .ok) (h2 : Vec.right k = .ok) (h3 : covers k g = true) (p : Wr → Bool) (hp : ∀ x ∈ ws, p x = true → within x.t x.r g k = true) : Fine g k (ws.filter p) := by
  refine ⟨h1, h2, h3, Nat.le_trans (List.length_filter_le _ _) hf.len, fun x hx => ?_, hf.order.filter _⟩
  obtain ⟨m1, m2⟩ := List.mem_filter.1 hx
  exact ⟨(hf.each x m1).1, hp x m1 m2⟩
/-- HERE AND THERE. -/
theorem parts {f h m : List Vec.Entry} {ws : List Wr} (hf : Fine f h ws) (h1 : covers m f = true) (h2 : covers h m = true) :
    Fine f m (ws.filter fun x => within x.t x.r f m) ∧ Fine m h (ws.filter fun x => within x.t x.r m h) ∧ (ws.filter fun x => within x.t x.r f m).length + (ws.filter fun x => within x.t x.r m h).length = ws.length := by
  obtain ⟨a1, a2, a3⟩ := covers_iff'.1 h1
  obtain ⟨b1, b2, b3⟩ := covers_iff'.1 h2
  refine ⟨sub_fine hf a2 a1 h1 _ (fun x _ h => h), sub_fine hf b2 b1 h2 _ (fun x _ h => h), ?_⟩
  have key : ∀ l : List Wr, (∀ x ∈ l, within x.t x.r f h = true) → (l.filter fun x => within x.t x.r f m).length + (l.filter fun x => within x.t x.r m h).length = l.length := by
    intro l hl
    induction l with
    | nil => rfl
    | cons x l ih =>
      have ih := ih (fun y hy => hl y (List.mem_cons_of_mem _ hy))
      have hx := hl x (List.mem_cons_self ..)
      have e1 := a3 x.r
      have e2 := b3 x.r
      simp only [List.filter_cons, List.length_cons]
      unfold within at hx
      simp only [Bool.and_eq_true, decide_eq_true_eq] at hx
      by_cases hm : x.t ≤ Vec.of m x.r
      · have w1 : within x.t x.r f m = true := by unfold within; simp; omega
        have w2 : within x.t x.r m h = false := by unfold within; simp; omega
        rw [w1, w2]
        simp only [if_true, Bool.false_eq_true, if_false, List.length_cons]
        omega
      · have w1 : within x.t x.r f m = false := by unfold within; simp; omega
        have w2 : within x.t x.r m h = true := by unfold within; simp; omega
        rw [w1, w2]
        simp only [if_true, Bool.false_eq_true, if_false, List.length_cons]
        omega
  exact key ws (fun x hx => (hf.each x hx).2)
end Bat
end Go.Proofs.YtlgaklbfjjpfkaaDoor
