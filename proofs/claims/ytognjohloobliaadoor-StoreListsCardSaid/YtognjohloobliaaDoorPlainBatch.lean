/- Writes in plain words: what is right, their tails, and what fills them. No program. -/
import Derived.Test.YtognjohloobliaaDoorPlainSpan
import Derived.Test.YtognjohloobliaaDoorPlainVecRd
namespace Go.Proofs.YtognjohloobliaaDoor
structure Wr where
  t : Int
  r : Int
  k : Int
  key : List UInt8
  val : List UInt8
  n : Int
namespace Wr
def idRight (t r : Int) : Bool := decide (1 ≤ t ∧ t ≤ 1099511627776 ∧ 0 ≤ r ∧ r ≤ 200)
def right (x : Wr) : Nat :=
  if x.k < 1 ∨ 4 < x.k then 1
  else if idRight x.t x.r = false then 2
  else if 40 < x.key.length ∨ 300 < x.val.length then 4
  else if (x.k ≠ 1 ∧ x.k ≠ 4 ∧ x.val ≠ []) ∨ (x.k ≠ 3 ∧ x.k ≠ 4 ∧ x.n ≠ 0) then 3
  else if (x.k = 3 ∧ (x.n < -1125899906842624 ∨ 1125899906842624 < x.n)) ∨ (x.k = 4 ∧ (x.n < 0 ∨ 1000 < x.n)) then 2
  else 0
/-- What a right write's tail is. -/
def tail (x : Wr) : List UInt8 :=
  if x.k = 1 then Span.put x.val else if x.k = 3 then Vary.put (Vary.zig x.n) else if x.k = 4 then Vary.put x.n.toNat ++ Span.put x.val else []
inductive Got where
  | bad (e : Nat)
  | ok (x : Wr) (k : Nat)
/-- The value, the number, and how many bytes, of a kind; or an error. -/
def part (k : Int) (s : List UInt8) : Nat ⊕ (List UInt8 × Int × Nat) :=
  if k = 1 then (match Span.get s with | .bad e => .inl e | .ok v n => .inr (v, 0, n))
  else if k = 3 then (match Vary.get s with | .bad e => .inl e | .ok u n => .inr ([], Vary.zag u, n))
  else if k = 4 then (match Vary.int s 1000 with
    | .bad e => .inl e
    | .ok m n => (match Span.get (s.drop n) with | .bad e => .inl e | .ok v j => .inr (v, (m : Int), n + j)))
  else .inr ([], 0, 0)
def fill (x : Wr) (s : List UInt8) : Got :=
  match part x.k s with
  | .inl e => .bad e
  | .inr (v, m, n) => if right { x with val := v, n := m } = 0 then .ok { x with val := v, n := m } n else .bad (right { x with val := v, n := m })
theorem right_zero {x : Wr} (h : right x = 0) : 1 ≤ x.k ∧ x.k ≤ 4 ∧ 1 ≤ x.t ∧ x.t ≤ 1099511627776 ∧ 0 ≤ x.r ∧ x.r ≤ 200 ∧ x.key.length ≤ 40 ∧ x.val.length ≤ 300 ∧ (x.k = 2 ∨ x.k = 3 → x.val = []) ∧ (x.k = 1 ∨ x.k = 2 → x.n = 0) ∧ (x.k = 3 → -1125899906842624 ≤ x.n ∧ x.n ≤ 1125899906842624) ∧ (x.k = 4 → 0 ≤ x.n ∧ x.n ≤ 1000) := by
  unfold right at h
  by_cases h1 : x.k < 1 ∨ 4 < x.k
  · rw [if_pos h1] at h; cases h
  rw [if_neg h1] at h
  by_cases h2 : idRight x.t x.r = false
  · rw [if_pos h2] at h; cases h
  rw [if_neg h2] at h
  by_cases h3 : 40 < x.key.length ∨ 300 < x.val.length
  · rw [if_pos h3] at h; cases h
  rw [if_neg h3] at h
  by_cases h4 : (x.k ≠ 1 ∧ x.k ≠ 4 ∧ x.val ≠ []) ∨ (x.k ≠ 3 ∧ x.k ≠ 4 ∧ x.n ≠ 0)
  · rw [if_pos h4] at h; cases h
  rw [if_neg h4] at h
  by_cases h5 : (x.k = 3 ∧ (x.n < -1125899906842624 ∨ 1125899906842624 < x.n)) ∨ (x.k = 4 ∧ (x.n < 0 ∨ 1000 < x.n))
  · rw [if_pos h5] at h; cases h
  simp only [idRight, decide_eq_false_iff_not, Decidable.not_not] at h2
  refine ⟨by omega, by omega, h2.1, h2.2.1, h2.2.2.1, h2.2.2.2, by omega, by omega, fun h => ?_, fun h => ?_, fun h => by omega, fun h => by omega⟩
  · by_cases hv : x.val = []
    · exact hv
    · exact absurd (Or.inl ⟨by omega, by omega, hv⟩) h4
  · omega
theorem right_of {x : Wr} (h1 : 1 ≤ x.k) (h2 : x.k ≤ 4) (h3 : 1 ≤ x.t) (h4 : x.t ≤ 1099511627776) (h5 : 0 ≤ x.r) (h6 : x.r ≤ 200) (h7 : x.key.length ≤ 40) (h8 : x.val.length ≤ 300) (h9 : x.k = 2 ∨ x.k = 3 → x.val = []) (h10 : x.k = 1 ∨ x.k = 2 → x.n = 0) (h11 : x.k = 3 → -1125899906842624 ≤ x.n ∧ x.n ≤ 1125899906842624) (h12 : x.k = 4 → 0 ≤ x.n ∧ x.n ≤ 1000) : right x = 0 := by
  unfold right
  rw [if_neg (by omega), if_neg (by simp [idRight]; omega), if_neg (by omega), if_neg, if_neg (by omega)]
  rintro (⟨a, b, c⟩ | ⟨a, b, c⟩)
  · exact c (h9 (by omega))
  · exact c (h10 (by omega))
/-- WHAT IS WRITTEN IS READ. -/
theorem fill_tail (x : Wr) (more : List UInt8) (h : right x = 0) : fill { x with val := [], n := 0 } (tail x ++ more) = .ok x (tail x).length := by
  obtain ⟨k1, k2, -, -, -, -, -, h8, h9, h10, h11, h12⟩ := right_zero h
  have hx : ∀ v m, v = x.val → m = x.n → ({ x with val := v, n := m } : Wr) = x := fun v m h1 h2 => by subst h1 h2; rfl
  have key : part x.k (tail x ++ more) = .inr (x.val, x.n, (tail x).length) := by
    unfold part tail
    by_cases c1 : x.k = 1
    · rw [if_pos c1, if_pos c1, Span.get_put _ _ (by omega)]
      simp [h10 (.inl c1)]
    rw [if_neg c1, if_neg c1]
    by_cases c3 : x.k = 3
    · have := h11 c3
      rw [if_pos c3, if_pos c3, Vary.get_put _ _ (Vary.zig_lt _ (by omega) (by omega))]
      simp [h9 (.inr c3), Vary.zag_zig]
    rw [if_neg c3, if_neg c3]
    by_cases c4 : x.k = 4
    · have := h12 c4
      rw [if_pos c4, if_pos c4, List.append_assoc, Vary.int_ok (Vary.get_put x.n.toNat _ (by omega)) (by omega)]
      simp only [List.drop_left]
      rw [Span.get_put _ _ (by omega)]
      simp only [List.length_append]
      rw [Int.toNat_of_nonneg (by omega)]
    rw [if_neg c4, if_neg c4]
    simp [h9 (by omega), h10 (by omega)]
  unfold fill
  show (match part x.k (tail x ++ more) with
  | .inl e => Got.bad e
  | .inr (v, m, n) => if right { x with val := v, n := m } = 0 then .ok { x with val := v, n := m } n else .bad (right { x with val := v, n := m })) = _
  rw [key]
  simp only
  rw [if_pos h]
/-- JUST ONE WAY. -/
theorem fill_ok {x y : Wr} {s : List UInt8} {n : Nat} (h : fill x s = .ok y n) : right y = 0 ∧ n ≤ s.length ∧ tail y = s.take n ∧ y.t = x.t ∧ y.r = x.r ∧ y.k = x.k ∧ y.key = x.key := by
  unfold fill at h
  cases hp : part x.k s with
  | inl e => rw [hp] at h; cases h
  | inr p =>
    obtain ⟨v, m, j⟩ := p
    rw [hp] at h
    simp only at h
    by_cases hr : right { x with val := v, n := m } = 0
    · rw [if_pos hr] at h
      injection h with h1 h2
      subst h1 h2
      refine ⟨hr, ?_⟩
      obtain ⟨k1, k2, -⟩ := right_zero hr
      simp only at k1 k2
      suffices hs : j ≤ s.length ∧ tail { x with val := v, n := m } = s.take j from ⟨hs.1, hs.2, rfl, rfl, rfl, rfl⟩
      unfold part at hp
      unfold tail
      simp only
      by_cases c1 : x.k = 1
      · rw [if_pos c1] at hp ⊢
        cases hg : Span.get s with
        | bad e => rw [hg] at hp; cases hp
        | ok v' n' =>
          rw [hg] at hp
          simp only [Sum.inr.injEq, Prod.mk.injEq] at hp
          obtain ⟨rfl, rfl, rfl⟩ := hp
          obtain ⟨a1, a2, a3, a4, a5⟩ := Span.get_ok hg
          exact ⟨a3, a4⟩
      rw [if_neg c1] at hp ⊢
      by_cases c3 : x.k = 3
      · rw [if_pos c3] at hp ⊢
        cases hg : Vary.get s with
        | bad e => rw [hg] at hp; cases hp
        | ok u' n' =>
          rw [hg] at hp
          simp only [Sum.inr.injEq, Prod.mk.injEq] at hp
          obtain ⟨rfl, rfl, rfl⟩ := hp
          obtain ⟨a1, a2, a3, a4⟩ := Vary.get_ok _ _ _ hg
          exact ⟨a2, by rw [Vary.zig_zag]; exact a3⟩
      rw [if_neg c3] at hp ⊢
      by_cases c4 : x.k = 4
      · rw [if_pos c4] at hp ⊢
        cases hg : Vary.int s 1000 with
        | bad e => rw [hg] at hp; cases hp
        | ok m' n' =>
          rw [hg] at hp
          simp only at hp
          cases hg2 : Span.get (s.drop n') with
          | bad e => rw [hg2] at hp; cases hp
          | ok v' j' =>
            rw [hg2] at hp
            simp only [Sum.inr.injEq, Prod.mk.injEq] at hp
            obtain ⟨rfl, rfl, rfl⟩ := hp
            obtain ⟨b1, b2⟩ := Span.int_inv hg
            obtain ⟨a1, a2, a3, a4⟩ := Vary.get_ok _ _ _ b1
            obtain ⟨d1, d2, d3, d4, d5⟩ := Span.get_ok hg2
            rw [List.length_drop] at d3
            refine ⟨by omega, ?_⟩
            rw [Int.toNat_natCast, a3, d4, List.take_add]
      rw [if_neg c4] at hp ⊢
      simp only [Sum.inr.injEq, Prod.mk.injEq] at hp
      obtain ⟨rfl, rfl, rfl⟩ := hp
      exact ⟨Nat.zero_le _, by simp⟩
    · rw [if_neg hr] at h; cases h
end Wr
end Go.Proofs.YtognjohloobliaaDoor
/- Batches in plain words: what is right. No program. -/
namespace Go.Proofs.YtognjohloobliaaDoor
namespace Bat
set_option linter.unusedVariables false
def within (t r : Int) (a b : List Vec.Entry) : Bool := decide (Vec.of a r < t) && decide (t ≤ Vec.of b r)
def covers (a b : List Vec.Entry) : Bool := decide (Vec.right a = .ok) && (decide (Vec.right b = .ok) && b.all fun x => decide (x.t ≤ Vec.of a x.r))
def Later (p x : Wr) : Prop := p.t < x.t ∨ (p.t = x.t ∧ p.r < x.r)
instance (p x : Wr) : Decidable (Later p x) := by unfold Later; infer_instance
def behind (prev : Option Wr) (x : Wr) : Bool := match prev with
  | none => true
  | some p => decide (Later p x)
def wrong (f h : List Vec.Entry) (prev : Option Wr) (x : Wr) : Nat :=
  if Wr.right x ≠ 0 then Wr.right x
  else if behind prev x = false then 10
  else if within x.t x.r f h = false then 6 else 0
def wrongs (f h : List Vec.Entry) : List Wr → Option Wr → Nat → Err
  | [], _, _ => .ok
  | x :: l, prev, i => if wrong f h prev x ≠ 0 then .at_ (wrong f h prev x) i else wrongs f h l (some x) (i + 1)
def right (f h : List Vec.Entry) (ws : List Wr) : Err :=
  if Vec.right f ≠ .ok then .no (Vec.right f).code
  else if Vec.right h ≠ .ok then .no (Vec.right h).code
  else if covers h f = false then .no 13
  else if 60 < ws.length then .no 4
  else wrongs f h ws none 0
structure Fine (f h : List Vec.Entry) (ws : List Wr) : Prop where
  from_ : Vec.right f = .ok
  have_ : Vec.right h = .ok
  cov : covers h f = true
  len : ws.length ≤ 60
  each : ∀ x ∈ ws, Wr.right x = 0 ∧ within x.t x.r f h = true
  order : ws.Pairwise Later
theorem later_trans {a b c : Wr} (h1 : Later a b) (h2 : Later b c) : Later a c := by unfold Later at *; omega
theorem wrongs_ok (f h : List Vec.Entry) (l : List Wr) (prev : Option Wr) (i : Nat) : wrongs f h l prev i = .ok ↔ ((∀ x ∈ l, Wr.right x = 0 ∧ within x.t x.r f h = true) ∧ l.Pairwise Later ∧ ∀ p, prev = some p → ∀ x ∈ l, Later p x) := by
  induction l generalizing prev i with
  | nil => simp [wrongs]
  | cons x l ih =>
    simp only [wrongs]
    by_cases hw : wrong f h prev x ≠ 0
    · rw [if_pos hw]
      constructor
      · intro h; cases h
      · rintro ⟨h1, h2, h3⟩
        exfalso
        apply hw
        obtain ⟨a1, a2⟩ := h1 x (List.mem_cons_self ..)
        unfold wrong
        rw [if_neg (by simp [a1]), if_neg, if_neg (by simp [a2])]
        cases prev with
        | none => simp [behind]
        | some p => simp [behind, h3 p rfl x (List.mem_cons_self ..)]
    · rw [if_neg hw, ih]
      have hw0 : wrong f h prev x = 0 := by omega
      unfold wrong at hw0
      by_cases r0 : Wr.right x ≠ 0
      · rw [if_pos r0] at hw0; exact absurd hw0 r0
      rw [if_neg r0] at hw0
      by_cases r1 : behind prev x = false
      · rw [if_pos r1] at hw0; cases hw0
      rw [if_neg r1] at hw0
      by_cases r2 : within x.t x.r f h = false
      · rw [if_pos r2] at hw0; cases hw0
      have r0 : Wr.right x = 0 := by omega
      have r2 : within x.t x.r f h = true := by simpa using r2
      have r1 : behind prev x = true := by simpa using r1
      constructor
      · rintro ⟨h1, h2, h3⟩
        refine ⟨fun y hy => ?_, List.pairwise_cons.2 ⟨fun y hy => h3 x rfl y hy, h2⟩, fun p hp y hy => ?_⟩
        · rcases List.mem_cons.1 hy with rfl | hy
          · exact ⟨r0, r2⟩
          · exact h1 y hy
        · subst hp
          have hpx : Later p x := by simpa [behind] using r1
          rcases List.mem_cons.1 hy with rfl | hy
          · exact hpx
          · exact later_trans hpx (h3 x rfl y hy)
      · rintro ⟨h1, h2, h3⟩
        obtain ⟨s1, s2⟩ := List.pairwise_cons.1 h2
        exact ⟨fun y hy => h1 y (List.mem_cons_of_mem _ hy), s2, fun p hp y hy => by cases hp; exact s1 y hy⟩
theorem right_iff (f h : List Vec.Entry) (ws : List Wr) : right f h ws = .ok ↔ Fine f h ws := by
  unfold right
  by_cases h1 : Vec.right f ≠ .ok
  · rw [if_pos h1]; exact ⟨fun h => (by cases h), fun h => absurd h.from_ h1⟩
  rw [if_neg h1]
  by_cases h2 : Vec.right h ≠ .ok
  · rw [if_pos h2]; exact ⟨fun h => (by cases h), fun h => absurd h.have_ h2⟩
  rw [if_neg h2]
  by_cases h3 : covers h f = false
  · rw [if_pos h3]; exact ⟨fun h => (by cases h), fun h => absurd h.cov (by simp [h3])⟩
  rw [if_neg h3]
  by_cases h4 : 60 < ws.length
  · rw [if_pos h4]; exact ⟨fun h => (by cases h), fun h => absurd h.len (by omega)⟩
  rw [if_neg h4, wrongs_ok]
  constructor
  · rintro ⟨a, b, _⟩
    exact ⟨by simpa using h1, by simpa using h2, by simpa using h3, by omega, a, b⟩
  · intro hf
    exact ⟨hf.each, hf.order, fun p hp => by cases hp⟩
theorem covers_iff' {a b : List Vec.Entry} : covers a b = true ↔ Vec.right a = .ok ∧ Vec.right b = .ok ∧ Vec.Covers a b := by
  unfold covers
  simp only [Bool.and_eq_true, decide_eq_true_eq, List.all_eq_true]
  constructor
  · rintro ⟨h1, h2, h3⟩
    exact ⟨h1, h2, (Vec.covers_iff ((Vec.right_iff b).1 h2).sorted ((Vec.right_iff a).1 h1).pos).1 h3⟩
  · rintro ⟨h1, h2, h3⟩
    exact ⟨h1, h2, (Vec.covers_iff ((Vec.right_iff b).1 h2).sorted ((Vec.right_iff a).1 h1).pos).2 h3⟩
/-- FROM LESS, TO MORE. -/
theorem wide {f h g k : List Vec.Entry} {ws : List Wr} (hf : Fine f h ws) (h1 : covers f g = true) (h2 : covers k h = true) : Fine g k ws := by
  obtain ⟨a1, a2, a3⟩ := covers_iff'.1 h1
  obtain ⟨b1, b2, b3⟩ := covers_iff'.1 h2
  obtain ⟨c1, c2, c3⟩ := covers_iff'.1 hf.cov
  refine ⟨a2, b1, covers_iff'.2 ⟨b1, a2, fun r => by have := a3 r; have := b3 r; have := c3 r; omega⟩, hf.len, fun x hx => ⟨(hf.each x hx).1, ?_⟩, hf.order⟩
  have := (hf.each x hx).2
  unfold within at *
  simp only [Bool.and_eq_true, decide_eq_true_eq] at *
  have := a3 x.r; have := b3 x.r
  omega
theorem sub_fine {f h g k : List Vec.Entry} {ws : List Wr} (hf : Fine f h ws) (h1 : Vec.right g = .ok) (h2 : Vec.right k = .ok) (h3 : covers k g = true) (p : Wr → Bool) (hp : ∀ x ∈ ws, p x = true → within x.t x.r g k = true) : Fine g k (ws.filter p) := by
  refine ⟨h1, h2, h3, Nat.le_trans (List.length_filter_le _ _) hf.len, fun x hx => ?_, hf.order.filter _⟩
  obtain ⟨m1, m2⟩ := List.mem_filter.1 hx
  exact ⟨(hf.each x m1).1, hp x m1 m2⟩
/-- HERE AND THERE. -/
theorem parts {f h m : List Vec.Entry} {ws : List Wr} (hf : Fine f h ws) (h1 : covers m f = true) (h2 : covers h m = true) :
    Fine f m (ws.filter fun x => within x.t x.r f m) ∧ Fine m h (ws.filter fun x => within x.t x.r m h) ∧ (ws.filter fun x => within x.t x.r f m).length + (ws.filter fun x => within x.t x.r m h).length = ws.length := by
  obtain ⟨a1, a2, a3⟩ := covers_iff'.1 h1
  obtain ⟨b1, b2, b3⟩ := covers_iff'.1 h2
  refine ⟨sub_fine hf a2 a1 h1 _ (fun x _ h => h), sub_fine hf b2 b1 h2 _ (fun x _ h => h), ?_⟩
  have key : ∀ l : List Wr, (∀ x ∈ l, within x.t x.r f h = true) → (l.filter fun x => within x.t x.r f m).length + (l.filter fun x => within x.t x.r m h).length = l.length := by
    intro l hl
    induction l with
    | nil => rfl
    | cons x l ih =>
      have ih := ih (fun y hy => hl y (List.mem_cons_of_mem _ hy))
      have hx := hl x (List.mem_cons_self ..)
      have e1 := a3 x.r
      have e2 := b3 x.r
      simp only [List.filter_cons, List.length_cons]
      unfold within at hx
      simp only [Bool.and_eq_true, decide_eq_true_eq] at hx
      by_cases hm : x.t ≤ Vec.of m x.r
      · have w1 : within x.t x.r f m = true := by unfold within; simp; omega
        have w2 : within x.t x.r m h = false := by unfold within; simp; omega
        rw [w1, w2]
        simp only [if_true, Bool.false_eq_true, if_false, List.length_cons]
        omega
      · have w1 : within x.t x.r f m = false := by unfold within; simp; omega
        have w2 : within x.t x.r m h = true := by unfold within; simp; omega
        rw [w1, w2]
        simp only [if_true, Bool.false_eq_true, if_false, List.length_cons]
        omega
  exact key ws (fun x hx => (hf.each x hx).2)
end Bat
end Go.Proofs.YtognjohloobliaaDoor
