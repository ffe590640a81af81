/- Writes in plain words: what is right, their tails, and what fills them. No program. -/
import Derived.Test.YtlgaklbfjjpfkaaDoorPlainSpan
namespace Go.Proofs.YtlgaklbfjjpfkaaDoor
structure Wr where
  t : Int
  r : Int
  k : Int
  key : List UInt8
  val : List UInt8
  n : Int
namespace Wr
def idRight (t r : Int) : Bool := decide (1 ≤ t ∧ t ≤ 1099511627776 ∧ 0 ≤ r ∧ r ≤ 200)
def right (x : Wr) : Nat :=
  if x.k < 1 ∨ 4 < x.k then 1
  else if idRight x.t x.r = false then 2
  else if 40 < x.key.length ∨ 300 < x.val.length then 4
  else if (x.k ≠ 1 ∧ x.k ≠ 4 ∧ x.val ≠ []) ∨ (x.k ≠ 3 ∧ x.k ≠ 4 ∧ x.n ≠ 0) then 3
  else if (x.k = 3 ∧ (x.n < -1125899906842624 ∨ 1125899906842624 < x.n)) ∨ (x.k = 4 ∧ (x.n < 0 ∨ 1000 < x.n)) then 2
  else 0
/-- What a right write's tail is. -/
def tail (x : Wr) : List UInt8 :=
  if x.k = 1 then Span.put x.val else if x.k = 3 then Vary.put (Vary.zig x.n) else if x.k = 4 then Vary.put x.n.toNat ++ Span.put x.val else []
inductive Got where
  | bad (e : Nat)
  | ok (x : Wr) (k : Nat)
/-- The value, the number, and how many bytes, of a kind; or an error. -/
def part (k : Int) (s : List UInt8) : Nat ⊕ (List UInt8 × Int × Nat) :=
  if k = 1 then (match Span.get s with | .bad e => .inl e | .ok v n => .inr (v, 0, n))
  else if k = 3 then (match Vary.get s with | .bad e => .inl e | .ok u n => .inr ([], Vary.zag u, n))
  else if k = 4 then (match Vary.int s 1000 with
    | .bad e => .inl e
    | .ok m n => (match Span.get (s.drop n) with | .bad e => .inl e | .ok v j => .inr (v, (m : Int), n + j)))
  else .inr ([], 0, 0)
def fill (x : Wr) (s : List UInt8) : Got :=
  match part x.k s with
  | .inl e => .bad e
  | .inr (v, m, n) => if right { x with val := v, n := m } = 0 then .ok { x with val := v, n := m } n else .bad (right { x with val := v, n := m })
theorem right_zero {x : Wr} (h : right x = 0) : 1 ≤ x.k ∧ x.k ≤ 4 ∧ 1 ≤ x.t ∧ x.t ≤ 1099511627776 ∧ 0 ≤ x.r ∧ x.r ≤ 200 ∧ x.key.length ≤ 40 ∧ x.val.length ≤ 300 ∧ (x.k = 2 ∨ x.k = 3 → x.val = []) ∧ (x.k = 1 ∨ x.k = 2 → x.n = 0) ∧ (x.k = 3 → -1125899906842624 ≤ x.n ∧ x.n ≤ 1125899906842624) ∧ (x.k = 4 → 0 ≤ x.n ∧ x.n ≤ 1000) := by
  unfold right at h
  by_cases h1 : x.k < 1 ∨ 4 < x.k
  · rw [if_pos h1] at h; cases h
  rw [if_neg h1] at h
  by_cases h2 : idRight x.t x.r = false
  · rw [if_pos h2] at h; cases h
  rw [if_neg h2] at h
  by_cases h3 : 40 < x.key.length ∨ 300 < x.val.length
  · rw [if_pos h3] at h; cases h
  rw [if_neg h3] at h
  by_cases h4 : (x.k ≠ 1 ∧ x.k ≠ 4 ∧ x.val ≠ []) ∨ (x.k ≠ 3 ∧ x.k ≠ 4 ∧ x.n ≠ 0)
  · rw [if_pos h4] at h; cases h
  rw [if_neg h4] at h
  by_cases h5 : (x.k = 3 ∧ (x.n < -1125899906842624 ∨ 1125899906842624 < x.n)) ∨ (x.k = 4 ∧ (x.n < 0 ∨ 1000 < x.n))
  · rw [if_pos h5] at h; cases h
  simp only [idRight, decide_eq_false_iff_not, Decidable.not_not] at h2
  refine ⟨by omega, by omega, h2.1, h2.2.1, h2.2.2.1, h2.2.2.2, by omega, by omega, fun h => ?_, fun h => ?_, fun h => by omega, fun h => by omega⟩
  · by_cases hv : x.val = []
    · exact hv
    · exact absurd (Or.inl ⟨by omega, by omega, hv⟩) h4
  · omega
theorem right_of {x : Wr} (h1 : 1 ≤ x.k) (h2 : x.k ≤ 4) (h3 : 1 ≤ x.t) (h4 : x.t ≤ 1099511627776) (h5 : 0 ≤ x.r) (h6 : x.r ≤ 200) (h7 : x.key.length ≤ 40) (h8 : x.val.length ≤ 300) (h9 : x.k = 2 ∨ x.k = 3 → x.val = []) (h10 : x.k = 1 ∨ x.k = 2 → x.n = 0) (h11 : x.k = 3 → -1125899906842624 ≤ x.n ∧ x.n ≤ 1125899906842624) (h12 : x.k = 4 → 0 ≤ x.n ∧ x.n ≤ 1000) : right x = 0 := by
  unfold right
  rw [if_neg (by omega), if_neg (by simp [idRight]; omega), if_neg (by omega), if_neg, if_neg (by omega)]
  rintro (⟨a, b, c⟩ | ⟨a, b, c⟩)
  · exact c (h9 (by omega))
  · exact c (h10 (by omega))
/-- WHAT IS WRITTEN IS READ. -/
theorem fill_tail (x : Wr) (more : List UInt8) (h : right x = 0) : fill { x with val := [], n := 0 } (tail x ++ more) = .ok x (tail x).length := by
  obtain ⟨k1, k2, -, -, -, -, -, h8, h9, h10, h11, h12⟩ := right_zero h
  have hx : ∀ v m, v = x.val → m = x.n → ({ x with val := v, n := m } : Wr) = x := fun v m h1 h2 => by subst h1 h2; rfl
  have key : part x.k (tail x ++ more) = .inr (x.val, x.n, (tail x).length) := by
    unfold part tail
    by_cases c1 : x.k = 1
    · rw [if_pos c1, if_pos c1, Span.get_put _ _ (by omega)]
      simp [h10 (.inl c1)]
    rw [if_neg c1, if_neg c1]
    by_cases c3 : x.k = 3
    · have := h11 c3
      rw [if_pos c3, if_pos c3, Vary.get_put _ _ (Vary.zig_lt _ (by omega) (by omega))]
      simp [h9 (.inr c3), Vary.zag_zig]
    rw [if_neg c3, if_neg c3]
    by_cases c4 : x.k = 4
    · have := h12 c4
      rw [if_pos c4, if_pos c4, List.append_assoc, Vary.int_ok (Vary.get_put x.n.toNat _ (by omega)) (by omega)]
      simp only [List.drop_left]
      rw [Span.get_put _ _ (by omega)]
      simp only [List.length_append]
      rw [Int.toNat_of_nonneg (by omega)]
    rw [if_neg c4, if_neg c4]
    simp [h9 (by omega), h10 (by omega)]
  unfold fill
  show (match part x.k (tail x ++ more) with
  | .inl e => Got.bad e
  | .inr (v, m, n) => if right { x with val := v, n := m } = 0 then .ok { x with val := v, n := m } n else .bad (right { x with val := v, n := m })) = _
  rw [key]
  simp only
  rw [if_pos h]
/-- JUST ONE WAY. -/
theorem fill_ok {x y : Wr} {s : List UInt8} {n : Nat} (h : fill x s = .ok y n) : right y = 0 ∧ n ≤ s.length ∧ tail y = s.take n ∧ y.t = x.t ∧ y.r = x.r ∧ y.k = x.k ∧ y.key = x.key := by
  unfold fill at h
  cases hp : part x.k s with
  | inl e => rw [hp] at h; cases h
  | inr p =>
    obtain ⟨v, m, j⟩ := p
    rw [hp] at h
    simp only at h
    by_cases hr : right { x with val := v, n := m } = 0
    · rw [if_pos hr] at h
      injection h with h1 h2
      subst h1 h2
      refine ⟨hr, ?_⟩
      obtain ⟨k1, k2, -⟩ := right_zero hr
      simp only at k1 k2
      suffices hs : j ≤ s.length ∧ tail { x with val := v, n := m } = s.take j from ⟨hs.1, hs.2, rfl, rfl, rfl, rfl⟩
      unfold part at hp
      unfold tail
      simp only
      by_cases c1 : x.k = 1
      · rw [if_pos c1] at hp ⊢
        cases hg : Span.get s with
        | bad e => rw [hg] at hp; cases hp
        | ok v' n' =>
          rw [hg] at hp
          simp only [Sum.inr.injEq, Prod.mk.injEq] at hp
          obtain ⟨rfl, rfl, rfl⟩ := hp
          obtain ⟨a1, a2, a3, a4, a5⟩ := Span.get_ok hg
          exact ⟨a3, a4⟩
      rw [if_neg c1] at hp ⊢
      by_cases c3 : x.k = 3
      · rw [if_pos c3] at hp ⊢
        cases hg : Vary.get s with
        | bad e => rw [hg] at hp; cases hp
        | ok u' n' =>
          rw [hg] at hp
          simp only [Sum.inr.injEq, Prod.mk.injEq] at hp
          obtain ⟨rfl, rfl, rfl⟩ := hp
          obtain ⟨a1, a2, a3, a4⟩ := Vary.get_ok _ _ _ hg
          exact ⟨a2, by rw [Vary.zig_zag]; exact a3⟩
      rw [if_neg c3] at hp ⊢
      by_cases c4 : x.k = 4
      · rw [if_pos c4] at hp ⊢
        cases hg : Vary.int s 1000 with
        | bad e => rw [hg] at hp; cases hp
        | ok m' n' =>
          rw [hg] at hp
          simp only at hp
          cases hg2 : Span.get (s.drop n') with
          | bad e => rw [hg2] at hp; cases hp
          | ok v' j' =>
            rw [hg2] at hp
            simp only [Sum.inr.injEq, Prod.mk.injEq] at hp
            obtain ⟨rfl, rfl, rfl⟩ := hp
            obtain ⟨b1, b2⟩ := Span.int_inv hg
            obtain ⟨a1, a2, a3, a4⟩ := Vary.get_ok _ _ _ b1
            obtain ⟨d1, d2, d3, d4, d5⟩ := Span.get_ok hg2
            rw [List.length_drop] at d3
            refine ⟨by omega, ?_⟩
            rw [Int.toNat_natCast, a3, d4, List.take_add]
      rw [if_neg c4] at hp ⊢
      simp only [Sum.inr.injEq, Prod.mk.injEq] at hp
      obtain ⟨rfl, rfl, rfl⟩ := hp
      exact ⟨Nat.zero_le _, by simp⟩
    · rw [if_neg hr] at h; cases h
end Wr
end Go.Proofs.YtlgaklbfjjpfkaaDoor
