/- Writes in plain words: what is right, their tails, and what fills them. No program. -/
import Derived.Test.YtognjohloobliaaGreatDoorK09
namespace Go.Proofs.YtognjohloobliaaGreatDoor
structure Wr where
 t : Int
 r : Int
 k : Int
 key : List UInt8
 val : List UInt8
 n : Int
namespace Wr
def idRight (t r : Int) : Bool := decide (1 ≤ t ∧ t ≤ 1099511627776 ∧ 0 ≤ r ∧ r ≤ 200)
def right (x : Wr) : Nat :=
 if x.k < 1 ∨ 4 < x.k then 1
 else if idRight x.t x.r = false then 2
 else if 40 < x.key.length ∨ 300 < x.val.length then 4
 else if (x.k ≠ 1 ∧ x.k ≠ 4 ∧ x.val ≠ []) ∨ (x.k ≠ 3 ∧ x.k ≠ 4 ∧ x.n ≠ 0) then 3
 else if (x.k = 3 ∧ (x.n < -1125899906842624 ∨ 1125899906842624 < x.n)) ∨ (x.k = 4 ∧ (x.n < 0 ∨ 1000 < x.n)) then 2
 else 0
/-- What a right write's tail is. -/
def tail (x : Wr) : List UInt8 :=
 if x.k = 1 then Span.put x.val else if x.k = 3 then Vary.put (Vary.zig x.n) else if x.k = 4 then Vary.put x.n.toNat ++ Span.put x.val else []
inductive Got where
 | bad (e : Nat)
 | ok (x : Wr) (k : Nat)
/-- The value, the number, and how many bytes, of a kind; or an error. -/
def part (k : Int) (s : List UInt8) : Nat ⊕ (List UInt8 × Int × Nat) :=
 if k = 1 then (match Span.get s with | .bad e => .inl e | .ok v n => .inr (v, 0, n))
 else if k = 3 then (match Vary.get s with | .bad e => .inl e | .ok u n => .inr ([], Vary.zag u, n))
 else if k = 4 then (match Vary.int s 1000 with
  | .bad e => .inl e
  | .ok m n => (match Span.get (s.drop n) with | .bad e => .inl e | .ok v j => .inr (v, (m : Int), n + j)))
 else .inr ([], 0, 0)
def fill (x : Wr) (s : List UInt8) : Got :=
 match part x.k s with
 | .inl e => .bad e
 | .inr (v, m, n) => if right { x with val := v, n := m } = 0 then .ok { x with val := v, n := m } n else .bad (right { x with val := v, n := m })
theorem right_zero {x : Wr} (h : right x = 0) : 1 ≤ x.k ∧ x.k ≤ 4 ∧ 1 ≤ x.t ∧ x.t ≤ 1099511627776 ∧ 0 ≤ x.r ∧ x.r ≤ 200 ∧ x.key.length ≤ 40 ∧ x.val.length ≤ 300 ∧ (x.k = 2 ∨ x.k = 3 → x.val = []) ∧ (x.k = 1 ∨ x.k = 2 → x.n = 0) ∧ (x.k = 3 → -1125899906842624 ≤ x.n ∧ x.n ≤ 1125899906842624) ∧ (x.k = 4 → 0 ≤ x.n ∧ x.n ≤ 1000) := by
 unfold right at h
 by_cases h1 : x.k < 1 ∨ 4 < x.k
 ·rw [if_pos h1] at h; cases h
 rw [if_neg h1] at h
 by_cases h2 : idRight x.t x.r = false
 ·rw [if_pos h2] at h; cases h
 rw [if_neg h2] at h
 by_cases h3 : 40 < x.key.length ∨ 300 < x.val.length
 ·rw [if_pos h3] at h; cases h
 rw [if_neg h3] at h
 by_cases h4 : (x.k ≠ 1 ∧ x.k ≠ 4 ∧ x.val ≠ []) ∨ (x.k ≠ 3 ∧ x.k ≠ 4 ∧ x.n ≠ 0)
 ·rw [if_pos h4] at h; cases h
 rw [if_neg h4] at h
 by_cases h5 : (x.k = 3 ∧ (x.n < -1125899906842624 ∨ 1125899906842624 < x.n)) ∨ (x.k = 4 ∧ (x.n < 0 ∨ 1000 < x.n))
 ·rw [if_pos h5] at h; cases h
 simp only [idRight, decide_eq_false_iff_not, Decidable.not_not] at h2
 refine ⟨by omega, by omega, h2.1, h2.2.1, h2.2.2.1, h2.2.2.2, by omega, by omega, fun h => ?_, fun h => ?_, fun h => by omega, fun h => by omega⟩
 ·by_cases hv : x.val = []
  ·exact hv
  ·exact absurd (Or.inl ⟨by omega, by omega, hv⟩) h4
 ·omega
/-- WHAT IS WRITTEN IS READ. -/
theorem fill_tail (x : Wr) (more : List UInt8) (h : right x = 0) : fill { x with val := [], n := 0 } (tail x ++ more) = .ok x (tail x).length := by
 obtain ⟨k1, k2, -, -, -, -, -, h8, h9, h10, h11, h12⟩ := right_zero h
 have hx : ∀ v m, v = x.val → m = x.n → ({ x with val := v, n := m } : Wr) = x := fun v m h1 h2 => by subst h1 h2; rfl
 have key : part x.k (tail x ++ more) = .inr (x.val, x.n, (tail x).length) := by
  unfold part tail
  by_cases c1 : x.k = 1
  ·rw [if_pos c1, if_pos c1, Span.get_put _ _ (by omega)]
   simp [h10 (.inl c1)]
  rw [if_neg c1, if_neg c1]
  by_cases c3 : x.k = 3
  ·have := h11 c3
   rw [if_pos c3, if_pos c3, Vary.get_put _ _ (Vary.zig_lt _ (by omega) (by omega))]
   simp [h9 (.inr c3), Vary.zag_zig]
  rw [if_neg c3, if_neg c3]
  by_cases c4 : x.k = 4
  ·have := h12 c4
   rw [if_pos c4, if_pos c4, List.append_assoc, Vary.int_ok (Vary.get_put x.n.toNat _ (by omega)) (by omega)]
   simp only [List.drop_left]
   rw [Span.get_put _ _ (by omega)]
   simp only [List.length_append]
   rw [Int.toNat_of_nonneg (by omega)]
  rw [if_neg c4, if_neg c4]
  simp [h9 (by omega), h10 (by omega)]
 unfold fill
 show (match part x.k (tail x ++ more) with
 | .inl e => Got.bad e
 | .inr (v, m, n) => if right { x with val := v, n := m } = 0 then .ok { x with val := v, n := m } n else .bad (right { x with val := v, n := m })) = _
 rw [key]
 simp only
 rw [if_pos h]
/-- JUST ONE WAY. -/
theorem fill_ok {x y : Wr} {s : List UInt8} {n : Nat} (h : fill x s = .ok y n) : right y = 0 ∧ n ≤ s.length ∧ tail y = s.take n ∧ y.t = x.t ∧ y.r = x.r ∧ y.k = x.k ∧ y.key = x.key := by
 unfold fill at h
 cases hp : part x.k s with
 | inl e => rw [hp] at h; cases h
 | inr p =>
  obtain ⟨v, m, j⟩ := p
  rw [hp] at h
  simp only at h
  by_cases hr : right { x with val := v, n := m } = 0
  ·rw [if_pos hr] at h
   injection h with h1 h2
   subst h1 h2
   refine ⟨hr, ?_⟩
   obtain ⟨k1, k2, -⟩ := right_zero hr
   simp only at k1 k2
   suffices hs : j ≤ s.length ∧ tail { x with val := v, n := m } = s.take j from ⟨hs.1, hs.2, rfl, rfl, rfl, rfl⟩
   unfold part at hp
   unfold tail
   simp only
   by_cases c1 : x.k = 1
   ·rw [if_pos c1] at hp ⊢
    cases hg : Span.get s with
    | bad e => rw [hg] at hp; cases hp
    | ok v' n' =>
     rw [hg] at hp
     simp only [Sum.inr.injEq, Prod.mk.injEq] at hp
     obtain ⟨rfl, rfl, rfl⟩ := hp
     obtain ⟨a1, a2, a3, a4, a5⟩ := Span.get_ok hg
     exact ⟨a3, a4⟩
   rw [if_neg c1] at hp ⊢
   by_cases c3 : x.k = 3
   ·rw [if_pos c3] at hp ⊢
    cases hg : Vary.get s with
    | bad e => rw [hg] at hp; cases hp
    | ok u' n' =>
     rw [hg] at hp
     simp only [Sum.inr.injEq, Prod.mk.injEq] at hp
     obtain ⟨rfl, rfl, rfl⟩ := hp
     obtain ⟨a1, a2, a3, a4⟩ := Vary.get_ok _ _ _ hg
     exact ⟨a2, by rw [Vary.zig_zag]; exact a3⟩
   rw [if_neg c3] at hp ⊢
   by_cases c4 : x.k = 4
   ·rw [if_pos c4] at hp ⊢
    cases hg : Vary.int s 1000 with
    | bad e => rw [hg] at hp; cases hp
    | ok m' n' =>
     rw [hg] at hp
     simp only at hp
     cases hg2 : Span.get (s.drop n') with
     | bad e => rw [hg2] at hp; cases hp
     | ok v' j' =>
      rw [hg2] at hp
      simp only [Sum.inr.injEq, Prod.mk.injEq] at hp
      obtain ⟨rfl, rfl, rfl⟩ := hp
      obtain ⟨b1, b2⟩ := Span.int_inv hg
      obtain ⟨a1, a2, a3, a4⟩ := Vary.get_ok _ _ _ b1
      obtain ⟨d1, d2, d3, d4, d5⟩ := Span.get_ok hg2
      rw [List.length_drop] at d3
      refine ⟨by omega, ?_⟩
      rw [Int.toNat_natCast, a3, d4, List.take_add]
   rw [if_neg c4] at hp ⊢
   simp only [Sum.inr.injEq, Prod.mk.injEq] at hp
   obtain ⟨rfl, rfl, rfl⟩ := hp
   exact ⟨Nat.zero_le _, by simp⟩
  ·rw [if_neg hr] at h; cases h
end Wr
end Go.Proofs.YtognjohloobliaaGreatDoor
/- Batches in plain words: what is right. No program. -/
namespace Go.Proofs.YtognjohloobliaaGreatDoor
namespace Bat
set_option linter.unusedVariables false
def within (t r : Int) (a b : List Vec.Entry) : Bool := decide (Vec.of a r < t) && decide (t ≤ Vec.of b r)
def covers (a b : List Vec.Entry) : Bool := decide (Vec.right a = .ok) && (decide (Vec.right b = .ok) && b.all fun x => decide (x.t ≤ Vec.of a x.r))
def Later (p x : Wr) : Prop := p.t < x.t ∨ (p.t = x.t ∧ p.r < x.r)
instance (p x : Wr) : Decidable (Later p x) := by unfold Later; infer_instance
def behind (prev : Option Wr) (x : Wr) : Bool := match prev with
 | none => true
 | some p => decide (Later p x)
def wrong (f h : List Vec.Entry) (prev : Option Wr) (x : Wr) : Nat :=
 if Wr.right x ≠ 0 then Wr.right x
 else if behind prev x = false then 10
 else if within x.t x.r f h = false then 6 else 0
def wrongs (f h : List Vec.Entry) : List Wr → Option Wr → Nat → Err
 | [], _, _ => .ok
 | x :: l, prev, i => if wrong f h prev x ≠ 0 then .at_ (wrong f h prev x) i else wrongs f h l (some x) (i + 1)
def right (f h : List Vec.Entry) (ws : List Wr) : Err :=
 if Vec.right f ≠ .ok then .no (Vec.right f).code
 else if Vec.right h ≠ .ok then .no (Vec.right h).code
 else if covers h f = false then .no 13
 else if 60 < ws.length then .no 4
 else wrongs f h ws none 0
structure Fine (f h : List Vec.Entry) (ws : List Wr) : Prop where
 from_ : Vec.right f = .ok
 have_ : Vec.right h = .ok
 cov : covers h f = true
 len : ws.length ≤ 60
 each : ∀ x ∈ ws, Wr.right x = 0 ∧ within x.t x.r f h = true
 order : ws.Pairwise Later
theorem later_trans {a b c : Wr} (h1 : Later a b) (h2 : Later b c) : Later a c := by unfold Later at *; omega
theorem wrongs_ok (f h : List Vec.Entry) (l : List Wr) (prev : Option Wr) (i : Nat) : wrongs f h l prev i = .ok ↔ ((∀ x ∈ l, Wr.right x = 0 ∧ within x.t x.r f h = true) ∧ l.Pairwise Later ∧ ∀ p, prev = some p → ∀ x ∈ l, Later p x) := by
 induction l generalizing prev i with
 | nil => simp [wrongs]
 | cons x l ih =>
  simp only [wrongs]
  by_cases hw : wrong f h prev x ≠ 0
  ·rw [if_pos hw]
   constructor
   ·intro h; cases h
   ·rintro ⟨h1, h2, h3⟩
    exfalso
    apply hw
    obtain ⟨a1, a2⟩ := h1 x (List.mem_cons_self ..)
    unfold wrong
    rw [if_neg (by simp [a1]), if_neg, if_neg (by simp [a2])]
    cases prev with
    | none => simp [behind]
    | some p => simp [behind, h3 p rfl x (List.mem_cons_self ..)]
  ·rw [if_neg hw, ih]
   have hw0 : wrong f h prev x = 0 := by omega
   unfold wrong at hw0
   by_cases r0 : Wr.right x ≠ 0
   ·rw [if_pos r0] at hw0; exact absurd hw0 r0
   rw [if_neg r0] at hw0
   by_cases r1 : behind prev x = false
   ·rw [if_pos r1] at hw0; cases hw0
   rw [if_neg r1] at hw0
   by_cases r2 : within x.t x.r f h = false
   ·rw [if_pos r2] at hw0; cases hw0
   have r0 : Wr.right x = 0 := by omega
   have r2 : within x.t x.r f h = true := by simpa using r2
   have r1 : behind prev x = true := by simpa using r1
   constructor
   ·rintro ⟨h1, h2, h3⟩
    refine ⟨fun y hy => ?_, List.pairwise_cons.2 ⟨fun y hy => h3 x rfl y hy, h2⟩, fun p hp y hy => ?_⟩
    ·rcases List.mem_cons.1 hy with rfl | hy
     ·exact ⟨r0, r2⟩
     ·exact h1 y hy
    ·subst hp
     have hpx : Later p x := by simpa [behind] using r1
     rcases List.mem_cons.1 hy with rfl | hy
     ·exact hpx
     ·exact later_trans hpx (h3 x rfl y hy)
   ·rintro ⟨h1, h2, h3⟩
    obtain ⟨s1, s2⟩ := List.pairwise_cons.1 h2
    exact ⟨fun y hy => h1 y (List.mem_cons_of_mem _ hy), s2, fun p hp y hy => by cases hp; exact s1 y hy⟩
theorem right_iff (f h : List Vec.Entry) (ws : List Wr) : right f h ws = .ok ↔ Fine f h ws := by
 unfold right
 by_cases h1 : Vec.right f ≠ .ok
 ·rw [if_pos h1]; exact ⟨fun h => (by cases h), fun h => absurd h.from_ h1⟩
 rw [if_neg h1]
 by_cases h2 : Vec.right h ≠ .ok
 ·rw [if_pos h2]; exact ⟨fun h => (by cases h), fun h => absurd h.have_ h2⟩
 rw [if_neg h2]
 by_cases h3 : covers h f = false
 ·rw [if_pos h3]; exact ⟨fun h => (by cases h), fun h => absurd h.cov (by simp [h3])⟩
 rw [if_neg h3]
 by_cases h4 : 60 < ws.length
 ·rw [if_pos h4]; exact ⟨fun h => (by cases h), fun h => absurd h.len (by omega)⟩
 rw [if_neg h4, wrongs_ok]
 constructor
 ·rintro ⟨a, b, _⟩
  exact ⟨by simpa using h1, by simpa using h2, by simpa using h3, by omega, a, b⟩
 ·intro hf
  exact ⟨hf.each, hf.order, fun p hp => by cases hp⟩
theorem covers_iff' {a b : List Vec.Entry} : covers a b = true ↔ Vec.right a = .ok ∧ Vec.right b = .ok ∧ Vec.Covers a b := by
 unfold covers
 simp only [Bool.and_eq_true, decide_eq_true_eq, List.all_eq_true]
 constructor
 ·rintro ⟨h1, h2, h3⟩
  exact ⟨h1, h2, (Vec.covers_iff ((Vec.right_iff b).1 h2).sorted ((Vec.right_iff a).1 h1).pos).1 h3⟩
 ·rintro ⟨h1, h2, h3⟩
  exact ⟨h1, h2, (Vec.covers_iff ((Vec.right_iff b).1 h2).sorted ((Vec.right_iff a).1 h1).pos).2 h3⟩
end Bat
end Go.Proofs.YtognjohloobliaaGreatDoor
/- Plain laws of key tables. -/
namespace Go.Proofs.YtognjohloobliaaGreatDoor
namespace Keys
set_option linter.unusedSectionVars false
set_option linter.unusedVariables false
section
variable {α : Type} [DecidableEq α]
/-- One key more. -/
def step (p : List α × List Nat) (k : α) : List α × List Nat := if k ∈ p.1 then (p.1, p.2 ++ [p.1.idxOf k]) else (p.1 ++ [k], p.2 ++ [p.1.length])
/-- All keys, as they come first, and of each which one it is. -/
def table (l : List α) : List α × List Nat := l.foldl step ([], [])
theorem table_snoc (l : List α) (k : α) : table (l ++ [k]) = step (table l) k := by simp [table]
/-- How many keys are told of, each at its time. -/
def chk : List Nat → Nat → Option Nat
 | [], n => some n
 | a :: r, n => if n < a then none else chk r (if a = n then n + 1 else n)
theorem chk_append (a b : List Nat) (n : Nat) : chk (a ++ b) n = (chk a n).bind (chk b) := by
 induction a generalizing n with
 | nil => rfl
 | cons x a ih =>
  rw [List.cons_append, chk, chk]
  split
  ·rfl
  ·exact ih _
theorem nodup_inj {T : List α} (h : T.Nodup) {i j : Nat} (hi : i < T.length) (hj : j < T.length) (e : T[i] = T[j]) : i = j := by
 rcases Nat.lt_trichotomy i j with hlt | hlt | hlt
 ·exact absurd e (List.pairwise_iff_getElem.1 h i j hi hj hlt)
 ·exact hlt
 ·exact absurd e.symm (List.pairwise_iff_getElem.1 h j i hj hi hlt)
/-- What a table is. -/
structure Is (l : List α) (p : List α × List Nat) : Prop where
 nodup : p.1.Nodup
 len : p.2.length = l.length
 lt : ∀ a ∈ p.2, a < p.1.length
 map : p.2.map (fun a => p.1[a]?) = l.map some
 chk : chk p.2 0 = some p.1.length
theorem is_table (l : List α) : Is l (table l) := by
 have key : ∀ (r l : List α) (p : List α × List Nat), Is l p → Is (l ++ r) (r.foldl step p) := by
  intro r
  induction r with
  | nil => intro l p h; simpa using h
  | cons k r ih =>
   intro l p h
   have e : l ++ k :: r = (l ++ [k]) ++ r := by simp
   rw [e, List.foldl_cons]
   refine ih _ _ ?_
   obtain ⟨T, A⟩ := p
   obtain ⟨h1, h2, h3, h4, h5⟩ := h
   simp only at h1 h2 h3 h4 h5
   unfold step
   by_cases hk : k ∈ T
   ·have hi : T.idxOf k < T.length := List.idxOf_lt_length_of_mem hk
    have hg : T[T.idxOf k]? = some k := by
     rw [List.getElem?_eq_getElem hi]
     exact congrArg some (List.getElem_idxOf hi)
    simp only [hk, if_true]
    refine ⟨h1, by simp [h2], fun a ha => ?_, by simp [h4, hg], ?_⟩
    ·rcases List.mem_append.1 ha with ha | ha
     ·exact h3 a ha
     ·rw [List.mem_singleton.1 ha]; exact hi
    ·show Keys.chk (A ++ [T.idxOf k]) 0 = _
     rw [chk_append, h5]
     simp only [Option.bind_some, Keys.chk]
     rw [if_neg (by omega), if_neg (by omega)]
   ·simp only [hk, if_false]
    refine ⟨?_, by simp [h2], fun a ha => ?_, ?_, ?_⟩
    ·rw [List.nodup_append]
     exact ⟨h1, by simp, fun a ha b hb => by rw [List.mem_singleton.1 hb]; intro e; exact hk (e ▸ ha)⟩
    ·simp only [List.length_append, List.length_cons, List.length_nil]
     rcases List.mem_append.1 ha with ha | ha
     ·have := h3 a ha; omega
     ·rw [List.mem_singleton.1 ha]; omega
    ·rw [List.map_append, List.map_append, ← h4]
     congr 1
     ·refine List.map_congr_left fun a ha => ?_
      exact List.getElem?_append_left (h3 a ha)
     ·simp
    ·show Keys.chk (A ++ [T.length]) 0 = _
     rw [chk_append, h5]
     simp only [Option.bind_some, Keys.chk, List.length_append, List.length_cons, List.length_nil]
     simp
 have := key l [] ([], []) ⟨by simp, rfl, by simp, rfl, rfl⟩
 simpa [table] using this
/-- Just one table: what tells a list is that list's. -/
theorem table_of (T : List α) (hT : T.Nodup) (A : List Nat) (l : List α) (m : Nat) (hl : A.map (fun a => T[a]?) = l.map some) (hc : chk A 0 = some m) (hm : m ≤ T.length) : table l = (T.take m, A) := by
 have key : ∀ (B : List Nat) (r : List α) (n : Nat) (A : List Nat), B.map (fun a => T[a]?) = r.map some → chk B n = some m → r.foldl step (T.take n, A) = (T.take m, A ++ B) := by
  intro B
  induction B with
  | nil =>
   intro r n A h hc
   have hr : r = [] := by cases r with
    | nil => rfl
    | cons x r => simp at h
   injection hc with hc
   rw [hr, hc]; simp
  | cons x B ih =>
   intro r n A h hc
   cases r with
   | nil => simp at h
   | cons k r =>
    rw [List.map_cons, List.map_cons] at h
    injection h with h1 h2
    rw [chk] at hc
    have hx : x < T.length := (List.getElem?_eq_some_iff.1 h1).1
    have hxk : T[x] = k := (List.getElem?_eq_some_iff.1 h1).2
    split at hc
    ·cases hc
    ·rename_i hn
     rw [List.foldl_cons]
     by_cases he : x = n
     ·subst he
      rw [if_pos rfl] at hc
      have hk : k ∉ T.take x := fun hmem => by
       obtain ⟨i, hi, hik⟩ := List.getElem_of_mem hmem
       rw [List.length_take] at hi
       rw [List.getElem_take, ← hxk] at hik
       have := nodup_inj hT (by omega) hx hik
       omega
      have e : step (T.take x, A) k = (T.take (x + 1), A ++ [x]) := by
       unfold step
       simp only [hk, if_false]
       rw [List.take_succ_eq_append_getElem hx, hxk, List.length_take, Nat.min_eq_left (by omega)]
      rw [e, ih r (x + 1) (A ++ [x]) h2 hc]
      simp
     ·rw [if_neg he] at hc
      have hxl : x < (T.take n).length := by
       rw [List.length_take]; omega
      have hk : k ∈ T.take n := by
       rw [← hxk, ← List.getElem_take (h := hxl)]
       exact List.getElem_mem hxl
      have hidx : (T.take n).idxOf k = x := by
       have hnd : (T.take n).Nodup := List.Nodup.sublist (List.take_sublist n T) hT
       have hi := List.idxOf_lt_length_of_mem hk
       have h3 : (T.take n)[(T.take n).idxOf k] = k := List.getElem_idxOf hi
       have h4 : (T.take n)[x] = k := by rw [List.getElem_take]; exact hxk
       exact nodup_inj hnd hi hxl (h3.trans h4.symm)
      have e : step (T.take n, A) k = (T.take n, A ++ [x]) := by
       unfold step
       simp only [hk, if_true, hidx]
      rw [e, ih r n (A ++ [x]) h2 hc]
      simp
 have := key A l 0 [] hl hc
 simpa [table] using this
end
end Keys
end Go.Proofs.YtognjohloobliaaGreatDoor
/- Plain laws of key tables, part two: what List tells. -/
namespace Go.Proofs.YtognjohloobliaaGreatDoor
namespace Keys
set_option linter.unusedSectionVars false
set_option linter.unusedVariables false
section
variable {α : Type} [DecidableEq α]
def dups : List α → List α → Nat → Err
 | [], _, _ => .ok
 | x :: r, s, k => if x ∈ s then .at_ 9 k else dups r (s ++ [x]) (k + 1)
def rngs (n : Nat) : List Int → Nat → Nat → Err
 | [], next, _ => if next < n then .no 8 else .ok
 | a :: r, next, i => if a < 0 ∨ (n : Int) ≤ a then .at_ 2 i else if (next : Int) < a then .at_ 13 i else rngs n r (if a = next then next + 1 else next) (i + 1)
def lists (T : List α) (A : List Int) : Err := match dups T [] 0 with | .ok => rngs T.length A 0 0 | e => e
def outs (T : List α) (A : List Int) : List α := A.filterMap fun a => T[a.toNat]?
def nats (A : List Int) : List Nat := A.map Int.toNat
theorem dups_ok (T s : List α) (k : Nat) : dups T s k = .ok ↔ (∀ x ∈ T, x ∉ s) ∧ T.Nodup := by
 induction T generalizing s k with
 | nil => simp [dups]
 | cons x r ih =>
  rw [dups]
  by_cases h : x ∈ s
  ·rw [if_pos h]
   constructor
   ·intro h'; cases h'
   ·intro h'; exact absurd h (h'.1 x (List.mem_cons_self ..))
  ·rw [if_neg h, ih]
   constructor
   ·rintro ⟨h1, h2⟩
    refine ⟨fun y hy => ?_, List.nodup_cons.2 ⟨fun hx => ?_, h2⟩⟩
    ·rcases List.mem_cons.1 hy with rfl | hy
     ·exact h
     ·exact fun hs => h1 y hy (List.mem_append_left _ hs)
    ·exact h1 x hx (List.mem_append_right _ (List.mem_cons_self ..))
   ·rintro ⟨h1, h2⟩
    rw [List.nodup_cons] at h2
    refine ⟨fun y hy hs => ?_, h2.2⟩
    rcases List.mem_append.1 hs with hs | hs
    ·exact h1 y (List.mem_cons_of_mem _ hy) hs
    ·rw [List.mem_singleton.1 hs] at hy; exact h2.1 hy
theorem rngs_ok (n : Nat) (A : List Int) (next i : Nat) : rngs n A next i = .ok ↔ (∀ a ∈ A, 0 ≤ a ∧ a < n) ∧ ∃ m, chk (nats A) next = some m ∧ n ≤ m := by
 induction A generalizing next i with
 | nil =>
  rw [rngs]
  by_cases h : next < n
  ·rw [if_pos h]
   constructor
   ·intro h'; cases h'
   ·rintro ⟨_, m, hm, hn⟩
    simp only [nats, List.map_nil, chk] at hm
    injection hm with hm; omega
  ·rw [if_neg h]
   exact ⟨fun _ => ⟨by simp, next, rfl, by omega⟩, fun _ => rfl⟩
 | cons a r ih =>
  rw [rngs]
  by_cases h : a < 0 ∨ (n : Int) ≤ a
  ·rw [if_pos h]
   constructor
   ·intro h'; cases h'
   ·rintro ⟨h', _⟩
    have := h' a (List.mem_cons_self ..)
    omega
  ·rw [if_neg h]
   have ha : (a.toNat : Int) = a := by omega
   by_cases h2 : (next : Int) < a
   ·rw [if_pos h2]
    constructor
    ·intro h'; cases h'
    ·rintro ⟨_, m, hm, _⟩
     simp only [nats, List.map_cons, chk] at hm
     rw [if_pos (by omega)] at hm
     cases hm
   ·rw [if_neg h2, ih]
    simp only [nats, List.map_cons, chk]
    rw [if_neg (show ¬ next < a.toNat by omega)]
    have e : (if a.toNat = next then next + 1 else next) = (if a = (next : Int) then next + 1 else next) := by
     by_cases h3 : a = next
     ·rw [if_pos h3, if_pos (by omega)]
     ·rw [if_neg h3, if_neg (by omega)]
    rw [e]
    constructor
    ·rintro ⟨h1, h3⟩
     refine ⟨fun b hb => ?_, h3⟩
     rcases List.mem_cons.1 hb with rfl | hb
     ·omega
     ·exact h1 b hb
    ·rintro ⟨h1, h3⟩
     exact ⟨fun b hb => h1 b (List.mem_cons_of_mem _ hb), h3⟩
theorem lists_ok (T : List α) (A : List Int) : lists T A = .ok ↔ T.Nodup ∧ (∀ a ∈ A, 0 ≤ a ∧ a < T.length) ∧ ∃ m, chk (nats A) 0 = some m ∧ T.length ≤ m := by
 unfold lists
 have hd := dups_ok T [] 0
 cases h : dups T [] 0 with
 | ok =>
  simp only
  rw [rngs_ok]
  have := (hd.1 h).2
  exact ⟨fun h' => ⟨this, h'⟩, fun h' => h'.2⟩
 | no n =>
  simp only
  rw [h] at hd
  constructor
  ·intro h'; cases h'
  ·intro h'; cases hd.2 ⟨by simp, h'.1⟩
 | at_ n i =>
  simp only
  rw [h] at hd
  constructor
  ·intro h'; cases h'
  ·intro h'; cases hd.2 ⟨by simp, h'.1⟩
theorem chk_max (n : Nat) (A : List Nat) (next m : Nat) (h : ∀ a ∈ A, a < n) (hn : next ≤ n) (hc : chk A next = some m) : m ≤ n := by
 induction A generalizing next with
 | nil => injection hc with hc; omega
 | cons a r ih =>
  rw [chk] at hc
  have ha := h a (List.mem_cons_self ..)
  split at hc
  ·cases hc
  ·refine ih _ (fun b hb => h b (List.mem_cons_of_mem _ hb)) ?_ hc
   split <;> omega
theorem outs_map (T : List α) (A : List Int) (h : ∀ a ∈ A, 0 ≤ a ∧ a < T.length) : (nats A).map (fun a => T[a]?) = (outs T A).map some := by
 induction A with
 | nil => rfl
 | cons a r ih =>
  have ha := h a (List.mem_cons_self ..)
  have i := ih fun b hb => h b (List.mem_cons_of_mem _ hb)
  have e : T[a.toNat]? = some (T[a.toNat]'(by omega)) := List.getElem?_eq_getElem (by omega)
  unfold outs nats at *
  rw [List.map_cons, List.map_cons, List.filterMap_cons, e, i]
  rfl
/-- Just one table: what tells a list is that list's. -/
theorem table_outs (T : List α) (A : List Int) (h : lists T A = .ok) : table (outs T A) = (T, nats A) := by
 obtain ⟨h1, h2, m, h3, h4⟩ := (lists_ok T A).1 h
 have h5 : m ≤ T.length := chk_max _ _ _ _ (fun a ha => by
  obtain ⟨b, hb, rfl⟩ := List.mem_map.1 ha
  have := h2 b hb; omega) (Nat.zero_le _) h3
 rw [table_of T h1 (nats A) _ m (outs_map T A h2) h3 h5, List.take_of_length_le (by omega)]
def ints (A : List Nat) : List Int := A.map Int.ofNat
theorem nats_ints (A : List Nat) : nats (ints A) = A := by unfold nats ints; rw [List.map_map]; exact (List.map_congr_left (g := id) fun _ _ => rfl).trans (List.map_id A)
/-- All come back. -/
theorem back (l : List α) : lists (table l).1 (ints (table l).2) = .ok ∧ outs (table l).1 (ints (table l).2) = l := by
 have H := is_table l
 have hr : ∀ a ∈ ints (table l).2, 0 ≤ a ∧ a < (table l).1.length := fun a ha => by
  obtain ⟨b, hb, rfl⟩ := List.mem_map.1 ha
  have := H.lt b hb
  simp only [Int.ofNat_eq_natCast]; omega
 refine ⟨(lists_ok _ _).2 ⟨H.nodup, hr, _, by rw [nats_ints]; exact H.chk, Nat.le_refl _⟩, ?_⟩
 have := outs_map (table l).1 (ints (table l).2) hr
 rw [nats_ints, H.map] at this
 exact (List.map_inj_right (fun _ _ => Option.some.inj)).1 this.symm
theorem mem_table (l : List α) (x : α) : x ∈ (table l).1 ↔ x ∈ l := by
 have key : ∀ (l : List α) (p : List α × List Nat), x ∈ (l.foldl step p).1 ↔ x ∈ p.1 ∨ x ∈ l := by
  intro l
  induction l with
  | nil => intro p; simp
  | cons k r ih =>
   intro p
   rw [List.foldl_cons, ih]
   unfold step
   by_cases hk : k ∈ p.1
   ·rw [if_pos hk]
    simp only [List.mem_cons]
    constructor
    ·rintro (h | h)
     ·exact .inl h
     ·exact .inr (.inr h)
    ·rintro (h | rfl | h)
     ·exact .inl h
     ·exact .inl hk
     ·exact .inr h
   ·rw [if_neg hk]
    simp [or_assoc]
 have := key l ([], [])
 simpa [table] using this
theorem table_len (l : List α) : (table l).1.length ≤ l.length := by
 have key : ∀ (m : List α) (p : List α × List Nat), (m.foldl step p).1.length ≤ p.1.length + m.length := by
  intro m
  induction m with
  | nil => intro p; simp
  | cons k m ih =>
   intro p
   have := ih (step p k)
   rw [List.foldl_cons, List.length_cons]
   have h2 : (step p k).1.length ≤ p.1.length + 1 := by
    unfold step; split <;> simp
   omega
 have := key l ([], [])
 simpa [table] using this
/-- Which one a key is. -/
def idx (T : List α) (x : α) : Option Nat := if x ∈ T then some (T.idxOf x) else none
theorem idx_nil : idx ([] : List α) = fun _ => none := by funext x; unfold idx; rw [if_neg (List.not_mem_nil)]
theorem idx_yes {T : List α} {x : α} (h : x ∈ T) : idx T x = some (T.idxOf x) := by unfold idx; rw [if_pos h]
theorem idx_no {T : List α} {x : α} (h : x ∉ T) : idx T x = none := by unfold idx; rw [if_neg h]
theorem idx_snoc {T : List α} {x : α} (h : x ∉ T) : (fun y => if y = x then some T.length else idx T y) = idx (T ++ [x]) := by
 funext y
 unfold idx
 by_cases hy : y = x
 ·subst hy
  rw [if_pos rfl, if_pos (List.mem_append_right _ (List.mem_cons_self ..)), List.idxOf_append, if_neg h]
  simp
 ·rw [if_neg hy]
  by_cases hm : y ∈ T
  ·rw [if_pos hm, if_pos (List.mem_append_left _ hm), List.idxOf_append, if_pos hm]
  ·rw [if_neg hm, if_neg]
   rw [List.mem_append, List.mem_singleton]
   rintro (h | h)
   ·exact hm h
   ·exact hy h
/-- Whether a key was seen. -/
def was (T : List α) (x : α) : Option Bool := if x ∈ T then some true else none
theorem was_nil : was ([] : List α) = fun _ => none := by funext x; unfold was; rw [if_neg (List.not_mem_nil)]
theorem was_yes {T : List α} {x : α} (h : x ∈ T) : (was T x).getD false = true := by unfold was; rw [if_pos h]; rfl
theorem was_no {T : List α} {x : α} (h : x ∉ T) : (was T x).getD false = false := by unfold was; rw [if_neg h]; rfl
theorem was_snoc (T : List α) (x : α) : (fun y => if y = x then some true else was T y) = was (T ++ [x]) := by
 funext y
 unfold was
 by_cases hy : y = x
 ·rw [if_pos hy, if_pos (List.mem_append_right _ (by rw [hy]; exact List.mem_cons_self ..))]
 ·rw [if_neg hy]
  by_cases hm : y ∈ T
  ·rw [if_pos hm, if_pos (List.mem_append_left _ hm)]
  ·rw [if_neg hm, if_neg]
   rw [List.mem_append, List.mem_singleton]
   rintro (h | h)
   ·exact hm h
   ·exact hy h
theorem table_take (l : List α) (k : Nat) (h : k < l.length) : table (l.take (k + 1)) = step (table (l.take k)) l[k] := by
 rw [List.take_succ_eq_append_getElem h, table_snoc]
theorem step_old {p : List α × List Nat} {x : α} (h : x ∈ p.1) : step p x = (p.1, p.2 ++ [p.1.idxOf x]) := by unfold step; rw [if_pos h]
theorem old_case {p : List α × List Nat} {x : α} (h : x ∈ p.1) : ∃ j, idx p.1 x = some j ∧ step p x = (p.1, p.2 ++ [j]) ∧ j < p.1.length := ⟨_, idx_yes h, step_old h, List.idxOf_lt_length_of_mem h⟩
theorem step_new {p : List α × List Nat} {x : α} (h : x ∉ p.1) : step p x = (p.1 ++ [x], p.2 ++ [p.1.length]) := by unfold step; rw [if_neg h]
theorem dups_drop (T : List α) (k : Nat) (h : k < T.length) : dups (T.drop k) (T.take k) k = if T[k] ∈ T.take k then .at_ 9 k else dups (T.drop (k + 1)) (T.take (k + 1)) (k + 1) := by
 rw [List.drop_eq_getElem_cons h, dups, List.take_succ_eq_append_getElem h]
theorem rngs_drop (n : Nat) (A : List Int) (k nx : Nat) (h : k < A.length) : rngs n (A.drop k) nx k = if A[k] < 0 ∨ (n : Int) ≤ A[k] then .at_ 2 k else if (nx : Int) < A[k] then .at_ 13 k else rngs n (A.drop (k + 1)) (if A[k] = nx then nx + 1 else nx) (k + 1) := by
 rw [List.drop_eq_getElem_cons h, rngs]
theorem outs_take (T : List α) (A : List Int) (k : Nat) (h : k < A.length) (m : Nat) (hm : m < T.length) (e : A[k] = m) : outs T (A.take (k + 1)) = outs T (A.take k) ++ [T[m]] := by
 unfold outs
 rw [List.take_succ_eq_append_getElem h, List.filterMap_append, e]
 simp [List.getElem?_eq_getElem hm]
end
end Keys
end Go.Proofs.YtognjohloobliaaGreatDoor
/- Plain laws of the sum: no program in sight. -/
namespace Go.Proofs.YtognjohloobliaaGreatDoor
namespace Crc
/-- One bit of the register. -/
def step1 (n : Nat) : Nat := if n % 2 = 1 then (n / 2) ^^^ 2197175160 else n / 2
def steps : Nat → Nat → Nat
 | 0, n => n
 | k + 1, n => step1 (steps k n)
def one (n : Nat) : Nat := steps 8 n
theorem step1_lt {n : Nat} (h : n < 4294967296) : step1 n < 4294967296 := by
 unfold step1
 split
 ·exact Nat.xor_lt_two_pow (n := 32) (by omega) (by omega)
 ·omega
theorem steps_lt (k : Nat) {n : Nat} (h : n < 4294967296) : steps k n < 4294967296 := by
 induction k with
 | zero => exact h
 | succ k ih => exact step1_lt ih
theorem one_lt {n : Nat} (h : n < 4294967296) : one n < 4294967296 := steps_lt 8 h
/-- All bits turned. -/
def inv (n : Nat) : Nat := 4294967295 - n
/-- One byte. -/
def byte (r : Nat) (c : UInt8) : Nat := one ((r % 256) ^^^ c.toNat) ^^^ (r / 256)
def run (r : Nat) : List UInt8 → Nat
 | [] => r
 | c :: l => run (byte r c) l
def more (n : Nat) (l : List UInt8) : Nat := inv (run (inv n) l)
theorem inv_lt (n : Nat) : inv n < 4294967296 := by unfold inv; omega
theorem byte_lt {r : Nat} (h : r < 4294967296) (c : UInt8) : byte r c < 4294967296 := by
 have hc := c.toNat_lt
 have h1 : (r % 256) ^^^ c.toNat < 4294967296 := Nat.xor_lt_two_pow (n := 32) (by omega) (by omega)
 exact Nat.xor_lt_two_pow (n := 32) (one_lt h1) (by omega)
theorem run_lt (l : List UInt8) : ∀ {r : Nat}, r < 4294967296 → run r l < 4294967296 := by
 induction l with
 | nil => intro r h; exact h
 | cons c l ih => intro r h; exact ih (byte_lt h c)
theorem run_append (a b : List UInt8) : ∀ r, run r (a ++ b) = run (run r a) b := by
 induction a with
 | nil => intro r; rfl
 | cons c a ih => intro r; exact ih _
def sum (l : List UInt8) : Nat := more 0 l
/-- The four bytes of a sum, the lowest one first. -/
def four (n : Nat) : List UInt8 := [UInt8.ofNat n, UInt8.ofNat (n / 256), UInt8.ofNat (n / 65536), UInt8.ofNat (n / 16777216)]
def seal_ (l : List UInt8) : List UInt8 := l ++ four (sum l)
end Crc
end Go.Proofs.YtognjohloobliaaGreatDoor
/- Plain laws of the sum: it is linear, no nought hides a difference, and a burst within thirty-two bits is seen. -/
namespace Go.Proofs.YtognjohloobliaaGreatDoor
namespace Crc
instance : Std.Associative (α := Nat) (· ^^^ ·) := ⟨Nat.xor_assoc⟩
instance : Std.Commutative (α := Nat) (· ^^^ ·) := ⟨Nat.xor_comm⟩
end Crc
end Go.Proofs.YtognjohloobliaaGreatDoor
/- Plain laws of bits that are turned: a text as one number, and what a burst does to the sum. -/
namespace Go.Proofs.YtognjohloobliaaGreatDoor
namespace Crc
theorem seal_len' (l : List UInt8) : (seal_ l).length = l.length + 4 := by simp [seal_, four]
end Crc
end Go.Proofs.YtognjohloobliaaGreatDoor
/- A sealed text opened, as a plain function. -/
namespace Go.Proofs.YtognjohloobliaaGreatDoor
namespace Crc
/-- A text without its sum, or what is wrong. -/
def opened (s : List UInt8) : Nat ⊕ List UInt8 :=
 if s.length < 4 then .inl 7 else if seal_ (s.take (s.length - 4)) = s then .inr (s.take (s.length - 4)) else .inl 15
theorem opened_seal (l : List UInt8) : opened (seal_ l) = .inr l := by
 have hl := seal_len' l
 have ht : (seal_ l).take ((seal_ l).length - 4) = l := by
  rw [hl, Nat.add_sub_cancel]; unfold seal_; exact List.take_left
 unfold opened
 rw [if_neg (by omega), ht, if_pos rfl]
theorem opened_inv {s t : List UInt8} (h : opened s = .inr t) : seal_ t = s := by
 unfold opened at h
 split at h
 ·cases h
 ·split at h
  ·rename_i h2
   injection h with h; subst h; exact h2
  ·cases h
end Crc
namespace Vary
end Vary
end Go.Proofs.YtognjohloobliaaGreatDoor
/- Plain laws of pieces: how one is written, read back, and cut. -/
namespace Go.Proofs.YtognjohloobliaaGreatDoor
namespace Chunk
end Chunk
end Go.Proofs.YtognjohloobliaaGreatDoor
/- Plain laws of a text in pieces. -/
namespace Go.Proofs.YtognjohloobliaaGreatDoor
namespace Chunk
end Chunk
end Go.Proofs.YtognjohloobliaaGreatDoor
