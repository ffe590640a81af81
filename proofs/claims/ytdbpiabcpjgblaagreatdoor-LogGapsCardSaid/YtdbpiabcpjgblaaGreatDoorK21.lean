/- slices.Equal over writes, batch.Same: whatever they are. -/
import Derived.Test.YtdbpiabcpjgblaaGreatDoorK20
import Derived.Test.YtdbpiabcpjgblaaGreatDoorK17
import Derived.Test.YtdbpiabcpjgblaaGreatDoorK04
namespace Go.Proofs.YtdbpiabcpjgblaaGreatDoor
open Go.RowKit
set_option linter.unusedVariables false
set_option linter.unusedSimpArgs false
def sameB (A B : List Vec.Entry) (L : List WrB) (A2 B2 : List Vec.Entry) (L2 : List WrB) : Bool := decide (A = A2) && (decide (B = B2) && decide (L = L2))
theorem sameB_self (A B : List Vec.Entry) (L : List WrB) : sameB A B L A B L = true := by simp [sameB]
set_option maxHeartbeats 4000000 in
set_option maxRecDepth 20000 in
theorem same_any (f1 h1 w1 f2 h2 w2 : Value) (A B : List Vec.Entry) (L : List WrB) (A2 B2 : List Vec.Entry) (L2 : List WrB) (w : World) (ha : VecIs w f1 A) (hb : VecIs w h1 B) (hc : WrsIs w w1 L) (ha2 : VecIs w f2 A2) (hb2 : VecIs w h2 B2) (hc2 : WrsIs w w2 L2) (hlA : A.length ≤ 140737488351232) (hlB : B.length ≤ 140737488351232) (hlL : L.length ≤ 140737488351232) (hlA2 : A2.length ≤ 140737488351232) (hlB2 : B2.length ≤ 140737488351232) (hlL2 : L2.length ≤ 140737488351232) :
    Calls Tryz.prog 33 #[.agg #[f1, h1, w1], .agg #[f2, h2, w2]] w fun e w' => e = .returned (.bool (sameB A B L A2 B2 L2)) ∧ Below w.heap.size w w' := by
  obtain ⟨o1, c1, rfl, -, -⟩ := ha.list.at entCells_len
  obtain ⟨o2, c2, rfl, -, -⟩ := hb.list.at entCells_len
  obtain ⟨o3, c3, rfl, -, -⟩ := ListIs.at hc wrBCells_len
  obtain ⟨o4, c4, rfl, -, -⟩ := ha2.list.at entCells_len
  obtain ⟨o5, c5, rfl, -, -⟩ := hb2.list.at entCells_len
  obtain ⟨o6, c6, rfl, -, -⟩ := ListIs.at hc2 wrBCells_len
  have hE1 := fun W (hW : Below w.heap.size w W) => eq_ent (.slice o1 A.length c1) (.slice o4 A2.length c4) A A2 W (ha.below hW) (ha2.below hW) hlA hlA2
  have hE2 := fun W (hW : Below w.heap.size w W) => eq_ent (.slice o2 B.length c2) (.slice o5 B2.length c5) B B2 W (hb.below hW) (hb2.below hW) hlB hlB2
  have hE3 := fun W (hW : Below w.heap.size w W) => eq_wrs (.slice o3 L.length c3) (.slice o6 L2.length c6) L L2 W (hc.below hW) (hc2.below hW) hlL hlL2
  replace hE1 := Lib.hid hE1
  replace hE2 := Lib.hid hE2
  replace hE3 := Lib.hid hE3
  clear ha hb hc ha2 hb2 hc2
  obtain ⟨S, hS⟩ : ∃ S, S = sameB A B L A2 B2 L2 := ⟨_, rfl⟩
  rw [← hS]
  unfold sameB at hS
  cases h1 : decide (A = A2) with
  | false =>
    rw [h1, Bool.false_and] at hS
    rw [h1] at hE1
    subst hS
    replace h1 := Lib.hid h1
    go_enter Tryz.func33, Tryz.ntmps33
    go_wp2_with fail
    refine (hE1.out _ (by exact blw)).mono ?_
    rintro _ W3 ⟨rfl, hb3⟩
    go_wp2
    go_ret
    exact ⟨rfl, by exact blw⟩
  | true =>
    rw [h1, Bool.true_and] at hS
    rw [h1] at hE1
    replace h1 := Lib.hid h1
    cases h2 : decide (B = B2) with
    | false =>
      rw [h2, Bool.false_and] at hS
      rw [h2] at hE2
      subst hS
      replace h2 := Lib.hid h2
      go_enter Tryz.func33, Tryz.ntmps33
      go_wp2_with fail
      have q1 := (row_at #[.slice o1 A.length c1, .slice o2 B.length c2, .slice o3 L.length c3] 25 (rfl : w.heap.size = w.heap.size)).alloc (Obj.cells #[.slice o4 A2.length c4, .slice o5 B2.length c5, .slice o6 L2.length c6] 25)
      have hb1 := bal (Below.refl w.heap.size w) (Obj.cells #[.slice o1 A.length c1, .slice o2 B.length c2, .slice o3 L.length c3] 25)
      have hz : (w.alloc (Obj.cells #[.slice o1 A.length c1, .slice o2 B.length c2, .slice o3 L.length c3] 25)).heap.size = w.heap.size + 1 := by simp
      generalize w.alloc (Obj.cells #[.slice o1 A.length c1, .slice o2 B.length c2, .slice o3 L.length c3] 25) = W1 at *
      have q2 := row_at #[.slice o4 A2.length c4, .slice o5 B2.length c5, .slice o6 L2.length c6] 25 hz.symm
      have hb2 := bal hb1 (Obj.cells #[.slice o4 A2.length c4, .slice o5 B2.length c5, .slice o6 L2.length c6] 25)
      generalize W1.alloc (Obj.cells #[.slice o4 A2.length c4, .slice o5 B2.length c5, .slice o6 L2.length c6] 25) = W2 at *
      clear hb1 hz
      refine (hE1.out _ hb2).mono ?_
      rintro _ W3 ⟨rfl, hb3⟩
      replace q1 := q1.below hb3
      replace q2 := q2.below hb3
      replace hb2 := bch hb2 hb3
      clear hb3
      obtain ⟨d0, d1, d2⟩ := q1.c3
      obtain ⟨e0, e1, e2⟩ := q2.c3
      go_wp2_with fail
      refine (hE2.out _ hb2).mono ?_
      rintro _ W4 ⟨rfl, hb3⟩
      replace q1 := q1.below hb3
      replace q2 := q2.below hb3
      replace hb2 := bch hb2 hb3
      clear hb3
      go_wp2
      go_ret
      exact ⟨rfl, hb2⟩
    | true =>
      rw [h2, Bool.true_and] at hS
      rw [h2] at hE2
      rw [← hS] at hE3
      replace h2 := Lib.hid h2
      replace hS := Lib.hid hS
      go_enter Tryz.func33, Tryz.ntmps33
      go_wp2_with fail
      have q1 := (row_at #[.slice o1 A.length c1, .slice o2 B.length c2, .slice o3 L.length c3] 25 (rfl : w.heap.size = w.heap.size)).alloc (Obj.cells #[.slice o4 A2.length c4, .slice o5 B2.length c5, .slice o6 L2.length c6] 25)
      have hb1 := bal (Below.refl w.heap.size w) (Obj.cells #[.slice o1 A.length c1, .slice o2 B.length c2, .slice o3 L.length c3] 25)
      have hz : (w.alloc (Obj.cells #[.slice o1 A.length c1, .slice o2 B.length c2, .slice o3 L.length c3] 25)).heap.size = w.heap.size + 1 := by simp
      generalize w.alloc (Obj.cells #[.slice o1 A.length c1, .slice o2 B.length c2, .slice o3 L.length c3] 25) = W1 at *
      have q2 := row_at #[.slice o4 A2.length c4, .slice o5 B2.length c5, .slice o6 L2.length c6] 25 hz.symm
      have hb2 := bal hb1 (Obj.cells #[.slice o4 A2.length c4, .slice o5 B2.length c5, .slice o6 L2.length c6] 25)
      generalize W1.alloc (Obj.cells #[.slice o4 A2.length c4, .slice o5 B2.length c5, .slice o6 L2.length c6] 25) = W2 at *
      clear hb1 hz
      refine (hE1.out _ hb2).mono ?_
      rintro _ W3 ⟨rfl, hb3⟩
      replace q1 := q1.below hb3
      replace q2 := q2.below hb3
      replace hb2 := bch hb2 hb3
      clear hb3
      obtain ⟨d0, d1, d2⟩ := q1.c3
      obtain ⟨e0, e1, e2⟩ := q2.c3
      go_wp2_with fail
      refine (hE2.out _ hb2).mono ?_
      rintro _ W4 ⟨rfl, hb3⟩
      replace q1 := q1.below hb3
      replace q2 := q2.below hb3
      replace hb2 := bch hb2 hb3
      clear hb3
      clear d0 d1 d2 e0 e1 e2
      obtain ⟨d0, d1, d2⟩ := q1.c3
      obtain ⟨e0, e1, e2⟩ := q2.c3
      go_wp2_with fail
      refine (hE3.out _ hb2).mono ?_
      rintro _ W5 ⟨rfl, hb3⟩
      replace q1 := q1.below hb3
      replace q2 := q2.below hb3
      replace hb2 := bch hb2 hb3
      clear hb3
      go_wp2
      go_ret
      exact ⟨rfl, hb2⟩
end Go.Proofs.YtdbpiabcpjgblaaGreatDoor
/- Plain laws of key tables. -/
namespace Go.Proofs.YtdbpiabcpjgblaaGreatDoor
namespace Keys
set_option linter.unusedSectionVars false
set_option linter.unusedVariables false
section
variable {α : Type} [DecidableEq α]
/-- One key more. -/
def step (p : List α × List Nat) (k : α) : List α × List Nat := if k ∈ p.1 then (p.1, p.2 ++ [p.1.idxOf k]) else (p.1 ++ [k], p.2 ++ [p.1.length])
/-- All keys, as they come first, and of each which one it is. -/
def table (l : List α) : List α × List Nat := l.foldl step ([], [])
theorem table_snoc (l : List α) (k : α) : table (l ++ [k]) = step (table l) k := by simp [table]
/-- How many keys are told of, each at its time. -/
def chk : List Nat → Nat → Option Nat
  | [], n => some n
  | a :: r, n => if n < a then none else chk r (if a = n then n + 1 else n)
theorem chk_append (a b : List Nat) (n : Nat) : chk (a ++ b) n = (chk a n).bind (chk b) := by
  induction a generalizing n with
  | nil => rfl
  | cons x a ih =>
    rw [List.cons_append, chk, chk]
    split
    · rfl
    · exact ih _
theorem nodup_inj {T : List α} (h : T.Nodup) {i j : Nat} (hi : i < T.length) (hj : j < T.length) (e : T[i] = T[j]) : i = j := by
  rcases Nat.lt_trichotomy i j with hlt | hlt | hlt
  · exact absurd e (List.pairwise_iff_getElem.1 h i j hi hj hlt)
  · exact hlt
  · exact absurd e.symm (List.pairwise_iff_getElem.1 h j i hj hi hlt)
/-- What a table is. -/
structure Is (l : List α) (p : List α × List Nat) : Prop where
  nodup : p.1.Nodup
  len : p.2.length = l.length
  lt : ∀ a ∈ p.2, a < p.1.length
  map : p.2.map (fun a => p.1[a]?) = l.map some
  chk : chk p.2 0 = some p.1.length
theorem is_table (l : List α) : Is l (table l) := by
  have key : ∀ (r l : List α) (p : List α × List Nat), Is l p → Is (l ++ r) (r.foldl step p) := by
    intro r
    induction r with
    | nil => intro l p h; simpa using h
    | cons k r ih =>
      intro l p h
      have e : l ++ k :: r = (l ++ [k]) ++ r := by simp
      rw [e, List.foldl_cons]
      refine ih _ _ ?_
      obtain ⟨T, A⟩ := p
      obtain ⟨h1, h2, h3, h4, h5⟩ := h
      simp only at h1 h2 h3 h4 h5
      unfold step
      by_cases hk : k ∈ T
      · have hi : T.idxOf k < T.length := List.idxOf_lt_length_of_mem hk
        have hg : T[T.idxOf k]? = some k := by
          rw [List.getElem?_eq_getElem hi]
          exact congrArg some (List.getElem_idxOf hi)
        simp only [hk, if_true]
        refine ⟨h1, by simp [h2], fun a ha => ?_, by simp [h4, hg], ?_⟩
        · rcases List.mem_append.1 ha with ha | ha
          · exact h3 a ha
          · rw [List.mem_singleton.1 ha]; exact hi
        · show Keys.chk (A ++ [T.idxOf k]) 0 = _
          rw [chk_append, h5]
          simp only [Option.bind_some, Keys.chk]
          rw [if_neg (by omega), if_neg (by omega)]
      · simp only [hk, if_false]
        refine ⟨?_, by simp [h2], fun a ha => ?_, ?_, ?_⟩
        · rw [List.nodup_append]
          exact ⟨h1, by simp, fun a ha b hb => by rw [List.mem_singleton.1 hb]; intro e; exact hk (e ▸ ha)⟩
        · simp only [List.length_append, List.length_cons, List.length_nil]
          rcases List.mem_append.1 ha with ha | ha
          · have := h3 a ha; omega
          · rw [List.mem_singleton.1 ha]; omega
        · rw [List.map_append, List.map_append, ← h4]
          congr 1
          · refine List.map_congr_left fun a ha => ?_
            exact List.getElem?_append_left (h3 a ha)
          · simp
        · show Keys.chk (A ++ [T.length]) 0 = _
          rw [chk_append, h5]
          simp only [Option.bind_some, Keys.chk, List.length_append, List.length_cons, List.length_nil]
          simp
  have := key l [] ([], []) ⟨by simp, rfl, by simp, rfl, rfl⟩
  simpa [table] using this
/-- Just one table: what tells a list is that list's. -/
theorem table_of (T : List α) (hT : T.Nodup) (A : List Nat) (l : List α) (m : Nat) (hl : A.map (fun a => T[a]?) = l.map some) (hc : chk A 0 = some m) (hm : m ≤ T.length) : table l = (T.take m, A) := by
  have key : ∀ (B : List Nat) (r : List α) (n : Nat) (A : List Nat), B.map (fun a => T[a]?) = r.map some → chk B n = some m → r.foldl step (T.take n, A) = (T.take m, A ++ B) := by
    intro B
    induction B with
    | nil =>
      intro r n A h hc
      have hr : r = [] := by cases r with
        | nil => rfl
        | cons x r => simp at h
      injection hc with hc
      rw [hr, hc]; simp
    | cons x B ih =>
      intro r n A h hc
      cases r with
      | nil => simp at h
      | cons k r =>
        rw [List.map_cons, List.map_cons] at h
        injection h with h1 h2
        rw [chk] at hc
        have hx : x < T.length := (List.getElem?_eq_some_iff.1 h1).1
        have hxk : T[x] = k := (List.getElem?_eq_some_iff.1 h1).2
        split at hc
        · cases hc
        · rename_i hn
          rw [List.foldl_cons]
          by_cases he : x = n
          · subst he
            rw [if_pos rfl] at hc
            have hk : k ∉ T.take x := fun hmem => by
              obtain ⟨i, hi, hik⟩ := List.getElem_of_mem hmem
              rw [List.length_take] at hi
              rw [List.getElem_take, ← hxk] at hik
              have := nodup_inj hT (by omega) hx hik
              omega
            have e : step (T.take x, A) k = (T.take (x + 1), A ++ [x]) := by
              unfold step
              simp only [hk, if_false]
              rw [List.take_succ_eq_append_getElem hx, hxk, List.length_take, Nat.min_eq_left (by omega)]
            rw [e, ih r (x + 1) (A ++ [x]) h2 hc]
            simp
          · rw [if_neg he] at hc
            have hxl : x < (T.take n).length := by
              rw [List.length_take]; omega
            have hk : k ∈ T.take n := by
              rw [← hxk, ← List.getElem_take (h := hxl)]
              exact List.getElem_mem hxl
            have hidx : (T.take n).idxOf k = x := by
              have hnd : (T.take n).Nodup := List.Nodup.sublist (List.take_sublist n T) hT
              have hi := List.idxOf_lt_length_of_mem hk
              have h3 : (T.take n)[(T.take n).idxOf k] = k := List.getElem_idxOf hi
              have h4 : (T.take n)[x] = k := by rw [List.getElem_take]; exact hxk
              exact nodup_inj hnd hi hxl (h3.trans h4.symm)
            have e : step (T.take n, A) k = (T.take n, A ++ [x]) := by
              unfold step
              simp only [hk, if_true, hidx]
            rw [e, ih r n (A ++ [x]) h2 hc]
            simp
  have := key A l 0 [] hl hc
  simpa [table] using this
end
end Keys
end Go.Proofs.YtdbpiabcpjgblaaGreatDoor
/- Plain laws of key tables, part two: what List tells. -/
namespace Go.Proofs.YtdbpiabcpjgblaaGreatDoor
namespace Keys
set_option linter.unusedSectionVars false
set_option linter.unusedVariables false
section
variable {α : Type} [DecidableEq α]
def dups : List α → List α → Nat → Err
  | [], _, _ => .ok
  | x :: r, s, k => if x ∈ s then .at_ 9 k else dups r (s ++ [x]) (k + 1)
def rngs (n : Nat) : List Int → Nat → Nat → Err
  | [], next, _ => if next < n then .no 8 else .ok
  | a :: r, next, i => if a < 0 ∨ (n : Int) ≤ a then .at_ 2 i else if (next : Int) < a then .at_ 13 i else rngs n r (if a = next then next + 1 else next) (i + 1)
def lists (T : List α) (A : List Int) : Err := match dups T [] 0 with | .ok => rngs T.length A 0 0 | e => e
def outs (T : List α) (A : List Int) : List α := A.filterMap fun a => T[a.toNat]?
def nats (A : List Int) : List Nat := A.map Int.toNat
theorem dups_ok (T s : List α) (k : Nat) : dups T s k = .ok ↔ (∀ x ∈ T, x ∉ s) ∧ T.Nodup := by
  induction T generalizing s k with
  | nil => simp [dups]
  | cons x r ih =>
    rw [dups]
    by_cases h : x ∈ s
    · rw [if_pos h]
      constructor
      · intro h'; cases h'
      · intro h'; exact absurd h (h'.1 x (List.mem_cons_self ..))
    · rw [if_neg h, ih]
      constructor
      · rintro ⟨h1, h2⟩
        refine ⟨fun y hy => ?_, List.nodup_cons.2 ⟨fun hx => ?_, h2⟩⟩
        · rcases List.mem_cons.1 hy with rfl | hy
          · exact h
          · exact fun hs => h1 y hy (List.mem_append_left _ hs)
        · exact h1 x hx (List.mem_append_right _ (List.mem_cons_self ..))
      · rintro ⟨h1, h2⟩
        rw [List.nodup_cons] at h2
        refine ⟨fun y hy hs => ?_, h2.2⟩
        rcases List.mem_append.1 hs with hs | hs
        · exact h1 y (List.mem_cons_of_mem _ hy) hs
        · rw [List.mem_singleton.1 hs] at hy; exact h2.1 hy
theorem rngs_ok (n : Nat) (A : List Int) (next i : Nat) : rngs n A next i = .ok ↔ (∀ a ∈ A, 0 ≤ a ∧ a < n) ∧ ∃ m, chk (nats A) next = some m ∧ n ≤ m := by
  induction A generalizing next i with
  | nil =>
    rw [rngs]
    by_cases h : next < n
    · rw [if_pos h]
      constructor
      · intro h'; cases h'
      · rintro ⟨_, m, hm, hn⟩
        simp only [nats, List.map_nil, chk] at hm
        injection hm with hm; omega
    · rw [if_neg h]
      exact ⟨fun _ => ⟨by simp, next, rfl, by omega⟩, fun _ => rfl⟩
  | cons a r ih =>
    rw [rngs]
    by_cases h : a < 0 ∨ (n : Int) ≤ a
    · rw [if_pos h]
      constructor
      · intro h'; cases h'
      · rintro ⟨h', _⟩
        have := h' a (List.mem_cons_self ..)
        omega
    · rw [if_neg h]
      have ha : (a.toNat : Int) = a := by omega
      by_cases h2 : (next : Int) < a
      · rw [if_pos h2]
        constructor
        · intro h'; cases h'
        · rintro ⟨_, m, hm, _⟩
          simp only [nats, List.map_cons, chk] at hm
          rw [if_pos (by omega)] at hm
          cases hm
      · rw [if_neg h2, ih]
        simp only [nats, List.map_cons, chk]
        rw [if_neg (show ¬ next < a.toNat by omega)]
        have e : (if a.toNat = next then next + 1 else next) = (if a = (next : Int) then next + 1 else next) := by
          by_cases h3 : a = next
          · rw [if_pos h3, if_pos (by omega)]
          · rw [if_neg h3, if_neg (by omega)]
        rw [e]
        constructor
        · rintro ⟨h1, h3⟩
          refine ⟨fun b hb => ?_, h3⟩
          rcases List.mem_cons.1 hb with rfl | hb
          · omega
          · exact h1 b hb
        · rintro ⟨h1, h3⟩
          exact ⟨fun b hb => h1 b (List.mem_cons_of_mem _ hb), h3⟩
theorem lists_ok (T : List α) (A : List Int) : lists T A = .ok ↔ T.Nodup ∧ (∀ a ∈ A, 0 ≤ a ∧ a < T.length) ∧ ∃ m, chk (nats A) 0 = some m ∧ T.length ≤ m := by
  unfold lists
  have hd := dups_ok T [] 0
  cases h : dups T [] 0 with
  | ok =>
    simp only
    rw [rngs_ok]
    have := (hd.1 h).2
    exact ⟨fun h' => ⟨this, h'⟩, fun h' => h'.2⟩
  | no n =>
    simp only
    rw [h] at hd
    constructor
    · intro h'; cases h'
    · intro h'; cases hd.2 ⟨by simp, h'.1⟩
  | at_ n i =>
    simp only
    rw [h] at hd
    constructor
    · intro h'; cases h'
    · intro h'; cases hd.2 ⟨by simp, h'.1⟩
theorem chk_max (n : Nat) (A : List Nat) (next m : Nat) (h : ∀ a ∈ A, a < n) (hn : next ≤ n) (hc : chk A next = some m) : m ≤ n := by
  induction A generalizing next with
  | nil => injection hc with hc; omega
  | cons a r ih =>
    rw [chk] at hc
    have ha := h a (List.mem_cons_self ..)
    split at hc
    · cases hc
    · refine ih _ (fun b hb => h b (List.mem_cons_of_mem _ hb)) ?_ hc
      split <;> omega
theorem outs_map (T : List α) (A : List Int) (h : ∀ a ∈ A, 0 ≤ a ∧ a < T.length) : (nats A).map (fun a => T[a]?) = (outs T A).map some := by
  induction A with
  | nil => rfl
  | cons a r ih =>
    have ha := h a (List.mem_cons_self ..)
    have i := ih fun b hb => h b (List.mem_cons_of_mem _ hb)
    have e : T[a.toNat]? = some (T[a.toNat]'(by omega)) := List.getElem?_eq_getElem (by omega)
    unfold outs nats at *
    rw [List.map_cons, List.map_cons, List.filterMap_cons, e, i]
    rfl
/-- Just one table: what tells a list is that list's. -/
theorem table_outs (T : List α) (A : List Int) (h : lists T A = .ok) : table (outs T A) = (T, nats A) := by
  obtain ⟨h1, h2, m, h3, h4⟩ := (lists_ok T A).1 h
  have h5 : m ≤ T.length := chk_max _ _ _ _ (fun a ha => by
    obtain ⟨b, hb, rfl⟩ := List.mem_map.1 ha
    have := h2 b hb; omega) (Nat.zero_le _) h3
  rw [table_of T h1 (nats A) _ m (outs_map T A h2) h3 h5, List.take_of_length_le (by omega)]
def ints (A : List Nat) : List Int := A.map Int.ofNat
theorem nats_ints (A : List Nat) : nats (ints A) = A := by unfold nats ints; rw [List.map_map]; exact (List.map_congr_left (g := id) fun _ _ => rfl).trans (List.map_id A)
/-- All come back. -/
theorem back (l : List α) : lists (table l).1 (ints (table l).2) = .ok ∧ outs (table l).1 (ints (table l).2) = l := by
  have H := is_table l
  have hr : ∀ a ∈ ints (table l).2, 0 ≤ a ∧ a < (table l).1.length := fun a ha => by
    obtain ⟨b, hb, rfl⟩ := List.mem_map.1 ha
    have := H.lt b hb
    simp only [Int.ofNat_eq_natCast]; omega
  refine ⟨(lists_ok _ _).2 ⟨H.nodup, hr, _, by rw [nats_ints]; exact H.chk, Nat.le_refl _⟩, ?_⟩
  have := outs_map (table l).1 (ints (table l).2) hr
  rw [nats_ints, H.map] at this
  exact (List.map_inj_right (fun _ _ => Option.some.inj)).1 this.symm
theorem mem_table (l : List α) (x : α) : x ∈ (table l).1 ↔ x ∈ l := by
  have key : ∀ (l : List α) (p : List α × List Nat), x ∈ (l.foldl step p).1 ↔ x ∈ p.1 ∨ x ∈ l := by
    intro l
    induction l with
    | nil => intro p; simp
    | cons k r ih =>
      intro p
      rw [List.foldl_cons, ih]
      unfold step
      by_cases hk : k ∈ p.1
      · rw [if_pos hk]
        simp only [List.mem_cons]
        constructor
        · rintro (h | h)
          · exact .inl h
          · exact .inr (.inr h)
        · rintro (h | rfl | h)
          · exact .inl h
          · exact .inl hk
          · exact .inr h
      · rw [if_neg hk]
        simp [or_assoc]
  have := key l ([], [])
  simpa [table] using this
theorem table_len (l : List α) : (table l).1.length ≤ l.length := by
  have key : ∀ (m : List α) (p : List α × List Nat), (m.foldl step p).1.length ≤ p.1.length + m.length := by
    intro m
    induction m with
    | nil => intro p; simp
    | cons k m ih =>
      intro p
      have := ih (step p k)
      rw [List.foldl_cons, List.length_cons]
      have h2 : (step p k).1.length ≤ p.1.length + 1 := by
        unfold step; split <;> simp
      omega
  have := key l ([], [])
  simpa [table] using this
/-- Which one a key is. -/
def idx (T : List α) (x : α) : Option Nat := if x ∈ T then some (T.idxOf x) else none
theorem idx_nil : idx ([] : List α) = fun _ => none := by funext x; unfold idx; rw [if_neg (List.not_mem_nil)]
theorem idx_yes {T : List α} {x : α} (h : x ∈ T) : idx T x = some (T.idxOf x) := by unfold idx; rw [if_pos h]
theorem idx_no {T : List α} {x : α} (h : x ∉ T) : idx T x = none := by unfold idx; rw [if_neg h]
theorem idx_snoc {T : List α} {x : α} (h : x ∉ T) : (fun y => if y = x then some T.length else idx T y) = idx (T ++ [x]) := by
  funext y
  unfold idx
  by_cases hy : y = x
  · subst hy
    rw [if_pos rfl, if_pos (List.mem_append_right _ (List.mem_cons_self ..)), List.idxOf_append, if_neg h]
    simp
  · rw [if_neg hy]
    by_cases hm : y ∈ T
    · rw [if_pos hm, if_pos (List.mem_append_left _ hm), List.idxOf_append, if_pos hm]
    · rw [if_neg hm, if_neg]
      rw [List.mem_append, List.mem_singleton]
      rintro (h | h)
      · exact hm h
      · exact hy h
/-- Whether a key was seen. -/
def was (T : List α) (x : α) : Option Bool := if x ∈ T then some true else none
theorem was_nil : was ([] : List α) = fun _ => none := by funext x; unfold was; rw [if_neg (List.not_mem_nil)]
theorem was_yes {T : List α} {x : α} (h : x ∈ T) : (was T x).getD false = true := by unfold was; rw [if_pos h]; rfl
theorem was_no {T : List α} {x : α} (h : x ∉ T) : (was T x).getD false = false := by unfold was; rw [if_neg h]; rfl
theorem was_snoc (T : List α) (x : α) : (fun y => if y = x then some true else was T y) = was (T ++ [x]) := by
  funext y
  unfold was
  by_cases hy : y = x
  · rw [if_pos hy, if_pos (List.mem_append_right _ (by rw [hy]; exact List.mem_cons_self ..))]
  · rw [if_neg hy]
    by_cases hm : y ∈ T
    · rw [if_pos hm, if_pos (List.mem_append_left _ hm)]
    · rw [if_neg hm, if_neg]
      rw [List.mem_append, List.mem_singleton]
      rintro (h | h)
      · exact hm h
      · exact hy h
theorem table_take (l : List α) (k : Nat) (h : k < l.length) : table (l.take (k + 1)) = step (table (l.take k)) l[k] := by
  rw [List.take_succ_eq_append_getElem h, table_snoc]
theorem step_old {p : List α × List Nat} {x : α} (h : x ∈ p.1) : step p x = (p.1, p.2 ++ [p.1.idxOf x]) := by unfold step; rw [if_pos h]
theorem old_case {p : List α × List Nat} {x : α} (h : x ∈ p.1) : ∃ j, idx p.1 x = some j ∧ step p x = (p.1, p.2 ++ [j]) ∧ j < p.1.length := ⟨_, idx_yes h, step_old h, List.idxOf_lt_length_of_mem h⟩
theorem step_new {p : List α × List Nat} {x : α} (h : x ∉ p.1) : step p x = (p.1 ++ [x], p.2 ++ [p.1.length]) := by unfold step; rw [if_neg h]
theorem dups_drop (T : List α) (k : Nat) (h : k < T.length) : dups (T.drop k) (T.take k) k = if T[k] ∈ T.take k then .at_ 9 k else dups (T.drop (k + 1)) (T.take (k + 1)) (k + 1) := by
  rw [List.drop_eq_getElem_cons h, dups, List.take_succ_eq_append_getElem h]
theorem rngs_drop (n : Nat) (A : List Int) (k nx : Nat) (h : k < A.length) : rngs n (A.drop k) nx k = if A[k] < 0 ∨ (n : Int) ≤ A[k] then .at_ 2 k else if (nx : Int) < A[k] then .at_ 13 k else rngs n (A.drop (k + 1)) (if A[k] = nx then nx + 1 else nx) (k + 1) := by
  rw [List.drop_eq_getElem_cons h, rngs]
theorem outs_take (T : List α) (A : List Int) (k : Nat) (h : k < A.length) (m : Nat) (hm : m < T.length) (e : A[k] = m) : outs T (A.take (k + 1)) = outs T (A.take k) ++ [T[m]] := by
  unfold outs
  rw [List.take_succ_eq_append_getElem h, List.filterMap_append, e]
  simp [List.getElem?_eq_getElem hm]
end
end Keys
end Go.Proofs.YtdbpiabcpjgblaaGreatDoor
