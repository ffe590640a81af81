/- The walks of keep.tailed, WriteBack, WriteOnly. -/
import Derived.Test.YtonblpcbpfhlmaaDoorWFill
import Derived.Outline
namespace Go.Proofs.YtonblpcbpfhlmaaDoor
open Go.RowKit
set_option linter.unusedVariables false
set_option linter.unusedSimpArgs false
def wrVal (x : Wr) : Value := .agg #[.int .i64 x.t, .int .i64 x.r, .int .i64 x.k, .string ⟨x.key.toArray⟩, .string ⟨x.val.toArray⟩, .int .i64 x.n]
def fillVal : Wr.Got → Value
  | .bad e => .tuple #[.agg #[.int .i64 0, .int .i64 0, .int .i64 0, .string ⟨#[]⟩, .string ⟨#[]⟩, .int .i64 0], .int .i64 0, .iface 43 (.int .i64 e)]
  | .ok x n => .tuple #[wrVal x, .int .i64 n, .nilIface]
theorem mk_list (l : List UInt8) : (ByteArray.mk l.toArray).data.toList = l := rfl
theorem fill_inl {x : Wr} {s : List UInt8} {e : Nat} (h : Wr.part x.k s = .inl e) : Wr.fill x s = .bad e := by unfold Wr.fill; rw [h]
theorem fill_inr {x : Wr} {s : List UInt8} {v : List UInt8} {m : Int} {n : Nat} (h : Wr.part x.k s = .inr (v, m, n)) : Wr.fill x s = if Wr.right { x with val := v, n := m } = 0 then .ok { x with val := v, n := m } n else .bad (Wr.right { x with val := v, n := m }) := by unfold Wr.fill; rw [h]
theorem write_fill (t r k : Int) (key val : ByteArray) (n : Int) (s : ByteArray) (w : World) (hs : s.size ≤ maxLen) (hL : Laid w) :
    Calls Tryd.prog 14 #[wrV t r k key val n, .string s] w fun e w' => e = .returned (fillVal (Wr.fill (wr t r k key ⟨#[]⟩ 0) s.data.toList)) ∧ Below w.heap.size w w' := by
  have fin : ∀ (v : List UInt8) (m : Int) (j : Nat), Wr.part k s.data.toList = .inr (v, m, j) → Wr.right (wr t r k key ⟨v.toArray⟩ m) = 0 → Wr.fill (wr t r k key ⟨#[]⟩ 0) s.data.toList = .ok (wr t r k key ⟨v.toArray⟩ m) j := fun v m j h1 h2 => by
    rw [fill_inr (x := wr t r k key ⟨#[]⟩ 0) h1]
    exact if_pos h2
  have fin2 : ∀ (v : List UInt8) (m : Int) (j : Nat), Wr.part k s.data.toList = .inr (v, m, j) → Wr.right (wr t r k key ⟨v.toArray⟩ m) ≠ 0 → Wr.fill (wr t r k key ⟨#[]⟩ 0) s.data.toList = .bad (Wr.right (wr t r k key ⟨v.toArray⟩ m)) := fun v m j h1 h2 => by
    rw [fill_inr (x := wr t r k key ⟨#[]⟩ 0) h1]
    exact if_neg h2
  by_cases h1 : k = 1
  · subst h1
    cases hg : Span.get s.data.toList with
    | bad e => rw [fill_inl (x := wr t r 1 key ⟨#[]⟩ 0) (e := e) (by show Wr.part 1 _ = _; unfold Wr.part; rw [if_pos rfl, hg])]; exact fill_put_e t r key val n s w hs hL e hg
    | ok v j =>
      have hp : Wr.part 1 s.data.toList = .inr (v, 0, j) := by unfold Wr.part; rw [if_pos rfl, hg]
      by_cases hr : Wr.right (wr t r 1 key ⟨v.toArray⟩ 0) = 0
      · rw [fin v 0 j hp hr]; exact fill_put_ok t r key val n s w hs hL v j hg hr
      · rw [fin2 v 0 j hp hr]; exact fill_put_no t r key val n s w hs hL v j hg _ hr rfl
  by_cases h3 : k = 3
  · subst h3
    cases hg : Vary.get s.data.toList with
    | bad e => rw [fill_inl (x := wr t r 3 key ⟨#[]⟩ 0) (e := e) (by show Wr.part 3 _ = _; unfold Wr.part; rw [if_neg (by omega), if_pos rfl, hg])]; exact fill_add_e t r key val n s w hs hL e hg
    | ok u j =>
      have hp : Wr.part 3 s.data.toList = .inr ([], Vary.zag u, j) := by unfold Wr.part; rw [if_neg (by omega), if_pos rfl, hg]
      have hu := (Vary.get_ok _ _ _ hg).2.2.2
      by_cases hr : Wr.right (wr t r 3 key ⟨#[]⟩ (Vary.zag u)) = 0
      · rw [fin [] _ j hp hr]; exact fill_add_ok t r key val n s w hs hL u j hg hu hr
      · rw [fin2 [] _ j hp hr]; exact fill_add_no t r key val n s w hs hL u j hg hu _ hr rfl
  by_cases h4 : k = 4
  · subst h4
    cases hg : Vary.int s.data.toList 1000 with
    | bad e => rw [fill_inl (x := wr t r 4 key ⟨#[]⟩ 0) (e := e) (by show Wr.part 4 _ = _; unfold Wr.part; rw [if_neg (by omega), if_neg (by omega), if_pos rfl, hg])]; exact fill_ins_e t r key val n s w hs hL e hg
    | ok m j =>
      obtain ⟨b1, b2⟩ := Span.int_inv hg
      obtain ⟨a1, a2, -⟩ := Vary.get_ok _ _ _ b1
      rw [ba_len] at a2
      cases hg2 : Span.get (s.data.toList.drop j) with
      | bad e => rw [fill_inl (x := wr t r 4 key ⟨#[]⟩ 0) (e := e) (by show Wr.part 4 _ = _; unfold Wr.part; rw [if_neg (by omega), if_neg (by omega), if_pos rfl, hg]; simp only; rw [hg2])]; exact fill_ins_e2 t r key val n s w hs hL m j hg a2 e hg2
      | ok v i =>
        have hp : Wr.part 4 s.data.toList = .inr (v, (m : Int), j + i) := by unfold Wr.part; rw [if_neg (by omega), if_neg (by omega), if_pos rfl, hg]; simp only; rw [hg2]
        have hi := (Span.get_ok hg2).2.2.1
        rw [List.length_drop, ba_len] at hi
        by_cases hr : Wr.right (wr t r 4 key ⟨v.toArray⟩ m) = 0
        · rw [fin v m _ hp hr]; exact fill_ins_ok t r key val n s w hs hL m j hg a2 v i hg2 (by omega) hr
        · rw [fin2 v m _ hp hr]; exact fill_ins_no t r key val n s w hs hL m j hg a2 v i hg2 (by omega) _ hr rfl
  · have hp : Wr.part k s.data.toList = .inr ([], 0, 0) := by unfold Wr.part; rw [if_neg h1, if_neg h3, if_neg h4]
    by_cases hr : Wr.right (wr t r k key ⟨#[]⟩ 0) = 0
    · rw [fin [] 0 0 hp hr]; exact fill_other_ok t r k key val n s w hs hL ⟨h1, h3, h4⟩ hr
    · rw [fin2 [] 0 0 hp hr]; exact fill_other_no t r k key val n s w hs hL ⟨h1, h3, h4⟩ _ hr rfl
theorem t_right : Wr.right (wr 1 0 4 ⟨#[107]⟩ ⟨#[118]⟩ 3) = 0 := by decide
theorem t_tail : Wr.tail (wr 1 0 4 ⟨#[107]⟩ ⟨#[118]⟩ 3) = [3, 1, 118] := by
  unfold Wr.tail wr Span.put; simp [Vary.put_small]
theorem t_fill : Wr.fill (wr 1 0 4 ⟨#[107]⟩ ⟨#[]⟩ 0) [3, 1, 118, 122] = .ok (wr 1 0 4 ⟨#[107]⟩ ⟨#[118]⟩ 3) 3 := by
  have := Wr.fill_tail (wr 1 0 4 ⟨#[107]⟩ ⟨#[118]⟩ 3) [122] t_right
  rw [t_tail] at this
  exact this
set_option maxHeartbeats 2000000 in
set_option maxRecDepth 100000 in
theorem tailed (w : World) (hL : Laid w) :
    Calls Tryd.prog 11 #[] w fun e w' => e = .returned (.bool true) ∧ Below w.heap.size w w' := by
  have h1 := fun W => write_tail_ok 1 0 4 ⟨#[107]⟩ ⟨#[118]⟩ 3 W t_right
  rw [t_tail] at h1
  unfold wrV at h1
  have h2 := fun W h => write_fill 1 0 4 ⟨#[107]⟩ ⟨#[]⟩ 9 ⟨#[3, 1, 118, 122]⟩ W (size_small _ (by decide)) h
  rw [show Wr.fill (wr 1 0 4 ⟨#[107]⟩ ⟨#[]⟩ 0) (ByteArray.mk #[3, 1, 118, 122]).data.toList = _ from t_fill] at h2
  unfold wrV fillVal wrVal wr at h2
  replace h1 := Lib.hid h1
  replace h2 := Lib.hid h2
  go_enter Tryd.func11, Tryd.ntmps11
  go_wp2_with fail
  have q0 := row_at #[.int .i64 1, .int .i64 0, .int .i64 4, .string ⟨#[107]⟩, .string ⟨#[118]⟩, .int .i64 3] 25 (rfl : w.heap.size = w.heap.size)
  have qb : Below w.heap.size w (w.alloc (Obj.cells #[.int .i64 1, .int .i64 0, .int .i64 4, .string ⟨#[107]⟩, .string ⟨#[118]⟩, .int .i64 3] 25)) := by (repeat (first | exact Below.refl _ _ | assumption | refine bal ?_ _ | refine bdr ?_ | refine bdn ?_ _ | refine bst ?_ (by first | assumption | exact Nat.le_refl _ | omega) _ | refine bch ?_ (by assumption)))
  generalize w.alloc (Obj.cells #[.int .i64 1, .int .i64 0, .int .i64 4, .string ⟨#[107]⟩, .string ⟨#[118]⟩, .int .i64 3] 25) = w1 at *
  refine (h1.out _).mono ?_
  rintro e w2 ⟨rfl, hb2⟩
  replace q0 := q0.below hb2
  (have c0 := q0.cell 0; have c1 := q0.cell 1; have c2 := q0.cell 2; have c3 := q0.cell 3; have c4 := q0.cell 4; have c5 := q0.cell 5; simp only [List.set_cons_succ, List.set_cons_zero, List.getElem?_cons_zero, List.getElem?_cons_succ] at c0 c1 c2 c3 c4 c5)
  replace q0 := Lib.hid q0
  go_wp2_with fail
  refine (h2.out _ (hL.below (by (repeat (first | exact Below.refl _ _ | assumption | refine bal ?_ _ | refine bdr ?_ | refine bdn ?_ _ | refine bst ?_ (by first | assumption | exact Nat.le_refl _ | omega) _ | refine bch ?_ (by assumption)))))).mono ?_
  rintro e w3 ⟨rfl, hb3⟩
  replace q0 := q0.out.below hb3
  clear c0 c1 c2 c3 c4 c5
  (have c0 := q0.cell 0; have c1 := q0.cell 1; have c2 := q0.cell 2; have c3 := q0.cell 3; have c4 := q0.cell 4; have c5 := q0.cell 5; simp only [List.set_cons_succ, List.set_cons_zero, List.getElem?_cons_zero, List.getElem?_cons_succ] at c0 c1 c2 c3 c4 c5)
  have hz := q0.lt
  clear q0
  go_wp2
  go_ret
  exact ⟨rfl, by (repeat (first | exact Below.refl _ _ | assumption | refine bal ?_ _ | refine bdr ?_ | refine bdn ?_ _ | refine bst ?_ (by first | assumption | exact Nat.le_refl _ | omega) _ | refine bch ?_ (by assumption)))⟩
end Go.Proofs.YtonblpcbpfhlmaaDoor
