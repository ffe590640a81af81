/- The walks of keep.WriteBack, WriteOnly. -/
import Derived.Test.YtonblpcbpfhlmaaDoorLawsWrite
namespace Go.Proofs.YtonblpcbpfhlmaaDoor
open Go.RowKit
set_option linter.unusedVariables false
set_option linter.unusedSimpArgs false
theorem tail_len {x : Wr} (h : Wr.right x = 0) : (Wr.tail x).length ≤ 400 := by
  obtain ⟨k1, k2, -, -, -, -, -, h8, h9, h10, h11, h12⟩ := Wr.right_zero h
  have hs : (Span.put x.val).length ≤ 310 := by
    have := Vary.put_len x.val.length (by omega)
    unfold Span.put
    rw [List.length_append]; omega
  unfold Wr.tail
  by_cases c1 : x.k = 1
  · rw [if_pos c1]; omega
  rw [if_neg c1]
  by_cases c3 : x.k = 3
  · have := h11 c3
    have := Vary.put_len (Vary.zig x.n) (Vary.zig_lt _ (by omega) (by omega))
    rw [if_pos c3]; omega
  rw [if_neg c3]
  by_cases c4 : x.k = 4
  · have := h12 c4
    have := Vary.put_len x.n.toNat (by omega)
    rw [if_pos c4, List.length_append]; omega
  rw [if_neg c4]; simp
/-- A write in memory, by its parts. -/
structure WrB where
  t : Int
  r : Int
  k : Int
  key : ByteArray
  val : ByteArray
  n : Int
def wrBCells (x : WrB) : List Value := [.int .i64 x.t, .int .i64 x.r, .int .i64 x.k, .string x.key, .string x.val, .int .i64 x.n]
theorem wrBCells_len (x : WrB) : (wrBCells x).length = 6 := rfl
abbrev WrBOk (x : WrB) : Prop := ((Lit.int .i64 x.t).wf = true ∧ (Lit.int .i64 x.r).wf = true) ∧ (Lit.int .i64 x.k).wf = true ∧ x.key.size ≤ 140737488351232 ∧ x.val.size ≤ 140737488351232 ∧ (Lit.int .i64 x.n).wf = true
set_option maxHeartbeats 4000000 in
set_option maxRecDepth 100000 in
theorem write_back (t r k : Int) (key val : ByteArray) (n : Int) (more : ByteArray) (w : World) (h1 : key.size ≤ 140737488351232) (h2 : val.size ≤ 140737488351232) (h3 : more.size ≤ 140737488351232) (hL : Laid w) :
    Calls Tryd.prog 3 #[wrV t r k key val n, .string more] w fun e w' => e = .returned (.bool true) ∧ Below w.heap.size w w' := by
  have hk : ∀ W, Below w.heap.size w W → Calls Tryd.prog 11 #[] W fun e w' => e = .returned (.bool true) ∧ Below W.heap.size W w' := fun W h => tailed W (hL.below h)
  replace hk := Lib.hid hk
  unfold wrV
  by_cases hsum : 900 < key.size + val.size + more.size
  · have d1 : decide ((900 : Int) < (key.size : Int) + (val.size : Int) + (more.size : Int)) = true := by simp; omega
    go_enter Tryd.func3, Tryd.ntmps3
    go_wp2_with fail
    have q0 := row_at #[.int .i64 t, .int .i64 r, .int .i64 k, .string key, .string val, .int .i64 n] 25 (rfl : w.heap.size = w.heap.size)
    have qb : Below w.heap.size w (w.alloc (Obj.cells #[.int .i64 t, .int .i64 r, .int .i64 k, .string key, .string val, .int .i64 n] 25)) := by (repeat (first | exact Below.refl _ _ | assumption | refine bal ?_ _ | refine bdr ?_ | refine bdn ?_ _ | refine bst ?_ (by first | assumption | exact Nat.le_refl _ | omega) _ | refine bch ?_ (by assumption)))
    generalize w.alloc (Obj.cells #[.int .i64 t, .int .i64 r, .int .i64 k, .string key, .string val, .int .i64 n] 25) = w1 at *
    refine (hk.out _ qb).mono ?_
    rintro e w2 ⟨rfl, hb2⟩
    replace q0 := q0.below hb2
    (have c0 := q0.cell 0; have c1 := q0.cell 1; have c2 := q0.cell 2; have c3 := q0.cell 3; have c4 := q0.cell 4; have c5 := q0.cell 5; simp only [List.set_cons_succ, List.set_cons_zero, List.getElem?_cons_zero, List.getElem?_cons_succ] at c0 c1 c2 c3 c4 c5)
    clear q0
    go_wp2
    go_ret
    exact ⟨rfl, by (repeat (first | exact Below.refl _ _ | assumption | refine bal ?_ _ | refine bdr ?_ | refine bdn ?_ _ | refine bst ?_ (by first | assumption | exact Nat.le_refl _ | omega) _ | refine bch ?_ (by assumption)))⟩
  · have d1 : decide ((900 : Int) < (key.size : Int) + (val.size : Int) + (more.size : Int)) = false := by simp; omega
    have hR := fun W => write_right t r k key val n W
    by_cases hr : Wr.right (wr t r k key val n) = 0
    · have hT := fun W => write_tail_ok t r k key val n W hr
      have hlen := tail_len hr
      have hfe := Wr.fill_tail (wr t r k key val n) more.data.toList hr
      rw [hr, errW_ok] at hR
      have hF : ∀ W, Laid W → Calls Tryd.prog 14 #[wrV t r k key ⟨#[]⟩ 0, .string (⟨(Wr.tail (wr t r k key val n)).toArray⟩ ++ more)] W fun e w' => e = .returned (.tuple #[wrV t r k key val n, .int .i64 (Wr.tail (wr t r k key val n)).length, .nilIface]) ∧ Below W.heap.size W w' := fun W h => by
        have := write_fill t r k key ⟨#[]⟩ 0 (⟨(Wr.tail (wr t r k key val n)).toArray⟩ ++ more) W (by unfold maxLen; rw [ByteArray.size_append, ba_size]; omega) h
        rw [show ((⟨(Wr.tail (wr t r k key val n)).toArray⟩ : ByteArray) ++ more).data.toList = Wr.tail (wr t r k key val n) ++ more.data.toList from by rw [ba_app]] at this
        rw [show Wr.fill (wr t r k key ⟨#[]⟩ 0) _ = _ from hfe] at this
        exact this
      clear hfe hr
      unfold wrV at *
      generalize Wr.tail (wr t r k key val n) = T at *
      replace hR := Lib.hid hR
      replace hT := Lib.hid hT
      replace hF := Lib.hid hF
      go_enter Tryd.func3, Tryd.ntmps3
      go_wp2_with fail
      have q0 := row_at #[.int .i64 t, .int .i64 r, .int .i64 k, .string key, .string val, .int .i64 n] 25 (rfl : w.heap.size = w.heap.size)
      have qb : Below w.heap.size w (w.alloc (Obj.cells #[.int .i64 t, .int .i64 r, .int .i64 k, .string key, .string val, .int .i64 n] 25)) := by (repeat (first | exact Below.refl _ _ | assumption | refine bal ?_ _ | refine bdr ?_ | refine bdn ?_ _ | refine bst ?_ (by first | assumption | exact Nat.le_refl _ | omega) _ | refine bch ?_ (by assumption)))
      generalize w.alloc (Obj.cells #[.int .i64 t, .int .i64 r, .int .i64 k, .string key, .string val, .int .i64 n] 25) = w1 at *
      refine (hk.out _ qb).mono ?_
      rintro e w2 ⟨rfl, hb2⟩
      replace q0 := q0.below hb2
      (have c0 := q0.cell 0; have c1 := q0.cell 1; have c2 := q0.cell 2; have c3 := q0.cell 3; have c4 := q0.cell 4; have c5 := q0.cell 5; simp only [List.set_cons_succ, List.set_cons_zero, List.getElem?_cons_zero, List.getElem?_cons_succ] at c0 c1 c2 c3 c4 c5)
      replace q0 := Lib.hid q0
      go_wp2_with fail
      refine (hT.out _).mono ?_
      rintro e w3 ⟨rfl, hb3⟩
      clear c0 c1 c2 c3 c4 c5
      replace q0 := q0.out.below hb3
      (have c0 := q0.cell 0; have c1 := q0.cell 1; have c2 := q0.cell 2; have c3 := q0.cell 3; have c4 := q0.cell 4; have c5 := q0.cell 5; simp only [List.set_cons_succ, List.set_cons_zero, List.getElem?_cons_zero, List.getElem?_cons_succ] at c0 c1 c2 c3 c4 c5)
      replace q0 := Lib.hid q0
      go_wp2_with fail
      refine (hR.out _).mono ?_
      rintro e w4 ⟨rfl, hb4⟩
      clear c0 c1 c2 c3 c4 c5
      replace q0 := q0.out.below hb4
      (have c0 := q0.cell 0; have c1 := q0.cell 1; have c2 := q0.cell 2; have c3 := q0.cell 3; have c4 := q0.cell 4; have c5 := q0.cell 5; simp only [List.set_cons_succ, List.set_cons_zero, List.getElem?_cons_zero, List.getElem?_cons_succ] at c0 c1 c2 c3 c4 c5)
      have hz := q0.lt
      replace q0 := Lib.hid q0
      have qb4 : Below w.heap.size w w4 := by (repeat (first | exact Below.refl _ _ | assumption | refine bal ?_ _ | refine bdr ?_ | refine bdn ?_ _ | refine bst ?_ (by first | assumption | exact Nat.le_refl _ | omega) _ | refine bch ?_ (by assumption)))
      clear hb2 hb3 hb4 qb
      go_wp2_with fail
      have qb5 : Below w4.heap.size w4 (w4.alloc (Obj.cells #[.int .i64 t, .int .i64 r, .int .i64 k, .string key, .string ⟨#[]⟩, .int .i64 0] 25)) := by (repeat (first | exact Below.refl _ _ | assumption | refine bal ?_ _ | refine bdr ?_ | refine bdn ?_ _ | refine bst ?_ (by first | assumption | exact Nat.le_refl _ | omega) _ | refine bch ?_ (by assumption)))
      generalize w4.alloc (Obj.cells #[.int .i64 t, .int .i64 r, .int .i64 k, .string key, .string ⟨#[]⟩, .int .i64 0] 25) = w5 at *
      refine (hF.out _ (hL.below (by (repeat (first | exact Below.refl _ _ | assumption | refine bal ?_ _ | refine bdr ?_ | refine bdn ?_ _ | refine bst ?_ (by first | assumption | exact Nat.le_refl _ | omega) _ | refine bch ?_ (by assumption)))))).mono ?_
      rintro e w6 ⟨rfl, hb6⟩
      clear c0 c1 c2 c3 c4 c5 hz
      replace q0 := (q0.out.below qb5).below hb6
      (have c0 := q0.cell 0; have c1 := q0.cell 1; have c2 := q0.cell 2; have c3 := q0.cell 3; have c4 := q0.cell 4; have c5 := q0.cell 5; simp only [List.set_cons_succ, List.set_cons_zero, List.getElem?_cons_zero, List.getElem?_cons_succ] at c0 c1 c2 c3 c4 c5)
      have hz := q0.lt
      clear q0
      go_wp2
      go_ret
      exact ⟨rfl, by (repeat (first | exact Below.refl _ _ | assumption | refine bal ?_ _ | refine bdr ?_ | refine bdn ?_ _ | refine bst ?_ (by first | assumption | exact Nat.le_refl _ | omega) _ | refine bch ?_ (by assumption)))⟩
    · have hT := fun W => write_tail_bad t r k key val n W hr
      rw [errW_no hr] at hR
      unfold errV wrV at *
      generalize Wr.right (wr t r k key val n) = c at *
      replace hR := Lib.hid hR
      replace hT := Lib.hid hT
      clear hr
      go_enter Tryd.func3, Tryd.ntmps3
      go_wp2_with fail
      have q0 := row_at #[.int .i64 t, .int .i64 r, .int .i64 k, .string key, .string val, .int .i64 n] 25 (rfl : w.heap.size = w.heap.size)
      have qb : Below w.heap.size w (w.alloc (Obj.cells #[.int .i64 t, .int .i64 r, .int .i64 k, .string key, .string val, .int .i64 n] 25)) := by (repeat (first | exact Below.refl _ _ | assumption | refine bal ?_ _ | refine bdr ?_ | refine bdn ?_ _ | refine bst ?_ (by first | assumption | exact Nat.le_refl _ | omega) _ | refine bch ?_ (by assumption)))
      generalize w.alloc (Obj.cells #[.int .i64 t, .int .i64 r, .int .i64 k, .string key, .string val, .int .i64 n] 25) = w1 at *
      refine (hk.out _ qb).mono ?_
      rintro e w2 ⟨rfl, hb2⟩
      replace q0 := q0.below hb2
      (have c0 := q0.cell 0; have c1 := q0.cell 1; have c2 := q0.cell 2; have c3 := q0.cell 3; have c4 := q0.cell 4; have c5 := q0.cell 5; simp only [List.set_cons_succ, List.set_cons_zero, List.getElem?_cons_zero, List.getElem?_cons_succ] at c0 c1 c2 c3 c4 c5)
      replace q0 := Lib.hid q0
      go_wp2_with fail
      refine (hT.out _).mono ?_
      rintro e w3 ⟨rfl, hb3⟩
      clear c0 c1 c2 c3 c4 c5
      replace q0 := q0.out.below hb3
      (have c0 := q0.cell 0; have c1 := q0.cell 1; have c2 := q0.cell 2; have c3 := q0.cell 3; have c4 := q0.cell 4; have c5 := q0.cell 5; simp only [List.set_cons_succ, List.set_cons_zero, List.getElem?_cons_zero, List.getElem?_cons_succ] at c0 c1 c2 c3 c4 c5)
      clear q0
      go_wp2_with fail
      refine (hR.out _).mono ?_
      rintro e w4 ⟨rfl, hb4⟩
      go_wp2
      go_ret
      exact ⟨rfl, by (repeat (first | exact Below.refl _ _ | assumption | refine bal ?_ _ | refine bdr ?_ | refine bdn ?_ _ | refine bst ?_ (by first | assumption | exact Nat.le_refl _ | omega) _ | refine bch ?_ (by assumption)))⟩
theorem WriteBack_walk (t r k : Int) (key val : ByteArray) (n : Int) (more : ByteArray) (w : World) (q : WrBOk ⟨t, r, k, key, val, n⟩) (h3 : more.size ≤ 140737488351232) (hL : Laid w) :
    Calls Tryd.prog 3 #[wrV t r k key val n, .string more] w fun e w' => e = .returned (.bool true) ∧ Below w.heap.size w w' := write_back t r k key val n more w q.2.2.1 q.2.2.2.1 h3 hL
end Go.Proofs.YtonblpcbpfhlmaaDoor
