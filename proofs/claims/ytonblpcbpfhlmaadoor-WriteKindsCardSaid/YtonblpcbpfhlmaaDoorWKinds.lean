/- The walk of keep.WriteKinds, leaf by leaf (printed by wip/bin/gen_kinds.py). -/
import Derived.Test.YtonblpcbpfhlmaaDoorLawsWrite2
import Derived.Test.YtonblpcbpfhlmaaDoorWPick
namespace Go.Proofs.YtonblpcbpfhlmaaDoor
open Go.RowKit
set_option linter.unusedVariables false
set_option linter.unusedSimpArgs false
set_option maxHeartbeats 2000000 in
set_option maxRecDepth 100000 in
theorem kinds_put (t r k : Int) (key val : ByteArray) (n : Int) (kind : Int) (w : World) (h1 : key.size ≤ 40) (h2 : val.size ≤ 300) (hL : Laid w) (hp : pickN kind 4 = 0) (hr : Wr.right (wr t r k key val 0) = 0)  (hx : Wr.right (wr t r 1 key val 0) = 0) :
    Calls Tryd.prog 5 #[.agg #[.int .i64 t, .int .i64 r, .int .i64 k, .string key, .string val, .int .i64 0], .int .i64 kind] w fun e w' => e = .returned (.bool true) ∧ Below w.heap.size w w' := by
  have hk : ∀ W, Below w.heap.size w W → Calls Tryd.prog 11 #[] W fun e w' => e = .returned (.bool true) ∧ Below W.heap.size W w' := fun W h => tailed W (hL.below h)
  replace hk := Lib.hid hk
  have hR1 := fun W => write_right t r k key val 0 W
  rw [hr, errW_ok] at hR1
  have hR2 := fun W => write_right t r 1 key val 0 W
  rw [hx, errW_ok] at hR2
  have hP := fun W => keep_pick kind 4 4 W rfl (by omega) (by omega)
  rw [hp] at hP
  unfold wrV at *
  replace hR1 := Lib.hid hR1
  replace hR2 := Lib.hid hR2
  replace hP := Lib.hid hP
  clear hr hx hp
  go_enter Tryd.func5, Tryd.ntmps5
  go_wp2_with fail
  have q0 := row_at #[.int .i64 t, .int .i64 r, .int .i64 k, .string key, .string val, .int .i64 0] 25 (rfl : w.heap.size = w.heap.size)
  have qb : Below w.heap.size w (w.alloc (Obj.cells #[.int .i64 t, .int .i64 r, .int .i64 k, .string key, .string val, .int .i64 0] 25)) := by (repeat (first | exact Below.refl _ _ | assumption | refine bal ?_ _ | refine bdr ?_ | refine bdn ?_ _ | refine bst ?_ (by first | assumption | exact Nat.le_refl _ | omega) _ | refine bch ?_ (by assumption)))
  generalize w.alloc (Obj.cells #[.int .i64 t, .int .i64 r, .int .i64 k, .string key, .string val, .int .i64 0] 25) = w1 at *
  refine (hk.out _ qb).mono ?_
  rintro e w2 ⟨rfl, hb2⟩
  replace q0 := q0.below hb2
  (have c0 := q0.cell 0; have c1 := q0.cell 1; have c2 := q0.cell 2; have c3 := q0.cell 3; have c4 := q0.cell 4; have c5 := q0.cell 5; simp only [List.set_cons_succ, List.set_cons_zero, List.getElem?_cons_zero, List.getElem?_cons_succ] at c0 c1 c2 c3 c4 c5)
  replace q0 := Lib.hid q0
  go_wp2_with fail
  refine (hR1.out _).mono ?_
  rintro e w3 ⟨rfl, hb3⟩
  clear c0 c1 c2 c3 c4 c5
  replace q0 := q0.out.below hb3
  (have c0 := q0.cell 0; have c1 := q0.cell 1; have c2 := q0.cell 2; have c3 := q0.cell 3; have c4 := q0.cell 4; have c5 := q0.cell 5; simp only [List.set_cons_succ, List.set_cons_zero, List.getElem?_cons_zero, List.getElem?_cons_succ] at c0 c1 c2 c3 c4 c5)
  have hz := q0.lt
  replace q0 := Lib.hid q0
  have qb3 : Below w.heap.size w w3 := by (repeat (first | exact Below.refl _ _ | assumption | refine bal ?_ _ | refine bdr ?_ | refine bdn ?_ _ | refine bst ?_ (by first | assumption | exact Nat.le_refl _ | omega) _ | refine bch ?_ (by assumption)))
  clear hb2 hb3 qb
  go_wp2_with fail
  have r0 := row_at #[.int .i64 t, .int .i64 r, .int .i64 k, .string key, .string val, .int .i64 0] 25 (rfl : w3.heap.size = w3.heap.size)
  replace q0 := q0.out.alloc (Obj.cells #[.int .i64 t, .int .i64 r, .int .i64 k, .string key, .string val, .int .i64 0] 25)
  have qb4 : Below w.heap.size w (w3.alloc (Obj.cells #[.int .i64 t, .int .i64 r, .int .i64 k, .string key, .string val, .int .i64 0] 25)) := by (repeat (first | exact Below.refl _ _ | assumption | refine bal ?_ _ | refine bdr ?_ | refine bdn ?_ _ | refine bst ?_ (by first | assumption | exact Nat.le_refl _ | omega) _ | refine bch ?_ (by assumption)))
  have hz4 : w.heap.size ≤ w3.heap.size := qb3.size
  have hne : w.heap.size ≠ w3.heap.size := by omega
  clear c0 c1 c2 c3 c4 c5 qb3
  generalize w3.alloc (Obj.cells #[.int .i64 t, .int .i64 r, .int .i64 k, .string key, .string val, .int .i64 0] 25) = w4 at *
  generalize w3.heap.size = g at *
  clear hz
  refine (hP.out _).mono ?_
  rintro e w5 ⟨rfl, rfl⟩
  (have c0 := q0.cell 0; have c1 := q0.cell 1; have c2 := q0.cell 2; have c3 := q0.cell 3; have c4 := q0.cell 4; have c5 := q0.cell 5; simp only [List.set_cons_succ, List.set_cons_zero, List.getElem?_cons_zero, List.getElem?_cons_succ] at c0 c1 c2 c3 c4 c5)
  (have d0 := r0.cell 0; have d1 := r0.cell 1; have d2 := r0.cell 2; have d3 := r0.cell 3; have d4 := r0.cell 4; have d5 := r0.cell 5; simp only [List.set_cons_succ, List.set_cons_zero, List.getElem?_cons_zero, List.getElem?_cons_succ] at d0 d1 d2 d3 d4 d5)
  have f2 := r0.frozen 2 (by simp)
  go_wp2_with fail
  replace q0 := q0.other (p := ⟨g, 2, none⟩) (by simp; omega) (.int .i64 1)
  replace r0 := r0.set 2 (.int .i64 1)
  replace qb4 : Below w.heap.size w (w4.setCell ⟨g, 2, none⟩ (.int .i64 1)) := bst qb4 hz4 _
  clear c0 c1 c2 c3 c4 c5 d0 d1 d2 d3 d4 d5 f2
  generalize w4.setCell ⟨g, 2, none⟩ (.int .i64 1) = w6 at *
  (have c0 := q0.cell 0; have c1 := q0.cell 1; have c2 := q0.cell 2; have c3 := q0.cell 3; have c4 := q0.cell 4; have c5 := q0.cell 5; simp only [List.set_cons_succ, List.set_cons_zero, List.getElem?_cons_zero, List.getElem?_cons_succ] at c0 c1 c2 c3 c4 c5)
  (have d0 := r0.cell 0; have d1 := r0.cell 1; have d2 := r0.cell 2; have d3 := r0.cell 3; have d4 := r0.cell 4; have d5 := r0.cell 5; simp only [List.set_cons_succ, List.set_cons_zero, List.getElem?_cons_zero, List.getElem?_cons_succ] at d0 d1 d2 d3 d4 d5)
  clear q0 r0
  go_quiet (fail)
  go_wp2_with fail
  refine (hR2.out _).mono ?_
  rintro e w7 ⟨rfl, hb7⟩
  go_wp2
  go_ret
  exact ⟨rfl, by (repeat (first | exact Below.refl _ _ | assumption | refine bal ?_ _ | refine bdr ?_ | refine bdn ?_ _ | refine bst ?_ (by first | assumption | exact Nat.le_refl _ | omega) _ | refine bch ?_ (by assumption)))⟩
set_option maxHeartbeats 2000000 in
set_option maxRecDepth 100000 in
theorem kinds_put_n (t r k : Int) (key val : ByteArray) (n : Int) (kind : Int) (w : World) (h1 : key.size ≤ 40) (h2 : val.size ≤ 300) (hL : Laid w) (hp : pickN kind 4 = 0) (hr : Wr.right (wr t r k key val n) = 0) (hn : n ≠ 0) (hx : Wr.right (wr t r 1 key val n) ≠ 0) :
    Calls Tryd.prog 5 #[.agg #[.int .i64 t, .int .i64 r, .int .i64 k, .string key, .string val, .int .i64 n], .int .i64 kind] w fun e w' => e = .returned (.bool true) ∧ Below w.heap.size w w' := by
  have hk : ∀ W, Below w.heap.size w W → Calls Tryd.prog 11 #[] W fun e w' => e = .returned (.bool true) ∧ Below W.heap.size W w' := fun W h => tailed W (hL.below h)
  replace hk := Lib.hid hk
  have hR1 := fun W => write_right t r k key val n W
  rw [hr, errW_ok] at hR1
  have hR2 := fun W => write_right t r 1 key val n W
  rw [errW_no hx] at hR2
  generalize Wr.right (wr t r 1 key val n) = cc at *
  have hP := fun W => keep_pick kind 4 4 W rfl (by omega) (by omega)
  rw [hp] at hP
  unfold wrV at *
  replace hR1 := Lib.hid hR1
  replace hR2 := Lib.hid hR2
  replace hP := Lib.hid hP
  clear hr hx hp
  have dn : ((n : Int) == 0) = false := by simp; omega
  go_enter Tryd.func5, Tryd.ntmps5
  go_wp2_with fail
  have q0 := row_at #[.int .i64 t, .int .i64 r, .int .i64 k, .string key, .string val, .int .i64 n] 25 (rfl : w.heap.size = w.heap.size)
  have qb : Below w.heap.size w (w.alloc (Obj.cells #[.int .i64 t, .int .i64 r, .int .i64 k, .string key, .string val, .int .i64 n] 25)) := by (repeat (first | exact Below.refl _ _ | assumption | refine bal ?_ _ | refine bdr ?_ | refine bdn ?_ _ | refine bst ?_ (by first | assumption | exact Nat.le_refl _ | omega) _ | refine bch ?_ (by assumption)))
  generalize w.alloc (Obj.cells #[.int .i64 t, .int .i64 r, .int .i64 k, .string key, .string val, .int .i64 n] 25) = w1 at *
  refine (hk.out _ qb).mono ?_
  rintro e w2 ⟨rfl, hb2⟩
  replace q0 := q0.below hb2
  (have c0 := q0.cell 0; have c1 := q0.cell 1; have c2 := q0.cell 2; have c3 := q0.cell 3; have c4 := q0.cell 4; have c5 := q0.cell 5; simp only [List.set_cons_succ, List.set_cons_zero, List.getElem?_cons_zero, List.getElem?_cons_succ] at c0 c1 c2 c3 c4 c5)
  replace q0 := Lib.hid q0
  go_wp2_with fail
  refine (hR1.out _).mono ?_
  rintro e w3 ⟨rfl, hb3⟩
  clear c0 c1 c2 c3 c4 c5
  replace q0 := q0.out.below hb3
  (have c0 := q0.cell 0; have c1 := q0.cell 1; have c2 := q0.cell 2; have c3 := q0.cell 3; have c4 := q0.cell 4; have c5 := q0.cell 5; simp only [List.set_cons_succ, List.set_cons_zero, List.getElem?_cons_zero, List.getElem?_cons_succ] at c0 c1 c2 c3 c4 c5)
  have hz := q0.lt
  replace q0 := Lib.hid q0
  have qb3 : Below w.heap.size w w3 := by (repeat (first | exact Below.refl _ _ | assumption | refine bal ?_ _ | refine bdr ?_ | refine bdn ?_ _ | refine bst ?_ (by first | assumption | exact Nat.le_refl _ | omega) _ | refine bch ?_ (by assumption)))
  clear hb2 hb3 qb
  go_wp2_with fail
  have r0 := row_at #[.int .i64 t, .int .i64 r, .int .i64 k, .string key, .string val, .int .i64 n] 25 (rfl : w3.heap.size = w3.heap.size)
  replace q0 := q0.out.alloc (Obj.cells #[.int .i64 t, .int .i64 r, .int .i64 k, .string key, .string val, .int .i64 n] 25)
  have qb4 : Below w.heap.size w (w3.alloc (Obj.cells #[.int .i64 t, .int .i64 r, .int .i64 k, .string key, .string val, .int .i64 n] 25)) := by (repeat (first | exact Below.refl _ _ | assumption | refine bal ?_ _ | refine bdr ?_ | refine bdn ?_ _ | refine bst ?_ (by first | assumption | exact Nat.le_refl _ | omega) _ | refine bch ?_ (by assumption)))
  have hz4 : w.heap.size ≤ w3.heap.size := qb3.size
  have hne : w.heap.size ≠ w3.heap.size := by omega
  clear c0 c1 c2 c3 c4 c5 qb3
  generalize w3.alloc (Obj.cells #[.int .i64 t, .int .i64 r, .int .i64 k, .string key, .string val, .int .i64 n] 25) = w4 at *
  generalize w3.heap.size = g at *
  clear hz
  refine (hP.out _).mono ?_
  rintro e w5 ⟨rfl, rfl⟩
  (have c0 := q0.cell 0; have c1 := q0.cell 1; have c2 := q0.cell 2; have c3 := q0.cell 3; have c4 := q0.cell 4; have c5 := q0.cell 5; simp only [List.set_cons_succ, List.set_cons_zero, List.getElem?_cons_zero, List.getElem?_cons_succ] at c0 c1 c2 c3 c4 c5)
  (have d0 := r0.cell 0; have d1 := r0.cell 1; have d2 := r0.cell 2; have d3 := r0.cell 3; have d4 := r0.cell 4; have d5 := r0.cell 5; simp only [List.set_cons_succ, List.set_cons_zero, List.getElem?_cons_zero, List.getElem?_cons_succ] at d0 d1 d2 d3 d4 d5)
  have f2 := r0.frozen 2 (by simp)
  go_wp2_with fail
  replace q0 := q0.other (p := ⟨g, 2, none⟩) (by simp; omega) (.int .i64 1)
  replace r0 := r0.set 2 (.int .i64 1)
  replace qb4 : Below w.heap.size w (w4.setCell ⟨g, 2, none⟩ (.int .i64 1)) := bst qb4 hz4 _
  clear c0 c1 c2 c3 c4 c5 d0 d1 d2 d3 d4 d5 f2
  generalize w4.setCell ⟨g, 2, none⟩ (.int .i64 1) = w6 at *
  (have c0 := q0.cell 0; have c1 := q0.cell 1; have c2 := q0.cell 2; have c3 := q0.cell 3; have c4 := q0.cell 4; have c5 := q0.cell 5; simp only [List.set_cons_succ, List.set_cons_zero, List.getElem?_cons_zero, List.getElem?_cons_succ] at c0 c1 c2 c3 c4 c5)
  (have d0 := r0.cell 0; have d1 := r0.cell 1; have d2 := r0.cell 2; have d3 := r0.cell 3; have d4 := r0.cell 4; have d5 := r0.cell 5; simp only [List.set_cons_succ, List.set_cons_zero, List.getElem?_cons_zero, List.getElem?_cons_succ] at d0 d1 d2 d3 d4 d5)
  clear q0 r0
  go_quiet (fail)
  go_wp2_with fail
  refine (hR2.out _).mono ?_
  rintro e w7 ⟨rfl, hb7⟩
  go_wp2
  go_ret
  exact ⟨rfl, by (repeat (first | exact Below.refl _ _ | assumption | refine bal ?_ _ | refine bdr ?_ | refine bdn ?_ _ | refine bst ?_ (by first | assumption | exact Nat.le_refl _ | omega) _ | refine bch ?_ (by assumption)))⟩
set_option maxHeartbeats 2000000 in
set_option maxRecDepth 100000 in
theorem kinds_drop (t r k : Int) (key val : ByteArray) (n : Int) (kind : Int) (w : World) (h1 : key.size ≤ 40) (h2 : val.size ≤ 300) (hL : Laid w) (hp : pickN kind 4 = 1) (hr : Wr.right (wr t r k key ⟨#[]⟩ 0) = 0)  (hx : Wr.right (wr t r 2 key ⟨#[]⟩ 0) = 0) :
    Calls Tryd.prog 5 #[.agg #[.int .i64 t, .int .i64 r, .int .i64 k, .string key, .string ⟨#[]⟩, .int .i64 0], .int .i64 kind] w fun e w' => e = .returned (.bool true) ∧ Below w.heap.size w w' := by
  have hk : ∀ W, Below w.heap.size w W → Calls Tryd.prog 11 #[] W fun e w' => e = .returned (.bool true) ∧ Below W.heap.size W w' := fun W h => tailed W (hL.below h)
  replace hk := Lib.hid hk
  have hR1 := fun W => write_right t r k key ⟨#[]⟩ 0 W
  rw [hr, errW_ok] at hR1
  have hR2 := fun W => write_right t r 2 key ⟨#[]⟩ 0 W
  rw [hx, errW_ok] at hR2
  have hP := fun W => keep_pick kind 4 4 W rfl (by omega) (by omega)
  rw [hp] at hP
  unfold wrV at *
  replace hR1 := Lib.hid hR1
  replace hR2 := Lib.hid hR2
  replace hP := Lib.hid hP
  clear hr hx hp
  go_enter Tryd.func5, Tryd.ntmps5
  go_wp2_with fail
  have q0 := row_at #[.int .i64 t, .int .i64 r, .int .i64 k, .string key, .string ⟨#[]⟩, .int .i64 0] 25 (rfl : w.heap.size = w.heap.size)
  have qb : Below w.heap.size w (w.alloc (Obj.cells #[.int .i64 t, .int .i64 r, .int .i64 k, .string key, .string ⟨#[]⟩, .int .i64 0] 25)) := by (repeat (first | exact Below.refl _ _ | assumption | refine bal ?_ _ | refine bdr ?_ | refine bdn ?_ _ | refine bst ?_ (by first | assumption | exact Nat.le_refl _ | omega) _ | refine bch ?_ (by assumption)))
  generalize w.alloc (Obj.cells #[.int .i64 t, .int .i64 r, .int .i64 k, .string key, .string ⟨#[]⟩, .int .i64 0] 25) = w1 at *
  refine (hk.out _ qb).mono ?_
  rintro e w2 ⟨rfl, hb2⟩
  replace q0 := q0.below hb2
  (have c0 := q0.cell 0; have c1 := q0.cell 1; have c2 := q0.cell 2; have c3 := q0.cell 3; have c4 := q0.cell 4; have c5 := q0.cell 5; simp only [List.set_cons_succ, List.set_cons_zero, List.getElem?_cons_zero, List.getElem?_cons_succ] at c0 c1 c2 c3 c4 c5)
  replace q0 := Lib.hid q0
  go_wp2_with fail
  refine (hR1.out _).mono ?_
  rintro e w3 ⟨rfl, hb3⟩
  clear c0 c1 c2 c3 c4 c5
  replace q0 := q0.out.below hb3
  (have c0 := q0.cell 0; have c1 := q0.cell 1; have c2 := q0.cell 2; have c3 := q0.cell 3; have c4 := q0.cell 4; have c5 := q0.cell 5; simp only [List.set_cons_succ, List.set_cons_zero, List.getElem?_cons_zero, List.getElem?_cons_succ] at c0 c1 c2 c3 c4 c5)
  have hz := q0.lt
  replace q0 := Lib.hid q0
  have qb3 : Below w.heap.size w w3 := by (repeat (first | exact Below.refl _ _ | assumption | refine bal ?_ _ | refine bdr ?_ | refine bdn ?_ _ | refine bst ?_ (by first | assumption | exact Nat.le_refl _ | omega) _ | refine bch ?_ (by assumption)))
  clear hb2 hb3 qb
  go_wp2_with fail
  have r0 := row_at #[.int .i64 t, .int .i64 r, .int .i64 k, .string key, .string ⟨#[]⟩, .int .i64 0] 25 (rfl : w3.heap.size = w3.heap.size)
  replace q0 := q0.out.alloc (Obj.cells #[.int .i64 t, .int .i64 r, .int .i64 k, .string key, .string ⟨#[]⟩, .int .i64 0] 25)
  have qb4 : Below w.heap.size w (w3.alloc (Obj.cells #[.int .i64 t, .int .i64 r, .int .i64 k, .string key, .string ⟨#[]⟩, .int .i64 0] 25)) := by (repeat (first | exact Below.refl _ _ | assumption | refine bal ?_ _ | refine bdr ?_ | refine bdn ?_ _ | refine bst ?_ (by first | assumption | exact Nat.le_refl _ | omega) _ | refine bch ?_ (by assumption)))
  have hz4 : w.heap.size ≤ w3.heap.size := qb3.size
  have hne : w.heap.size ≠ w3.heap.size := by omega
  clear c0 c1 c2 c3 c4 c5 qb3
  generalize w3.alloc (Obj.cells #[.int .i64 t, .int .i64 r, .int .i64 k, .string key, .string ⟨#[]⟩, .int .i64 0] 25) = w4 at *
  generalize w3.heap.size = g at *
  clear hz
  refine (hP.out _).mono ?_
  rintro e w5 ⟨rfl, rfl⟩
  (have c0 := q0.cell 0; have c1 := q0.cell 1; have c2 := q0.cell 2; have c3 := q0.cell 3; have c4 := q0.cell 4; have c5 := q0.cell 5; simp only [List.set_cons_succ, List.set_cons_zero, List.getElem?_cons_zero, List.getElem?_cons_succ] at c0 c1 c2 c3 c4 c5)
  (have d0 := r0.cell 0; have d1 := r0.cell 1; have d2 := r0.cell 2; have d3 := r0.cell 3; have d4 := r0.cell 4; have d5 := r0.cell 5; simp only [List.set_cons_succ, List.set_cons_zero, List.getElem?_cons_zero, List.getElem?_cons_succ] at d0 d1 d2 d3 d4 d5)
  have f2 := r0.frozen 2 (by simp)
  go_wp2_with fail
  replace q0 := q0.other (p := ⟨g, 2, none⟩) (by simp; omega) (.int .i64 2)
  replace r0 := r0.set 2 (.int .i64 2)
  replace qb4 : Below w.heap.size w (w4.setCell ⟨g, 2, none⟩ (.int .i64 2)) := bst qb4 hz4 _
  clear c0 c1 c2 c3 c4 c5 d0 d1 d2 d3 d4 d5 f2
  generalize w4.setCell ⟨g, 2, none⟩ (.int .i64 2) = w6 at *
  (have c0 := q0.cell 0; have c1 := q0.cell 1; have c2 := q0.cell 2; have c3 := q0.cell 3; have c4 := q0.cell 4; have c5 := q0.cell 5; simp only [List.set_cons_succ, List.set_cons_zero, List.getElem?_cons_zero, List.getElem?_cons_succ] at c0 c1 c2 c3 c4 c5)
  (have d0 := r0.cell 0; have d1 := r0.cell 1; have d2 := r0.cell 2; have d3 := r0.cell 3; have d4 := r0.cell 4; have d5 := r0.cell 5; simp only [List.set_cons_succ, List.set_cons_zero, List.getElem?_cons_zero, List.getElem?_cons_succ] at d0 d1 d2 d3 d4 d5)
  clear q0 r0
  go_quiet (fail)
  go_wp2_with fail
  refine (hR2.out _).mono ?_
  rintro e w7 ⟨rfl, hb7⟩
  go_wp2
  go_ret
  exact ⟨rfl, by (repeat (first | exact Below.refl _ _ | assumption | refine bal ?_ _ | refine bdr ?_ | refine bdn ?_ _ | refine bst ?_ (by first | assumption | exact Nat.le_refl _ | omega) _ | refine bch ?_ (by assumption)))⟩
set_option maxHeartbeats 2000000 in
set_option maxRecDepth 100000 in
theorem kinds_drop_n (t r k : Int) (key val : ByteArray) (n : Int) (kind : Int) (w : World) (h1 : key.size ≤ 40) (h2 : val.size ≤ 300) (hL : Laid w) (hp : pickN kind 4 = 1) (hr : Wr.right (wr t r k key ⟨#[]⟩ n) = 0) (hn : n ≠ 0) (hx : Wr.right (wr t r 2 key ⟨#[]⟩ n) ≠ 0) :
    Calls Tryd.prog 5 #[.agg #[.int .i64 t, .int .i64 r, .int .i64 k, .string key, .string ⟨#[]⟩, .int .i64 n], .int .i64 kind] w fun e w' => e = .returned (.bool true) ∧ Below w.heap.size w w' := by
  have hk : ∀ W, Below w.heap.size w W → Calls Tryd.prog 11 #[] W fun e w' => e = .returned (.bool true) ∧ Below W.heap.size W w' := fun W h => tailed W (hL.below h)
  replace hk := Lib.hid hk
  have hR1 := fun W => write_right t r k key ⟨#[]⟩ n W
  rw [hr, errW_ok] at hR1
  have hR2 := fun W => write_right t r 2 key ⟨#[]⟩ n W
  rw [errW_no hx] at hR2
  generalize Wr.right (wr t r 2 key ⟨#[]⟩ n) = cc at *
  have hP := fun W => keep_pick kind 4 4 W rfl (by omega) (by omega)
  rw [hp] at hP
  unfold wrV at *
  replace hR1 := Lib.hid hR1
  replace hR2 := Lib.hid hR2
  replace hP := Lib.hid hP
  clear hr hx hp
  have dn : ((n : Int) == 0) = false := by simp; omega
  go_enter Tryd.func5, Tryd.ntmps5
  go_wp2_with fail
  have q0 := row_at #[.int .i64 t, .int .i64 r, .int .i64 k, .string key, .string ⟨#[]⟩, .int .i64 n] 25 (rfl : w.heap.size = w.heap.size)
  have qb : Below w.heap.size w (w.alloc (Obj.cells #[.int .i64 t, .int .i64 r, .int .i64 k, .string key, .string ⟨#[]⟩, .int .i64 n] 25)) := by (repeat (first | exact Below.refl _ _ | assumption | refine bal ?_ _ | refine bdr ?_ | refine bdn ?_ _ | refine bst ?_ (by first | assumption | exact Nat.le_refl _ | omega) _ | refine bch ?_ (by assumption)))
  generalize w.alloc (Obj.cells #[.int .i64 t, .int .i64 r, .int .i64 k, .string key, .string ⟨#[]⟩, .int .i64 n] 25) = w1 at *
  refine (hk.out _ qb).mono ?_
  rintro e w2 ⟨rfl, hb2⟩
  replace q0 := q0.below hb2
  (have c0 := q0.cell 0; have c1 := q0.cell 1; have c2 := q0.cell 2; have c3 := q0.cell 3; have c4 := q0.cell 4; have c5 := q0.cell 5; simp only [List.set_cons_succ, List.set_cons_zero, List.getElem?_cons_zero, List.getElem?_cons_succ] at c0 c1 c2 c3 c4 c5)
  replace q0 := Lib.hid q0
  go_wp2_with fail
  refine (hR1.out _).mono ?_
  rintro e w3 ⟨rfl, hb3⟩
  clear c0 c1 c2 c3 c4 c5
  replace q0 := q0.out.below hb3
  (have c0 := q0.cell 0; have c1 := q0.cell 1; have c2 := q0.cell 2; have c3 := q0.cell 3; have c4 := q0.cell 4; have c5 := q0.cell 5; simp only [List.set_cons_succ, List.set_cons_zero, List.getElem?_cons_zero, List.getElem?_cons_succ] at c0 c1 c2 c3 c4 c5)
  have hz := q0.lt
  replace q0 := Lib.hid q0
  have qb3 : Below w.heap.size w w3 := by (repeat (first | exact Below.refl _ _ | assumption | refine bal ?_ _ | refine bdr ?_ | refine bdn ?_ _ | refine bst ?_ (by first | assumption | exact Nat.le_refl _ | omega) _ | refine bch ?_ (by assumption)))
  clear hb2 hb3 qb
  go_wp2_with fail
  have r0 := row_at #[.int .i64 t, .int .i64 r, .int .i64 k, .string key, .string ⟨#[]⟩, .int .i64 n] 25 (rfl : w3.heap.size = w3.heap.size)
  replace q0 := q0.out.alloc (Obj.cells #[.int .i64 t, .int .i64 r, .int .i64 k, .string key, .string ⟨#[]⟩, .int .i64 n] 25)
  have qb4 : Below w.heap.size w (w3.alloc (Obj.cells #[.int .i64 t, .int .i64 r, .int .i64 k, .string key, .string ⟨#[]⟩, .int .i64 n] 25)) := by (repeat (first | exact Below.refl _ _ | assumption | refine bal ?_ _ | refine bdr ?_ | refine bdn ?_ _ | refine bst ?_ (by first | assumption | exact Nat.le_refl _ | omega) _ | refine bch ?_ (by assumption)))
  have hz4 : w.heap.size ≤ w3.heap.size := qb3.size
  have hne : w.heap.size ≠ w3.heap.size := by omega
  clear c0 c1 c2 c3 c4 c5 qb3
  generalize w3.alloc (Obj.cells #[.int .i64 t, .int .i64 r, .int .i64 k, .string key, .string ⟨#[]⟩, .int .i64 n] 25) = w4 at *
  generalize w3.heap.size = g at *
  clear hz
  refine (hP.out _).mono ?_
  rintro e w5 ⟨rfl, rfl⟩
  (have c0 := q0.cell 0; have c1 := q0.cell 1; have c2 := q0.cell 2; have c3 := q0.cell 3; have c4 := q0.cell 4; have c5 := q0.cell 5; simp only [List.set_cons_succ, List.set_cons_zero, List.getElem?_cons_zero, List.getElem?_cons_succ] at c0 c1 c2 c3 c4 c5)
  (have d0 := r0.cell 0; have d1 := r0.cell 1; have d2 := r0.cell 2; have d3 := r0.cell 3; have d4 := r0.cell 4; have d5 := r0.cell 5; simp only [List.set_cons_succ, List.set_cons_zero, List.getElem?_cons_zero, List.getElem?_cons_succ] at d0 d1 d2 d3 d4 d5)
  have f2 := r0.frozen 2 (by simp)
  go_wp2_with fail
  replace q0 := q0.other (p := ⟨g, 2, none⟩) (by simp; omega) (.int .i64 2)
  replace r0 := r0.set 2 (.int .i64 2)
  replace qb4 : Below w.heap.size w (w4.setCell ⟨g, 2, none⟩ (.int .i64 2)) := bst qb4 hz4 _
  clear c0 c1 c2 c3 c4 c5 d0 d1 d2 d3 d4 d5 f2
  generalize w4.setCell ⟨g, 2, none⟩ (.int .i64 2) = w6 at *
  (have c0 := q0.cell 0; have c1 := q0.cell 1; have c2 := q0.cell 2; have c3 := q0.cell 3; have c4 := q0.cell 4; have c5 := q0.cell 5; simp only [List.set_cons_succ, List.set_cons_zero, List.getElem?_cons_zero, List.getElem?_cons_succ] at c0 c1 c2 c3 c4 c5)
  (have d0 := r0.cell 0; have d1 := r0.cell 1; have d2 := r0.cell 2; have d3 := r0.cell 3; have d4 := r0.cell 4; have d5 := r0.cell 5; simp only [List.set_cons_succ, List.set_cons_zero, List.getElem?_cons_zero, List.getElem?_cons_succ] at d0 d1 d2 d3 d4 d5)
  clear q0 r0
  go_quiet (fail)
  go_wp2_with fail
  refine (hR2.out _).mono ?_
  rintro e w7 ⟨rfl, hb7⟩
  go_wp2
  go_ret
  exact ⟨rfl, by (repeat (first | exact Below.refl _ _ | assumption | refine bal ?_ _ | refine bdr ?_ | refine bdn ?_ _ | refine bst ?_ (by first | assumption | exact Nat.le_refl _ | omega) _ | refine bch ?_ (by assumption)))⟩
set_option maxHeartbeats 2000000 in
set_option maxRecDepth 100000 in
theorem kinds_drop_v (t r k : Int) (key val : ByteArray) (n : Int) (kind : Int) (w : World) (h1 : key.size ≤ 40) (h2 : val.size ≤ 300) (hL : Laid w) (hp : pickN kind 4 = 1) (hr : Wr.right (wr t r k key val n) = 0) (hv : val.toList.isEmpty = false) (hx : Wr.right (wr t r 2 key val n) ≠ 0) :
    Calls Tryd.prog 5 #[.agg #[.int .i64 t, .int .i64 r, .int .i64 k, .string key, .string val, .int .i64 n], .int .i64 kind] w fun e w' => e = .returned (.bool true) ∧ Below w.heap.size w w' := by
  have hk : ∀ W, Below w.heap.size w W → Calls Tryd.prog 11 #[] W fun e w' => e = .returned (.bool true) ∧ Below W.heap.size W w' := fun W h => tailed W (hL.below h)
  replace hk := Lib.hid hk
  have hR1 := fun W => write_right t r k key val n W
  rw [hr, errW_ok] at hR1
  have hR2 := fun W => write_right t r 2 key val n W
  rw [errW_no hx] at hR2
  generalize Wr.right (wr t r 2 key val n) = cc at *
  have hP := fun W => keep_pick kind 4 4 W rfl (by omega) (by omega)
  rw [hp] at hP
  unfold wrV at *
  replace hR1 := Lib.hid hR1
  replace hR2 := Lib.hid hR2
  replace hP := Lib.hid hP
  clear hr hx hp
  go_enter Tryd.func5, Tryd.ntmps5
  go_wp2_with fail
  have q0 := row_at #[.int .i64 t, .int .i64 r, .int .i64 k, .string key, .string val, .int .i64 n] 25 (rfl : w.heap.size = w.heap.size)
  have qb : Below w.heap.size w (w.alloc (Obj.cells #[.int .i64 t, .int .i64 r, .int .i64 k, .string key, .string val, .int .i64 n] 25)) := by (repeat (first | exact Below.refl _ _ | assumption | refine bal ?_ _ | refine bdr ?_ | refine bdn ?_ _ | refine bst ?_ (by first | assumption | exact Nat.le_refl _ | omega) _ | refine bch ?_ (by assumption)))
  generalize w.alloc (Obj.cells #[.int .i64 t, .int .i64 r, .int .i64 k, .string key, .string val, .int .i64 n] 25) = w1 at *
  refine (hk.out _ qb).mono ?_
  rintro e w2 ⟨rfl, hb2⟩
  replace q0 := q0.below hb2
  (have c0 := q0.cell 0; have c1 := q0.cell 1; have c2 := q0.cell 2; have c3 := q0.cell 3; have c4 := q0.cell 4; have c5 := q0.cell 5; simp only [List.set_cons_succ, List.set_cons_zero, List.getElem?_cons_zero, List.getElem?_cons_succ] at c0 c1 c2 c3 c4 c5)
  replace q0 := Lib.hid q0
  go_wp2_with fail
  refine (hR1.out _).mono ?_
  rintro e w3 ⟨rfl, hb3⟩
  clear c0 c1 c2 c3 c4 c5
  replace q0 := q0.out.below hb3
  (have c0 := q0.cell 0; have c1 := q0.cell 1; have c2 := q0.cell 2; have c3 := q0.cell 3; have c4 := q0.cell 4; have c5 := q0.cell 5; simp only [List.set_cons_succ, List.set_cons_zero, List.getElem?_cons_zero, List.getElem?_cons_succ] at c0 c1 c2 c3 c4 c5)
  have hz := q0.lt
  replace q0 := Lib.hid q0
  have qb3 : Below w.heap.size w w3 := by (repeat (first | exact Below.refl _ _ | assumption | refine bal ?_ _ | refine bdr ?_ | refine bdn ?_ _ | refine bst ?_ (by first | assumption | exact Nat.le_refl _ | omega) _ | refine bch ?_ (by assumption)))
  clear hb2 hb3 qb
  go_wp2_with fail
  have r0 := row_at #[.int .i64 t, .int .i64 r, .int .i64 k, .string key, .string val, .int .i64 n] 25 (rfl : w3.heap.size = w3.heap.size)
  replace q0 := q0.out.alloc (Obj.cells #[.int .i64 t, .int .i64 r, .int .i64 k, .string key, .string val, .int .i64 n] 25)
  have qb4 : Below w.heap.size w (w3.alloc (Obj.cells #[.int .i64 t, .int .i64 r, .int .i64 k, .string key, .string val, .int .i64 n] 25)) := by (repeat (first | exact Below.refl _ _ | assumption | refine bal ?_ _ | refine bdr ?_ | refine bdn ?_ _ | refine bst ?_ (by first | assumption | exact Nat.le_refl _ | omega) _ | refine bch ?_ (by assumption)))
  have hz4 : w.heap.size ≤ w3.heap.size := qb3.size
  have hne : w.heap.size ≠ w3.heap.size := by omega
  clear c0 c1 c2 c3 c4 c5 qb3
  generalize w3.alloc (Obj.cells #[.int .i64 t, .int .i64 r, .int .i64 k, .string key, .string val, .int .i64 n] 25) = w4 at *
  generalize w3.heap.size = g at *
  clear hz
  refine (hP.out _).mono ?_
  rintro e w5 ⟨rfl, rfl⟩
  (have c0 := q0.cell 0; have c1 := q0.cell 1; have c2 := q0.cell 2; have c3 := q0.cell 3; have c4 := q0.cell 4; have c5 := q0.cell 5; simp only [List.set_cons_succ, List.set_cons_zero, List.getElem?_cons_zero, List.getElem?_cons_succ] at c0 c1 c2 c3 c4 c5)
  (have d0 := r0.cell 0; have d1 := r0.cell 1; have d2 := r0.cell 2; have d3 := r0.cell 3; have d4 := r0.cell 4; have d5 := r0.cell 5; simp only [List.set_cons_succ, List.set_cons_zero, List.getElem?_cons_zero, List.getElem?_cons_succ] at d0 d1 d2 d3 d4 d5)
  have f2 := r0.frozen 2 (by simp)
  go_wp2_with fail
  replace q0 := q0.other (p := ⟨g, 2, none⟩) (by simp; omega) (.int .i64 2)
  replace r0 := r0.set 2 (.int .i64 2)
  replace qb4 : Below w.heap.size w (w4.setCell ⟨g, 2, none⟩ (.int .i64 2)) := bst qb4 hz4 _
  clear c0 c1 c2 c3 c4 c5 d0 d1 d2 d3 d4 d5 f2
  generalize w4.setCell ⟨g, 2, none⟩ (.int .i64 2) = w6 at *
  (have c0 := q0.cell 0; have c1 := q0.cell 1; have c2 := q0.cell 2; have c3 := q0.cell 3; have c4 := q0.cell 4; have c5 := q0.cell 5; simp only [List.set_cons_succ, List.set_cons_zero, List.getElem?_cons_zero, List.getElem?_cons_succ] at c0 c1 c2 c3 c4 c5)
  (have d0 := r0.cell 0; have d1 := r0.cell 1; have d2 := r0.cell 2; have d3 := r0.cell 3; have d4 := r0.cell 4; have d5 := r0.cell 5; simp only [List.set_cons_succ, List.set_cons_zero, List.getElem?_cons_zero, List.getElem?_cons_succ] at d0 d1 d2 d3 d4 d5)
  clear q0 r0
  go_quiet (fail)
  go_wp2_with fail
  refine (hR2.out _).mono ?_
  rintro e w7 ⟨rfl, hb7⟩
  go_wp2
  go_ret
  exact ⟨rfl, by (repeat (first | exact Below.refl _ _ | assumption | refine bal ?_ _ | refine bdr ?_ | refine bdn ?_ _ | refine bst ?_ (by first | assumption | exact Nat.le_refl _ | omega) _ | refine bch ?_ (by assumption)))⟩
set_option maxHeartbeats 2000000 in
set_option maxRecDepth 100000 in
theorem kinds_add (t r k : Int) (key val : ByteArray) (n : Int) (kind : Int) (w : World) (h1 : key.size ≤ 40) (h2 : val.size ≤ 300) (hL : Laid w) (hp : pickN kind 4 = 2) (hr : Wr.right (wr t r k key ⟨#[]⟩ n) = 0)  (hx : Wr.right (wr t r 3 key ⟨#[]⟩ n) = 0) :
    Calls Tryd.prog 5 #[.agg #[.int .i64 t, .int .i64 r, .int .i64 k, .string key, .string ⟨#[]⟩, .int .i64 n], .int .i64 kind] w fun e w' => e = .returned (.bool true) ∧ Below w.heap.size w w' := by
  have hk : ∀ W, Below w.heap.size w W → Calls Tryd.prog 11 #[] W fun e w' => e = .returned (.bool true) ∧ Below W.heap.size W w' := fun W h => tailed W (hL.below h)
  replace hk := Lib.hid hk
  have hR1 := fun W => write_right t r k key ⟨#[]⟩ n W
  rw [hr, errW_ok] at hR1
  have hR2 := fun W => write_right t r 3 key ⟨#[]⟩ n W
  rw [hx, errW_ok] at hR2
  have hP := fun W => keep_pick kind 4 4 W rfl (by omega) (by omega)
  rw [hp] at hP
  unfold wrV at *
  replace hR1 := Lib.hid hR1
  replace hR2 := Lib.hid hR2
  replace hP := Lib.hid hP
  clear hr hx hp
  go_enter Tryd.func5, Tryd.ntmps5
  go_wp2_with fail
  have q0 := row_at #[.int .i64 t, .int .i64 r, .int .i64 k, .string key, .string ⟨#[]⟩, .int .i64 n] 25 (rfl : w.heap.size = w.heap.size)
  have qb : Below w.heap.size w (w.alloc (Obj.cells #[.int .i64 t, .int .i64 r, .int .i64 k, .string key, .string ⟨#[]⟩, .int .i64 n] 25)) := by (repeat (first | exact Below.refl _ _ | assumption | refine bal ?_ _ | refine bdr ?_ | refine bdn ?_ _ | refine bst ?_ (by first | assumption | exact Nat.le_refl _ | omega) _ | refine bch ?_ (by assumption)))
  generalize w.alloc (Obj.cells #[.int .i64 t, .int .i64 r, .int .i64 k, .string key, .string ⟨#[]⟩, .int .i64 n] 25) = w1 at *
  refine (hk.out _ qb).mono ?_
  rintro e w2 ⟨rfl, hb2⟩
  replace q0 := q0.below hb2
  (have c0 := q0.cell 0; have c1 := q0.cell 1; have c2 := q0.cell 2; have c3 := q0.cell 3; have c4 := q0.cell 4; have c5 := q0.cell 5; simp only [List.set_cons_succ, List.set_cons_zero, List.getElem?_cons_zero, List.getElem?_cons_succ] at c0 c1 c2 c3 c4 c5)
  replace q0 := Lib.hid q0
  go_wp2_with fail
  refine (hR1.out _).mono ?_
  rintro e w3 ⟨rfl, hb3⟩
  clear c0 c1 c2 c3 c4 c5
  replace q0 := q0.out.below hb3
  (have c0 := q0.cell 0; have c1 := q0.cell 1; have c2 := q0.cell 2; have c3 := q0.cell 3; have c4 := q0.cell 4; have c5 := q0.cell 5; simp only [List.set_cons_succ, List.set_cons_zero, List.getElem?_cons_zero, List.getElem?_cons_succ] at c0 c1 c2 c3 c4 c5)
  have hz := q0.lt
  replace q0 := Lib.hid q0
  have qb3 : Below w.heap.size w w3 := by (repeat (first | exact Below.refl _ _ | assumption | refine bal ?_ _ | refine bdr ?_ | refine bdn ?_ _ | refine bst ?_ (by first | assumption | exact Nat.le_refl _ | omega) _ | refine bch ?_ (by assumption)))
  clear hb2 hb3 qb
  go_wp2_with fail
  have r0 := row_at #[.int .i64 t, .int .i64 r, .int .i64 k, .string key, .string ⟨#[]⟩, .int .i64 n] 25 (rfl : w3.heap.size = w3.heap.size)
  replace q0 := q0.out.alloc (Obj.cells #[.int .i64 t, .int .i64 r, .int .i64 k, .string key, .string ⟨#[]⟩, .int .i64 n] 25)
  have qb4 : Below w.heap.size w (w3.alloc (Obj.cells #[.int .i64 t, .int .i64 r, .int .i64 k, .string key, .string ⟨#[]⟩, .int .i64 n] 25)) := by (repeat (first | exact Below.refl _ _ | assumption | refine bal ?_ _ | refine bdr ?_ | refine bdn ?_ _ | refine bst ?_ (by first | assumption | exact Nat.le_refl _ | omega) _ | refine bch ?_ (by assumption)))
  have hz4 : w.heap.size ≤ w3.heap.size := qb3.size
  have hne : w.heap.size ≠ w3.heap.size := by omega
  clear c0 c1 c2 c3 c4 c5 qb3
  generalize w3.alloc (Obj.cells #[.int .i64 t, .int .i64 r, .int .i64 k, .string key, .string ⟨#[]⟩, .int .i64 n] 25) = w4 at *
  generalize w3.heap.size = g at *
  clear hz
  refine (hP.out _).mono ?_
  rintro e w5 ⟨rfl, rfl⟩
  (have c0 := q0.cell 0; have c1 := q0.cell 1; have c2 := q0.cell 2; have c3 := q0.cell 3; have c4 := q0.cell 4; have c5 := q0.cell 5; simp only [List.set_cons_succ, List.set_cons_zero, List.getElem?_cons_zero, List.getElem?_cons_succ] at c0 c1 c2 c3 c4 c5)
  (have d0 := r0.cell 0; have d1 := r0.cell 1; have d2 := r0.cell 2; have d3 := r0.cell 3; have d4 := r0.cell 4; have d5 := r0.cell 5; simp only [List.set_cons_succ, List.set_cons_zero, List.getElem?_cons_zero, List.getElem?_cons_succ] at d0 d1 d2 d3 d4 d5)
  have f2 := r0.frozen 2 (by simp)
  go_wp2_with fail
  replace q0 := q0.other (p := ⟨g, 2, none⟩) (by simp; omega) (.int .i64 3)
  replace r0 := r0.set 2 (.int .i64 3)
  replace qb4 : Below w.heap.size w (w4.setCell ⟨g, 2, none⟩ (.int .i64 3)) := bst qb4 hz4 _
  clear c0 c1 c2 c3 c4 c5 d0 d1 d2 d3 d4 d5 f2
  generalize w4.setCell ⟨g, 2, none⟩ (.int .i64 3) = w6 at *
  (have c0 := q0.cell 0; have c1 := q0.cell 1; have c2 := q0.cell 2; have c3 := q0.cell 3; have c4 := q0.cell 4; have c5 := q0.cell 5; simp only [List.set_cons_succ, List.set_cons_zero, List.getElem?_cons_zero, List.getElem?_cons_succ] at c0 c1 c2 c3 c4 c5)
  (have d0 := r0.cell 0; have d1 := r0.cell 1; have d2 := r0.cell 2; have d3 := r0.cell 3; have d4 := r0.cell 4; have d5 := r0.cell 5; simp only [List.set_cons_succ, List.set_cons_zero, List.getElem?_cons_zero, List.getElem?_cons_succ] at d0 d1 d2 d3 d4 d5)
  clear q0 r0
  go_quiet (fail)
  go_wp2_with fail
  refine (hR2.out _).mono ?_
  rintro e w7 ⟨rfl, hb7⟩
  go_wp2
  go_ret
  exact ⟨rfl, by (repeat (first | exact Below.refl _ _ | assumption | refine bal ?_ _ | refine bdr ?_ | refine bdn ?_ _ | refine bst ?_ (by first | assumption | exact Nat.le_refl _ | omega) _ | refine bch ?_ (by assumption)))⟩
set_option maxHeartbeats 2000000 in
set_option maxRecDepth 100000 in
theorem kinds_add_v (t r k : Int) (key val : ByteArray) (n : Int) (kind : Int) (w : World) (h1 : key.size ≤ 40) (h2 : val.size ≤ 300) (hL : Laid w) (hp : pickN kind 4 = 2) (hr : Wr.right (wr t r k key val n) = 0) (hv : val.toList.isEmpty = false) (hx : Wr.right (wr t r 3 key val n) ≠ 0) :
    Calls Tryd.prog 5 #[.agg #[.int .i64 t, .int .i64 r, .int .i64 k, .string key, .string val, .int .i64 n], .int .i64 kind] w fun e w' => e = .returned (.bool true) ∧ Below w.heap.size w w' := by
  have hk : ∀ W, Below w.heap.size w W → Calls Tryd.prog 11 #[] W fun e w' => e = .returned (.bool true) ∧ Below W.heap.size W w' := fun W h => tailed W (hL.below h)
  replace hk := Lib.hid hk
  have hR1 := fun W => write_right t r k key val n W
  rw [hr, errW_ok] at hR1
  have hR2 := fun W => write_right t r 3 key val n W
  rw [errW_no hx] at hR2
  generalize Wr.right (wr t r 3 key val n) = cc at *
  have hP := fun W => keep_pick kind 4 4 W rfl (by omega) (by omega)
  rw [hp] at hP
  unfold wrV at *
  replace hR1 := Lib.hid hR1
  replace hR2 := Lib.hid hR2
  replace hP := Lib.hid hP
  clear hr hx hp
  go_enter Tryd.func5, Tryd.ntmps5
  go_wp2_with fail
  have q0 := row_at #[.int .i64 t, .int .i64 r, .int .i64 k, .string key, .string val, .int .i64 n] 25 (rfl : w.heap.size = w.heap.size)
  have qb : Below w.heap.size w (w.alloc (Obj.cells #[.int .i64 t, .int .i64 r, .int .i64 k, .string key, .string val, .int .i64 n] 25)) := by (repeat (first | exact Below.refl _ _ | assumption | refine bal ?_ _ | refine bdr ?_ | refine bdn ?_ _ | refine bst ?_ (by first | assumption | exact Nat.le_refl _ | omega) _ | refine bch ?_ (by assumption)))
  generalize w.alloc (Obj.cells #[.int .i64 t, .int .i64 r, .int .i64 k, .string key, .string val, .int .i64 n] 25) = w1 at *
  refine (hk.out _ qb).mono ?_
  rintro e w2 ⟨rfl, hb2⟩
  replace q0 := q0.below hb2
  (have c0 := q0.cell 0; have c1 := q0.cell 1; have c2 := q0.cell 2; have c3 := q0.cell 3; have c4 := q0.cell 4; have c5 := q0.cell 5; simp only [List.set_cons_succ, List.set_cons_zero, List.getElem?_cons_zero, List.getElem?_cons_succ] at c0 c1 c2 c3 c4 c5)
  replace q0 := Lib.hid q0
  go_wp2_with fail
  refine (hR1.out _).mono ?_
  rintro e w3 ⟨rfl, hb3⟩
  clear c0 c1 c2 c3 c4 c5
  replace q0 := q0.out.below hb3
  (have c0 := q0.cell 0; have c1 := q0.cell 1; have c2 := q0.cell 2; have c3 := q0.cell 3; have c4 := q0.cell 4; have c5 := q0.cell 5; simp only [List.set_cons_succ, List.set_cons_zero, List.getElem?_cons_zero, List.getElem?_cons_succ] at c0 c1 c2 c3 c4 c5)
  have hz := q0.lt
  replace q0 := Lib.hid q0
  have qb3 : Below w.heap.size w w3 := by (repeat (first | exact Below.refl _ _ | assumption | refine bal ?_ _ | refine bdr ?_ | refine bdn ?_ _ | refine bst ?_ (by first | assumption | exact Nat.le_refl _ | omega) _ | refine bch ?_ (by assumption)))
  clear hb2 hb3 qb
  go_wp2_with fail
  have r0 := row_at #[.int .i64 t, .int .i64 r, .int .i64 k, .string key, .string val, .int .i64 n] 25 (rfl : w3.heap.size = w3.heap.size)
  replace q0 := q0.out.alloc (Obj.cells #[.int .i64 t, .int .i64 r, .int .i64 k, .string key, .string val, .int .i64 n] 25)
  have qb4 : Below w.heap.size w (w3.alloc (Obj.cells #[.int .i64 t, .int .i64 r, .int .i64 k, .string key, .string val, .int .i64 n] 25)) := by (repeat (first | exact Below.refl _ _ | assumption | refine bal ?_ _ | refine bdr ?_ | refine bdn ?_ _ | refine bst ?_ (by first | assumption | exact Nat.le_refl _ | omega) _ | refine bch ?_ (by assumption)))
  have hz4 : w.heap.size ≤ w3.heap.size := qb3.size
  have hne : w.heap.size ≠ w3.heap.size := by omega
  clear c0 c1 c2 c3 c4 c5 qb3
  generalize w3.alloc (Obj.cells #[.int .i64 t, .int .i64 r, .int .i64 k, .string key, .string val, .int .i64 n] 25) = w4 at *
  generalize w3.heap.size = g at *
  clear hz
  refine (hP.out _).mono ?_
  rintro e w5 ⟨rfl, rfl⟩
  (have c0 := q0.cell 0; have c1 := q0.cell 1; have c2 := q0.cell 2; have c3 := q0.cell 3; have c4 := q0.cell 4; have c5 := q0.cell 5; simp only [List.set_cons_succ, List.set_cons_zero, List.getElem?_cons_zero, List.getElem?_cons_succ] at c0 c1 c2 c3 c4 c5)
  (have d0 := r0.cell 0; have d1 := r0.cell 1; have d2 := r0.cell 2; have d3 := r0.cell 3; have d4 := r0.cell 4; have d5 := r0.cell 5; simp only [List.set_cons_succ, List.set_cons_zero, List.getElem?_cons_zero, List.getElem?_cons_succ] at d0 d1 d2 d3 d4 d5)
  have f2 := r0.frozen 2 (by simp)
  go_wp2_with fail
  replace q0 := q0.other (p := ⟨g, 2, none⟩) (by simp; omega) (.int .i64 3)
  replace r0 := r0.set 2 (.int .i64 3)
  replace qb4 : Below w.heap.size w (w4.setCell ⟨g, 2, none⟩ (.int .i64 3)) := bst qb4 hz4 _
  clear c0 c1 c2 c3 c4 c5 d0 d1 d2 d3 d4 d5 f2
  generalize w4.setCell ⟨g, 2, none⟩ (.int .i64 3) = w6 at *
  (have c0 := q0.cell 0; have c1 := q0.cell 1; have c2 := q0.cell 2; have c3 := q0.cell 3; have c4 := q0.cell 4; have c5 := q0.cell 5; simp only [List.set_cons_succ, List.set_cons_zero, List.getElem?_cons_zero, List.getElem?_cons_succ] at c0 c1 c2 c3 c4 c5)
  (have d0 := r0.cell 0; have d1 := r0.cell 1; have d2 := r0.cell 2; have d3 := r0.cell 3; have d4 := r0.cell 4; have d5 := r0.cell 5; simp only [List.set_cons_succ, List.set_cons_zero, List.getElem?_cons_zero, List.getElem?_cons_succ] at d0 d1 d2 d3 d4 d5)
  clear q0 r0
  go_quiet (fail)
  go_wp2_with fail
  refine (hR2.out _).mono ?_
  rintro e w7 ⟨rfl, hb7⟩
  go_wp2
  go_ret
  exact ⟨rfl, by (repeat (first | exact Below.refl _ _ | assumption | refine bal ?_ _ | refine bdr ?_ | refine bdn ?_ _ | refine bst ?_ (by first | assumption | exact Nat.le_refl _ | omega) _ | refine bch ?_ (by assumption)))⟩
set_option maxHeartbeats 2000000 in
set_option maxRecDepth 100000 in
theorem kinds_ins (t r k : Int) (key val : ByteArray) (n : Int) (kind : Int) (w : World) (h1 : key.size ≤ 40) (h2 : val.size ≤ 300) (hL : Laid w) (hp : pickN kind 4 = 3) (hr : Wr.right (wr t r k key val n) = 0) (hn : 0 ≤ n) (hm : n ≤ 1000) (hx : Wr.right (wr t r 4 key val n) = 0) :
    Calls Tryd.prog 5 #[.agg #[.int .i64 t, .int .i64 r, .int .i64 k, .string key, .string val, .int .i64 n], .int .i64 kind] w fun e w' => e = .returned (.bool true) ∧ Below w.heap.size w w' := by
  have hk : ∀ W, Below w.heap.size w W → Calls Tryd.prog 11 #[] W fun e w' => e = .returned (.bool true) ∧ Below W.heap.size W w' := fun W h => tailed W (hL.below h)
  replace hk := Lib.hid hk
  have hR1 := fun W => write_right t r k key val n W
  rw [hr, errW_ok] at hR1
  have hR2 := fun W => write_right t r 4 key val n W
  rw [hx, errW_ok] at hR2
  have hP := fun W => keep_pick kind 4 4 W rfl (by omega) (by omega)
  rw [hp] at hP
  unfold wrV at *
  replace hR1 := Lib.hid hR1
  replace hR2 := Lib.hid hR2
  replace hP := Lib.hid hP
  clear hr hx hp
  go_enter Tryd.func5, Tryd.ntmps5
  go_wp2_with fail
  have q0 := row_at #[.int .i64 t, .int .i64 r, .int .i64 k, .string key, .string val, .int .i64 n] 25 (rfl : w.heap.size = w.heap.size)
  have qb : Below w.heap.size w (w.alloc (Obj.cells #[.int .i64 t, .int .i64 r, .int .i64 k, .string key, .string val, .int .i64 n] 25)) := by (repeat (first | exact Below.refl _ _ | assumption | refine bal ?_ _ | refine bdr ?_ | refine bdn ?_ _ | refine bst ?_ (by first | assumption | exact Nat.le_refl _ | omega) _ | refine bch ?_ (by assumption)))
  generalize w.alloc (Obj.cells #[.int .i64 t, .int .i64 r, .int .i64 k, .string key, .string val, .int .i64 n] 25) = w1 at *
  refine (hk.out _ qb).mono ?_
  rintro e w2 ⟨rfl, hb2⟩
  replace q0 := q0.below hb2
  (have c0 := q0.cell 0; have c1 := q0.cell 1; have c2 := q0.cell 2; have c3 := q0.cell 3; have c4 := q0.cell 4; have c5 := q0.cell 5; simp only [List.set_cons_succ, List.set_cons_zero, List.getElem?_cons_zero, List.getElem?_cons_succ] at c0 c1 c2 c3 c4 c5)
  replace q0 := Lib.hid q0
  go_wp2_with fail
  refine (hR1.out _).mono ?_
  rintro e w3 ⟨rfl, hb3⟩
  clear c0 c1 c2 c3 c4 c5
  replace q0 := q0.out.below hb3
  (have c0 := q0.cell 0; have c1 := q0.cell 1; have c2 := q0.cell 2; have c3 := q0.cell 3; have c4 := q0.cell 4; have c5 := q0.cell 5; simp only [List.set_cons_succ, List.set_cons_zero, List.getElem?_cons_zero, List.getElem?_cons_succ] at c0 c1 c2 c3 c4 c5)
  have hz := q0.lt
  replace q0 := Lib.hid q0
  have qb3 : Below w.heap.size w w3 := by (repeat (first | exact Below.refl _ _ | assumption | refine bal ?_ _ | refine bdr ?_ | refine bdn ?_ _ | refine bst ?_ (by first | assumption | exact Nat.le_refl _ | omega) _ | refine bch ?_ (by assumption)))
  clear hb2 hb3 qb
  go_wp2_with fail
  have r0 := row_at #[.int .i64 t, .int .i64 r, .int .i64 k, .string key, .string val, .int .i64 n] 25 (rfl : w3.heap.size = w3.heap.size)
  replace q0 := q0.out.alloc (Obj.cells #[.int .i64 t, .int .i64 r, .int .i64 k, .string key, .string val, .int .i64 n] 25)
  have qb4 : Below w.heap.size w (w3.alloc (Obj.cells #[.int .i64 t, .int .i64 r, .int .i64 k, .string key, .string val, .int .i64 n] 25)) := by (repeat (first | exact Below.refl _ _ | assumption | refine bal ?_ _ | refine bdr ?_ | refine bdn ?_ _ | refine bst ?_ (by first | assumption | exact Nat.le_refl _ | omega) _ | refine bch ?_ (by assumption)))
  have hz4 : w.heap.size ≤ w3.heap.size := qb3.size
  have hne : w.heap.size ≠ w3.heap.size := by omega
  clear c0 c1 c2 c3 c4 c5 qb3
  generalize w3.alloc (Obj.cells #[.int .i64 t, .int .i64 r, .int .i64 k, .string key, .string val, .int .i64 n] 25) = w4 at *
  generalize w3.heap.size = g at *
  clear hz
  refine (hP.out _).mono ?_
  rintro e w5 ⟨rfl, rfl⟩
  (have c0 := q0.cell 0; have c1 := q0.cell 1; have c2 := q0.cell 2; have c3 := q0.cell 3; have c4 := q0.cell 4; have c5 := q0.cell 5; simp only [List.set_cons_succ, List.set_cons_zero, List.getElem?_cons_zero, List.getElem?_cons_succ] at c0 c1 c2 c3 c4 c5)
  (have d0 := r0.cell 0; have d1 := r0.cell 1; have d2 := r0.cell 2; have d3 := r0.cell 3; have d4 := r0.cell 4; have d5 := r0.cell 5; simp only [List.set_cons_succ, List.set_cons_zero, List.getElem?_cons_zero, List.getElem?_cons_succ] at d0 d1 d2 d3 d4 d5)
  have f2 := r0.frozen 2 (by simp)
  go_wp2_with fail
  replace q0 := q0.other (p := ⟨g, 2, none⟩) (by simp; omega) (.int .i64 4)
  replace r0 := r0.set 2 (.int .i64 4)
  replace qb4 : Below w.heap.size w (w4.setCell ⟨g, 2, none⟩ (.int .i64 4)) := bst qb4 hz4 _
  clear c0 c1 c2 c3 c4 c5 d0 d1 d2 d3 d4 d5 f2
  generalize w4.setCell ⟨g, 2, none⟩ (.int .i64 4) = w6 at *
  (have c0 := q0.cell 0; have c1 := q0.cell 1; have c2 := q0.cell 2; have c3 := q0.cell 3; have c4 := q0.cell 4; have c5 := q0.cell 5; simp only [List.set_cons_succ, List.set_cons_zero, List.getElem?_cons_zero, List.getElem?_cons_succ] at c0 c1 c2 c3 c4 c5)
  (have d0 := r0.cell 0; have d1 := r0.cell 1; have d2 := r0.cell 2; have d3 := r0.cell 3; have d4 := r0.cell 4; have d5 := r0.cell 5; simp only [List.set_cons_succ, List.set_cons_zero, List.getElem?_cons_zero, List.getElem?_cons_succ] at d0 d1 d2 d3 d4 d5)
  clear q0 r0
  go_quiet (fail)
  go_wp2_with fail
  refine (hR2.out _).mono ?_
  rintro e w7 ⟨rfl, hb7⟩
  go_wp2
  go_ret
  exact ⟨rfl, by (repeat (first | exact Below.refl _ _ | assumption | refine bal ?_ _ | refine bdr ?_ | refine bdn ?_ _ | refine bst ?_ (by first | assumption | exact Nat.le_refl _ | omega) _ | refine bch ?_ (by assumption)))⟩
set_option maxHeartbeats 2000000 in
set_option maxRecDepth 100000 in
theorem kinds_ins_lo (t r k : Int) (key val : ByteArray) (n : Int) (kind : Int) (w : World) (h1 : key.size ≤ 40) (h2 : val.size ≤ 300) (hL : Laid w) (hp : pickN kind 4 = 3) (hr : Wr.right (wr t r k key val n) = 0) (hn : n < 0) (hx : Wr.right (wr t r 4 key val n) ≠ 0) :
    Calls Tryd.prog 5 #[.agg #[.int .i64 t, .int .i64 r, .int .i64 k, .string key, .string val, .int .i64 n], .int .i64 kind] w fun e w' => e = .returned (.bool true) ∧ Below w.heap.size w w' := by
  have hk : ∀ W, Below w.heap.size w W → Calls Tryd.prog 11 #[] W fun e w' => e = .returned (.bool true) ∧ Below W.heap.size W w' := fun W h => tailed W (hL.below h)
  replace hk := Lib.hid hk
  have hR1 := fun W => write_right t r k key val n W
  rw [hr, errW_ok] at hR1
  have hR2 := fun W => write_right t r 4 key val n W
  rw [errW_no hx] at hR2
  generalize Wr.right (wr t r 4 key val n) = cc at *
  have hP := fun W => keep_pick kind 4 4 W rfl (by omega) (by omega)
  rw [hp] at hP
  unfold wrV at *
  replace hR1 := Lib.hid hR1
  replace hR2 := Lib.hid hR2
  replace hP := Lib.hid hP
  clear hr hx hp
  go_enter Tryd.func5, Tryd.ntmps5
  go_wp2_with fail
  have q0 := row_at #[.int .i64 t, .int .i64 r, .int .i64 k, .string key, .string val, .int .i64 n] 25 (rfl : w.heap.size = w.heap.size)
  have qb : Below w.heap.size w (w.alloc (Obj.cells #[.int .i64 t, .int .i64 r, .int .i64 k, .string key, .string val, .int .i64 n] 25)) := by (repeat (first | exact Below.refl _ _ | assumption | refine bal ?_ _ | refine bdr ?_ | refine bdn ?_ _ | refine bst ?_ (by first | assumption | exact Nat.le_refl _ | omega) _ | refine bch ?_ (by assumption)))
  generalize w.alloc (Obj.cells #[.int .i64 t, .int .i64 r, .int .i64 k, .string key, .string val, .int .i64 n] 25) = w1 at *
  refine (hk.out _ qb).mono ?_
  rintro e w2 ⟨rfl, hb2⟩
  replace q0 := q0.below hb2
  (have c0 := q0.cell 0; have c1 := q0.cell 1; have c2 := q0.cell 2; have c3 := q0.cell 3; have c4 := q0.cell 4; have c5 := q0.cell 5; simp only [List.set_cons_succ, List.set_cons_zero, List.getElem?_cons_zero, List.getElem?_cons_succ] at c0 c1 c2 c3 c4 c5)
  replace q0 := Lib.hid q0
  go_wp2_with fail
  refine (hR1.out _).mono ?_
  rintro e w3 ⟨rfl, hb3⟩
  clear c0 c1 c2 c3 c4 c5
  replace q0 := q0.out.below hb3
  (have c0 := q0.cell 0; have c1 := q0.cell 1; have c2 := q0.cell 2; have c3 := q0.cell 3; have c4 := q0.cell 4; have c5 := q0.cell 5; simp only [List.set_cons_succ, List.set_cons_zero, List.getElem?_cons_zero, List.getElem?_cons_succ] at c0 c1 c2 c3 c4 c5)
  have hz := q0.lt
  replace q0 := Lib.hid q0
  have qb3 : Below w.heap.size w w3 := by (repeat (first | exact Below.refl _ _ | assumption | refine bal ?_ _ | refine bdr ?_ | refine bdn ?_ _ | refine bst ?_ (by first | assumption | exact Nat.le_refl _ | omega) _ | refine bch ?_ (by assumption)))
  clear hb2 hb3 qb
  go_wp2_with fail
  have r0 := row_at #[.int .i64 t, .int .i64 r, .int .i64 k, .string key, .string val, .int .i64 n] 25 (rfl : w3.heap.size = w3.heap.size)
  replace q0 := q0.out.alloc (Obj.cells #[.int .i64 t, .int .i64 r, .int .i64 k, .string key, .string val, .int .i64 n] 25)
  have qb4 : Below w.heap.size w (w3.alloc (Obj.cells #[.int .i64 t, .int .i64 r, .int .i64 k, .string key, .string val, .int .i64 n] 25)) := by (repeat (first | exact Below.refl _ _ | assumption | refine bal ?_ _ | refine bdr ?_ | refine bdn ?_ _ | refine bst ?_ (by first | assumption | exact Nat.le_refl _ | omega) _ | refine bch ?_ (by assumption)))
  have hz4 : w.heap.size ≤ w3.heap.size := qb3.size
  have hne : w.heap.size ≠ w3.heap.size := by omega
  clear c0 c1 c2 c3 c4 c5 qb3
  generalize w3.alloc (Obj.cells #[.int .i64 t, .int .i64 r, .int .i64 k, .string key, .string val, .int .i64 n] 25) = w4 at *
  generalize w3.heap.size = g at *
  clear hz
  refine (hP.out _).mono ?_
  rintro e w5 ⟨rfl, rfl⟩
  (have c0 := q0.cell 0; have c1 := q0.cell 1; have c2 := q0.cell 2; have c3 := q0.cell 3; have c4 := q0.cell 4; have c5 := q0.cell 5; simp only [List.set_cons_succ, List.set_cons_zero, List.getElem?_cons_zero, List.getElem?_cons_succ] at c0 c1 c2 c3 c4 c5)
  (have d0 := r0.cell 0; have d1 := r0.cell 1; have d2 := r0.cell 2; have d3 := r0.cell 3; have d4 := r0.cell 4; have d5 := r0.cell 5; simp only [List.set_cons_succ, List.set_cons_zero, List.getElem?_cons_zero, List.getElem?_cons_succ] at d0 d1 d2 d3 d4 d5)
  have f2 := r0.frozen 2 (by simp)
  go_wp2_with fail
  replace q0 := q0.other (p := ⟨g, 2, none⟩) (by simp; omega) (.int .i64 4)
  replace r0 := r0.set 2 (.int .i64 4)
  replace qb4 : Below w.heap.size w (w4.setCell ⟨g, 2, none⟩ (.int .i64 4)) := bst qb4 hz4 _
  clear c0 c1 c2 c3 c4 c5 d0 d1 d2 d3 d4 d5 f2
  generalize w4.setCell ⟨g, 2, none⟩ (.int .i64 4) = w6 at *
  (have c0 := q0.cell 0; have c1 := q0.cell 1; have c2 := q0.cell 2; have c3 := q0.cell 3; have c4 := q0.cell 4; have c5 := q0.cell 5; simp only [List.set_cons_succ, List.set_cons_zero, List.getElem?_cons_zero, List.getElem?_cons_succ] at c0 c1 c2 c3 c4 c5)
  (have d0 := r0.cell 0; have d1 := r0.cell 1; have d2 := r0.cell 2; have d3 := r0.cell 3; have d4 := r0.cell 4; have d5 := r0.cell 5; simp only [List.set_cons_succ, List.set_cons_zero, List.getElem?_cons_zero, List.getElem?_cons_succ] at d0 d1 d2 d3 d4 d5)
  clear q0 r0
  go_quiet (fail)
  go_wp2_with fail
  refine (hR2.out _).mono ?_
  rintro e w7 ⟨rfl, hb7⟩
  go_wp2
  go_ret
  exact ⟨rfl, by (repeat (first | exact Below.refl _ _ | assumption | refine bal ?_ _ | refine bdr ?_ | refine bdn ?_ _ | refine bst ?_ (by first | assumption | exact Nat.le_refl _ | omega) _ | refine bch ?_ (by assumption)))⟩
set_option maxHeartbeats 2000000 in
set_option maxRecDepth 100000 in
theorem kinds_ins_hi (t r k : Int) (key val : ByteArray) (n : Int) (kind : Int) (w : World) (h1 : key.size ≤ 40) (h2 : val.size ≤ 300) (hL : Laid w) (hp : pickN kind 4 = 3) (hr : Wr.right (wr t r k key val n) = 0) (hn : 1000 < n) (hx : Wr.right (wr t r 4 key val n) ≠ 0) :
    Calls Tryd.prog 5 #[.agg #[.int .i64 t, .int .i64 r, .int .i64 k, .string key, .string val, .int .i64 n], .int .i64 kind] w fun e w' => e = .returned (.bool true) ∧ Below w.heap.size w w' := by
  have hk : ∀ W, Below w.heap.size w W → Calls Tryd.prog 11 #[] W fun e w' => e = .returned (.bool true) ∧ Below W.heap.size W w' := fun W h => tailed W (hL.below h)
  replace hk := Lib.hid hk
  have hR1 := fun W => write_right t r k key val n W
  rw [hr, errW_ok] at hR1
  have hR2 := fun W => write_right t r 4 key val n W
  rw [errW_no hx] at hR2
  generalize Wr.right (wr t r 4 key val n) = cc at *
  have hP := fun W => keep_pick kind 4 4 W rfl (by omega) (by omega)
  rw [hp] at hP
  unfold wrV at *
  replace hR1 := Lib.hid hR1
  replace hR2 := Lib.hid hR2
  replace hP := Lib.hid hP
  clear hr hx hp
  have dm : decide (n ≤ 1000) = false := by simp; omega
  go_enter Tryd.func5, Tryd.ntmps5
  go_wp2_with fail
  have q0 := row_at #[.int .i64 t, .int .i64 r, .int .i64 k, .string key, .string val, .int .i64 n] 25 (rfl : w.heap.size = w.heap.size)
  have qb : Below w.heap.size w (w.alloc (Obj.cells #[.int .i64 t, .int .i64 r, .int .i64 k, .string key, .string val, .int .i64 n] 25)) := by (repeat (first | exact Below.refl _ _ | assumption | refine bal ?_ _ | refine bdr ?_ | refine bdn ?_ _ | refine bst ?_ (by first | assumption | exact Nat.le_refl _ | omega) _ | refine bch ?_ (by assumption)))
  generalize w.alloc (Obj.cells #[.int .i64 t, .int .i64 r, .int .i64 k, .string key, .string val, .int .i64 n] 25) = w1 at *
  refine (hk.out _ qb).mono ?_
  rintro e w2 ⟨rfl, hb2⟩
  replace q0 := q0.below hb2
  (have c0 := q0.cell 0; have c1 := q0.cell 1; have c2 := q0.cell 2; have c3 := q0.cell 3; have c4 := q0.cell 4; have c5 := q0.cell 5; simp only [List.set_cons_succ, List.set_cons_zero, List.getElem?_cons_zero, List.getElem?_cons_succ] at c0 c1 c2 c3 c4 c5)
  replace q0 := Lib.hid q0
  go_wp2_with fail
  refine (hR1.out _).mono ?_
  rintro e w3 ⟨rfl, hb3⟩
  clear c0 c1 c2 c3 c4 c5
  replace q0 := q0.out.below hb3
  (have c0 := q0.cell 0; have c1 := q0.cell 1; have c2 := q0.cell 2; have c3 := q0.cell 3; have c4 := q0.cell 4; have c5 := q0.cell 5; simp only [List.set_cons_succ, List.set_cons_zero, List.getElem?_cons_zero, List.getElem?_cons_succ] at c0 c1 c2 c3 c4 c5)
  have hz := q0.lt
  replace q0 := Lib.hid q0
  have qb3 : Below w.heap.size w w3 := by (repeat (first | exact Below.refl _ _ | assumption | refine bal ?_ _ | refine bdr ?_ | refine bdn ?_ _ | refine bst ?_ (by first | assumption | exact Nat.le_refl _ | omega) _ | refine bch ?_ (by assumption)))
  clear hb2 hb3 qb
  go_wp2_with fail
  have r0 := row_at #[.int .i64 t, .int .i64 r, .int .i64 k, .string key, .string val, .int .i64 n] 25 (rfl : w3.heap.size = w3.heap.size)
  replace q0 := q0.out.alloc (Obj.cells #[.int .i64 t, .int .i64 r, .int .i64 k, .string key, .string val, .int .i64 n] 25)
  have qb4 : Below w.heap.size w (w3.alloc (Obj.cells #[.int .i64 t, .int .i64 r, .int .i64 k, .string key, .string val, .int .i64 n] 25)) := by (repeat (first | exact Below.refl _ _ | assumption | refine bal ?_ _ | refine bdr ?_ | refine bdn ?_ _ | refine bst ?_ (by first | assumption | exact Nat.le_refl _ | omega) _ | refine bch ?_ (by assumption)))
  have hz4 : w.heap.size ≤ w3.heap.size := qb3.size
  have hne : w.heap.size ≠ w3.heap.size := by omega
  clear c0 c1 c2 c3 c4 c5 qb3
  generalize w3.alloc (Obj.cells #[.int .i64 t, .int .i64 r, .int .i64 k, .string key, .string val, .int .i64 n] 25) = w4 at *
  generalize w3.heap.size = g at *
  clear hz
  refine (hP.out _).mono ?_
  rintro e w5 ⟨rfl, rfl⟩
  (have c0 := q0.cell 0; have c1 := q0.cell 1; have c2 := q0.cell 2; have c3 := q0.cell 3; have c4 := q0.cell 4; have c5 := q0.cell 5; simp only [List.set_cons_succ, List.set_cons_zero, List.getElem?_cons_zero, List.getElem?_cons_succ] at c0 c1 c2 c3 c4 c5)
  (have d0 := r0.cell 0; have d1 := r0.cell 1; have d2 := r0.cell 2; have d3 := r0.cell 3; have d4 := r0.cell 4; have d5 := r0.cell 5; simp only [List.set_cons_succ, List.set_cons_zero, List.getElem?_cons_zero, List.getElem?_cons_succ] at d0 d1 d2 d3 d4 d5)
  have f2 := r0.frozen 2 (by simp)
  go_wp2_with fail
  replace q0 := q0.other (p := ⟨g, 2, none⟩) (by simp; omega) (.int .i64 4)
  replace r0 := r0.set 2 (.int .i64 4)
  replace qb4 : Below w.heap.size w (w4.setCell ⟨g, 2, none⟩ (.int .i64 4)) := bst qb4 hz4 _
  clear c0 c1 c2 c3 c4 c5 d0 d1 d2 d3 d4 d5 f2
  generalize w4.setCell ⟨g, 2, none⟩ (.int .i64 4) = w6 at *
  (have c0 := q0.cell 0; have c1 := q0.cell 1; have c2 := q0.cell 2; have c3 := q0.cell 3; have c4 := q0.cell 4; have c5 := q0.cell 5; simp only [List.set_cons_succ, List.set_cons_zero, List.getElem?_cons_zero, List.getElem?_cons_succ] at c0 c1 c2 c3 c4 c5)
  (have d0 := r0.cell 0; have d1 := r0.cell 1; have d2 := r0.cell 2; have d3 := r0.cell 3; have d4 := r0.cell 4; have d5 := r0.cell 5; simp only [List.set_cons_succ, List.set_cons_zero, List.getElem?_cons_zero, List.getElem?_cons_succ] at d0 d1 d2 d3 d4 d5)
  clear q0 r0
  go_quiet (fail)
  go_wp2_with fail
  refine (hR2.out _).mono ?_
  rintro e w7 ⟨rfl, hb7⟩
  go_wp2
  go_ret
  exact ⟨rfl, by (repeat (first | exact Below.refl _ _ | assumption | refine bal ?_ _ | refine bdr ?_ | refine bdn ?_ _ | refine bst ?_ (by first | assumption | exact Nat.le_refl _ | omega) _ | refine bch ?_ (by assumption)))⟩
end Go.Proofs.YtonblpcbpfhlmaaDoor
