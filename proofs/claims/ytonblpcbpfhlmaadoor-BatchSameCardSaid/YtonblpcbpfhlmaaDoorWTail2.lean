/- The walk of write.Tail. -/
import Derived.Test.YtonblpcbpfhlmaaDoorWTail
namespace Go.Proofs.YtonblpcbpfhlmaaDoor
open Go.RowKit
set_option linter.unusedVariables false
theorem errW_ok : errW 0 = .nilIface := rfl
theorem errW_no {c : Nat} (h : c ≠ 0) : errW c = .iface 43 (.int .i64 c) := by unfold errW errV; rw [if_neg h]
set_option maxHeartbeats 2000000 in
set_option maxRecDepth 100000 in
theorem write_tail_bad (t r k : Int) (key val : ByteArray) (n : Int) (w : World) (h : Wr.right (wr t r k key val n) ≠ 0) :
    Calls Tryd.prog 12 #[wrV t r k key val n] w fun e w' => e = .returned (.tuple #[.string ⟨#[]⟩, errV (Wr.right (wr t r k key val n))]) ∧ Below w.heap.size w w' := by
  have hR := fun W => write_right t r k key val n W
  rw [errW_no h] at hR
  unfold errV
  generalize Wr.right (wr t r k key val n) = c at *
  unfold wrV at *
  replace hR := Lib.hid hR
  clear h
  go_enter Tryd.func12, Tryd.ntmps12
  go_wp2_with fail
  refine (hR.out _).mono ?_
  rintro e w2 ⟨rfl, hb⟩
  have hbel : Below w.heap.size w w2 := by (repeat (first | exact Below.refl _ _ | assumption | refine bal ?_ _ | refine bdr ?_ | refine bdn ?_ _ | refine bst ?_ (by first | assumption | exact Nat.le_refl _ | omega) _ | refine bch ?_ (by assumption)))
  go_wp2
  go_ret2
  exact ⟨rfl, hbel⟩
set_option maxHeartbeats 2000000 in
set_option maxRecDepth 100000 in
theorem write_tail_ok (t r k : Int) (key val : ByteArray) (n : Int) (w : World) (h : Wr.right (wr t r k key val n) = 0) :
    Calls Tryd.prog 12 #[wrV t r k key val n] w fun e w' => e = .returned (.tuple #[.string ⟨(Wr.tail (wr t r k key val n)).toArray⟩, .nilIface]) ∧ Below w.heap.size w w' := by
  have hR := fun W => write_right t r k key val n W
  rw [h, errW_ok] at hR
  obtain ⟨k1, k4, -, -, -, -, -, hval, -, -, hadd, hins⟩ := Wr.right_zero h
  simp only [wr] at k1 k4 hval hadd hins
  rw [ba_len] at hval
  have hp := fun W => span_put val W (by omega)
  replace hR := Lib.hid hR
  replace hp := Lib.hid hp
  clear h
  unfold wrV at *
  have hk : k = 1 ∨ k = 2 ∨ k = 3 ∨ k = 4 := by omega
  clear k1 k4
  have hT : ∀ y, Wr.tail (wr t r k key val n) = y → Hid (Wr.tail (wr t r k key val n) = y) := fun y h => Lib.hid h
  rcases hk with rfl | rfl | rfl | rfl
  · have hT := hT (Span.put val.data.toList) (by unfold Wr.tail wr; rw [if_pos rfl])
    go_enter Tryd.func12, Tryd.ntmps12
    go_wp2_with fail
    have q0 := row_at #[.int .i64 t, .int .i64 r, .int .i64 1, .string key, .string val, .int .i64 n] 25 (rfl : w.heap.size = w.heap.size)
    have qb : Below w.heap.size w (w.alloc (Obj.cells #[.int .i64 t, .int .i64 r, .int .i64 1, .string key, .string val, .int .i64 n] 25)) := by (repeat (first | exact Below.refl _ _ | assumption | refine bal ?_ _ | refine bdr ?_ | refine bdn ?_ _ | refine bst ?_ (by first | assumption | exact Nat.le_refl _ | omega) _ | refine bch ?_ (by assumption)))
    generalize w.alloc (Obj.cells #[.int .i64 t, .int .i64 r, .int .i64 1, .string key, .string val, .int .i64 n] 25) = w1 at *
    refine (hR.out _).mono ?_
    rintro e w2 ⟨rfl, hb⟩
    have q1 := q0.below hb
    have c2 := q1.cell 2
    have c4 := q1.cell 4
    simp only [List.getElem?_cons_zero, List.getElem?_cons_succ] at c2 c4
    clear q0 q1
    go_wp2_with fail
    refine (hp.out _).mono ?_
    rintro e w3 ⟨rfl, hb3⟩
    go_wp2
    go_ret2
    rw [hT.out]
    exact ⟨rfl, by (repeat (first | exact Below.refl _ _ | assumption | refine bal ?_ _ | refine bdr ?_ | refine bdn ?_ _ | refine bst ?_ (by first | assumption | exact Nat.le_refl _ | omega) _ | refine bch ?_ (by assumption)))⟩
  · have hT := hT [] (by unfold Wr.tail wr; simp)
    go_enter Tryd.func12, Tryd.ntmps12
    go_wp2_with fail
    have q0 := row_at #[.int .i64 t, .int .i64 r, .int .i64 2, .string key, .string val, .int .i64 n] 25 (rfl : w.heap.size = w.heap.size)
    have qb : Below w.heap.size w (w.alloc (Obj.cells #[.int .i64 t, .int .i64 r, .int .i64 2, .string key, .string val, .int .i64 n] 25)) := by (repeat (first | exact Below.refl _ _ | assumption | refine bal ?_ _ | refine bdr ?_ | refine bdn ?_ _ | refine bst ?_ (by first | assumption | exact Nat.le_refl _ | omega) _ | refine bch ?_ (by assumption)))
    generalize w.alloc (Obj.cells #[.int .i64 t, .int .i64 r, .int .i64 2, .string key, .string val, .int .i64 n] 25) = w1 at *
    refine (hR.out _).mono ?_
    rintro e w2 ⟨rfl, hb⟩
    have q1 := q0.below hb
    have c2 := q1.cell 2
    simp only [List.getElem?_cons_zero, List.getElem?_cons_succ] at c2
    clear q0 q1
    go_wp2
    go_ret2
    rw [hT.out]
    exact ⟨rfl, by (repeat (first | exact Below.refl _ _ | assumption | refine bal ?_ _ | refine bdr ?_ | refine bdn ?_ _ | refine bst ?_ (by first | assumption | exact Nat.le_refl _ | omega) _ | refine bch ?_ (by assumption)))⟩
  · have hT := hT (Vary.put (Vary.zig n)) (by unfold Wr.tail wr; simp)
    have hn := hadd rfl
    have hz := Lib.hid (fun W => vary_zig n W (by omega) (by omega))
    have hz2 := Lib.hid (fun W => vary_put (Vary.zig n) W (Vary.zig_lt n (by omega) (by omega)))
    replace hn := Lib.hid hn
    go_enter Tryd.func12, Tryd.ntmps12
    go_wp2_with fail
    have q0 := row_at #[.int .i64 t, .int .i64 r, .int .i64 3, .string key, .string val, .int .i64 n] 25 (rfl : w.heap.size = w.heap.size)
    have qb : Below w.heap.size w (w.alloc (Obj.cells #[.int .i64 t, .int .i64 r, .int .i64 3, .string key, .string val, .int .i64 n] 25)) := by (repeat (first | exact Below.refl _ _ | assumption | refine bal ?_ _ | refine bdr ?_ | refine bdn ?_ _ | refine bst ?_ (by first | assumption | exact Nat.le_refl _ | omega) _ | refine bch ?_ (by assumption)))
    generalize w.alloc (Obj.cells #[.int .i64 t, .int .i64 r, .int .i64 3, .string key, .string val, .int .i64 n] 25) = w1 at *
    refine (hR.out _).mono ?_
    rintro e w2 ⟨rfl, hb⟩
    have q1 := q0.below hb
    have c2 := q1.cell 2
    have c5 := q1.cell 5
    simp only [List.getElem?_cons_zero, List.getElem?_cons_succ] at c2 c5
    clear q0 q1
    go_wp2_with fail
    refine (hz.out _).mono ?_
    rintro e w3 ⟨rfl, rfl⟩
    go_wp2_with fail
    refine (hz2.out _).mono ?_
    rintro e w4 ⟨rfl, hb4⟩
    go_wp2
    go_ret2
    rw [hT.out]
    exact ⟨rfl, by (repeat (first | exact Below.refl _ _ | assumption | refine bal ?_ _ | refine bdr ?_ | refine bdn ?_ _ | refine bst ?_ (by first | assumption | exact Nat.le_refl _ | omega) _ | refine bch ?_ (by assumption)))⟩
  · have hT := hT (Vary.put n.toNat ++ Span.put val.data.toList) (by unfold Wr.tail wr; simp)
    obtain ⟨hn1, hn2⟩ := hins rfl
    obtain ⟨m, rfl⟩ := Int.eq_ofNat_of_zero_le hn1
    rw [Int.toNat_natCast] at hT
    have hz := Lib.hid (fun W => vary_put m W (by omega))
    have hw := u64_of_nonneg hn1 (by omega)
    have l1 := Vary.put_len m (by omega)
    have l2 : (Span.put val.data.toList).length ≤ 400 := by
      have := Vary.put_len val.size (by omega)
      unfold Span.put
      rw [List.length_append, ba_len]; omega
    have hcat : Hid ((⟨(Vary.put m).toArray⟩ : ByteArray) ++ ⟨(Span.put val.data.toList).toArray⟩ = ⟨(Vary.put m ++ Span.put val.data.toList).toArray⟩) := Lib.hid (ByteArray.ext (by simp))
    go_enter Tryd.func12, Tryd.ntmps12
    go_wp2_with fail
    have q0 := row_at #[.int .i64 t, .int .i64 r, .int .i64 4, .string key, .string val, .int .i64 m] 25 (rfl : w.heap.size = w.heap.size)
    have qb : Below w.heap.size w (w.alloc (Obj.cells #[.int .i64 t, .int .i64 r, .int .i64 4, .string key, .string val, .int .i64 m] 25)) := by (repeat (first | exact Below.refl _ _ | assumption | refine bal ?_ _ | refine bdr ?_ | refine bdn ?_ _ | refine bst ?_ (by first | assumption | exact Nat.le_refl _ | omega) _ | refine bch ?_ (by assumption)))
    generalize w.alloc (Obj.cells #[.int .i64 t, .int .i64 r, .int .i64 4, .string key, .string val, .int .i64 m] 25) = w1 at *
    refine (hR.out _).mono ?_
    rintro e w2 ⟨rfl, hb⟩
    have q1 := q0.below hb
    have c2 := q1.cell 2
    have c4 := q1.cell 4
    have c5 := q1.cell 5
    simp only [List.getElem?_cons_zero, List.getElem?_cons_succ] at c2 c4 c5
    have q2 := Lib.hid q1
    clear q0 q1
    go_wp2_with fail
    refine (hp.out _).mono ?_
    rintro e w3 ⟨rfl, hb3⟩
    have c5 := (q2.out.below hb3).cell 5
    simp only [List.getElem?_cons_zero, List.getElem?_cons_succ] at c5
    clear q2 c2 c4
    go_wp2_with fail
    refine (hz.out _).mono ?_
    rintro e w4 ⟨rfl, hb4⟩
    go_wp2
    go_ret2
    rw [hT.out]
    exact ⟨by rw [← hcat.out]; rfl, by (repeat (first | exact Below.refl _ _ | assumption | refine bal ?_ _ | refine bdr ?_ | refine bdn ?_ _ | refine bst ?_ (by first | assumption | exact Nat.le_refl _ | omega) _ | refine bch ?_ (by assumption)))⟩
end Go.Proofs.YtonblpcbpfhlmaaDoor
