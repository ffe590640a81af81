/- The walk of write.Fill, way by way (printed by wip/bin/gen_fill.py). -/
import Derived.Test.YtognjohloobliaaGreatDoorK08
import Derived.Outline
namespace Go.Proofs.YtognjohloobliaaGreatDoor
open Go.RowKit
set_option linter.unusedVariables false
set_option linter.unusedSimpArgs false
theorem drop_str (s : ByteArray) (j : Nat) : (s.extract j s.size).data.toList = s.data.toList.drop j := by
 rw [ByteArray.data_extract, Array.toList_extract]
 show (s.data.toList.drop j).take (s.size - j) = _
 apply List.take_of_length_le
 rw [List.length_drop, Array.length_toList]
 exact Nat.le_refl _
theorem byWFillW3 {p : Prop} (h : p := by
 clear hb
 have q1 := q0.out
 have r1 := r0.out
 have c0 := q1.cell 0
 have c1 := q1.cell 1
 have c2 := q1.cell 2
 have c3 := q1.cell 3
 have c4 := q1.cell 4
 have c5 := q1.cell 5
 have d0 := r1.cell 0
 have d1 := r1.cell 1
 have d2 := r1.cell 2
 have d3 := r1.cell 3
 have d4 := r1.cell 4
 have d5 := r1.cell 5
 have g0 := r1.frozen 0 (by simp)
 have g1 := r1.frozen 1 (by simp)
 have g2 := r1.frozen 2 (by simp)
 have g3 := r1.frozen 3 (by simp)
 have g4 := r1.frozen 4 (by simp)
 have g5 := r1.frozen 5 (by simp)
 simp only [List.set_cons_succ, List.set_cons_zero, List.getElem?_cons_zero, List.getElem?_cons_succ] at c0 c1 c2 c3 c4 c5 d0 d1 d2 d3 d4 d5
 have f4 := q1.frozen 4 (by simp)
 have f5 := q1.frozen 5 (by simp)
 clear q1 r1
 replace q0 := Lib.hid (q0.out.set 4 (.string ⟨#[]⟩))
 replace r0 := Lib.hid (r0.out.other (p := ⟨w.heap.size, 4, none⟩) (by simp) (.string ⟨#[]⟩))
 go_wp2
 refine bodyPost_ret (v := .tuple #[.agg #[.int .i64 0, .int .i64 0, .int .i64 0, .string ⟨#[]⟩, .string ⟨#[]⟩, .int .i64 0], .int .i64 0, .iface 67 (.int .i64 x)]) (by simp [results, Tryz.results115, go_sem, d0, d1, d2, d3, d4, d5]) rfl ⟨rfl, ?_⟩
 (repeat (first | (with_reducible refine bst ?_ (Nat.le_add_right _ 1) _) | (with_reducible refine bst ?_ (Nat.le_refl _) _))); exact qb) : p := h
set_option maxHeartbeats 2000000 in
set_option maxRecDepth 100000 in
theorem fill_put_e (t r : Int) (key val : ByteArray) (n : Int) (s : ByteArray) (w : World) (hs : s.size ≤ maxLen) (hL : Laid w) (x : Nat) (hg : Span.get s.data.toList = .bad x) :
  Calls Tryz.prog 115 #[.agg #[.int .i64 t, .int .i64 r, .int .i64 1, .string key, .string val, .int .i64 n], .string s] w fun e w' => e = .returned (.tuple #[.agg #[.int .i64 0, .int .i64 0, .int .i64 0, .string ⟨#[]⟩, .string ⟨#[]⟩, .int .i64 0], .int .i64 0, .iface 67 (.int .i64 x)]) ∧ Below w.heap.size w w' := by
 have hG := fun W h => span_get s W hs h
 rw [hg] at hG
 unfold spanVal at hG
 try unfold errno at hG
 replace hG := Lib.hid hG
 clear hg
 go_enter Tryz.func115, Tryz.ntmps115
 go_wp2_with fail
 have q0 := (row_at #[.int .i64 t, .int .i64 r, .int .i64 1, .string key, .string ⟨#[]⟩, .int .i64 0] 33 (rfl : w.heap.size = w.heap.size)).alloc (Obj.cells #[.int .i64 0, .int .i64 0, .int .i64 0, .string ⟨#[]⟩, .string ⟨#[]⟩, .int .i64 0] 33)
 have r0 := row_at #[.int .i64 0, .int .i64 0, .int .i64 0, .string ⟨#[]⟩, .string ⟨#[]⟩, .int .i64 0] 33 (by simp : w.heap.size + 1 = (w.alloc (Obj.cells #[.int .i64 t, .int .i64 r, .int .i64 1, .string key, .string ⟨#[]⟩, .int .i64 0] 33)).heap.size)
 have qb : Below w.heap.size w ((w.alloc (Obj.cells #[.int .i64 t, .int .i64 r, .int .i64 1, .string key, .string ⟨#[]⟩, .int .i64 0] 33)).alloc (Obj.cells #[.int .i64 0, .int .i64 0, .int .i64 0, .string ⟨#[]⟩, .string ⟨#[]⟩, .int .i64 0] 33)) := by exact blw
 generalize (w.alloc (Obj.cells #[.int .i64 t, .int .i64 r, .int .i64 1, .string key, .string ⟨#[]⟩, .int .i64 0] 33)).alloc (Obj.cells #[.int .i64 0, .int .i64 0, .int .i64 0, .string ⟨#[]⟩, .string ⟨#[]⟩, .int .i64 0] 33) = w1 at *
 replace q0 := Lib.hid q0
 replace r0 := Lib.hid r0
 refine (hG.out _ (hL.below qb)).mono ?_
 rintro e w2 ⟨rfl, hb⟩
 replace q0 := Lib.hid (q0.out.below hb)
 replace r0 := Lib.hid (r0.out.below hb)
 replace qb : Below w.heap.size w w2 := by exact blw
 exact byWFillW3
set_option maxHeartbeats 2000000 in
set_option maxRecDepth 100000 in
theorem fill_put_ok (t r : Int) (key val : ByteArray) (n : Int) (s : ByteArray) (w : World) (hs : s.size ≤ maxLen) (hL : Laid w) (v : List UInt8) (j : Nat) (hg : Span.get s.data.toList = .ok v j) (hr : Wr.right (wr t r 1 key ⟨v.toArray⟩ 0) = 0) :
  Calls Tryz.prog 115 #[.agg #[.int .i64 t, .int .i64 r, .int .i64 1, .string key, .string val, .int .i64 n], .string s] w fun e w' => e = .returned (.tuple #[.agg #[.int .i64 t, .int .i64 r, .int .i64 1, .string key, .string ⟨v.toArray⟩, .int .i64 0], .int .i64 j, .nilIface]) ∧ Below w.heap.size w w' := by
 have hG := fun W h => span_get s W hs h
 rw [hg] at hG
 unfold spanVal at hG
 try unfold errno at hG
 replace hG := Lib.hid hG
 clear hg
 have hR := fun W => write_right t r 1 key ⟨v.toArray⟩ 0 W
 rw [hr, errW_ok] at hR
 unfold wrV at hR
 replace hR := Lib.hid hR
 clear hr
 go_enter Tryz.func115, Tryz.ntmps115
 go_wp2_with fail
 have q0 := (row_at #[.int .i64 t, .int .i64 r, .int .i64 1, .string key, .string ⟨#[]⟩, .int .i64 0] 33 (rfl : w.heap.size = w.heap.size)).alloc (Obj.cells #[.int .i64 0, .int .i64 0, .int .i64 0, .string ⟨#[]⟩, .string ⟨#[]⟩, .int .i64 0] 33)
 have r0 := row_at #[.int .i64 0, .int .i64 0, .int .i64 0, .string ⟨#[]⟩, .string ⟨#[]⟩, .int .i64 0] 33 (by simp : w.heap.size + 1 = (w.alloc (Obj.cells #[.int .i64 t, .int .i64 r, .int .i64 1, .string key, .string ⟨#[]⟩, .int .i64 0] 33)).heap.size)
 have qb : Below w.heap.size w ((w.alloc (Obj.cells #[.int .i64 t, .int .i64 r, .int .i64 1, .string key, .string ⟨#[]⟩, .int .i64 0] 33)).alloc (Obj.cells #[.int .i64 0, .int .i64 0, .int .i64 0, .string ⟨#[]⟩, .string ⟨#[]⟩, .int .i64 0] 33)) := by exact blw
 generalize (w.alloc (Obj.cells #[.int .i64 t, .int .i64 r, .int .i64 1, .string key, .string ⟨#[]⟩, .int .i64 0] 33)).alloc (Obj.cells #[.int .i64 0, .int .i64 0, .int .i64 0, .string ⟨#[]⟩, .string ⟨#[]⟩, .int .i64 0] 33) = w1 at *
 replace q0 := Lib.hid q0
 replace r0 := Lib.hid r0
 refine (hG.out _ (hL.below qb)).mono ?_
 rintro e w2 ⟨rfl, hb⟩
 replace q0 := Lib.hid (q0.out.below hb)
 replace r0 := Lib.hid (r0.out.below hb)
 replace qb : Below w.heap.size w w2 := by exact blw
 clear hb
 have q1 := q0.out
 have r1 := r0.out
 have c0 := q1.cell 0
 have c1 := q1.cell 1
 have c2 := q1.cell 2
 have c3 := q1.cell 3
 have c4 := q1.cell 4
 have c5 := q1.cell 5
 simp only [List.set_cons_succ, List.set_cons_zero, List.getElem?_cons_zero, List.getElem?_cons_succ] at c0 c1 c2 c3 c4 c5
 have f4 := q1.frozen 4 (by simp)
 have f5 := q1.frozen 5 (by simp)
 clear q1 r1
 replace q0 := Lib.hid (q0.out.set 4 (.string ⟨v.toArray⟩))
 replace r0 := Lib.hid (r0.out.other (p := ⟨w.heap.size, 4, none⟩) (by simp) (.string ⟨v.toArray⟩))
 go_wp2_with fail
 clear c0 c1 c2 c3 c4 c5 f4 f5
 replace qb : Below w.heap.size w (w2.setCell ⟨w.heap.size, 4, none⟩ (.string ⟨v.toArray⟩)) := by exact blw
 refine (hR.out _).mono ?_
 rintro e w3 ⟨rfl, hb⟩
 replace q0 := Lib.hid (q0.out.below hb)
 replace r0 := Lib.hid (r0.out.below hb)
 replace qb : Below w.heap.size w w3 := by exact blw
 clear hb
 have q1 := q0.out
 have r1 := r0.out
 have c0 := q1.cell 0
 have c1 := q1.cell 1
 have c2 := q1.cell 2
 have c3 := q1.cell 3
 have c4 := q1.cell 4
 have c5 := q1.cell 5
 have d0 := r1.cell 0
 have d1 := r1.cell 1
 have d2 := r1.cell 2
 have d3 := r1.cell 3
 have d4 := r1.cell 4
 have d5 := r1.cell 5
 have g0 := r1.frozen 0 (by simp)
 have g1 := r1.frozen 1 (by simp)
 have g2 := r1.frozen 2 (by simp)
 have g3 := r1.frozen 3 (by simp)
 have g4 := r1.frozen 4 (by simp)
 have g5 := r1.frozen 5 (by simp)
 simp only [List.set_cons_succ, List.set_cons_zero, List.getElem?_cons_zero, List.getElem?_cons_succ] at c0 c1 c2 c3 c4 c5 d0 d1 d2 d3 d4 d5
 have f4 := q1.frozen 4 (by simp)
 have f5 := q1.frozen 5 (by simp)
 clear q1 r1
 go_wp2
 refine bodyPost_ret (v := .tuple #[.agg #[.int .i64 t, .int .i64 r, .int .i64 1, .string key, .string ⟨v.toArray⟩, .int .i64 0], .int .i64 j, .nilIface]) (by simp [results, Tryz.results115, go_sem, d0, d1, d2, d3, d4, d5]) rfl ⟨rfl, ?_⟩
 (repeat (first | (with_reducible refine bst ?_ (Nat.le_add_right _ 1) _) | (with_reducible refine bst ?_ (Nat.le_refl _) _))); exact qb
theorem byWFillW1 {p : Prop} (h : p := by
 clear hb
 have q1 := q0.out
 have r1 := r0.out
 have c0 := q1.cell 0
 have c1 := q1.cell 1
 have c2 := q1.cell 2
 have c3 := q1.cell 3
 have c4 := q1.cell 4
 have c5 := q1.cell 5
 have d0 := r1.cell 0
 have d1 := r1.cell 1
 have d2 := r1.cell 2
 have d3 := r1.cell 3
 have d4 := r1.cell 4
 have d5 := r1.cell 5
 have g0 := r1.frozen 0 (by simp)
 have g1 := r1.frozen 1 (by simp)
 have g2 := r1.frozen 2 (by simp)
 have g3 := r1.frozen 3 (by simp)
 have g4 := r1.frozen 4 (by simp)
 have g5 := r1.frozen 5 (by simp)
 simp only [List.set_cons_succ, List.set_cons_zero, List.getElem?_cons_zero, List.getElem?_cons_succ] at c0 c1 c2 c3 c4 c5 d0 d1 d2 d3 d4 d5
 have f4 := q1.frozen 4 (by simp)
 have f5 := q1.frozen 5 (by simp)
 clear q1 r1
 go_wp2
 refine bodyPost_ret (v := .tuple #[.agg #[.int .i64 0, .int .i64 0, .int .i64 0, .string ⟨#[]⟩, .string ⟨#[]⟩, .int .i64 0], .int .i64 0, .iface 67 (.int .i64 c)]) (by simp [results, Tryz.results115, go_sem, d0, d1, d2, d3, d4, d5]) rfl ⟨rfl, ?_⟩
 (repeat (first | (with_reducible refine bst ?_ (Nat.le_add_right _ 1) _) | (with_reducible refine bst ?_ (Nat.le_refl _) _))); exact qb) : p := h
set_option maxHeartbeats 2000000 in
set_option maxRecDepth 100000 in
theorem fill_put_no (t r : Int) (key val : ByteArray) (n : Int) (s : ByteArray) (w : World) (hs : s.size ≤ maxLen) (hL : Laid w) (v : List UInt8) (j : Nat) (hg : Span.get s.data.toList = .ok v j) (c : Nat) (hc : c ≠ 0) (hr : Wr.right (wr t r 1 key ⟨v.toArray⟩ 0) = c) :
  Calls Tryz.prog 115 #[.agg #[.int .i64 t, .int .i64 r, .int .i64 1, .string key, .string val, .int .i64 n], .string s] w fun e w' => e = .returned (.tuple #[.agg #[.int .i64 0, .int .i64 0, .int .i64 0, .string ⟨#[]⟩, .string ⟨#[]⟩, .int .i64 0], .int .i64 0, .iface 67 (.int .i64 c)]) ∧ Below w.heap.size w w' := by
 have hG := fun W h => span_get s W hs h
 rw [hg] at hG
 unfold spanVal at hG
 try unfold errno at hG
 replace hG := Lib.hid hG
 clear hg
 have hR := fun W => write_right t r 1 key ⟨v.toArray⟩ 0 W
 rw [hr, errW_no hc] at hR
 unfold wrV at hR
 replace hR := Lib.hid hR
 clear hr
 go_enter Tryz.func115, Tryz.ntmps115
 go_wp2_with fail
 have q0 := (row_at #[.int .i64 t, .int .i64 r, .int .i64 1, .string key, .string ⟨#[]⟩, .int .i64 0] 33 (rfl : w.heap.size = w.heap.size)).alloc (Obj.cells #[.int .i64 0, .int .i64 0, .int .i64 0, .string ⟨#[]⟩, .string ⟨#[]⟩, .int .i64 0] 33)
 have r0 := row_at #[.int .i64 0, .int .i64 0, .int .i64 0, .string ⟨#[]⟩, .string ⟨#[]⟩, .int .i64 0] 33 (by simp : w.heap.size + 1 = (w.alloc (Obj.cells #[.int .i64 t, .int .i64 r, .int .i64 1, .string key, .string ⟨#[]⟩, .int .i64 0] 33)).heap.size)
 have qb : Below w.heap.size w ((w.alloc (Obj.cells #[.int .i64 t, .int .i64 r, .int .i64 1, .string key, .string ⟨#[]⟩, .int .i64 0] 33)).alloc (Obj.cells #[.int .i64 0, .int .i64 0, .int .i64 0, .string ⟨#[]⟩, .string ⟨#[]⟩, .int .i64 0] 33)) := by exact blw
 generalize (w.alloc (Obj.cells #[.int .i64 t, .int .i64 r, .int .i64 1, .string key, .string ⟨#[]⟩, .int .i64 0] 33)).alloc (Obj.cells #[.int .i64 0, .int .i64 0, .int .i64 0, .string ⟨#[]⟩, .string ⟨#[]⟩, .int .i64 0] 33) = w1 at *
 replace q0 := Lib.hid q0
 replace r0 := Lib.hid r0
 refine (hG.out _ (hL.below qb)).mono ?_
 rintro e w2 ⟨rfl, hb⟩
 replace q0 := Lib.hid (q0.out.below hb)
 replace r0 := Lib.hid (r0.out.below hb)
 replace qb : Below w.heap.size w w2 := by exact blw
 clear hb
 have q1 := q0.out
 have r1 := r0.out
 have c0 := q1.cell 0
 have c1 := q1.cell 1
 have c2 := q1.cell 2
 have c3 := q1.cell 3
 have c4 := q1.cell 4
 have c5 := q1.cell 5
 simp only [List.set_cons_succ, List.set_cons_zero, List.getElem?_cons_zero, List.getElem?_cons_succ] at c0 c1 c2 c3 c4 c5
 have f4 := q1.frozen 4 (by simp)
 have f5 := q1.frozen 5 (by simp)
 clear q1 r1
 replace q0 := Lib.hid (q0.out.set 4 (.string ⟨v.toArray⟩))
 replace r0 := Lib.hid (r0.out.other (p := ⟨w.heap.size, 4, none⟩) (by simp) (.string ⟨v.toArray⟩))
 go_wp2_with fail
 clear c0 c1 c2 c3 c4 c5 f4 f5
 replace qb : Below w.heap.size w (w2.setCell ⟨w.heap.size, 4, none⟩ (.string ⟨v.toArray⟩)) := by exact blw
 refine (hR.out _).mono ?_
 rintro e w3 ⟨rfl, hb⟩
 replace q0 := Lib.hid (q0.out.below hb)
 replace r0 := Lib.hid (r0.out.below hb)
 replace qb : Below w.heap.size w w3 := by exact blw
 exact byWFillW1
theorem byWFillW2 {p : Prop} (h : p := by
 rintro e wx ⟨rfl, rfl⟩
 have q1 := q0.out
 have r1 := r0.out
 have c0 := q1.cell 0
 have c1 := q1.cell 1
 have c2 := q1.cell 2
 have c3 := q1.cell 3
 have c4 := q1.cell 4
 have c5 := q1.cell 5
 have d0 := r1.cell 0
 have d1 := r1.cell 1
 have d2 := r1.cell 2
 have d3 := r1.cell 3
 have d4 := r1.cell 4
 have d5 := r1.cell 5
 have g0 := r1.frozen 0 (by simp)
 have g1 := r1.frozen 1 (by simp)
 have g2 := r1.frozen 2 (by simp)
 have g3 := r1.frozen 3 (by simp)
 have g4 := r1.frozen 4 (by simp)
 have g5 := r1.frozen 5 (by simp)
 simp only [List.set_cons_succ, List.set_cons_zero, List.getElem?_cons_zero, List.getElem?_cons_succ] at c0 c1 c2 c3 c4 c5 d0 d1 d2 d3 d4 d5
 have f4 := q1.frozen 4 (by simp)
 have f5 := q1.frozen 5 (by simp)
 clear q1 r1
 replace q0 := Lib.hid (q0.out.set 5 (.int .i64 0))
 replace r0 := Lib.hid (r0.out.other (p := ⟨w.heap.size, 5, none⟩) (by simp) (.int .i64 0))
 go_wp2
 refine bodyPost_ret (v := .tuple #[.agg #[.int .i64 0, .int .i64 0, .int .i64 0, .string ⟨#[]⟩, .string ⟨#[]⟩, .int .i64 0], .int .i64 0, .iface 67 (.int .i64 x)]) (by simp [results, Tryz.results115, go_sem, d0, d1, d2, d3, d4, d5]) rfl ⟨rfl, ?_⟩
 (repeat (first | (with_reducible refine bst ?_ (Nat.le_add_right _ 1) _) | (with_reducible refine bst ?_ (Nat.le_refl _) _))); exact qb) : p := h
set_option maxHeartbeats 2000000 in
set_option maxRecDepth 100000 in
theorem fill_add_e (t r : Int) (key val : ByteArray) (n : Int) (s : ByteArray) (w : World) (hs : s.size ≤ maxLen) (hL : Laid w) (x : Nat) (hg : Vary.get s.data.toList = .bad x) :
  Calls Tryz.prog 115 #[.agg #[.int .i64 t, .int .i64 r, .int .i64 3, .string key, .string val, .int .i64 n], .string s] w fun e w' => e = .returned (.tuple #[.agg #[.int .i64 0, .int .i64 0, .int .i64 0, .string ⟨#[]⟩, .string ⟨#[]⟩, .int .i64 0], .int .i64 0, .iface 67 (.int .i64 x)]) ∧ Below w.heap.size w w' := by
 have hG := fun W => vary_get s W hs
 rw [hg] at hG
 unfold gotVal at hG
 unfold errno at hG
 replace hG := Lib.hid hG
 clear hg
 have hZ := fun W => vary_zag 0 W (by omega)
 rw [show Vary.zag 0 = 0 from rfl] at hZ
 replace hZ := Lib.hid hZ
 go_enter Tryz.func115, Tryz.ntmps115
 go_wp2_with fail
 have q0 := (row_at #[.int .i64 t, .int .i64 r, .int .i64 3, .string key, .string ⟨#[]⟩, .int .i64 0] 33 (rfl : w.heap.size = w.heap.size)).alloc (Obj.cells #[.int .i64 0, .int .i64 0, .int .i64 0, .string ⟨#[]⟩, .string ⟨#[]⟩, .int .i64 0] 33)
 have r0 := row_at #[.int .i64 0, .int .i64 0, .int .i64 0, .string ⟨#[]⟩, .string ⟨#[]⟩, .int .i64 0] 33 (by simp : w.heap.size + 1 = (w.alloc (Obj.cells #[.int .i64 t, .int .i64 r, .int .i64 3, .string key, .string ⟨#[]⟩, .int .i64 0] 33)).heap.size)
 have qb : Below w.heap.size w ((w.alloc (Obj.cells #[.int .i64 t, .int .i64 r, .int .i64 3, .string key, .string ⟨#[]⟩, .int .i64 0] 33)).alloc (Obj.cells #[.int .i64 0, .int .i64 0, .int .i64 0, .string ⟨#[]⟩, .string ⟨#[]⟩, .int .i64 0] 33)) := by exact blw
 generalize (w.alloc (Obj.cells #[.int .i64 t, .int .i64 r, .int .i64 3, .string key, .string ⟨#[]⟩, .int .i64 0] 33)).alloc (Obj.cells #[.int .i64 0, .int .i64 0, .int .i64 0, .string ⟨#[]⟩, .string ⟨#[]⟩, .int .i64 0] 33) = w1 at *
 replace q0 := Lib.hid q0
 replace r0 := Lib.hid r0
 refine (hG.out _).mono ?_
 rintro e wx ⟨rfl, rfl⟩
 have q1 := q0.out
 have r1 := r0.out
 have c0 := q1.cell 0
 have c1 := q1.cell 1
 have c2 := q1.cell 2
 have c3 := q1.cell 3
 have c4 := q1.cell 4
 have c5 := q1.cell 5
 simp only [List.set_cons_succ, List.set_cons_zero, List.getElem?_cons_zero, List.getElem?_cons_succ] at c0 c1 c2 c3 c4 c5
 have f4 := q1.frozen 4 (by simp)
 have f5 := q1.frozen 5 (by simp)
 clear q1 r1
 go_wp2_with fail
 clear c0 c1 c2 c3 c4 c5 f4 f5
 refine (hZ.out _).mono ?_
 exact byWFillW2
set_option maxHeartbeats 2000000 in
set_option maxRecDepth 100000 in
theorem fill_add_ok (t r : Int) (key val : ByteArray) (n : Int) (s : ByteArray) (w : World) (hs : s.size ≤ maxLen) (hL : Laid w) (u j : Nat) (hg : Vary.get s.data.toList = .ok u j) (hu : u < 18446744073709551616) (hr : Wr.right (wr t r 3 key ⟨#[]⟩ (Vary.zag u)) = 0) :
  Calls Tryz.prog 115 #[.agg #[.int .i64 t, .int .i64 r, .int .i64 3, .string key, .string val, .int .i64 n], .string s] w fun e w' => e = .returned (.tuple #[.agg #[.int .i64 t, .int .i64 r, .int .i64 3, .string key, .string ⟨#[]⟩, .int .i64 (Vary.zag u)], .int .i64 j, .nilIface]) ∧ Below w.heap.size w w' := by
 have hG := fun W => vary_get s W hs
 rw [hg] at hG
 unfold gotVal at hG
 replace hG := Lib.hid hG
 clear hg
 have hZ := fun W => vary_zag u W hu
 replace hZ := Lib.hid hZ
 clear hu
 have hR := fun W => write_right t r 3 key ⟨#[]⟩ (Vary.zag u) W
 rw [hr, errW_ok] at hR
 unfold wrV at hR
 replace hR := Lib.hid hR
 clear hr
 go_enter Tryz.func115, Tryz.ntmps115
 go_wp2_with fail
 have q0 := (row_at #[.int .i64 t, .int .i64 r, .int .i64 3, .string key, .string ⟨#[]⟩, .int .i64 0] 33 (rfl : w.heap.size = w.heap.size)).alloc (Obj.cells #[.int .i64 0, .int .i64 0, .int .i64 0, .string ⟨#[]⟩, .string ⟨#[]⟩, .int .i64 0] 33)
 have r0 := row_at #[.int .i64 0, .int .i64 0, .int .i64 0, .string ⟨#[]⟩, .string ⟨#[]⟩, .int .i64 0] 33 (by simp : w.heap.size + 1 = (w.alloc (Obj.cells #[.int .i64 t, .int .i64 r, .int .i64 3, .string key, .string ⟨#[]⟩, .int .i64 0] 33)).heap.size)
 have qb : Below w.heap.size w ((w.alloc (Obj.cells #[.int .i64 t, .int .i64 r, .int .i64 3, .string key, .string ⟨#[]⟩, .int .i64 0] 33)).alloc (Obj.cells #[.int .i64 0, .int .i64 0, .int .i64 0, .string ⟨#[]⟩, .string ⟨#[]⟩, .int .i64 0] 33)) := by exact blw
 generalize (w.alloc (Obj.cells #[.int .i64 t, .int .i64 r, .int .i64 3, .string key, .string ⟨#[]⟩, .int .i64 0] 33)).alloc (Obj.cells #[.int .i64 0, .int .i64 0, .int .i64 0, .string ⟨#[]⟩, .string ⟨#[]⟩, .int .i64 0] 33) = w1 at *
 replace q0 := Lib.hid q0
 replace r0 := Lib.hid r0
 refine (hG.out _).mono ?_
 rintro e wx ⟨rfl, rfl⟩
 have q1 := q0.out
 have r1 := r0.out
 have c0 := q1.cell 0
 have c1 := q1.cell 1
 have c2 := q1.cell 2
 have c3 := q1.cell 3
 have c4 := q1.cell 4
 have c5 := q1.cell 5
 simp only [List.set_cons_succ, List.set_cons_zero, List.getElem?_cons_zero, List.getElem?_cons_succ] at c0 c1 c2 c3 c4 c5
 have f4 := q1.frozen 4 (by simp)
 have f5 := q1.frozen 5 (by simp)
 clear q1 r1
 go_wp2_with fail
 clear c0 c1 c2 c3 c4 c5 f4 f5
 refine (hZ.out _).mono ?_
 rintro e wx ⟨rfl, rfl⟩
 have q1 := q0.out
 have r1 := r0.out
 have c0 := q1.cell 0
 have c1 := q1.cell 1
 have c2 := q1.cell 2
 have c3 := q1.cell 3
 have c4 := q1.cell 4
 have c5 := q1.cell 5
 simp only [List.set_cons_succ, List.set_cons_zero, List.getElem?_cons_zero, List.getElem?_cons_succ] at c0 c1 c2 c3 c4 c5
 have f4 := q1.frozen 4 (by simp)
 have f5 := q1.frozen 5 (by simp)
 clear q1 r1
 replace q0 := Lib.hid (q0.out.set 5 (.int .i64 (Vary.zag u)))
 replace r0 := Lib.hid (r0.out.other (p := ⟨w.heap.size, 5, none⟩) (by simp) (.int .i64 (Vary.zag u)))
 go_wp2_with fail
 clear c0 c1 c2 c3 c4 c5 f4 f5
 replace qb : Below w.heap.size w (w1.setCell ⟨w.heap.size, 5, none⟩ (.int .i64 (Vary.zag u))) := by exact blw
 refine (hR.out _).mono ?_
 rintro e w4 ⟨rfl, hb⟩
 replace q0 := Lib.hid (q0.out.below hb)
 replace r0 := Lib.hid (r0.out.below hb)
 replace qb : Below w.heap.size w w4 := by exact blw
 clear hb
 have q1 := q0.out
 have r1 := r0.out
 have c0 := q1.cell 0
 have c1 := q1.cell 1
 have c2 := q1.cell 2
 have c3 := q1.cell 3
 have c4 := q1.cell 4
 have c5 := q1.cell 5
 have d0 := r1.cell 0
 have d1 := r1.cell 1
 have d2 := r1.cell 2
 have d3 := r1.cell 3
 have d4 := r1.cell 4
 have d5 := r1.cell 5
 have g0 := r1.frozen 0 (by simp)
 have g1 := r1.frozen 1 (by simp)
 have g2 := r1.frozen 2 (by simp)
 have g3 := r1.frozen 3 (by simp)
 have g4 := r1.frozen 4 (by simp)
 have g5 := r1.frozen 5 (by simp)
 simp only [List.set_cons_succ, List.set_cons_zero, List.getElem?_cons_zero, List.getElem?_cons_succ] at c0 c1 c2 c3 c4 c5 d0 d1 d2 d3 d4 d5
 have f4 := q1.frozen 4 (by simp)
 have f5 := q1.frozen 5 (by simp)
 clear q1 r1
 go_wp2
 refine bodyPost_ret (v := .tuple #[.agg #[.int .i64 t, .int .i64 r, .int .i64 3, .string key, .string ⟨#[]⟩, .int .i64 (Vary.zag u)], .int .i64 j, .nilIface]) (by simp [results, Tryz.results115, go_sem, d0, d1, d2, d3, d4, d5]) rfl ⟨rfl, ?_⟩
 (repeat (first | (with_reducible refine bst ?_ (Nat.le_add_right _ 1) _) | (with_reducible refine bst ?_ (Nat.le_refl _) _))); exact qb
set_option maxHeartbeats 2000000 in
set_option maxRecDepth 100000 in
theorem fill_add_no (t r : Int) (key val : ByteArray) (n : Int) (s : ByteArray) (w : World) (hs : s.size ≤ maxLen) (hL : Laid w) (u j : Nat) (hg : Vary.get s.data.toList = .ok u j) (hu : u < 18446744073709551616) (c : Nat) (hc : c ≠ 0) (hr : Wr.right (wr t r 3 key ⟨#[]⟩ (Vary.zag u)) = c) :
  Calls Tryz.prog 115 #[.agg #[.int .i64 t, .int .i64 r, .int .i64 3, .string key, .string val, .int .i64 n], .string s] w fun e w' => e = .returned (.tuple #[.agg #[.int .i64 0, .int .i64 0, .int .i64 0, .string ⟨#[]⟩, .string ⟨#[]⟩, .int .i64 0], .int .i64 0, .iface 67 (.int .i64 c)]) ∧ Below w.heap.size w w' := by
 have hG := fun W => vary_get s W hs
 rw [hg] at hG
 unfold gotVal at hG
 replace hG := Lib.hid hG
 clear hg
 have hZ := fun W => vary_zag u W hu
 replace hZ := Lib.hid hZ
 clear hu
 have hR := fun W => write_right t r 3 key ⟨#[]⟩ (Vary.zag u) W
 rw [hr, errW_no hc] at hR
 unfold wrV at hR
 replace hR := Lib.hid hR
 clear hr
 go_enter Tryz.func115, Tryz.ntmps115
 go_wp2_with fail
 have q0 := (row_at #[.int .i64 t, .int .i64 r, .int .i64 3, .string key, .string ⟨#[]⟩, .int .i64 0] 33 (rfl : w.heap.size = w.heap.size)).alloc (Obj.cells #[.int .i64 0, .int .i64 0, .int .i64 0, .string ⟨#[]⟩, .string ⟨#[]⟩, .int .i64 0] 33)
 have r0 := row_at #[.int .i64 0, .int .i64 0, .int .i64 0, .string ⟨#[]⟩, .string ⟨#[]⟩, .int .i64 0] 33 (by simp : w.heap.size + 1 = (w.alloc (Obj.cells #[.int .i64 t, .int .i64 r, .int .i64 3, .string key, .string ⟨#[]⟩, .int .i64 0] 33)).heap.size)
 have qb : Below w.heap.size w ((w.alloc (Obj.cells #[.int .i64 t, .int .i64 r, .int .i64 3, .string key, .string ⟨#[]⟩, .int .i64 0] 33)).alloc (Obj.cells #[.int .i64 0, .int .i64 0, .int .i64 0, .string ⟨#[]⟩, .string ⟨#[]⟩, .int .i64 0] 33)) := by exact blw
 generalize (w.alloc (Obj.cells #[.int .i64 t, .int .i64 r, .int .i64 3, .string key, .string ⟨#[]⟩, .int .i64 0] 33)).alloc (Obj.cells #[.int .i64 0, .int .i64 0, .int .i64 0, .string ⟨#[]⟩, .string ⟨#[]⟩, .int .i64 0] 33) = w1 at *
 replace q0 := Lib.hid q0
 replace r0 := Lib.hid r0
 refine (hG.out _).mono ?_
 rintro e wx ⟨rfl, rfl⟩
 have q1 := q0.out
 have r1 := r0.out
 have c0 := q1.cell 0
 have c1 := q1.cell 1
 have c2 := q1.cell 2
 have c3 := q1.cell 3
 have c4 := q1.cell 4
 have c5 := q1.cell 5
 simp only [List.set_cons_succ, List.set_cons_zero, List.getElem?_cons_zero, List.getElem?_cons_succ] at c0 c1 c2 c3 c4 c5
 have f4 := q1.frozen 4 (by simp)
 have f5 := q1.frozen 5 (by simp)
 clear q1 r1
 go_wp2_with fail
 clear c0 c1 c2 c3 c4 c5 f4 f5
 refine (hZ.out _).mono ?_
 rintro e wx ⟨rfl, rfl⟩
 have q1 := q0.out
 have r1 := r0.out
 have c0 := q1.cell 0
 have c1 := q1.cell 1
 have c2 := q1.cell 2
 have c3 := q1.cell 3
 have c4 := q1.cell 4
 have c5 := q1.cell 5
 simp only [List.set_cons_succ, List.set_cons_zero, List.getElem?_cons_zero, List.getElem?_cons_succ] at c0 c1 c2 c3 c4 c5
 have f4 := q1.frozen 4 (by simp)
 have f5 := q1.frozen 5 (by simp)
 clear q1 r1
 replace q0 := Lib.hid (q0.out.set 5 (.int .i64 (Vary.zag u)))
 replace r0 := Lib.hid (r0.out.other (p := ⟨w.heap.size, 5, none⟩) (by simp) (.int .i64 (Vary.zag u)))
 go_wp2_with fail
 clear c0 c1 c2 c3 c4 c5 f4 f5
 replace qb : Below w.heap.size w (w1.setCell ⟨w.heap.size, 5, none⟩ (.int .i64 (Vary.zag u))) := by exact blw
 refine (hR.out _).mono ?_
 rintro e w4 ⟨rfl, hb⟩
 replace q0 := Lib.hid (q0.out.below hb)
 replace r0 := Lib.hid (r0.out.below hb)
 replace qb : Below w.heap.size w w4 := by exact blw
 exact byWFillW1
set_option maxHeartbeats 2000000 in
set_option maxRecDepth 100000 in
theorem fill_ins_e (t r : Int) (key val : ByteArray) (n : Int) (s : ByteArray) (w : World) (hs : s.size ≤ maxLen) (hL : Laid w) (x : Nat) (hg : Vary.int s.data.toList 1000 = .bad x) :
  Calls Tryz.prog 115 #[.agg #[.int .i64 t, .int .i64 r, .int .i64 4, .string key, .string val, .int .i64 n], .string s] w fun e w' => e = .returned (.tuple #[.agg #[.int .i64 0, .int .i64 0, .int .i64 0, .string ⟨#[]⟩, .string ⟨#[]⟩, .int .i64 0], .int .i64 0, .iface 67 (.int .i64 x)]) ∧ Below w.heap.size w w' := by
 have hG := fun W => vary_int s 1000 W hs (by omega)
 rw [hg] at hG
 unfold intVal at hG
 try unfold errno at hG
 replace hG := Lib.hid hG
 clear hg
 go_enter Tryz.func115, Tryz.ntmps115
 go_wp2_with fail
 have q0 := (row_at #[.int .i64 t, .int .i64 r, .int .i64 4, .string key, .string ⟨#[]⟩, .int .i64 0] 33 (rfl : w.heap.size = w.heap.size)).alloc (Obj.cells #[.int .i64 0, .int .i64 0, .int .i64 0, .string ⟨#[]⟩, .string ⟨#[]⟩, .int .i64 0] 33)
 have r0 := row_at #[.int .i64 0, .int .i64 0, .int .i64 0, .string ⟨#[]⟩, .string ⟨#[]⟩, .int .i64 0] 33 (by simp : w.heap.size + 1 = (w.alloc (Obj.cells #[.int .i64 t, .int .i64 r, .int .i64 4, .string key, .string ⟨#[]⟩, .int .i64 0] 33)).heap.size)
 have qb : Below w.heap.size w ((w.alloc (Obj.cells #[.int .i64 t, .int .i64 r, .int .i64 4, .string key, .string ⟨#[]⟩, .int .i64 0] 33)).alloc (Obj.cells #[.int .i64 0, .int .i64 0, .int .i64 0, .string ⟨#[]⟩, .string ⟨#[]⟩, .int .i64 0] 33)) := by exact blw
 generalize (w.alloc (Obj.cells #[.int .i64 t, .int .i64 r, .int .i64 4, .string key, .string ⟨#[]⟩, .int .i64 0] 33)).alloc (Obj.cells #[.int .i64 0, .int .i64 0, .int .i64 0, .string ⟨#[]⟩, .string ⟨#[]⟩, .int .i64 0] 33) = w1 at *
 replace q0 := Lib.hid q0
 replace r0 := Lib.hid r0
 refine (hG.out _).mono ?_
 exact byWFillW2
set_option maxHeartbeats 2000000 in
set_option maxRecDepth 100000 in
theorem fill_ins_e2 (t r : Int) (key val : ByteArray) (n : Int) (s : ByteArray) (w : World) (hs : s.size ≤ maxLen) (hL : Laid w) (m j : Nat) (hg : Vary.int s.data.toList 1000 = .ok m j) (hj : j ≤ s.size) (x : Nat) (hg2 : Span.get (s.data.toList.drop j) = .bad x) :
  Calls Tryz.prog 115 #[.agg #[.int .i64 t, .int .i64 r, .int .i64 4, .string key, .string val, .int .i64 n], .string s] w fun e w' => e = .returned (.tuple #[.agg #[.int .i64 0, .int .i64 0, .int .i64 0, .string ⟨#[]⟩, .string ⟨#[]⟩, .int .i64 0], .int .i64 0, .iface 67 (.int .i64 x)]) ∧ Below w.heap.size w w' := by
 have hG := fun W => vary_int s 1000 W hs (by omega)
 rw [hg] at hG
 unfold intVal at hG
 replace hG := Lib.hid hG
 clear hg
 have hj1 : j ≤ s.size := hj
 have hS : ∀ W, Laid W → Calls Tryz.prog 112 #[.string (s.extract j s.size)] W fun e w' => e = .returned (spanVal (Span.get (s.data.toList.drop j))) ∧ Below W.heap.size W w' := fun W h => by
  have := span_get (s.extract j s.size) W (by simp [ByteArray.size_extract]; omega) h
  rw [drop_str s j] at this
  exact this
 rw [hg2] at hS
 unfold spanVal at hS
 try unfold errno at hS
 replace hS := Lib.hid hS
 replace hj1 := Lib.hid hj1
 clear hg2
 go_enter Tryz.func115, Tryz.ntmps115
 go_wp2_with fail
 have q0 := (row_at #[.int .i64 t, .int .i64 r, .int .i64 4, .string key, .string ⟨#[]⟩, .int .i64 0] 33 (rfl : w.heap.size = w.heap.size)).alloc (Obj.cells #[.int .i64 0, .int .i64 0, .int .i64 0, .string ⟨#[]⟩, .string ⟨#[]⟩, .int .i64 0] 33)
 have r0 := row_at #[.int .i64 0, .int .i64 0, .int .i64 0, .string ⟨#[]⟩, .string ⟨#[]⟩, .int .i64 0] 33 (by simp : w.heap.size + 1 = (w.alloc (Obj.cells #[.int .i64 t, .int .i64 r, .int .i64 4, .string key, .string ⟨#[]⟩, .int .i64 0] 33)).heap.size)
 have qb : Below w.heap.size w ((w.alloc (Obj.cells #[.int .i64 t, .int .i64 r, .int .i64 4, .string key, .string ⟨#[]⟩, .int .i64 0] 33)).alloc (Obj.cells #[.int .i64 0, .int .i64 0, .int .i64 0, .string ⟨#[]⟩, .string ⟨#[]⟩, .int .i64 0] 33)) := by exact blw
 generalize (w.alloc (Obj.cells #[.int .i64 t, .int .i64 r, .int .i64 4, .string key, .string ⟨#[]⟩, .int .i64 0] 33)).alloc (Obj.cells #[.int .i64 0, .int .i64 0, .int .i64 0, .string ⟨#[]⟩, .string ⟨#[]⟩, .int .i64 0] 33) = w1 at *
 replace q0 := Lib.hid q0
 replace r0 := Lib.hid r0
 refine (hG.out _).mono ?_
 rintro e wx ⟨rfl, rfl⟩
 have q1 := q0.out
 have r1 := r0.out
 have c0 := q1.cell 0
 have c1 := q1.cell 1
 have c2 := q1.cell 2
 have c3 := q1.cell 3
 have c4 := q1.cell 4
 have c5 := q1.cell 5
 simp only [List.set_cons_succ, List.set_cons_zero, List.getElem?_cons_zero, List.getElem?_cons_succ] at c0 c1 c2 c3 c4 c5
 have f4 := q1.frozen 4 (by simp)
 have f5 := q1.frozen 5 (by simp)
 clear q1 r1
 replace q0 := Lib.hid (q0.out.set 5 (.int .i64 m))
 replace r0 := Lib.hid (r0.out.other (p := ⟨w.heap.size, 5, none⟩) (by simp) (.int .i64 m))
 go_wp2_with fail
 clear c0 c1 c2 c3 c4 c5 f4 f5
 replace qb : Below w.heap.size w (w1.setCell ⟨w.heap.size, 5, none⟩ (.int .i64 m)) := by exact blw
 refine (hS.out _ (hL.below qb)).mono ?_
 rintro e w3 ⟨rfl, hb⟩
 replace q0 := Lib.hid (q0.out.below hb)
 replace r0 := Lib.hid (r0.out.below hb)
 replace qb : Below w.heap.size w w3 := by exact blw
 exact byWFillW3
set_option maxHeartbeats 2000000 in
set_option maxRecDepth 100000 in
theorem fill_ins_ok (t r : Int) (key val : ByteArray) (n : Int) (s : ByteArray) (w : World) (hs : s.size ≤ maxLen) (hL : Laid w) (m j : Nat) (hg : Vary.int s.data.toList 1000 = .ok m j) (hj : j ≤ s.size) (v : List UInt8) (i : Nat) (hg2 : Span.get (s.data.toList.drop j) = .ok v i) (hi : j + i ≤ s.size) (hr : Wr.right (wr t r 4 key ⟨v.toArray⟩ m) = 0) :
  Calls Tryz.prog 115 #[.agg #[.int .i64 t, .int .i64 r, .int .i64 4, .string key, .string val, .int .i64 n], .string s] w fun e w' => e = .returned (.tuple #[.agg #[.int .i64 t, .int .i64 r, .int .i64 4, .string key, .string ⟨v.toArray⟩, .int .i64 m], .int .i64 (j + i : Nat), .nilIface]) ∧ Below w.heap.size w w' := by
 have hs' := hs
 unfold maxLen at hs'
 have hG := fun W => vary_int s 1000 W hs (by omega)
 rw [hg] at hG
 unfold intVal at hG
 replace hG := Lib.hid hG
 clear hg
 have hj1 : j ≤ s.size := hj
 have hS : ∀ W, Laid W → Calls Tryz.prog 112 #[.string (s.extract j s.size)] W fun e w' => e = .returned (spanVal (Span.get (s.data.toList.drop j))) ∧ Below W.heap.size W w' := fun W h => by
  have := span_get (s.extract j s.size) W (by simp [ByteArray.size_extract]; omega) h
  rw [drop_str s j] at this
  exact this
 rw [hg2] at hS
 unfold spanVal at hS
 try unfold errno at hS
 replace hS := Lib.hid hS
 replace hj1 := Lib.hid hj1
 clear hg2
 have hR := fun W => write_right t r 4 key ⟨v.toArray⟩ m W
 rw [hr, errW_ok] at hR
 unfold wrV at hR
 replace hR := Lib.hid hR
 clear hr
 go_enter Tryz.func115, Tryz.ntmps115
 go_wp2_with fail
 have q0 := (row_at #[.int .i64 t, .int .i64 r, .int .i64 4, .string key, .string ⟨#[]⟩, .int .i64 0] 33 (rfl : w.heap.size = w.heap.size)).alloc (Obj.cells #[.int .i64 0, .int .i64 0, .int .i64 0, .string ⟨#[]⟩, .string ⟨#[]⟩, .int .i64 0] 33)
 have r0 := row_at #[.int .i64 0, .int .i64 0, .int .i64 0, .string ⟨#[]⟩, .string ⟨#[]⟩, .int .i64 0] 33 (by simp : w.heap.size + 1 = (w.alloc (Obj.cells #[.int .i64 t, .int .i64 r, .int .i64 4, .string key, .string ⟨#[]⟩, .int .i64 0] 33)).heap.size)
 have qb : Below w.heap.size w ((w.alloc (Obj.cells #[.int .i64 t, .int .i64 r, .int .i64 4, .string key, .string ⟨#[]⟩, .int .i64 0] 33)).alloc (Obj.cells #[.int .i64 0, .int .i64 0, .int .i64 0, .string ⟨#[]⟩, .string ⟨#[]⟩, .int .i64 0] 33)) := by exact blw
 generalize (w.alloc (Obj.cells #[.int .i64 t, .int .i64 r, .int .i64 4, .string key, .string ⟨#[]⟩, .int .i64 0] 33)).alloc (Obj.cells #[.int .i64 0, .int .i64 0, .int .i64 0, .string ⟨#[]⟩, .string ⟨#[]⟩, .int .i64 0] 33) = w1 at *
 replace q0 := Lib.hid q0
 replace r0 := Lib.hid r0
 refine (hG.out _).mono ?_
 rintro e wx ⟨rfl, rfl⟩
 have q1 := q0.out
 have r1 := r0.out
 have c0 := q1.cell 0
 have c1 := q1.cell 1
 have c2 := q1.cell 2
 have c3 := q1.cell 3
 have c4 := q1.cell 4
 have c5 := q1.cell 5
 simp only [List.set_cons_succ, List.set_cons_zero, List.getElem?_cons_zero, List.getElem?_cons_succ] at c0 c1 c2 c3 c4 c5
 have f4 := q1.frozen 4 (by simp)
 have f5 := q1.frozen 5 (by simp)
 clear q1 r1
 replace q0 := Lib.hid (q0.out.set 5 (.int .i64 m))
 replace r0 := Lib.hid (r0.out.other (p := ⟨w.heap.size, 5, none⟩) (by simp) (.int .i64 m))
 go_wp2_with fail
 clear c0 c1 c2 c3 c4 c5 f4 f5
 replace qb : Below w.heap.size w (w1.setCell ⟨w.heap.size, 5, none⟩ (.int .i64 m)) := by exact blw
 refine (hS.out _ (hL.below qb)).mono ?_
 rintro e w3 ⟨rfl, hb⟩
 replace q0 := Lib.hid (q0.out.below hb)
 replace r0 := Lib.hid (r0.out.below hb)
 replace qb : Below w.heap.size w w3 := by exact blw
 clear hb
 have q1 := q0.out
 have r1 := r0.out
 have c0 := q1.cell 0
 have c1 := q1.cell 1
 have c2 := q1.cell 2
 have c3 := q1.cell 3
 have c4 := q1.cell 4
 have c5 := q1.cell 5
 simp only [List.set_cons_succ, List.set_cons_zero, List.getElem?_cons_zero, List.getElem?_cons_succ] at c0 c1 c2 c3 c4 c5
 have f4 := q1.frozen 4 (by simp)
 have f5 := q1.frozen 5 (by simp)
 clear q1 r1
 replace q0 := Lib.hid (q0.out.set 4 (.string ⟨v.toArray⟩))
 replace r0 := Lib.hid (r0.out.other (p := ⟨w.heap.size, 4, none⟩) (by simp) (.string ⟨v.toArray⟩))
 go_wp2_with fail
 clear c0 c1 c2 c3 c4 c5 f4 f5
 replace qb : Below w.heap.size w (w3.setCell ⟨w.heap.size, 4, none⟩ (.string ⟨v.toArray⟩)) := by exact blw
 refine (hR.out _).mono ?_
 rintro e w4 ⟨rfl, hb⟩
 replace q0 := Lib.hid (q0.out.below hb)
 replace r0 := Lib.hid (r0.out.below hb)
 replace qb : Below w.heap.size w w4 := by exact blw
 clear hb
 have q1 := q0.out
 have r1 := r0.out
 have c0 := q1.cell 0
 have c1 := q1.cell 1
 have c2 := q1.cell 2
 have c3 := q1.cell 3
 have c4 := q1.cell 4
 have c5 := q1.cell 5
 have d0 := r1.cell 0
 have d1 := r1.cell 1
 have d2 := r1.cell 2
 have d3 := r1.cell 3
 have d4 := r1.cell 4
 have d5 := r1.cell 5
 have g0 := r1.frozen 0 (by simp)
 have g1 := r1.frozen 1 (by simp)
 have g2 := r1.frozen 2 (by simp)
 have g3 := r1.frozen 3 (by simp)
 have g4 := r1.frozen 4 (by simp)
 have g5 := r1.frozen 5 (by simp)
 simp only [List.set_cons_succ, List.set_cons_zero, List.getElem?_cons_zero, List.getElem?_cons_succ] at c0 c1 c2 c3 c4 c5 d0 d1 d2 d3 d4 d5
 have f4 := q1.frozen 4 (by simp)
 have f5 := q1.frozen 5 (by simp)
 clear q1 r1
 go_wp2
 refine bodyPost_ret (v := .tuple #[.agg #[.int .i64 t, .int .i64 r, .int .i64 4, .string key, .string ⟨v.toArray⟩, .int .i64 m], .int .i64 (j + i : Nat), .nilIface]) (by simp [results, Tryz.results115, go_sem, d0, d1, d2, d3, d4, d5]) rfl ⟨rfl, ?_⟩
 (repeat (first | (with_reducible refine bst ?_ (Nat.le_add_right _ 1) _) | (with_reducible refine bst ?_ (Nat.le_refl _) _))); exact qb
set_option maxHeartbeats 2000000 in
set_option maxRecDepth 100000 in
theorem fill_ins_no (t r : Int) (key val : ByteArray) (n : Int) (s : ByteArray) (w : World) (hs : s.size ≤ maxLen) (hL : Laid w) (m j : Nat) (hg : Vary.int s.data.toList 1000 = .ok m j) (hj : j ≤ s.size) (v : List UInt8) (i : Nat) (hg2 : Span.get (s.data.toList.drop j) = .ok v i) (hi : j + i ≤ s.size) (c : Nat) (hc : c ≠ 0) (hr : Wr.right (wr t r 4 key ⟨v.toArray⟩ m) = c) :
  Calls Tryz.prog 115 #[.agg #[.int .i64 t, .int .i64 r, .int .i64 4, .string key, .string val, .int .i64 n], .string s] w fun e w' => e = .returned (.tuple #[.agg #[.int .i64 0, .int .i64 0, .int .i64 0, .string ⟨#[]⟩, .string ⟨#[]⟩, .int .i64 0], .int .i64 0, .iface 67 (.int .i64 c)]) ∧ Below w.heap.size w w' := by
 have hs' := hs
 unfold maxLen at hs'
 have hG := fun W => vary_int s 1000 W hs (by omega)
 rw [hg] at hG
 unfold intVal at hG
 replace hG := Lib.hid hG
 clear hg
 have hj1 : j ≤ s.size := hj
 have hS : ∀ W, Laid W → Calls Tryz.prog 112 #[.string (s.extract j s.size)] W fun e w' => e = .returned (spanVal (Span.get (s.data.toList.drop j))) ∧ Below W.heap.size W w' := fun W h => by
  have := span_get (s.extract j s.size) W (by simp [ByteArray.size_extract]; omega) h
  rw [drop_str s j] at this
  exact this
 rw [hg2] at hS
 unfold spanVal at hS
 try unfold errno at hS
 replace hS := Lib.hid hS
 replace hj1 := Lib.hid hj1
 clear hg2
 have hR := fun W => write_right t r 4 key ⟨v.toArray⟩ m W
 rw [hr, errW_no hc] at hR
 unfold wrV at hR
 replace hR := Lib.hid hR
 clear hr
 go_enter Tryz.func115, Tryz.ntmps115
 go_wp2_with fail
 have q0 := (row_at #[.int .i64 t, .int .i64 r, .int .i64 4, .string key, .string ⟨#[]⟩, .int .i64 0] 33 (rfl : w.heap.size = w.heap.size)).alloc (Obj.cells #[.int .i64 0, .int .i64 0, .int .i64 0, .string ⟨#[]⟩, .string ⟨#[]⟩, .int .i64 0] 33)
 have r0 := row_at #[.int .i64 0, .int .i64 0, .int .i64 0, .string ⟨#[]⟩, .string ⟨#[]⟩, .int .i64 0] 33 (by simp : w.heap.size + 1 = (w.alloc (Obj.cells #[.int .i64 t, .int .i64 r, .int .i64 4, .string key, .string ⟨#[]⟩, .int .i64 0] 33)).heap.size)
 have qb : Below w.heap.size w ((w.alloc (Obj.cells #[.int .i64 t, .int .i64 r, .int .i64 4, .string key, .string ⟨#[]⟩, .int .i64 0] 33)).alloc (Obj.cells #[.int .i64 0, .int .i64 0, .int .i64 0, .string ⟨#[]⟩, .string ⟨#[]⟩, .int .i64 0] 33)) := by exact blw
 generalize (w.alloc (Obj.cells #[.int .i64 t, .int .i64 r, .int .i64 4, .string key, .string ⟨#[]⟩, .int .i64 0] 33)).alloc (Obj.cells #[.int .i64 0, .int .i64 0, .int .i64 0, .string ⟨#[]⟩, .string ⟨#[]⟩, .int .i64 0] 33) = w1 at *
 replace q0 := Lib.hid q0
 replace r0 := Lib.hid r0
 refine (hG.out _).mono ?_
 rintro e wx ⟨rfl, rfl⟩
 have q1 := q0.out
 have r1 := r0.out
 have c0 := q1.cell 0
 have c1 := q1.cell 1
 have c2 := q1.cell 2
 have c3 := q1.cell 3
 have c4 := q1.cell 4
 have c5 := q1.cell 5
 simp only [List.set_cons_succ, List.set_cons_zero, List.getElem?_cons_zero, List.getElem?_cons_succ] at c0 c1 c2 c3 c4 c5
 have f4 := q1.frozen 4 (by simp)
 have f5 := q1.frozen 5 (by simp)
 clear q1 r1
 replace q0 := Lib.hid (q0.out.set 5 (.int .i64 m))
 replace r0 := Lib.hid (r0.out.other (p := ⟨w.heap.size, 5, none⟩) (by simp) (.int .i64 m))
 go_wp2_with fail
 clear c0 c1 c2 c3 c4 c5 f4 f5
 replace qb : Below w.heap.size w (w1.setCell ⟨w.heap.size, 5, none⟩ (.int .i64 m)) := by exact blw
 refine (hS.out _ (hL.below qb)).mono ?_
 rintro e w3 ⟨rfl, hb⟩
 replace q0 := Lib.hid (q0.out.below hb)
 replace r0 := Lib.hid (r0.out.below hb)
 replace qb : Below w.heap.size w w3 := by exact blw
 clear hb
 have q1 := q0.out
 have r1 := r0.out
 have c0 := q1.cell 0
 have c1 := q1.cell 1
 have c2 := q1.cell 2
 have c3 := q1.cell 3
 have c4 := q1.cell 4
 have c5 := q1.cell 5
 simp only [List.set_cons_succ, List.set_cons_zero, List.getElem?_cons_zero, List.getElem?_cons_succ] at c0 c1 c2 c3 c4 c5
 have f4 := q1.frozen 4 (by simp)
 have f5 := q1.frozen 5 (by simp)
 clear q1 r1
 replace q0 := Lib.hid (q0.out.set 4 (.string ⟨v.toArray⟩))
 replace r0 := Lib.hid (r0.out.other (p := ⟨w.heap.size, 4, none⟩) (by simp) (.string ⟨v.toArray⟩))
 go_wp2_with fail
 clear c0 c1 c2 c3 c4 c5 f4 f5
 replace qb : Below w.heap.size w (w3.setCell ⟨w.heap.size, 4, none⟩ (.string ⟨v.toArray⟩)) := by exact blw
 refine (hR.out _).mono ?_
 rintro e w4 ⟨rfl, hb⟩
 replace q0 := Lib.hid (q0.out.below hb)
 replace r0 := Lib.hid (r0.out.below hb)
 replace qb : Below w.heap.size w w4 := by exact blw
 exact byWFillW1
set_option maxHeartbeats 2000000 in
set_option maxRecDepth 100000 in
theorem fill_other_ok (t r k : Int) (key val : ByteArray) (n : Int) (s : ByteArray) (w : World) (hs : s.size ≤ maxLen) (hL : Laid w) (hk : k ≠ 1 ∧ k ≠ 3 ∧ k ≠ 4) (hr : Wr.right (wr t r k key ⟨#[]⟩ 0) = 0) :
  Calls Tryz.prog 115 #[.agg #[.int .i64 t, .int .i64 r, .int .i64 k, .string key, .string val, .int .i64 n], .string s] w fun e w' => e = .returned (.tuple #[.agg #[.int .i64 t, .int .i64 r, .int .i64 k, .string key, .string ⟨#[]⟩, .int .i64 0], .int .i64 0, .nilIface]) ∧ Below w.heap.size w w' := by
 have d1 : ((k : Int) == 1) = false := by simp; omega
 have d3 : ((k : Int) == 3) = false := by simp; omega
 have d4 : ((k : Int) == 4) = false := by simp; omega
 clear hk
 have hR := fun W => write_right t r k key ⟨#[]⟩ 0 W
 rw [hr, errW_ok] at hR
 unfold wrV at hR
 replace hR := Lib.hid hR
 clear hr
 go_enter Tryz.func115, Tryz.ntmps115
 go_wp2_with fail
 have q0 := (row_at #[.int .i64 t, .int .i64 r, .int .i64 k, .string key, .string ⟨#[]⟩, .int .i64 0] 33 (rfl : w.heap.size = w.heap.size)).alloc (Obj.cells #[.int .i64 0, .int .i64 0, .int .i64 0, .string ⟨#[]⟩, .string ⟨#[]⟩, .int .i64 0] 33)
 have r0 := row_at #[.int .i64 0, .int .i64 0, .int .i64 0, .string ⟨#[]⟩, .string ⟨#[]⟩, .int .i64 0] 33 (by simp : w.heap.size + 1 = (w.alloc (Obj.cells #[.int .i64 t, .int .i64 r, .int .i64 k, .string key, .string ⟨#[]⟩, .int .i64 0] 33)).heap.size)
 have qb : Below w.heap.size w ((w.alloc (Obj.cells #[.int .i64 t, .int .i64 r, .int .i64 k, .string key, .string ⟨#[]⟩, .int .i64 0] 33)).alloc (Obj.cells #[.int .i64 0, .int .i64 0, .int .i64 0, .string ⟨#[]⟩, .string ⟨#[]⟩, .int .i64 0] 33)) := by exact blw
 generalize (w.alloc (Obj.cells #[.int .i64 t, .int .i64 r, .int .i64 k, .string key, .string ⟨#[]⟩, .int .i64 0] 33)).alloc (Obj.cells #[.int .i64 0, .int .i64 0, .int .i64 0, .string ⟨#[]⟩, .string ⟨#[]⟩, .int .i64 0] 33) = w1 at *
 replace q0 := Lib.hid q0
 replace r0 := Lib.hid r0
 refine (hR.out _).mono ?_
 rintro e w2 ⟨rfl, hb⟩
 replace q0 := Lib.hid (q0.out.below hb)
 replace r0 := Lib.hid (r0.out.below hb)
 replace qb : Below w.heap.size w w2 := by exact blw
 clear hb
 have q1 := q0.out
 have r1 := r0.out
 have c0 := q1.cell 0
 have c1 := q1.cell 1
 have c2 := q1.cell 2
 have c3 := q1.cell 3
 have c4 := q1.cell 4
 have c5 := q1.cell 5
 have d0 := r1.cell 0
 have d1 := r1.cell 1
 have d2 := r1.cell 2
 have d3 := r1.cell 3
 have d4 := r1.cell 4
 have d5 := r1.cell 5
 have g0 := r1.frozen 0 (by simp)
 have g1 := r1.frozen 1 (by simp)
 have g2 := r1.frozen 2 (by simp)
 have g3 := r1.frozen 3 (by simp)
 have g4 := r1.frozen 4 (by simp)
 have g5 := r1.frozen 5 (by simp)
 simp only [List.set_cons_succ, List.set_cons_zero, List.getElem?_cons_zero, List.getElem?_cons_succ] at c0 c1 c2 c3 c4 c5 d0 d1 d2 d3 d4 d5
 have f4 := q1.frozen 4 (by simp)
 have f5 := q1.frozen 5 (by simp)
 clear q1 r1
 go_wp2
 refine bodyPost_ret (v := .tuple #[.agg #[.int .i64 t, .int .i64 r, .int .i64 k, .string key, .string ⟨#[]⟩, .int .i64 0], .int .i64 0, .nilIface]) (by simp [results, Tryz.results115, go_sem, d0, d1, d2, d3, d4, d5]) rfl ⟨rfl, ?_⟩
 (repeat (first | (with_reducible refine bst ?_ (Nat.le_add_right _ 1) _) | (with_reducible refine bst ?_ (Nat.le_refl _) _))); exact qb
set_option maxHeartbeats 2000000 in
set_option maxRecDepth 100000 in
theorem fill_other_no (t r k : Int) (key val : ByteArray) (n : Int) (s : ByteArray) (w : World) (hs : s.size ≤ maxLen) (hL : Laid w) (hk : k ≠ 1 ∧ k ≠ 3 ∧ k ≠ 4) (c : Nat) (hc : c ≠ 0) (hr : Wr.right (wr t r k key ⟨#[]⟩ 0) = c) :
  Calls Tryz.prog 115 #[.agg #[.int .i64 t, .int .i64 r, .int .i64 k, .string key, .string val, .int .i64 n], .string s] w fun e w' => e = .returned (.tuple #[.agg #[.int .i64 0, .int .i64 0, .int .i64 0, .string ⟨#[]⟩, .string ⟨#[]⟩, .int .i64 0], .int .i64 0, .iface 67 (.int .i64 c)]) ∧ Below w.heap.size w w' := by
 have d1 : ((k : Int) == 1) = false := by simp; omega
 have d3 : ((k : Int) == 3) = false := by simp; omega
 have d4 : ((k : Int) == 4) = false := by simp; omega
 clear hk
 have hR := fun W => write_right t r k key ⟨#[]⟩ 0 W
 rw [hr, errW_no hc] at hR
 unfold wrV at hR
 replace hR := Lib.hid hR
 clear hr
 go_enter Tryz.func115, Tryz.ntmps115
 go_wp2_with fail
 have q0 := (row_at #[.int .i64 t, .int .i64 r, .int .i64 k, .string key, .string ⟨#[]⟩, .int .i64 0] 33 (rfl : w.heap.size = w.heap.size)).alloc (Obj.cells #[.int .i64 0, .int .i64 0, .int .i64 0, .string ⟨#[]⟩, .string ⟨#[]⟩, .int .i64 0] 33)
 have r0 := row_at #[.int .i64 0, .int .i64 0, .int .i64 0, .string ⟨#[]⟩, .string ⟨#[]⟩, .int .i64 0] 33 (by simp : w.heap.size + 1 = (w.alloc (Obj.cells #[.int .i64 t, .int .i64 r, .int .i64 k, .string key, .string ⟨#[]⟩, .int .i64 0] 33)).heap.size)
 have qb : Below w.heap.size w ((w.alloc (Obj.cells #[.int .i64 t, .int .i64 r, .int .i64 k, .string key, .string ⟨#[]⟩, .int .i64 0] 33)).alloc (Obj.cells #[.int .i64 0, .int .i64 0, .int .i64 0, .string ⟨#[]⟩, .string ⟨#[]⟩, .int .i64 0] 33)) := by exact blw
 generalize (w.alloc (Obj.cells #[.int .i64 t, .int .i64 r, .int .i64 k, .string key, .string ⟨#[]⟩, .int .i64 0] 33)).alloc (Obj.cells #[.int .i64 0, .int .i64 0, .int .i64 0, .string ⟨#[]⟩, .string ⟨#[]⟩, .int .i64 0] 33) = w1 at *
 replace q0 := Lib.hid q0
 replace r0 := Lib.hid r0
 refine (hR.out _).mono ?_
 rintro e w2 ⟨rfl, hb⟩
 replace q0 := Lib.hid (q0.out.below hb)
 replace r0 := Lib.hid (r0.out.below hb)
 replace qb : Below w.heap.size w w2 := by exact blw
 exact byWFillW1
end Go.Proofs.YtognjohloobliaaGreatDoor
/- The walk of write.Fill. -/
namespace Go.Proofs.YtognjohloobliaaGreatDoor
open Go.RowKit
set_option linter.unusedVariables false
set_option linter.unusedSimpArgs false
def wrVal (x : Wr) : Value := .agg #[.int .i64 x.t, .int .i64 x.r, .int .i64 x.k, .string ⟨x.key.toArray⟩, .string ⟨x.val.toArray⟩, .int .i64 x.n]
def fillVal : Wr.Got → Value
 | .bad e => .tuple #[.agg #[.int .i64 0, .int .i64 0, .int .i64 0, .string ⟨#[]⟩, .string ⟨#[]⟩, .int .i64 0], .int .i64 0, .iface 67 (.int .i64 e)]
 | .ok x n => .tuple #[wrVal x, .int .i64 n, .nilIface]
theorem fill_inl {x : Wr} {s : List UInt8} {e : Nat} (h : Wr.part x.k s = .inl e) : Wr.fill x s = .bad e := by unfold Wr.fill; rw [h]
theorem fill_inr {x : Wr} {s : List UInt8} {v : List UInt8} {m : Int} {n : Nat} (h : Wr.part x.k s = .inr (v, m, n)) : Wr.fill x s = if Wr.right { x with val := v, n := m } = 0 then .ok { x with val := v, n := m } n else .bad (Wr.right { x with val := v, n := m }) := by unfold Wr.fill; rw [h]
theorem write_fill (t r k : Int) (key val : ByteArray) (n : Int) (s : ByteArray) (w : World) (hs : s.size ≤ maxLen) (hL : Laid w) :
  Calls Tryz.prog 115 #[wrV t r k key val n, .string s] w fun e w' => e = .returned (fillVal (Wr.fill (wr t r k key ⟨#[]⟩ 0) s.data.toList)) ∧ Below w.heap.size w w' := by
 have fin : ∀ (v : List UInt8) (m : Int) (j : Nat), Wr.part k s.data.toList = .inr (v, m, j) → Wr.right (wr t r k key ⟨v.toArray⟩ m) = 0 → Wr.fill (wr t r k key ⟨#[]⟩ 0) s.data.toList = .ok (wr t r k key ⟨v.toArray⟩ m) j := fun v m j h1 h2 => by
  rw [fill_inr (x := wr t r k key ⟨#[]⟩ 0) h1]
  exact if_pos h2
 have fin2 : ∀ (v : List UInt8) (m : Int) (j : Nat), Wr.part k s.data.toList = .inr (v, m, j) → Wr.right (wr t r k key ⟨v.toArray⟩ m) ≠ 0 → Wr.fill (wr t r k key ⟨#[]⟩ 0) s.data.toList = .bad (Wr.right (wr t r k key ⟨v.toArray⟩ m)) := fun v m j h1 h2 => by
  rw [fill_inr (x := wr t r k key ⟨#[]⟩ 0) h1]
  exact if_neg h2
 by_cases h1 : k = 1
 ·subst h1
  cases hg : Span.get s.data.toList with
  | bad e => rw [fill_inl (x := wr t r 1 key ⟨#[]⟩ 0) (e := e) (by show Wr.part 1 _ = _; unfold Wr.part; rw [if_pos rfl, hg])]; exact fill_put_e t r key val n s w hs hL e hg
  | ok v j =>
   have hp : Wr.part 1 s.data.toList = .inr (v, 0, j) := by unfold Wr.part; rw [if_pos rfl, hg]
   by_cases hr : Wr.right (wr t r 1 key ⟨v.toArray⟩ 0) = 0
   ·rw [fin v 0 j hp hr]; exact fill_put_ok t r key val n s w hs hL v j hg hr
   ·rw [fin2 v 0 j hp hr]; exact fill_put_no t r key val n s w hs hL v j hg _ hr rfl
 by_cases h3 : k = 3
 ·subst h3
  cases hg : Vary.get s.data.toList with
  | bad e => rw [fill_inl (x := wr t r 3 key ⟨#[]⟩ 0) (e := e) (by show Wr.part 3 _ = _; unfold Wr.part; rw [if_neg (by omega), if_pos rfl, hg])]; exact fill_add_e t r key val n s w hs hL e hg
  | ok u j =>
   have hp : Wr.part 3 s.data.toList = .inr ([], Vary.zag u, j) := by unfold Wr.part; rw [if_neg (by omega), if_pos rfl, hg]
   have hu := (Vary.get_ok _ _ _ hg).2.2.2
   by_cases hr : Wr.right (wr t r 3 key ⟨#[]⟩ (Vary.zag u)) = 0
   ·rw [fin [] _ j hp hr]; exact fill_add_ok t r key val n s w hs hL u j hg hu hr
   ·rw [fin2 [] _ j hp hr]; exact fill_add_no t r key val n s w hs hL u j hg hu _ hr rfl
 by_cases h4 : k = 4
 ·subst h4
  cases hg : Vary.int s.data.toList 1000 with
  | bad e => rw [fill_inl (x := wr t r 4 key ⟨#[]⟩ 0) (e := e) (by show Wr.part 4 _ = _; unfold Wr.part; rw [if_neg (by omega), if_neg (by omega), if_pos rfl, hg])]; exact fill_ins_e t r key val n s w hs hL e hg
  | ok m j =>
   obtain ⟨b1, b2⟩ := Span.int_inv hg
   obtain ⟨a1, a2, -⟩ := Vary.get_ok _ _ _ b1
   rw [ba_len] at a2
   cases hg2 : Span.get (s.data.toList.drop j) with
   | bad e => rw [fill_inl (x := wr t r 4 key ⟨#[]⟩ 0) (e := e) (by show Wr.part 4 _ = _; unfold Wr.part; rw [if_neg (by omega), if_neg (by omega), if_pos rfl, hg]; simp only; rw [hg2])]; exact fill_ins_e2 t r key val n s w hs hL m j hg a2 e hg2
   | ok v i =>
    have hp : Wr.part 4 s.data.toList = .inr (v, (m : Int), j + i) := by unfold Wr.part; rw [if_neg (by omega), if_neg (by omega), if_pos rfl, hg]; simp only; rw [hg2]
    have hi := (Span.get_ok hg2).2.2.1
    rw [List.length_drop, ba_len] at hi
    by_cases hr : Wr.right (wr t r 4 key ⟨v.toArray⟩ m) = 0
    ·rw [fin v m _ hp hr]; exact fill_ins_ok t r key val n s w hs hL m j hg a2 v i hg2 (by omega) hr
    ·rw [fin2 v m _ hp hr]; exact fill_ins_no t r key val n s w hs hL m j hg a2 v i hg2 (by omega) _ hr rfl
 ·have hp : Wr.part k s.data.toList = .inr ([], 0, 0) := by unfold Wr.part; rw [if_neg h1, if_neg h3, if_neg h4]
  by_cases hr : Wr.right (wr t r k key ⟨#[]⟩ 0) = 0
  ·rw [fin [] 0 0 hp hr]; exact fill_other_ok t r k key val n s w hs hL ⟨h1, h3, h4⟩ hr
  ·rw [fin2 [] 0 0 hp hr]; exact fill_other_no t r k key val n s w hs hL ⟨h1, h3, h4⟩ _ hr rfl
end Go.Proofs.YtognjohloobliaaGreatDoor
