/- Walks of ident.Right, write.Right. -/
import Derived.Test.YtognjohloobliaaGreatDoorJ06
import Derived.Test.YtognjohloobliaaGreatDoorJ08
import Derived.Test.YtognjohloobliaaGreatDoorRows
import Derived.Test.YtognjohloobliaaGreatDoorJ01
namespace Go.Proofs.YtognjohloobliaaGreatDoor
open Go.RowKit
set_option linter.unusedVariables false
set_option maxHeartbeats 2000000 in
theorem ident_right (t r : Int) (w : World) :
  Calls Tryz.prog 57 #[.agg #[.int .i64 t, .int .i64 r]] w fun e w' => e = .returned (.bool (Wr.idRight t r)) ∧ Below w.heap.size w w' := by
 by_cases h1 : 1 ≤ t
 ·by_cases h2 : t ≤ 1099511627776
  ·by_cases h3 : 0 ≤ r
   ·have hf : Hid (Wr.idRight t r = decide (r ≤ 200)) := Lib.hid (by unfold Wr.idRight; simp [h1, h2, h3])
    go_enter Tryz.func57, Tryz.ntmps57
    go_wp2
    go_ret
    exact ⟨ret_bool hf.out.symm, by exact blw⟩
   ·have hf : Hid (Wr.idRight t r = false) := Lib.hid (by unfold Wr.idRight; simp; omega)
    go_enter Tryz.func57, Tryz.ntmps57
    go_wp2
    go_ret
    exact ⟨ret_bool hf.out.symm, by exact blw⟩
  ·have hf : Hid (Wr.idRight t r = false) := Lib.hid (by unfold Wr.idRight; simp; omega)
   go_enter Tryz.func57, Tryz.ntmps57
   go_wp2
   go_ret
   exact ⟨ret_bool hf.out.symm, by exact blw⟩
 ·have hf : Hid (Wr.idRight t r = false) := Lib.hid (by unfold Wr.idRight; simp; omega)
  go_enter Tryz.func57, Tryz.ntmps57
  go_wp2
  go_ret
  exact ⟨ret_bool hf.out.symm, by exact blw⟩
def errW (c : Nat) : Value := if c = 0 then .nilIface else errV c
end Go.Proofs.YtognjohloobliaaGreatDoor
/- The walk of write.Right, leaf by leaf (printed by wip/bin/gen_right.py). -/
namespace Go.Proofs.YtognjohloobliaaGreatDoor
open Go.RowKit
set_option linter.unusedVariables false
theorem byWWrite27 {p : Prop} (h : p := by
 go_enter Tryz.func46, Tryz.ntmps46
 go_wp2_with fail
 have q0 := row_at #[.int .i64 t, .int .i64 r, .int .i64 k, .string key, .string val, .int .i64 n] 33 (rfl : w.heap.size = w.heap.size)
 have qb : Below w.heap.size w (w.alloc (Obj.cells #[.int .i64 t, .int .i64 r, .int .i64 k, .string key, .string val, .int .i64 n] 33)) := by exact blw
 generalize w.alloc (Obj.cells #[.int .i64 t, .int .i64 r, .int .i64 k, .string key, .string val, .int .i64 n] 33) = w1 at *
 obtain ⟨c0, c1, c2, c3, c4, c5⟩ := q0.c6
 clear q0
 go_quiet (fail)
 go_wp2
 go_ret
 exact ⟨rfl, by exact blw⟩) : p := h
set_option maxHeartbeats 2000000 in
set_option maxRecDepth 100000 in
theorem wr_low (t r : Int) (key val : ByteArray) (k : Int) (n : Int) (w : World) (h : k < 1) :
  Calls Tryz.prog 46 #[.agg #[.int .i64 t, .int .i64 r, .int .i64 k, .string key, .string val, .int .i64 n]] w fun e w' => e = .returned (errW 1) ∧ Below w.heap.size w w' := by
 have d1 : ((k : Int) == 1) = false := by simp; omega
 have d4 : ((k : Int) == 4) = false := by simp; omega
 have d3 : ((k : Int) == 3) = false := by simp; omega
 have d5 : decide ((k : Int) < 1) = true := by simpa using h
 exact byWWrite27
set_option maxHeartbeats 2000000 in
set_option maxRecDepth 100000 in
theorem wr_high (t r : Int) (key val : ByteArray) (k : Int) (n : Int) (w : World) (h : 4 < k) :
  Calls Tryz.prog 46 #[.agg #[.int .i64 t, .int .i64 r, .int .i64 k, .string key, .string val, .int .i64 n]] w fun e w' => e = .returned (errW 1) ∧ Below w.heap.size w w' := by
 have d1 : ((k : Int) == 1) = false := by simp; omega
 have d4 : ((k : Int) == 4) = false := by simp; omega
 have d3 : ((k : Int) == 3) = false := by simp; omega
 have d5 : decide ((k : Int) < 1) = false := by simp; omega
 have d6 : decide ((4 : Int) < k) = true := by simpa using h
 exact byWWrite27
theorem byWWrite21 {p : Prop} (h : p := by
 obtain ⟨c0, c1, c2, c3, c4, c5⟩ := q0.c6
 clear q0
 go_quiet (fail)
 go_wp2_with (go_at_call 57; (with_reducible refine (hI.out _).mono ?_); rintro e w' ⟨rfl, hb⟩; replace c0 := cell_below hb (by first | exact c0 | exact cell_alloc c0 _ | exact cell_alloc (cell_alloc c0 _) _); replace c1 := cell_below hb (by first | exact c1 | exact cell_alloc c1 _ | exact cell_alloc (cell_alloc c1 _) _); replace c2 := cell_below hb (by first | exact c2 | exact cell_alloc c2 _ | exact cell_alloc (cell_alloc c2 _) _); replace c3 := cell_below hb (by first | exact c3 | exact cell_alloc c3 _ | exact cell_alloc (cell_alloc c3 _) _); replace c4 := cell_below hb (by first | exact c4 | exact cell_alloc c4 _ | exact cell_alloc (cell_alloc c4 _) _); replace c5 := cell_below hb (by first | exact c5 | exact cell_alloc c5 _ | exact cell_alloc (cell_alloc c5 _) _))
 go_ret
 exact ⟨rfl, by exact blw⟩) : p := h
theorem byWWrite24 {p : Prop} (h : p := by
 go_enter Tryz.func46, Tryz.ntmps46
 go_wp2_with fail
 have q0 := row_at #[.int .i64 t, .int .i64 r, .int .i64 1, .string key, .string val, .int .i64 n] 33 (rfl : w.heap.size = w.heap.size)
 have qb : Below w.heap.size w (w.alloc (Obj.cells #[.int .i64 t, .int .i64 r, .int .i64 1, .string key, .string val, .int .i64 n] 33)) := by exact blw
 generalize w.alloc (Obj.cells #[.int .i64 t, .int .i64 r, .int .i64 1, .string key, .string val, .int .i64 n] 33) = w1 at *
 exact byWWrite21) : p := h
set_option maxHeartbeats 2000000 in
set_option maxRecDepth 100000 in
theorem wr_id1 (t r : Int) (key val : ByteArray) (n : Int) (w : World) (hid : Wr.idRight t r = false) :
  Calls Tryz.prog 46 #[.agg #[.int .i64 t, .int .i64 r, .int .i64 1, .string key, .string val, .int .i64 n]] w fun e w' => e = .returned (errW 2) ∧ Below w.heap.size w w' := by
 have hI := Lib.hid (fun W => hid ▸ ident_right t r W : ∀ W, Calls Tryz.prog 57 #[.agg #[.int .i64 t, .int .i64 r]] W fun e w' => e = .returned (.bool false) ∧ Below W.heap.size W w')
 clear hid
 exact byWWrite24
set_option maxHeartbeats 2000000 in
set_option maxRecDepth 100000 in
theorem wr_key1 (t r : Int) (key val : ByteArray) (n : Int) (w : World) (hid : Wr.idRight t r = true) (h : 40 < key.size) :
  Calls Tryz.prog 46 #[.agg #[.int .i64 t, .int .i64 r, .int .i64 1, .string key, .string val, .int .i64 n]] w fun e w' => e = .returned (errW 4) ∧ Below w.heap.size w w' := by
 have hI := Lib.hid (fun W => hid ▸ ident_right t r W : ∀ W, Calls Tryz.prog 57 #[.agg #[.int .i64 t, .int .i64 r]] W fun e w' => e = .returned (.bool true) ∧ Below W.heap.size W w')
 clear hid
 exact byWWrite24
set_option maxHeartbeats 2000000 in
set_option maxRecDepth 100000 in
theorem wr_val1 (t r : Int) (key val : ByteArray) (n : Int) (w : World) (hid : Wr.idRight t r = true) (h1 : key.size ≤ 40) (h : 300 < val.size) :
  Calls Tryz.prog 46 #[.agg #[.int .i64 t, .int .i64 r, .int .i64 1, .string key, .string val, .int .i64 n]] w fun e w' => e = .returned (errW 4) ∧ Below w.heap.size w w' := by
 have hI := Lib.hid (fun W => hid ▸ ident_right t r W : ∀ W, Calls Tryz.prog 57 #[.agg #[.int .i64 t, .int .i64 r]] W fun e w' => e = .returned (.bool true) ∧ Below W.heap.size W w')
 clear hid
 have d1 : decide ((40 : Int) < (key.size : Int)) = false := by simp; omega
 exact byWWrite24
theorem byWWrite25 {p : Prop} (h : p := by
 go_enter Tryz.func46, Tryz.ntmps46
 go_wp2_with fail
 have q0 := row_at #[.int .i64 t, .int .i64 r, .int .i64 2, .string key, .string val, .int .i64 n] 33 (rfl : w.heap.size = w.heap.size)
 have qb : Below w.heap.size w (w.alloc (Obj.cells #[.int .i64 t, .int .i64 r, .int .i64 2, .string key, .string val, .int .i64 n] 33)) := by exact blw
 generalize w.alloc (Obj.cells #[.int .i64 t, .int .i64 r, .int .i64 2, .string key, .string val, .int .i64 n] 33) = w1 at *
 exact byWWrite21) : p := h
set_option maxHeartbeats 2000000 in
set_option maxRecDepth 100000 in
theorem wr_id2 (t r : Int) (key val : ByteArray) (n : Int) (w : World) (hid : Wr.idRight t r = false) :
  Calls Tryz.prog 46 #[.agg #[.int .i64 t, .int .i64 r, .int .i64 2, .string key, .string val, .int .i64 n]] w fun e w' => e = .returned (errW 2) ∧ Below w.heap.size w w' := by
 have hI := Lib.hid (fun W => hid ▸ ident_right t r W : ∀ W, Calls Tryz.prog 57 #[.agg #[.int .i64 t, .int .i64 r]] W fun e w' => e = .returned (.bool false) ∧ Below W.heap.size W w')
 clear hid
 exact byWWrite25
set_option maxHeartbeats 2000000 in
set_option maxRecDepth 100000 in
theorem wr_key2 (t r : Int) (key val : ByteArray) (n : Int) (w : World) (hid : Wr.idRight t r = true) (h : 40 < key.size) :
  Calls Tryz.prog 46 #[.agg #[.int .i64 t, .int .i64 r, .int .i64 2, .string key, .string val, .int .i64 n]] w fun e w' => e = .returned (errW 4) ∧ Below w.heap.size w w' := by
 have hI := Lib.hid (fun W => hid ▸ ident_right t r W : ∀ W, Calls Tryz.prog 57 #[.agg #[.int .i64 t, .int .i64 r]] W fun e w' => e = .returned (.bool true) ∧ Below W.heap.size W w')
 clear hid
 exact byWWrite25
set_option maxHeartbeats 2000000 in
set_option maxRecDepth 100000 in
theorem wr_val2 (t r : Int) (key val : ByteArray) (n : Int) (w : World) (hid : Wr.idRight t r = true) (h1 : key.size ≤ 40) (h : 300 < val.size) :
  Calls Tryz.prog 46 #[.agg #[.int .i64 t, .int .i64 r, .int .i64 2, .string key, .string val, .int .i64 n]] w fun e w' => e = .returned (errW 4) ∧ Below w.heap.size w w' := by
 have hI := Lib.hid (fun W => hid ▸ ident_right t r W : ∀ W, Calls Tryz.prog 57 #[.agg #[.int .i64 t, .int .i64 r]] W fun e w' => e = .returned (.bool true) ∧ Below W.heap.size W w')
 clear hid
 have d1 : decide ((40 : Int) < (key.size : Int)) = false := by simp; omega
 exact byWWrite25
theorem byWWrite26 {p : Prop} (h : p := by
 go_enter Tryz.func46, Tryz.ntmps46
 go_wp2_with fail
 have q0 := row_at #[.int .i64 t, .int .i64 r, .int .i64 3, .string key, .string val, .int .i64 n] 33 (rfl : w.heap.size = w.heap.size)
 have qb : Below w.heap.size w (w.alloc (Obj.cells #[.int .i64 t, .int .i64 r, .int .i64 3, .string key, .string val, .int .i64 n] 33)) := by exact blw
 generalize w.alloc (Obj.cells #[.int .i64 t, .int .i64 r, .int .i64 3, .string key, .string val, .int .i64 n] 33) = w1 at *
 exact byWWrite21) : p := h
set_option maxHeartbeats 2000000 in
set_option maxRecDepth 100000 in
theorem wr_id3 (t r : Int) (key val : ByteArray) (n : Int) (w : World) (hid : Wr.idRight t r = false) :
  Calls Tryz.prog 46 #[.agg #[.int .i64 t, .int .i64 r, .int .i64 3, .string key, .string val, .int .i64 n]] w fun e w' => e = .returned (errW 2) ∧ Below w.heap.size w w' := by
 have hI := Lib.hid (fun W => hid ▸ ident_right t r W : ∀ W, Calls Tryz.prog 57 #[.agg #[.int .i64 t, .int .i64 r]] W fun e w' => e = .returned (.bool false) ∧ Below W.heap.size W w')
 clear hid
 exact byWWrite26
set_option maxHeartbeats 2000000 in
set_option maxRecDepth 100000 in
theorem wr_key3 (t r : Int) (key val : ByteArray) (n : Int) (w : World) (hid : Wr.idRight t r = true) (h : 40 < key.size) :
  Calls Tryz.prog 46 #[.agg #[.int .i64 t, .int .i64 r, .int .i64 3, .string key, .string val, .int .i64 n]] w fun e w' => e = .returned (errW 4) ∧ Below w.heap.size w w' := by
 have hI := Lib.hid (fun W => hid ▸ ident_right t r W : ∀ W, Calls Tryz.prog 57 #[.agg #[.int .i64 t, .int .i64 r]] W fun e w' => e = .returned (.bool true) ∧ Below W.heap.size W w')
 clear hid
 exact byWWrite26
set_option maxHeartbeats 2000000 in
set_option maxRecDepth 100000 in
theorem wr_val3 (t r : Int) (key val : ByteArray) (n : Int) (w : World) (hid : Wr.idRight t r = true) (h1 : key.size ≤ 40) (h : 300 < val.size) :
  Calls Tryz.prog 46 #[.agg #[.int .i64 t, .int .i64 r, .int .i64 3, .string key, .string val, .int .i64 n]] w fun e w' => e = .returned (errW 4) ∧ Below w.heap.size w w' := by
 have hI := Lib.hid (fun W => hid ▸ ident_right t r W : ∀ W, Calls Tryz.prog 57 #[.agg #[.int .i64 t, .int .i64 r]] W fun e w' => e = .returned (.bool true) ∧ Below W.heap.size W w')
 clear hid
 have d1 : decide ((40 : Int) < (key.size : Int)) = false := by simp; omega
 exact byWWrite26
theorem byWWrite22 {p : Prop} (h : p := by
 go_enter Tryz.func46, Tryz.ntmps46
 go_wp2_with fail
 have q0 := row_at #[.int .i64 t, .int .i64 r, .int .i64 4, .string key, .string val, .int .i64 n] 33 (rfl : w.heap.size = w.heap.size)
 have qb : Below w.heap.size w (w.alloc (Obj.cells #[.int .i64 t, .int .i64 r, .int .i64 4, .string key, .string val, .int .i64 n] 33)) := by exact blw
 generalize w.alloc (Obj.cells #[.int .i64 t, .int .i64 r, .int .i64 4, .string key, .string val, .int .i64 n] 33) = w1 at *
 exact byWWrite21) : p := h
set_option maxHeartbeats 2000000 in
set_option maxRecDepth 100000 in
theorem wr_id4 (t r : Int) (key val : ByteArray) (n : Int) (w : World) (hid : Wr.idRight t r = false) :
  Calls Tryz.prog 46 #[.agg #[.int .i64 t, .int .i64 r, .int .i64 4, .string key, .string val, .int .i64 n]] w fun e w' => e = .returned (errW 2) ∧ Below w.heap.size w w' := by
 have hI := Lib.hid (fun W => hid ▸ ident_right t r W : ∀ W, Calls Tryz.prog 57 #[.agg #[.int .i64 t, .int .i64 r]] W fun e w' => e = .returned (.bool false) ∧ Below W.heap.size W w')
 clear hid
 exact byWWrite22
set_option maxHeartbeats 2000000 in
set_option maxRecDepth 100000 in
theorem wr_key4 (t r : Int) (key val : ByteArray) (n : Int) (w : World) (hid : Wr.idRight t r = true) (h : 40 < key.size) :
  Calls Tryz.prog 46 #[.agg #[.int .i64 t, .int .i64 r, .int .i64 4, .string key, .string val, .int .i64 n]] w fun e w' => e = .returned (errW 4) ∧ Below w.heap.size w w' := by
 have hI := Lib.hid (fun W => hid ▸ ident_right t r W : ∀ W, Calls Tryz.prog 57 #[.agg #[.int .i64 t, .int .i64 r]] W fun e w' => e = .returned (.bool true) ∧ Below W.heap.size W w')
 clear hid
 exact byWWrite22
set_option maxHeartbeats 2000000 in
set_option maxRecDepth 100000 in
theorem wr_val4 (t r : Int) (key val : ByteArray) (n : Int) (w : World) (hid : Wr.idRight t r = true) (h1 : key.size ≤ 40) (h : 300 < val.size) :
  Calls Tryz.prog 46 #[.agg #[.int .i64 t, .int .i64 r, .int .i64 4, .string key, .string val, .int .i64 n]] w fun e w' => e = .returned (errW 4) ∧ Below w.heap.size w w' := by
 have hI := Lib.hid (fun W => hid ▸ ident_right t r W : ∀ W, Calls Tryz.prog 57 #[.agg #[.int .i64 t, .int .i64 r]] W fun e w' => e = .returned (.bool true) ∧ Below W.heap.size W w')
 clear hid
 have d1 : decide ((40 : Int) < (key.size : Int)) = false := by simp; omega
 exact byWWrite22
set_option maxHeartbeats 2000000 in
set_option maxRecDepth 100000 in
theorem wr_put_n (t r : Int) (key val : ByteArray) (n : Int) (w : World) (hid : Wr.idRight t r = true) (h1 : key.size ≤ 40) (h2 : val.size ≤ 300) (h : n ≠ 0) :
  Calls Tryz.prog 46 #[.agg #[.int .i64 t, .int .i64 r, .int .i64 1, .string key, .string val, .int .i64 n]] w fun e w' => e = .returned (errW 3) ∧ Below w.heap.size w w' := by
 have hI := Lib.hid (fun W => hid ▸ ident_right t r W : ∀ W, Calls Tryz.prog 57 #[.agg #[.int .i64 t, .int .i64 r]] W fun e w' => e = .returned (.bool true) ∧ Below W.heap.size W w')
 clear hid
 have d1 : decide ((40 : Int) < (key.size : Int)) = false := by simp; omega
 have d2 : decide ((300 : Int) < (val.size : Int)) = false := by simp; omega
 have d7 : ((n : Int) != 0) = true := by simp; omega
 exact byWWrite24
set_option maxHeartbeats 2000000 in
set_option maxRecDepth 100000 in
theorem wr_put (t r : Int) (key val : ByteArray) (w : World) (hid : Wr.idRight t r = true) (h1 : key.size ≤ 40) (h2 : val.size ≤ 300) :
  Calls Tryz.prog 46 #[.agg #[.int .i64 t, .int .i64 r, .int .i64 1, .string key, .string val, .int .i64 0]] w fun e w' => e = .returned (errW 0) ∧ Below w.heap.size w w' := by
 have hI := Lib.hid (fun W => hid ▸ ident_right t r W : ∀ W, Calls Tryz.prog 57 #[.agg #[.int .i64 t, .int .i64 r]] W fun e w' => e = .returned (.bool true) ∧ Below W.heap.size W w')
 clear hid
 have d1 : decide ((40 : Int) < (key.size : Int)) = false := by simp; omega
 have d2 : decide ((300 : Int) < (val.size : Int)) = false := by simp; omega
 go_enter Tryz.func46, Tryz.ntmps46
 go_wp2_with fail
 have q0 := row_at #[.int .i64 t, .int .i64 r, .int .i64 1, .string key, .string val, .int .i64 0] 33 (rfl : w.heap.size = w.heap.size)
 have qb : Below w.heap.size w (w.alloc (Obj.cells #[.int .i64 t, .int .i64 r, .int .i64 1, .string key, .string val, .int .i64 0] 33)) := by exact blw
 generalize w.alloc (Obj.cells #[.int .i64 t, .int .i64 r, .int .i64 1, .string key, .string val, .int .i64 0] 33) = w1 at *
 exact byWWrite21
set_option maxHeartbeats 2000000 in
set_option maxRecDepth 100000 in
theorem wr_drop_v (t r : Int) (key val : ByteArray) (n : Int) (w : World) (hid : Wr.idRight t r = true) (h1 : key.size ≤ 40) (h2 : val.size ≤ 300) (he : val.toList.isEmpty = false) :
  Calls Tryz.prog 46 #[.agg #[.int .i64 t, .int .i64 r, .int .i64 2, .string key, .string val, .int .i64 n]] w fun e w' => e = .returned (errW 3) ∧ Below w.heap.size w w' := by
 have hI := Lib.hid (fun W => hid ▸ ident_right t r W : ∀ W, Calls Tryz.prog 57 #[.agg #[.int .i64 t, .int .i64 r]] W fun e w' => e = .returned (.bool true) ∧ Below W.heap.size W w')
 clear hid
 have d1 : decide ((40 : Int) < (key.size : Int)) = false := by simp; omega
 have d2 : decide ((300 : Int) < (val.size : Int)) = false := by simp; omega
 exact byWWrite25
set_option maxHeartbeats 2000000 in
set_option maxRecDepth 100000 in
theorem wr_add_v (t r : Int) (key val : ByteArray) (n : Int) (w : World) (hid : Wr.idRight t r = true) (h1 : key.size ≤ 40) (h2 : val.size ≤ 300) (he : val.toList.isEmpty = false) :
  Calls Tryz.prog 46 #[.agg #[.int .i64 t, .int .i64 r, .int .i64 3, .string key, .string val, .int .i64 n]] w fun e w' => e = .returned (errW 3) ∧ Below w.heap.size w w' := by
 have hI := Lib.hid (fun W => hid ▸ ident_right t r W : ∀ W, Calls Tryz.prog 57 #[.agg #[.int .i64 t, .int .i64 r]] W fun e w' => e = .returned (.bool true) ∧ Below W.heap.size W w')
 clear hid
 have d1 : decide ((40 : Int) < (key.size : Int)) = false := by simp; omega
 have d2 : decide ((300 : Int) < (val.size : Int)) = false := by simp; omega
 exact byWWrite26
set_option maxHeartbeats 2000000 in
set_option maxRecDepth 100000 in
theorem wr_drop_n (t r : Int) (key val : ByteArray) (n : Int) (w : World) (hid : Wr.idRight t r = true) (h1 : key.size ≤ 40) (h : n ≠ 0) :
  Calls Tryz.prog 46 #[.agg #[.int .i64 t, .int .i64 r, .int .i64 2, .string key, .string ⟨#[]⟩, .int .i64 n]] w fun e w' => e = .returned (errW 3) ∧ Below w.heap.size w w' := by
 have hI := Lib.hid (fun W => hid ▸ ident_right t r W : ∀ W, Calls Tryz.prog 57 #[.agg #[.int .i64 t, .int .i64 r]] W fun e w' => e = .returned (.bool true) ∧ Below W.heap.size W w')
 clear hid
 have d1 : decide ((40 : Int) < (key.size : Int)) = false := by simp; omega
 have d7 : ((n : Int) != 0) = true := by simp; omega
 go_enter Tryz.func46, Tryz.ntmps46
 go_wp2_with fail
 have q0 := row_at #[.int .i64 t, .int .i64 r, .int .i64 2, .string key, .string ⟨#[]⟩, .int .i64 n] 33 (rfl : w.heap.size = w.heap.size)
 have qb : Below w.heap.size w (w.alloc (Obj.cells #[.int .i64 t, .int .i64 r, .int .i64 2, .string key, .string ⟨#[]⟩, .int .i64 n] 33)) := by exact blw
 generalize w.alloc (Obj.cells #[.int .i64 t, .int .i64 r, .int .i64 2, .string key, .string ⟨#[]⟩, .int .i64 n] 33) = w1 at *
 exact byWWrite21
set_option maxHeartbeats 2000000 in
set_option maxRecDepth 100000 in
theorem wr_drop (t r : Int) (key val : ByteArray) (w : World) (hid : Wr.idRight t r = true) (h1 : key.size ≤ 40) :
  Calls Tryz.prog 46 #[.agg #[.int .i64 t, .int .i64 r, .int .i64 2, .string key, .string ⟨#[]⟩, .int .i64 0]] w fun e w' => e = .returned (errW 0) ∧ Below w.heap.size w w' := by
 have hI := Lib.hid (fun W => hid ▸ ident_right t r W : ∀ W, Calls Tryz.prog 57 #[.agg #[.int .i64 t, .int .i64 r]] W fun e w' => e = .returned (.bool true) ∧ Below W.heap.size W w')
 clear hid
 have d1 : decide ((40 : Int) < (key.size : Int)) = false := by simp; omega
 go_enter Tryz.func46, Tryz.ntmps46
 go_wp2_with fail
 have q0 := row_at #[.int .i64 t, .int .i64 r, .int .i64 2, .string key, .string ⟨#[]⟩, .int .i64 0] 33 (rfl : w.heap.size = w.heap.size)
 have qb : Below w.heap.size w (w.alloc (Obj.cells #[.int .i64 t, .int .i64 r, .int .i64 2, .string key, .string ⟨#[]⟩, .int .i64 0] 33)) := by exact blw
 generalize w.alloc (Obj.cells #[.int .i64 t, .int .i64 r, .int .i64 2, .string key, .string ⟨#[]⟩, .int .i64 0] 33) = w1 at *
 exact byWWrite21
theorem byWWrite23 {p : Prop} (h : p := by
 have hI := Lib.hid (fun W => hid ▸ ident_right t r W : ∀ W, Calls Tryz.prog 57 #[.agg #[.int .i64 t, .int .i64 r]] W fun e w' => e = .returned (.bool true) ∧ Below W.heap.size W w')
 clear hid
 have d1 : decide ((40 : Int) < (key.size : Int)) = false := by simp; omega
 go_enter Tryz.func46, Tryz.ntmps46
 go_wp2_with fail
 have q0 := row_at #[.int .i64 t, .int .i64 r, .int .i64 3, .string key, .string ⟨#[]⟩, .int .i64 n] 33 (rfl : w.heap.size = w.heap.size)
 have qb : Below w.heap.size w (w.alloc (Obj.cells #[.int .i64 t, .int .i64 r, .int .i64 3, .string key, .string ⟨#[]⟩, .int .i64 n] 33)) := by exact blw
 generalize w.alloc (Obj.cells #[.int .i64 t, .int .i64 r, .int .i64 3, .string key, .string ⟨#[]⟩, .int .i64 n] 33) = w1 at *
 exact byWWrite21) : p := h
set_option maxHeartbeats 2000000 in
set_option maxRecDepth 100000 in
theorem wr_add_lo (t r : Int) (key val : ByteArray) (n : Int) (w : World) (hid : Wr.idRight t r = true) (h1 : key.size ≤ 40) (h : n < -1125899906842624) :
  Calls Tryz.prog 46 #[.agg #[.int .i64 t, .int .i64 r, .int .i64 3, .string key, .string ⟨#[]⟩, .int .i64 n]] w fun e w' => e = .returned (errW 2) ∧ Below w.heap.size w w' := by
 exact byWWrite23
set_option maxHeartbeats 2000000 in
set_option maxRecDepth 100000 in
theorem wr_add_hi (t r : Int) (key val : ByteArray) (n : Int) (w : World) (hid : Wr.idRight t r = true) (h1 : key.size ≤ 40) (h : 1125899906842624 < n) :
  Calls Tryz.prog 46 #[.agg #[.int .i64 t, .int .i64 r, .int .i64 3, .string key, .string ⟨#[]⟩, .int .i64 n]] w fun e w' => e = .returned (errW 2) ∧ Below w.heap.size w w' := by
 exact byWWrite23
set_option maxHeartbeats 2000000 in
set_option maxRecDepth 100000 in
theorem wr_add (t r : Int) (key val : ByteArray) (n : Int) (w : World) (hid : Wr.idRight t r = true) (h1 : key.size ≤ 40) (h : -1125899906842624 ≤ n) (h3 : n ≤ 1125899906842624) :
  Calls Tryz.prog 46 #[.agg #[.int .i64 t, .int .i64 r, .int .i64 3, .string key, .string ⟨#[]⟩, .int .i64 n]] w fun e w' => e = .returned (errW 0) ∧ Below w.heap.size w w' := by
 exact byWWrite23
theorem byWWrite28 {p : Prop} (h : p := by
 have hI := Lib.hid (fun W => hid ▸ ident_right t r W : ∀ W, Calls Tryz.prog 57 #[.agg #[.int .i64 t, .int .i64 r]] W fun e w' => e = .returned (.bool true) ∧ Below W.heap.size W w')
 clear hid
 have d1 : decide ((40 : Int) < (key.size : Int)) = false := by simp; omega
 have d2 : decide ((300 : Int) < (val.size : Int)) = false := by simp; omega
 exact byWWrite22) : p := h
set_option maxHeartbeats 2000000 in
set_option maxRecDepth 100000 in
theorem wr_ins_lo (t r : Int) (key val : ByteArray) (n : Int) (w : World) (hid : Wr.idRight t r = true) (h1 : key.size ≤ 40) (h2 : val.size ≤ 300) (h : n < 0) :
  Calls Tryz.prog 46 #[.agg #[.int .i64 t, .int .i64 r, .int .i64 4, .string key, .string val, .int .i64 n]] w fun e w' => e = .returned (errW 2) ∧ Below w.heap.size w w' := by
 exact byWWrite28
set_option maxHeartbeats 2000000 in
set_option maxRecDepth 100000 in
theorem wr_ins_hi (t r : Int) (key val : ByteArray) (n : Int) (w : World) (hid : Wr.idRight t r = true) (h1 : key.size ≤ 40) (h2 : val.size ≤ 300) (h : 1000 < n) :
  Calls Tryz.prog 46 #[.agg #[.int .i64 t, .int .i64 r, .int .i64 4, .string key, .string val, .int .i64 n]] w fun e w' => e = .returned (errW 2) ∧ Below w.heap.size w w' := by
 exact byWWrite28
set_option maxHeartbeats 2000000 in
set_option maxRecDepth 100000 in
theorem wr_ins (t r : Int) (key val : ByteArray) (n : Int) (w : World) (hid : Wr.idRight t r = true) (h1 : key.size ≤ 40) (h2 : val.size ≤ 300) (h : 0 ≤ n) (h3 : n ≤ 1000) :
  Calls Tryz.prog 46 #[.agg #[.int .i64 t, .int .i64 r, .int .i64 4, .string key, .string val, .int .i64 n]] w fun e w' => e = .returned (errW 0) ∧ Below w.heap.size w w' := by
 exact byWWrite28
end Go.Proofs.YtognjohloobliaaGreatDoor
/- Walks of write.Right (whole), write.Tail. -/
namespace Go.Proofs.YtognjohloobliaaGreatDoor
open Go.RowKit
set_option linter.unusedVariables false
def wr (t r k : Int) (key val : ByteArray) (n : Int) : Wr := ⟨t, r, k, key.data.toList, val.data.toList, n⟩
def wrV (t r k : Int) (key val : ByteArray) (n : Int) : Value := .agg #[.int .i64 t, .int .i64 r, .int .i64 k, .string key, .string val, .int .i64 n]
theorem errW_no {c : Nat} (h : c ≠ 0) : errW c = .iface 67 (.int .i64 c) := by unfold errW errV; rw [if_neg h]
theorem ba_len (s : ByteArray) : s.data.toList.length = s.size := Array.length_toList
theorem ba_nil {s : ByteArray} (h : s.data.toList = []) : s = ⟨#[]⟩ := ba_ext (by simpa using h)
theorem ba_notempty {s : ByteArray} (h : s.data.toList ≠ []) : s.toList.isEmpty = false := by
 rw [ByteArray.toList_eq, List.isEmpty_eq_false_iff]; exact h
theorem right_kind {x : Wr} (h : x.k < 1 ∨ 4 < x.k) : Wr.right x = 1 := by unfold Wr.right; rw [if_pos h]
theorem right_id {x : Wr} (h1 : 1 ≤ x.k) (h2 : x.k ≤ 4) (h : Wr.idRight x.t x.r = false) : Wr.right x = 2 := by
 unfold Wr.right; rw [if_neg (by omega), if_pos h]
theorem right_long {x : Wr} (h1 : 1 ≤ x.k) (h2 : x.k ≤ 4) (hi : Wr.idRight x.t x.r = true) (h : 40 < x.key.length ∨ 300 < x.val.length) : Wr.right x = 4 := by
 unfold Wr.right; rw [if_neg (by omega), if_neg (by simp [hi]), if_pos h]
theorem right_form {x : Wr} (h1 : 1 ≤ x.k) (h2 : x.k ≤ 4) (hi : Wr.idRight x.t x.r = true) (h3 : x.key.length ≤ 40) (h4 : x.val.length ≤ 300) (h : (x.k ≠ 1 ∧ x.k ≠ 4 ∧ x.val ≠ []) ∨ (x.k ≠ 3 ∧ x.k ≠ 4 ∧ x.n ≠ 0)) : Wr.right x = 3 := by
 unfold Wr.right; rw [if_neg (by omega), if_neg (by simp [hi]), if_neg (by omega), if_pos h]
theorem right_range {x : Wr} (h1 : 1 ≤ x.k) (h2 : x.k ≤ 4) (hi : Wr.idRight x.t x.r = true) (h3 : x.key.length ≤ 40) (h4 : x.val.length ≤ 300) (h5 : ¬ ((x.k ≠ 1 ∧ x.k ≠ 4 ∧ x.val ≠ []) ∨ (x.k ≠ 3 ∧ x.k ≠ 4 ∧ x.n ≠ 0))) (h : (x.k = 3 ∧ (x.n < -1125899906842624 ∨ 1125899906842624 < x.n)) ∨ (x.k = 4 ∧ (x.n < 0 ∨ 1000 < x.n))) : Wr.right x = 2 := by
 unfold Wr.right; rw [if_neg (by omega), if_neg (by simp [hi]), if_neg (by omega), if_neg h5, if_pos h]
theorem right_fine {x : Wr} (h1 : 1 ≤ x.k) (h2 : x.k ≤ 4) (hi : Wr.idRight x.t x.r = true) (h3 : x.key.length ≤ 40) (h4 : x.val.length ≤ 300) (h5 : ¬ ((x.k ≠ 1 ∧ x.k ≠ 4 ∧ x.val ≠ []) ∨ (x.k ≠ 3 ∧ x.k ≠ 4 ∧ x.n ≠ 0))) (h : ¬ ((x.k = 3 ∧ (x.n < -1125899906842624 ∨ 1125899906842624 < x.n)) ∨ (x.k = 4 ∧ (x.n < 0 ∨ 1000 < x.n)))) : Wr.right x = 0 := by
 unfold Wr.right; rw [if_neg (by omega), if_neg (by simp [hi]), if_neg (by omega), if_neg h5, if_neg h]
theorem write_right (t r k : Int) (key val : ByteArray) (n : Int) (w : World) :
  Calls Tryz.prog 46 #[wrV t r k key val n] w fun e w' => e = .returned (errW (Wr.right (wr t r k key val n))) ∧ Below w.heap.size w w' := by
 have lk : (wr t r k key val n).key.length = key.size := ba_len key
 have lv : (wr t r k key val n).val.length = val.size := ba_len val
 by_cases h1 : k < 1
 ·rw [right_kind (.inl h1)]; exact wr_low t r key val k n w h1
 by_cases h4 : 4 < k
 ·rw [right_kind (.inr h4)]; exact wr_high t r key val k n w h4
 have k1 : 1 ≤ (wr t r k key val n).k := by show 1 ≤ k; omega
 have k4 : (wr t r k key val n).k ≤ 4 := by show k ≤ 4; omega
 have hk : k = 1 ∨ k = 2 ∨ k = 3 ∨ k = 4 := by omega
 cases hi : Wr.idRight t r with
 | false =>
  rw [right_id k1 k4 hi]
  rcases hk with rfl | rfl | rfl | rfl
  ·exact wr_id1 t r key val n w hi
  ·exact wr_id2 t r key val n w hi
  ·exact wr_id3 t r key val n w hi
  ·exact wr_id4 t r key val n w hi
 | true =>
  by_cases h40 : 40 < key.size
  ·rw [right_long k1 k4 hi (by omega)]
   rcases hk with rfl | rfl | rfl | rfl
   ·exact wr_key1 t r key val n w hi h40
   ·exact wr_key2 t r key val n w hi h40
   ·exact wr_key3 t r key val n w hi h40
   ·exact wr_key4 t r key val n w hi h40
  by_cases h300 : 300 < val.size
  ·rw [right_long k1 k4 hi (by omega)]
   rcases hk with rfl | rfl | rfl | rfl
   ·exact wr_val1 t r key val n w hi (by omega) h300
   ·exact wr_val2 t r key val n w hi (by omega) h300
   ·exact wr_val3 t r key val n w hi (by omega) h300
   ·exact wr_val4 t r key val n w hi (by omega) h300
  have m1 : (wr t r k key val n).key.length ≤ 40 := by omega
  have m2 : (wr t r k key val n).val.length ≤ 300 := by omega
  have a1 : key.size ≤ 40 := by omega
  have a2 : val.size ≤ 300 := by omega
  by_cases hf : ((wr t r k key val n).k ≠ 1 ∧ (wr t r k key val n).k ≠ 4 ∧ (wr t r k key val n).val ≠ []) ∨ ((wr t r k key val n).k ≠ 3 ∧ (wr t r k key val n).k ≠ 4 ∧ (wr t r k key val n).n ≠ 0)
  ·rw [right_form k1 k4 hi m1 m2 hf]
   simp only [wr] at hf
   rcases hk with rfl | rfl | rfl | rfl
   ·exact wr_put_n t r key val n w hi a1 a2 (by omega)
   ·by_cases hv : val.data.toList = []
    ·obtain rfl := ba_nil hv
     have hn : n ≠ 0 := by
      rcases hf with hf | hf
      ·exact absurd hv hf.2.2
      ·exact hf.2.2
     exact wr_drop_n t r key key n w hi a1 hn
    ·exact wr_drop_v t r key val n w hi a1 a2 (ba_notempty hv)
   ·by_cases hv : val.data.toList = []
    ·rcases hf with hf | hf
     ·exact absurd hv hf.2.2
     ·omega
    ·exact wr_add_v t r key val n w hi a1 a2 (ba_notempty hv)
   ·omega
  ·have hf' := hf
   simp only [wr] at hf
   by_cases hr : ((wr t r k key val n).k = 3 ∧ ((wr t r k key val n).n < -1125899906842624 ∨ 1125899906842624 < (wr t r k key val n).n)) ∨ ((wr t r k key val n).k = 4 ∧ ((wr t r k key val n).n < 0 ∨ 1000 < (wr t r k key val n).n))
   ·rw [right_range k1 k4 hi m1 m2 hf' hr]
    simp only [wr] at hr
    rcases hk with rfl | rfl | rfl | rfl
    ·omega
    ·omega
    ·have hv : val.data.toList = [] := by
      by_cases hv : val.data.toList = []
      ·exact hv
      ·exact absurd (.inl ⟨by omega, by omega, hv⟩) hf
     obtain rfl := ba_nil hv
     by_cases hn : n < -1125899906842624
     ·exact wr_add_lo t r key key n w hi a1 hn
     ·exact wr_add_hi t r key key n w hi a1 (by omega)
    ·by_cases hn : n < 0
     ·exact wr_ins_lo t r key val n w hi a1 a2 hn
     ·exact wr_ins_hi t r key val n w hi a1 a2 (by omega)
   ·rw [right_fine k1 k4 hi m1 m2 hf' hr]
    simp only [wr] at hr
    rcases hk with rfl | rfl | rfl | rfl
    ·obtain rfl : n = 0 := by omega
     exact wr_put t r key val w hi a1 a2
    ·have hv : val.data.toList = [] := by
      by_cases hv : val.data.toList = []
      ·exact hv
      ·exact absurd (.inl ⟨by omega, by omega, hv⟩) hf
     obtain rfl := ba_nil hv
     obtain rfl : n = 0 := by omega
     exact wr_drop t r key key w hi a1
    ·have hv : val.data.toList = [] := by
      by_cases hv : val.data.toList = []
      ·exact hv
      ·exact absurd (.inl ⟨by omega, by omega, hv⟩) hf
     obtain rfl := ba_nil hv
     exact wr_add t r key key n w hi a1 (by omega) (by omega)
    ·exact wr_ins t r key val n w hi a1 a2 (by omega) (by omega)
end Go.Proofs.YtognjohloobliaaGreatDoor
/- A write in memory, by its parts. -/
namespace Go.Proofs.YtognjohloobliaaGreatDoor
open Go.RowKit
/-- A write in memory, by its parts. -/
structure WrB where
 t : Int
 r : Int
 k : Int
 key : ByteArray
 val : ByteArray
 n : Int
def wrBCells (x : WrB) : List Value := [.int .i64 x.t, .int .i64 x.r, .int .i64 x.k, .string x.key, .string x.val, .int .i64 x.n]
theorem wrBCells_len (x : WrB) : (wrBCells x).length = 6 := rfl
abbrev WrBOk (x : WrB) : Prop := ((Lit.int .i64 x.t).wf = true ∧ (Lit.int .i64 x.r).wf = true) ∧ (Lit.int .i64 x.k).wf = true ∧ x.key.size ≤ 140737488351232 ∧ x.val.size ≤ 140737488351232 ∧ (Lit.int .i64 x.n).wf = true
end Go.Proofs.YtognjohloobliaaGreatDoor
/- What is wrong is told by a value that isn't nil. -/
namespace Go.Proofs.YtognjohloobliaaGreatDoor
set_option linter.unusedVariables false
set_option linter.unusedSimpArgs false
open Go.RowKit
end Go.Proofs.YtognjohloobliaaGreatDoor
/- Walks of vary. -/
namespace Go.Proofs.YtognjohloobliaaGreatDoor
open Go.RowKit
set_option linter.unusedVariables false
theorem u8_or128b (n : Nat) : bits .or .u8 ((n : Int) % 256) 128 = ((n % 128 + 128 : Nat) : Int) := by
 have h := u8_or_nat (n % 256) 128 (by omega) (by omega)
 have e : (n % 256) ||| 128 = n % 128 + 128 := by
  have : ∀ m : Fin 256, m.val ||| 128 = m.val % 128 + 128 := by decide +kernel
  have h2 := this ⟨n % 256, by omega⟩
  simp only at h2
  rw [h2]; omega
 rw [e] at h
 exact h
theorem put_step {l : List UInt8} {m n : Nat} (h : l ++ Vary.put m = Vary.put n) (hm : 128 ≤ m) : l ++ [UInt8.ofNat (m % 128 + 128)] ++ Vary.put (m / 128) = Vary.put n := by
 rw [← h, Vary.put_big (n := m) (by omega), List.append_assoc, List.singleton_append]
theorem vals_step (l : List UInt8) (m : Nat) : byteVals l ++ [Value.int .u8 ((m : Int) % 128 + 128)] = byteVals (l ++ [UInt8.ofNat (m % 128 + 128)]) := by
 unfold byteVals
 rw [List.map_append, List.map_singleton, Vary.u8_small (by omega)]; rfl
theorem put_last {l : List UInt8} {m n : Nat} (h : l ++ Vary.put m = Vary.put n) (hm : m < 128) : byteVals l ++ [Value.int .u8 (m : Int)] = byteVals (Vary.put n) ∧ l.length + 1 = (Vary.put n).length := by
 rw [← h, Vary.put_small hm]
 unfold byteVals
 rw [List.map_append, List.map_singleton, Vary.u8_small (by omega)]
 exact ⟨rfl, by simp⟩
set_option maxHeartbeats 1000000 in
set_option maxRecDepth 20000 in
theorem vary_put (n : Nat) (w : World) (hn : n < 18446744073709551616) :
  Calls Tryz.prog 49 #[.int .u64 n] w fun e w' => e = .returned (.string ⟨(Vary.put n).toArray⟩) ∧ Below w.heap.size w w' := by
 have hlen := Vary.put_len n hn
 replace hn := Lib.hid hn
 go_enter Tryz.func49, Tryz.ntmps49
 go_wp2
 go_loopw [0, 3] (fun x v wr => ∃ (m : Nat) (l : List UInt8), x = .int .u64 m ∧ m ≤ n ∧ l ++ Vary.put m = Vary.put n ∧ wr.ownsRow w.heap.size 5 1 v l.length (byteVals l) ∧ Below w.heap.size w wr) (fun x _ _ => (intOf x).toNat)
 case atStart => exact ⟨n, [], rfl, Nat.le_refl _, rfl, World.ownsRow_nil _ _ _ _, Below.refl _ _⟩
 case round =>
  obtain ⟨m, l, rfl, hm, hl, hown, hbel⟩ := hrel
  have hsz := hbel.size
  have hll : l.length ≤ 10 := by
   have := congrArg List.length hl
   rw [List.length_append] at this; omega
  replace hl := Lib.hid hl
  by_cases hlt : 128 ≤ m
  ·have hor := u8_or128b m
   go_wp2_with (at_builtin; go_must (refine app_new rfl _ _ 121 5 rfl w.heap.size (.int .u8 0) 1 1 Tryz.underlying121 (by kernel_rfl) rfl (by omega) _ _ _ rfl hown _ rfl rfl ?c1 (by omega) (by omega) hsz ?_))
   case c1 => rfl
   intro v' w1 hown1 hb1 _
   have hs1 := Lib.hid (put_step hl.out hlt)
   have hv1 := Lib.hid (vals_step l m)
   rw [hv1.out] at hown1
   have hown1 := Lib.hid hown1
   clear hown hor
   go_wp2
   go_roundw
   case rel =>
    refine ⟨m / 128, l ++ [UInt8.ofNat (m % 128 + 128)], by go_num, by omega, hs1.out, ?_, hbel.trans hb1⟩
    rw [List.length_append]; exact hown1.out
   case measure => simp [intOf]; omega
  ·have hfin := Lib.hid (put_last hl.out (by omega))
   go_wp2_with (at_builtin; go_must (refine app_new rfl _ _ 121 5 rfl w.heap.size (.int .u8 0) 1 1 Tryz.underlying121 (by kernel_rfl) rfl (by omega) _ _ _ rfl hown _ rfl rfl ?c2 (by omega) (by omega) hsz ?_))
   case c2 => rfl
   intro v' w1 hown1 hb1 hnn
   rw [hfin.out.1, hfin.out.2] at hown1
   obtain ⟨g, cap, hv⟩ := owns_addr hown1 hnn
   rw [hv] at hown1 ⊢
   have hrow := prow_of_owns hown1
   have hcv := str_of_prow (P := Tryz.prog) hrow.1 121 9 Tryz.underlying121 Tryz.underlying5 Tryz.underlying9 (Vary.put n).length cap rfl
   clear hown1 hrow hown hv hnn
   go_wp2
   go_ret
   exact ⟨rfl, hbel.trans hb1⟩
end Go.Proofs.YtognjohloobliaaGreatDoor
/- Walks of span. -/
namespace Go.Proofs.YtognjohloobliaaGreatDoor
open Go.RowKit
set_option linter.unusedVariables false
end Go.Proofs.YtognjohloobliaaGreatDoor
