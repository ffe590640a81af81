/- Walks of ident.Right, write.Right. -/
import Derived.Test.YtognjohloobliaaDoorErr
import Derived.Test.YtognjohloobliaaDoorPlainBatch
namespace Go.Proofs.YtognjohloobliaaDoor
open Go.RowKit
set_option linter.unusedVariables false
set_option maxHeartbeats 2000000 in
theorem ident_right (t r : Int) (w : World) :
    Calls Tryd.prog 18 #[.agg #[.int .i64 t, .int .i64 r]] w fun e w' => e = .returned (.bool (Wr.idRight t r)) ∧ Below w.heap.size w w' := by
  by_cases h1 : 1 ≤ t
  · by_cases h2 : t ≤ 1099511627776
    · by_cases h3 : 0 ≤ r
      · have hf : Hid (Wr.idRight t r = decide (r ≤ 200)) := Lib.hid (by unfold Wr.idRight; simp [h1, h2, h3])
        go_enter Tryd.func18, Tryd.ntmps18
        go_wp2
        go_ret
        exact ⟨ret_bool hf.out.symm, by exact blw⟩
      · have hf : Hid (Wr.idRight t r = false) := Lib.hid (by unfold Wr.idRight; simp; omega)
        go_enter Tryd.func18, Tryd.ntmps18
        go_wp2
        go_ret
        exact ⟨ret_bool hf.out.symm, by exact blw⟩
    · have hf : Hid (Wr.idRight t r = false) := Lib.hid (by unfold Wr.idRight; simp; omega)
      go_enter Tryd.func18, Tryd.ntmps18
      go_wp2
      go_ret
      exact ⟨ret_bool hf.out.symm, by exact blw⟩
  · have hf : Hid (Wr.idRight t r = false) := Lib.hid (by unfold Wr.idRight; simp; omega)
    go_enter Tryd.func18, Tryd.ntmps18
    go_wp2
    go_ret
    exact ⟨ret_bool hf.out.symm, by exact blw⟩
def errW (c : Nat) : Value := if c = 0 then .nilIface else errV c
def wrCells (t r k : Int) (key val : ByteArray) (n : Int) : Array Value := #[.int .i64 t, .int .i64 r, .int .i64 k, .string key, .string val, .int .i64 n]
end Go.Proofs.YtognjohloobliaaDoor
/- The walk of write.Right, leaf by leaf (printed by wip/bin/gen_right.py). -/
namespace Go.Proofs.YtognjohloobliaaDoor
open Go.RowKit
set_option linter.unusedVariables false
theorem ret_of {c d : Nat} (h : d = c) : Ending.returned (errW c) = .returned (errW d) := by rw [h]
theorem ret_no {d : Nat} {c : Nat} (h : d = c) (hc : c ≠ 0) : Ending.returned (errV c) = .returned (errW d) := by rw [h, errW, if_neg hc]
theorem ret_zero {d : Nat} (h : d = 0) : Ending.returned .nilIface = .returned (errW d) := by rw [h]; rfl
theorem byWWrite27 {p : Prop} (h : p := by
  go_enter Tryd.func10, Tryd.ntmps10
  go_wp2_with fail
  have q0 := row_at #[.int .i64 t, .int .i64 r, .int .i64 k, .string key, .string val, .int .i64 n] 29 (rfl : w.heap.size = w.heap.size)
  have qb : Below w.heap.size w (w.alloc (Obj.cells #[.int .i64 t, .int .i64 r, .int .i64 k, .string key, .string val, .int .i64 n] 29)) := by exact blw
  generalize w.alloc (Obj.cells #[.int .i64 t, .int .i64 r, .int .i64 k, .string key, .string val, .int .i64 n] 29) = w1 at *
  obtain ⟨c0, c1, c2, c3, c4, c5⟩ := q0.c6
  clear q0
  go_quiet (fail)
  go_wp2
  go_ret
  exact ⟨rfl, by exact blw⟩) : p := h
set_option maxHeartbeats 2000000 in
set_option maxRecDepth 100000 in
theorem wr_low (t r : Int) (key val : ByteArray) (k : Int) (n : Int) (w : World) (h : k < 1) :
    Calls Tryd.prog 10 #[.agg #[.int .i64 t, .int .i64 r, .int .i64 k, .string key, .string val, .int .i64 n]] w fun e w' => e = .returned (errW 1) ∧ Below w.heap.size w w' := by
  have d1 : ((k : Int) == 1) = false := by simp; omega
  have d4 : ((k : Int) == 4) = false := by simp; omega
  have d3 : ((k : Int) == 3) = false := by simp; omega
  have d5 : decide ((k : Int) < 1) = true := by simpa using h
  exact byWWrite27
set_option maxHeartbeats 2000000 in
set_option maxRecDepth 100000 in
theorem wr_high (t r : Int) (key val : ByteArray) (k : Int) (n : Int) (w : World) (h : 4 < k) :
    Calls Tryd.prog 10 #[.agg #[.int .i64 t, .int .i64 r, .int .i64 k, .string key, .string val, .int .i64 n]] w fun e w' => e = .returned (errW 1) ∧ Below w.heap.size w w' := by
  have d1 : ((k : Int) == 1) = false := by simp; omega
  have d4 : ((k : Int) == 4) = false := by simp; omega
  have d3 : ((k : Int) == 3) = false := by simp; omega
  have d5 : decide ((k : Int) < 1) = false := by simp; omega
  have d6 : decide ((4 : Int) < k) = true := by simpa using h
  exact byWWrite27
theorem byWWrite21 {p : Prop} (h : p := by
  obtain ⟨c0, c1, c2, c3, c4, c5⟩ := q0.c6
  clear q0
  go_quiet (fail)
  go_wp2_with (go_at_call 18; (with_reducible refine (hI.out _).mono ?_); rintro e w' ⟨rfl, hb⟩; replace c0 := cell_below hb (by first | exact c0 | exact cell_alloc c0 _ | exact cell_alloc (cell_alloc c0 _) _); replace c1 := cell_below hb (by first | exact c1 | exact cell_alloc c1 _ | exact cell_alloc (cell_alloc c1 _) _); replace c2 := cell_below hb (by first | exact c2 | exact cell_alloc c2 _ | exact cell_alloc (cell_alloc c2 _) _); replace c3 := cell_below hb (by first | exact c3 | exact cell_alloc c3 _ | exact cell_alloc (cell_alloc c3 _) _); replace c4 := cell_below hb (by first | exact c4 | exact cell_alloc c4 _ | exact cell_alloc (cell_alloc c4 _) _); replace c5 := cell_below hb (by first | exact c5 | exact cell_alloc c5 _ | exact cell_alloc (cell_alloc c5 _) _))
  go_ret
  exact ⟨rfl, by exact blw⟩) : p := h
theorem byWWrite24 {p : Prop} (h : p := by
  go_enter Tryd.func10, Tryd.ntmps10
  go_wp2_with fail
  have q0 := row_at #[.int .i64 t, .int .i64 r, .int .i64 1, .string key, .string val, .int .i64 n] 29 (rfl : w.heap.size = w.heap.size)
  have qb : Below w.heap.size w (w.alloc (Obj.cells #[.int .i64 t, .int .i64 r, .int .i64 1, .string key, .string val, .int .i64 n] 29)) := by exact blw
  generalize w.alloc (Obj.cells #[.int .i64 t, .int .i64 r, .int .i64 1, .string key, .string val, .int .i64 n] 29) = w1 at *
  exact byWWrite21) : p := h
set_option maxHeartbeats 2000000 in
set_option maxRecDepth 100000 in
theorem wr_id1 (t r : Int) (key val : ByteArray) (n : Int) (w : World) (hid : Wr.idRight t r = false) :
    Calls Tryd.prog 10 #[.agg #[.int .i64 t, .int .i64 r, .int .i64 1, .string key, .string val, .int .i64 n]] w fun e w' => e = .returned (errW 2) ∧ Below w.heap.size w w' := by
  have hI := Lib.hid (fun W => hid ▸ ident_right t r W : ∀ W, Calls Tryd.prog 18 #[.agg #[.int .i64 t, .int .i64 r]] W fun e w' => e = .returned (.bool false) ∧ Below W.heap.size W w')
  clear hid
  exact byWWrite24
set_option maxHeartbeats 2000000 in
set_option maxRecDepth 100000 in
theorem wr_key1 (t r : Int) (key val : ByteArray) (n : Int) (w : World) (hid : Wr.idRight t r = true) (h : 40 < key.size) :
    Calls Tryd.prog 10 #[.agg #[.int .i64 t, .int .i64 r, .int .i64 1, .string key, .string val, .int .i64 n]] w fun e w' => e = .returned (errW 4) ∧ Below w.heap.size w w' := by
  have hI := Lib.hid (fun W => hid ▸ ident_right t r W : ∀ W, Calls Tryd.prog 18 #[.agg #[.int .i64 t, .int .i64 r]] W fun e w' => e = .returned (.bool true) ∧ Below W.heap.size W w')
  clear hid
  exact byWWrite24
set_option maxHeartbeats 2000000 in
set_option maxRecDepth 100000 in
theorem wr_val1 (t r : Int) (key val : ByteArray) (n : Int) (w : World) (hid : Wr.idRight t r = true) (h1 : key.size ≤ 40) (h : 300 < val.size) :
    Calls Tryd.prog 10 #[.agg #[.int .i64 t, .int .i64 r, .int .i64 1, .string key, .string val, .int .i64 n]] w fun e w' => e = .returned (errW 4) ∧ Below w.heap.size w w' := by
  have hI := Lib.hid (fun W => hid ▸ ident_right t r W : ∀ W, Calls Tryd.prog 18 #[.agg #[.int .i64 t, .int .i64 r]] W fun e w' => e = .returned (.bool true) ∧ Below W.heap.size W w')
  clear hid
  have d1 : decide ((40 : Int) < (key.size : Int)) = false := by simp; omega
  exact byWWrite24
theorem byWWrite25 {p : Prop} (h : p := by
  go_enter Tryd.func10, Tryd.ntmps10
  go_wp2_with fail
  have q0 := row_at #[.int .i64 t, .int .i64 r, .int .i64 2, .string key, .string val, .int .i64 n] 29 (rfl : w.heap.size = w.heap.size)
  have qb : Below w.heap.size w (w.alloc (Obj.cells #[.int .i64 t, .int .i64 r, .int .i64 2, .string key, .string val, .int .i64 n] 29)) := by exact blw
  generalize w.alloc (Obj.cells #[.int .i64 t, .int .i64 r, .int .i64 2, .string key, .string val, .int .i64 n] 29) = w1 at *
  exact byWWrite21) : p := h
set_option maxHeartbeats 2000000 in
set_option maxRecDepth 100000 in
theorem wr_id2 (t r : Int) (key val : ByteArray) (n : Int) (w : World) (hid : Wr.idRight t r = false) :
    Calls Tryd.prog 10 #[.agg #[.int .i64 t, .int .i64 r, .int .i64 2, .string key, .string val, .int .i64 n]] w fun e w' => e = .returned (errW 2) ∧ Below w.heap.size w w' := by
  have hI := Lib.hid (fun W => hid ▸ ident_right t r W : ∀ W, Calls Tryd.prog 18 #[.agg #[.int .i64 t, .int .i64 r]] W fun e w' => e = .returned (.bool false) ∧ Below W.heap.size W w')
  clear hid
  exact byWWrite25
set_option maxHeartbeats 2000000 in
set_option maxRecDepth 100000 in
theorem wr_key2 (t r : Int) (key val : ByteArray) (n : Int) (w : World) (hid : Wr.idRight t r = true) (h : 40 < key.size) :
    Calls Tryd.prog 10 #[.agg #[.int .i64 t, .int .i64 r, .int .i64 2, .string key, .string val, .int .i64 n]] w fun e w' => e = .returned (errW 4) ∧ Below w.heap.size w w' := by
  have hI := Lib.hid (fun W => hid ▸ ident_right t r W : ∀ W, Calls Tryd.prog 18 #[.agg #[.int .i64 t, .int .i64 r]] W fun e w' => e = .returned (.bool true) ∧ Below W.heap.size W w')
  clear hid
  exact byWWrite25
set_option maxHeartbeats 2000000 in
set_option maxRecDepth 100000 in
theorem wr_val2 (t r : Int) (key val : ByteArray) (n : Int) (w : World) (hid : Wr.idRight t r = true) (h1 : key.size ≤ 40) (h : 300 < val.size) :
    Calls Tryd.prog 10 #[.agg #[.int .i64 t, .int .i64 r, .int .i64 2, .string key, .string val, .int .i64 n]] w fun e w' => e = .returned (errW 4) ∧ Below w.heap.size w w' := by
  have hI := Lib.hid (fun W => hid ▸ ident_right t r W : ∀ W, Calls Tryd.prog 18 #[.agg #[.int .i64 t, .int .i64 r]] W fun e w' => e = .returned (.bool true) ∧ Below W.heap.size W w')
  clear hid
  have d1 : decide ((40 : Int) < (key.size : Int)) = false := by simp; omega
  exact byWWrite25
theorem byWWrite26 {p : Prop} (h : p := by
  go_enter Tryd.func10, Tryd.ntmps10
  go_wp2_with fail
  have q0 := row_at #[.int .i64 t, .int .i64 r, .int .i64 3, .string key, .string val, .int .i64 n] 29 (rfl : w.heap.size = w.heap.size)
  have qb : Below w.heap.size w (w.alloc (Obj.cells #[.int .i64 t, .int .i64 r, .int .i64 3, .string key, .string val, .int .i64 n] 29)) := by exact blw
  generalize w.alloc (Obj.cells #[.int .i64 t, .int .i64 r, .int .i64 3, .string key, .string val, .int .i64 n] 29) = w1 at *
  exact byWWrite21) : p := h
set_option maxHeartbeats 2000000 in
set_option maxRecDepth 100000 in
theorem wr_id3 (t r : Int) (key val : ByteArray) (n : Int) (w : World) (hid : Wr.idRight t r = false) :
    Calls Tryd.prog 10 #[.agg #[.int .i64 t, .int .i64 r, .int .i64 3, .string key, .string val, .int .i64 n]] w fun e w' => e = .returned (errW 2) ∧ Below w.heap.size w w' := by
  have hI := Lib.hid (fun W => hid ▸ ident_right t r W : ∀ W, Calls Tryd.prog 18 #[.agg #[.int .i64 t, .int .i64 r]] W fun e w' => e = .returned (.bool false) ∧ Below W.heap.size W w')
  clear hid
  exact byWWrite26
set_option maxHeartbeats 2000000 in
set_option maxRecDepth 100000 in
theorem wr_key3 (t r : Int) (key val : ByteArray) (n : Int) (w : World) (hid : Wr.idRight t r = true) (h : 40 < key.size) :
    Calls Tryd.prog 10 #[.agg #[.int .i64 t, .int .i64 r, .int .i64 3, .string key, .string val, .int .i64 n]] w fun e w' => e = .returned (errW 4) ∧ Below w.heap.size w w' := by
  have hI := Lib.hid (fun W => hid ▸ ident_right t r W : ∀ W, Calls Tryd.prog 18 #[.agg #[.int .i64 t, .int .i64 r]] W fun e w' => e = .returned (.bool true) ∧ Below W.heap.size W w')
  clear hid
  exact byWWrite26
set_option maxHeartbeats 2000000 in
set_option maxRecDepth 100000 in
theorem wr_val3 (t r : Int) (key val : ByteArray) (n : Int) (w : World) (hid : Wr.idRight t r = true) (h1 : key.size ≤ 40) (h : 300 < val.size) :
    Calls Tryd.prog 10 #[.agg #[.int .i64 t, .int .i64 r, .int .i64 3, .string key, .string val, .int .i64 n]] w fun e w' => e = .returned (errW 4) ∧ Below w.heap.size w w' := by
  have hI := Lib.hid (fun W => hid ▸ ident_right t r W : ∀ W, Calls Tryd.prog 18 #[.agg #[.int .i64 t, .int .i64 r]] W fun e w' => e = .returned (.bool true) ∧ Below W.heap.size W w')
  clear hid
  have d1 : decide ((40 : Int) < (key.size : Int)) = false := by simp; omega
  exact byWWrite26
theorem byWWrite22 {p : Prop} (h : p := by
  go_enter Tryd.func10, Tryd.ntmps10
  go_wp2_with fail
  have q0 := row_at #[.int .i64 t, .int .i64 r, .int .i64 4, .string key, .string val, .int .i64 n] 29 (rfl : w.heap.size = w.heap.size)
  have qb : Below w.heap.size w (w.alloc (Obj.cells #[.int .i64 t, .int .i64 r, .int .i64 4, .string key, .string val, .int .i64 n] 29)) := by exact blw
  generalize w.alloc (Obj.cells #[.int .i64 t, .int .i64 r, .int .i64 4, .string key, .string val, .int .i64 n] 29) = w1 at *
  exact byWWrite21) : p := h
set_option maxHeartbeats 2000000 in
set_option maxRecDepth 100000 in
theorem wr_id4 (t r : Int) (key val : ByteArray) (n : Int) (w : World) (hid : Wr.idRight t r = false) :
    Calls Tryd.prog 10 #[.agg #[.int .i64 t, .int .i64 r, .int .i64 4, .string key, .string val, .int .i64 n]] w fun e w' => e = .returned (errW 2) ∧ Below w.heap.size w w' := by
  have hI := Lib.hid (fun W => hid ▸ ident_right t r W : ∀ W, Calls Tryd.prog 18 #[.agg #[.int .i64 t, .int .i64 r]] W fun e w' => e = .returned (.bool false) ∧ Below W.heap.size W w')
  clear hid
  exact byWWrite22
set_option maxHeartbeats 2000000 in
set_option maxRecDepth 100000 in
theorem wr_key4 (t r : Int) (key val : ByteArray) (n : Int) (w : World) (hid : Wr.idRight t r = true) (h : 40 < key.size) :
    Calls Tryd.prog 10 #[.agg #[.int .i64 t, .int .i64 r, .int .i64 4, .string key, .string val, .int .i64 n]] w fun e w' => e = .returned (errW 4) ∧ Below w.heap.size w w' := by
  have hI := Lib.hid (fun W => hid ▸ ident_right t r W : ∀ W, Calls Tryd.prog 18 #[.agg #[.int .i64 t, .int .i64 r]] W fun e w' => e = .returned (.bool true) ∧ Below W.heap.size W w')
  clear hid
  exact byWWrite22
set_option maxHeartbeats 2000000 in
set_option maxRecDepth 100000 in
theorem wr_val4 (t r : Int) (key val : ByteArray) (n : Int) (w : World) (hid : Wr.idRight t r = true) (h1 : key.size ≤ 40) (h : 300 < val.size) :
    Calls Tryd.prog 10 #[.agg #[.int .i64 t, .int .i64 r, .int .i64 4, .string key, .string val, .int .i64 n]] w fun e w' => e = .returned (errW 4) ∧ Below w.heap.size w w' := by
  have hI := Lib.hid (fun W => hid ▸ ident_right t r W : ∀ W, Calls Tryd.prog 18 #[.agg #[.int .i64 t, .int .i64 r]] W fun e w' => e = .returned (.bool true) ∧ Below W.heap.size W w')
  clear hid
  have d1 : decide ((40 : Int) < (key.size : Int)) = false := by simp; omega
  exact byWWrite22
set_option maxHeartbeats 2000000 in
set_option maxRecDepth 100000 in
theorem wr_put_n (t r : Int) (key val : ByteArray) (n : Int) (w : World) (hid : Wr.idRight t r = true) (h1 : key.size ≤ 40) (h2 : val.size ≤ 300) (h : n ≠ 0) :
    Calls Tryd.prog 10 #[.agg #[.int .i64 t, .int .i64 r, .int .i64 1, .string key, .string val, .int .i64 n]] w fun e w' => e = .returned (errW 3) ∧ Below w.heap.size w w' := by
  have hI := Lib.hid (fun W => hid ▸ ident_right t r W : ∀ W, Calls Tryd.prog 18 #[.agg #[.int .i64 t, .int .i64 r]] W fun e w' => e = .returned (.bool true) ∧ Below W.heap.size W w')
  clear hid
  have d1 : decide ((40 : Int) < (key.size : Int)) = false := by simp; omega
  have d2 : decide ((300 : Int) < (val.size : Int)) = false := by simp; omega
  have d7 : ((n : Int) != 0) = true := by simp; omega
  exact byWWrite24
set_option maxHeartbeats 2000000 in
set_option maxRecDepth 100000 in
theorem wr_put (t r : Int) (key val : ByteArray) (w : World) (hid : Wr.idRight t r = true) (h1 : key.size ≤ 40) (h2 : val.size ≤ 300) :
    Calls Tryd.prog 10 #[.agg #[.int .i64 t, .int .i64 r, .int .i64 1, .string key, .string val, .int .i64 0]] w fun e w' => e = .returned (errW 0) ∧ Below w.heap.size w w' := by
  have hI := Lib.hid (fun W => hid ▸ ident_right t r W : ∀ W, Calls Tryd.prog 18 #[.agg #[.int .i64 t, .int .i64 r]] W fun e w' => e = .returned (.bool true) ∧ Below W.heap.size W w')
  clear hid
  have d1 : decide ((40 : Int) < (key.size : Int)) = false := by simp; omega
  have d2 : decide ((300 : Int) < (val.size : Int)) = false := by simp; omega
  go_enter Tryd.func10, Tryd.ntmps10
  go_wp2_with fail
  have q0 := row_at #[.int .i64 t, .int .i64 r, .int .i64 1, .string key, .string val, .int .i64 0] 29 (rfl : w.heap.size = w.heap.size)
  have qb : Below w.heap.size w (w.alloc (Obj.cells #[.int .i64 t, .int .i64 r, .int .i64 1, .string key, .string val, .int .i64 0] 29)) := by exact blw
  generalize w.alloc (Obj.cells #[.int .i64 t, .int .i64 r, .int .i64 1, .string key, .string val, .int .i64 0] 29) = w1 at *
  exact byWWrite21
set_option maxHeartbeats 2000000 in
set_option maxRecDepth 100000 in
theorem wr_drop_v (t r : Int) (key val : ByteArray) (n : Int) (w : World) (hid : Wr.idRight t r = true) (h1 : key.size ≤ 40) (h2 : val.size ≤ 300) (he : val.toList.isEmpty = false) :
    Calls Tryd.prog 10 #[.agg #[.int .i64 t, .int .i64 r, .int .i64 2, .string key, .string val, .int .i64 n]] w fun e w' => e = .returned (errW 3) ∧ Below w.heap.size w w' := by
  have hI := Lib.hid (fun W => hid ▸ ident_right t r W : ∀ W, Calls Tryd.prog 18 #[.agg #[.int .i64 t, .int .i64 r]] W fun e w' => e = .returned (.bool true) ∧ Below W.heap.size W w')
  clear hid
  have d1 : decide ((40 : Int) < (key.size : Int)) = false := by simp; omega
  have d2 : decide ((300 : Int) < (val.size : Int)) = false := by simp; omega
  exact byWWrite25
set_option maxHeartbeats 2000000 in
set_option maxRecDepth 100000 in
theorem wr_add_v (t r : Int) (key val : ByteArray) (n : Int) (w : World) (hid : Wr.idRight t r = true) (h1 : key.size ≤ 40) (h2 : val.size ≤ 300) (he : val.toList.isEmpty = false) :
    Calls Tryd.prog 10 #[.agg #[.int .i64 t, .int .i64 r, .int .i64 3, .string key, .string val, .int .i64 n]] w fun e w' => e = .returned (errW 3) ∧ Below w.heap.size w w' := by
  have hI := Lib.hid (fun W => hid ▸ ident_right t r W : ∀ W, Calls Tryd.prog 18 #[.agg #[.int .i64 t, .int .i64 r]] W fun e w' => e = .returned (.bool true) ∧ Below W.heap.size W w')
  clear hid
  have d1 : decide ((40 : Int) < (key.size : Int)) = false := by simp; omega
  have d2 : decide ((300 : Int) < (val.size : Int)) = false := by simp; omega
  exact byWWrite26
set_option maxHeartbeats 2000000 in
set_option maxRecDepth 100000 in
theorem wr_drop_n (t r : Int) (key val : ByteArray) (n : Int) (w : World) (hid : Wr.idRight t r = true) (h1 : key.size ≤ 40) (h : n ≠ 0) :
    Calls Tryd.prog 10 #[.agg #[.int .i64 t, .int .i64 r, .int .i64 2, .string key, .string ⟨#[]⟩, .int .i64 n]] w fun e w' => e = .returned (errW 3) ∧ Below w.heap.size w w' := by
  have hI := Lib.hid (fun W => hid ▸ ident_right t r W : ∀ W, Calls Tryd.prog 18 #[.agg #[.int .i64 t, .int .i64 r]] W fun e w' => e = .returned (.bool true) ∧ Below W.heap.size W w')
  clear hid
  have d1 : decide ((40 : Int) < (key.size : Int)) = false := by simp; omega
  have d7 : ((n : Int) != 0) = true := by simp; omega
  go_enter Tryd.func10, Tryd.ntmps10
  go_wp2_with fail
  have q0 := row_at #[.int .i64 t, .int .i64 r, .int .i64 2, .string key, .string ⟨#[]⟩, .int .i64 n] 29 (rfl : w.heap.size = w.heap.size)
  have qb : Below w.heap.size w (w.alloc (Obj.cells #[.int .i64 t, .int .i64 r, .int .i64 2, .string key, .string ⟨#[]⟩, .int .i64 n] 29)) := by exact blw
  generalize w.alloc (Obj.cells #[.int .i64 t, .int .i64 r, .int .i64 2, .string key, .string ⟨#[]⟩, .int .i64 n] 29) = w1 at *
  exact byWWrite21
set_option maxHeartbeats 2000000 in
set_option maxRecDepth 100000 in
theorem wr_drop (t r : Int) (key val : ByteArray) (w : World) (hid : Wr.idRight t r = true) (h1 : key.size ≤ 40) :
    Calls Tryd.prog 10 #[.agg #[.int .i64 t, .int .i64 r, .int .i64 2, .string key, .string ⟨#[]⟩, .int .i64 0]] w fun e w' => e = .returned (errW 0) ∧ Below w.heap.size w w' := by
  have hI := Lib.hid (fun W => hid ▸ ident_right t r W : ∀ W, Calls Tryd.prog 18 #[.agg #[.int .i64 t, .int .i64 r]] W fun e w' => e = .returned (.bool true) ∧ Below W.heap.size W w')
  clear hid
  have d1 : decide ((40 : Int) < (key.size : Int)) = false := by simp; omega
  go_enter Tryd.func10, Tryd.ntmps10
  go_wp2_with fail
  have q0 := row_at #[.int .i64 t, .int .i64 r, .int .i64 2, .string key, .string ⟨#[]⟩, .int .i64 0] 29 (rfl : w.heap.size = w.heap.size)
  have qb : Below w.heap.size w (w.alloc (Obj.cells #[.int .i64 t, .int .i64 r, .int .i64 2, .string key, .string ⟨#[]⟩, .int .i64 0] 29)) := by exact blw
  generalize w.alloc (Obj.cells #[.int .i64 t, .int .i64 r, .int .i64 2, .string key, .string ⟨#[]⟩, .int .i64 0] 29) = w1 at *
  exact byWWrite21
theorem byWWrite23 {p : Prop} (h : p := by
  have hI := Lib.hid (fun W => hid ▸ ident_right t r W : ∀ W, Calls Tryd.prog 18 #[.agg #[.int .i64 t, .int .i64 r]] W fun e w' => e = .returned (.bool true) ∧ Below W.heap.size W w')
  clear hid
  have d1 : decide ((40 : Int) < (key.size : Int)) = false := by simp; omega
  go_enter Tryd.func10, Tryd.ntmps10
  go_wp2_with fail
  have q0 := row_at #[.int .i64 t, .int .i64 r, .int .i64 3, .string key, .string ⟨#[]⟩, .int .i64 n] 29 (rfl : w.heap.size = w.heap.size)
  have qb : Below w.heap.size w (w.alloc (Obj.cells #[.int .i64 t, .int .i64 r, .int .i64 3, .string key, .string ⟨#[]⟩, .int .i64 n] 29)) := by exact blw
  generalize w.alloc (Obj.cells #[.int .i64 t, .int .i64 r, .int .i64 3, .string key, .string ⟨#[]⟩, .int .i64 n] 29) = w1 at *
  exact byWWrite21) : p := h
set_option maxHeartbeats 2000000 in
set_option maxRecDepth 100000 in
theorem wr_add_lo (t r : Int) (key val : ByteArray) (n : Int) (w : World) (hid : Wr.idRight t r = true) (h1 : key.size ≤ 40) (h : n < -1125899906842624) :
    Calls Tryd.prog 10 #[.agg #[.int .i64 t, .int .i64 r, .int .i64 3, .string key, .string ⟨#[]⟩, .int .i64 n]] w fun e w' => e = .returned (errW 2) ∧ Below w.heap.size w w' := by
  exact byWWrite23
set_option maxHeartbeats 2000000 in
set_option maxRecDepth 100000 in
theorem wr_add_hi (t r : Int) (key val : ByteArray) (n : Int) (w : World) (hid : Wr.idRight t r = true) (h1 : key.size ≤ 40) (h : 1125899906842624 < n) :
    Calls Tryd.prog 10 #[.agg #[.int .i64 t, .int .i64 r, .int .i64 3, .string key, .string ⟨#[]⟩, .int .i64 n]] w fun e w' => e = .returned (errW 2) ∧ Below w.heap.size w w' := by
  exact byWWrite23
set_option maxHeartbeats 2000000 in
set_option maxRecDepth 100000 in
theorem wr_add (t r : Int) (key val : ByteArray) (n : Int) (w : World) (hid : Wr.idRight t r = true) (h1 : key.size ≤ 40) (h : -1125899906842624 ≤ n) (h3 : n ≤ 1125899906842624) :
    Calls Tryd.prog 10 #[.agg #[.int .i64 t, .int .i64 r, .int .i64 3, .string key, .string ⟨#[]⟩, .int .i64 n]] w fun e w' => e = .returned (errW 0) ∧ Below w.heap.size w w' := by
  exact byWWrite23
theorem byWWrite28 {p : Prop} (h : p := by
  have hI := Lib.hid (fun W => hid ▸ ident_right t r W : ∀ W, Calls Tryd.prog 18 #[.agg #[.int .i64 t, .int .i64 r]] W fun e w' => e = .returned (.bool true) ∧ Below W.heap.size W w')
  clear hid
  have d1 : decide ((40 : Int) < (key.size : Int)) = false := by simp; omega
  have d2 : decide ((300 : Int) < (val.size : Int)) = false := by simp; omega
  exact byWWrite22) : p := h
set_option maxHeartbeats 2000000 in
set_option maxRecDepth 100000 in
theorem wr_ins_lo (t r : Int) (key val : ByteArray) (n : Int) (w : World) (hid : Wr.idRight t r = true) (h1 : key.size ≤ 40) (h2 : val.size ≤ 300) (h : n < 0) :
    Calls Tryd.prog 10 #[.agg #[.int .i64 t, .int .i64 r, .int .i64 4, .string key, .string val, .int .i64 n]] w fun e w' => e = .returned (errW 2) ∧ Below w.heap.size w w' := by
  exact byWWrite28
set_option maxHeartbeats 2000000 in
set_option maxRecDepth 100000 in
theorem wr_ins_hi (t r : Int) (key val : ByteArray) (n : Int) (w : World) (hid : Wr.idRight t r = true) (h1 : key.size ≤ 40) (h2 : val.size ≤ 300) (h : 1000 < n) :
    Calls Tryd.prog 10 #[.agg #[.int .i64 t, .int .i64 r, .int .i64 4, .string key, .string val, .int .i64 n]] w fun e w' => e = .returned (errW 2) ∧ Below w.heap.size w w' := by
  exact byWWrite28
set_option maxHeartbeats 2000000 in
set_option maxRecDepth 100000 in
theorem wr_ins (t r : Int) (key val : ByteArray) (n : Int) (w : World) (hid : Wr.idRight t r = true) (h1 : key.size ≤ 40) (h2 : val.size ≤ 300) (h : 0 ≤ n) (h3 : n ≤ 1000) :
    Calls Tryd.prog 10 #[.agg #[.int .i64 t, .int .i64 r, .int .i64 4, .string key, .string val, .int .i64 n]] w fun e w' => e = .returned (errW 0) ∧ Below w.heap.size w w' := by
  exact byWWrite28
end Go.Proofs.YtognjohloobliaaDoor
