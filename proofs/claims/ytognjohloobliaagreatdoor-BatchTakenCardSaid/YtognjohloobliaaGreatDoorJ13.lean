/- Walks of ident. -/
import Derived.Test.YtognjohloobliaaGreatDoorJ01
import Derived.Test.YtognjohloobliaaGreatDoorRows
import Derived.Deep.RegionHeld3
namespace Go.Proofs.YtognjohloobliaaGreatDoor
open Go.RowKit
set_option linter.unusedVariables false
def cmp2 (a b : Int) : Int := if a < b then -1 else if b < a then 1 else 0
set_option maxHeartbeats 400000 in
theorem cmp_isnan (x : Int) (w : World) :
  Calls Tryz.prog 56 #[.int .i64 x] w fun e w' => e = .returned (.bool false) ∧ w = w' := by
 go_enter Tryz.func56, Tryz.ntmps56
 go_wp2
 go_ret
 exact ⟨ret_bool (by simp), rfl⟩
set_option maxHeartbeats 400000 in
theorem cmp_compare (x y : Int) (w : World) :
  Calls Tryz.prog 45 #[.int .i64 x, .int .i64 y] w fun e w' => e = .returned (.int .i64 (cmp2 x y)) ∧ w = w' := by
 rcases Int.lt_trichotomy x y with h | h | h
 ·have hv : Hid (cmp2 x y = -1) := Lib.hid (by unfold cmp2; rw [if_pos h])
  go_enter Tryz.func45, Tryz.ntmps45
  go_wp2_with (go_at_call 56; go_must (refine (cmp_isnan _ _).mono ?_); rintro e w' ⟨rfl, rfl⟩)
  go_ret
  exact ⟨ret_int (by rw [hv.out]), rfl⟩
 ·have hv : Hid (cmp2 x y = 0) := Lib.hid (by unfold cmp2; rw [if_neg (by omega), if_neg (by omega)])
  subst h
  go_enter Tryz.func45, Tryz.ntmps45
  go_wp2_with (go_at_call 56; go_must (refine (cmp_isnan _ _).mono ?_); rintro e w' ⟨rfl, rfl⟩)
  go_ret
  exact ⟨ret_int (by rw [hv.out]), rfl⟩
 ·have hv : Hid (cmp2 x y = 1) := Lib.hid (by unfold cmp2; rw [if_neg (by omega), if_pos h])
  have hn : ¬ x < y := by omega
  go_enter Tryz.func45, Tryz.ntmps45
  go_wp2_with (go_at_call 56; go_must (refine (cmp_isnan _ _).mono ?_); rintro e w' ⟨rfl, rfl⟩)
  go_ret
  exact ⟨ret_int (by rw [hv.out]), rfl⟩
/-- The first of two numbers that is not 0. -/
def orInt (a b : Int) : Int := if a = 0 then b else a
set_option maxHeartbeats 400000 in
theorem cmp_or (x y : Int) (w : World) (g : Nat) (hr : Row w g 3 [.int .i64 x, .int .i64 y]) :
  Calls Tryz.prog 44 #[.slice (some ⟨g, 0, none⟩) 2 2] w fun e w' => e = .returned (.int .i64 (orInt x y)) ∧ w = w' := by
 have h0 : w.cell? ⟨g, 0, none⟩ = some (.int .i64 x) := hr.cell 0
 have h1 : w.cell? ⟨g, 0 + 1, none⟩ = some (.int .i64 y) := hr.cell 1
 have h1' : w.cell? ⟨g, 1, none⟩ = some (.int .i64 y) := hr.cell 1
 by_cases hx : x = 0
 ·have hb : (x == 0) = true := by simp [hx]
  have hb' : (x != 0) = false := by simp [hx]
  by_cases hy : y = 0
  ·have hv : Hid (orInt x y = 0) := Lib.hid (by unfold orInt; rw [if_pos hx, hy])
   subst hx hy
   go_enter Tryz.func44, Tryz.ntmps44
   go_wp2
   refine wp_loop_rounds 3 ?_
   rw [rounds_succ]
   go_wp2
   rw [rounds_succ]
   go_wp2
   rw [rounds_succ]
   go_wp2
   go_ret
   exact ⟨ret_int (by rw [hv.out]), rfl⟩
  ·have hv : Hid (orInt x y = y) := Lib.hid (by unfold orInt; rw [if_pos hx])
   have hyb : (y == 0) = false := by simp [hy]
   subst hx
   go_enter Tryz.func44, Tryz.ntmps44
   go_wp2
   refine wp_loop_rounds 2 ?_
   rw [rounds_succ]
   go_wp2
   rw [rounds_succ]
   go_wp2
   go_ret
   exact ⟨ret_int (by rw [hv.out]), rfl⟩
 ·have hv : Hid (orInt x y = x) := Lib.hid (by unfold orInt; rw [if_neg hx])
  have hxb : (x == 0) = false := by simp [hx]
  go_enter Tryz.func44, Tryz.ntmps44
  go_wp2
  refine wp_loop_rounds 1 ?_
  rw [rounds_succ]
  go_wp2
  go_ret
  exact ⟨ret_int (by rw [hv.out]), rfl⟩
set_option maxHeartbeats 400000 in
theorem ident_compare (t r u s : Int) (w : World) :
  Calls Tryz.prog 24 #[.agg #[.int .i64 t, .int .i64 r], .agg #[.int .i64 u, .int .i64 s]] w fun e w' => e = .returned (.int .i64 (orInt (cmp2 t u) (cmp2 r s))) ∧ Below w.heap.size w w' := by
 have hrow : ∀ x y : Value, Row (((w.alloc (Obj.cells #[.int .i64 t, .int .i64 r] 31)).alloc (Obj.cells #[.int .i64 u, .int .i64 s] 31)).alloc (Obj.cells #[x, y] 3)).drew (w.heap.size + 1 + 1) 3 [x, y] := fun x y => by
  have h := row_alloc ((w.alloc (Obj.cells #[.int .i64 t, .int .i64 r] 31)).alloc (Obj.cells #[.int .i64 u, .int .i64 s] 31)) #[x, y] 3
  have e : ((w.alloc (Obj.cells #[.int .i64 t, .int .i64 r] 31)).alloc (Obj.cells #[.int .i64 u, .int .i64 s] 31)).heap.size = w.heap.size + 1 + 1 := by simp
  rw [e] at h
  exact h
 replace hrow := Lib.hid hrow
 go_enter Tryz.func24, Tryz.ntmps24
 go_wp2_with fail
 go_region_held3 (fun w' => w'.cell? ⟨w.heap.size, 0, none⟩ = some (.int .i64 t) ∧ w'.cell? ⟨w.heap.size, 1, none⟩ = some (.int .i64 r) ∧ w'.cell? ⟨w.heap.size + 1, 0, none⟩ = some (.int .i64 u) ∧ w'.cell? ⟨w.heap.size + 1, 1, none⟩ = some (.int .i64 s)) (go_keep)
  (first
   | (go_at_call 45; refine (cmp_compare _ _ _).mono ?_; rintro e w' ⟨rfl, rfl⟩)
   | (go_at_call 44; refine (cmp_or _ _ _ _ (hrow.out _ _)).mono ?_; rintro e w' ⟨rfl, rfl⟩))
 go_wp2
 go_ret
 exact ⟨rfl, by exact blw⟩
end Go.Proofs.YtognjohloobliaaGreatDoor
