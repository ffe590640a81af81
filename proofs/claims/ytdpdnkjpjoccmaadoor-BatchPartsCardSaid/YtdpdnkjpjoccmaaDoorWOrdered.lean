/- The walk of keep.ordered. -/
import Derived.Test.YtdpdnkjpjoccmaaDoorWIdent
import Derived.Test.YtdpdnkjpjoccmaaDoorWWithin
import Derived.Test.YtdpdnkjpjoccmaaDoorLib4
namespace Go.Proofs.YtdpdnkjpjoccmaaDoor
open Go.RowKit
set_option linter.unusedVariables false
theorem w1_eq : within 2 1 [] [⟨1, 2⟩] = true := by decide
theorem w2_eq : within 2 1 [⟨1, 2⟩] [] = false := by decide
theorem o1 : orInt (cmp2 2 1) (cmp2 1 9) = 1 := by decide
theorem o2 : orInt (cmp2 1 2) (cmp2 9 1) = -1 := by decide
theorem o3 : orInt (cmp2 2 2) (cmp2 1 1) = 0 := by decide
set_option maxHeartbeats 2000000 in
theorem ordered (w : World) : Calls Tryd.prog 32 #[] w fun e w' => e = .returned (.bool true) ∧ Below w.heap.size w w' := by
  have hw1 := w1_eq
  have hw2 := w2_eq
  have h1 := o1
  have h2 := o2
  have h3 := o3
  go_enter Tryd.func32, Tryd.ntmps32
  go_wp2_with fail
  have q0 : ((w.alloc (Obj.cells #[.int .i64 2, .int .i64 1] 69)).alloc (Obj.cells #[.int .i64 1, .int .i64 9] 69)).cell? ⟨w.heap.size, 0, none⟩ = some (.int .i64 2) := by simp
  have q1 : ((w.alloc (Obj.cells #[.int .i64 2, .int .i64 1] 69)).alloc (Obj.cells #[.int .i64 1, .int .i64 9] 69)).cell? ⟨w.heap.size, 1, none⟩ = some (.int .i64 1) := by simp
  have q2 : ((w.alloc (Obj.cells #[.int .i64 2, .int .i64 1] 69)).alloc (Obj.cells #[.int .i64 1, .int .i64 9] 69)).cell? ⟨w.heap.size + 1, 0, none⟩ = some (.int .i64 1) := by simp
  have q3 : ((w.alloc (Obj.cells #[.int .i64 2, .int .i64 1] 69)).alloc (Obj.cells #[.int .i64 1, .int .i64 9] 69)).cell? ⟨w.heap.size + 1, 1, none⟩ = some (.int .i64 9) := by simp
  have qb : Below w.heap.size w ((w.alloc (Obj.cells #[.int .i64 2, .int .i64 1] 69)).alloc (Obj.cells #[.int .i64 1, .int .i64 9] 69)) := by (repeat (first | exact Below.refl _ _ | assumption | refine bal ?_ _ | refine bdr ?_ | refine bdn ?_ _ | refine bst ?_ (by first | assumption | exact Nat.le_refl _ | omega) _ | refine bch ?_ (by assumption)))
  generalize (w.alloc (Obj.cells #[.int .i64 2, .int .i64 1] 69)).alloc (Obj.cells #[.int .i64 1, .int .i64 9] 69) = W at *
  go_wp2_with (go_at_call 64; (with_reducible refine (ident_compare _ _ _ _ _).mono ?_); rintro e w' ⟨rfl, hb⟩; replace q0 := cell_below hb (by first | exact q0 | exact cell_alloc q0 _ | exact cell_alloc (cell_alloc q0 _) _); replace q1 := cell_below hb (by first | exact q1 | exact cell_alloc q1 _ | exact cell_alloc (cell_alloc q1 _) _); replace q2 := cell_below hb (by first | exact q2 | exact cell_alloc q2 _ | exact cell_alloc (cell_alloc q2 _) _); replace q3 := cell_below hb (by first | exact q3 | exact cell_alloc q3 _ | exact cell_alloc (cell_alloc q3 _) _))
  refine (ident_within 2 1 _ _ [] [⟨1, 2⟩] _ (SliceIs.nil _ _) (SliceIs.of_row (row_alloc _ _ _) rfl (by decide) (by decide) (by decide))).mono ?_
  rintro e w5 ⟨rfl, hb⟩
  replace q0 := cell_below hb (cell_alloc q0 _)
  replace q1 := cell_below hb (cell_alloc q1 _)
  go_wp2_with fail
  refine (ident_within 2 1 _ _ [⟨1, 2⟩] [] _ (SliceIs.of_row (row_alloc _ _ _) rfl (by decide) (by decide) (by decide)) (SliceIs.nil _ _)).mono ?_
  rintro e w6 ⟨rfl, hb6⟩
  go_wp2
  go_ret
  exact ⟨rfl, by (repeat (first | exact Below.refl _ _ | assumption | refine bal ?_ _ | refine bdr ?_ | refine bdn ?_ _ | refine bst ?_ (by first | assumption | exact Nat.le_refl _ | omega) _ | refine bch ?_ (by assumption)))⟩
end Go.Proofs.YtdpdnkjpjoccmaaDoor
