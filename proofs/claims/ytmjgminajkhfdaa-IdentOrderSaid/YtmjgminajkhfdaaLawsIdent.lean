/- The walk of the law IdentOrder. -/
import Derived.Test.YtmjgminajkhfdaaWIdent
import Derived.Test.YtmjgminajkhfdaaWVecOf
import Derived.Test.YtmjgminajkhfdaaLib2
namespace Go.Proofs.Ytmjgminajkhfdaa
open Go.RowKit
set_option linter.unusedVariables false
theorem w1_eq : within 2 1 [] [⟨1, 2⟩] = true := by decide
theorem w2_eq : within 2 1 [⟨1, 2⟩] [] = false := by decide
theorem o1 : orInt (cmp2 2 1) (cmp2 1 9) = 1 := by decide
theorem o2 : orInt (cmp2 1 2) (cmp2 9 1) = -1 := by decide
theorem o3 : orInt (cmp2 2 2) (cmp2 1 1) = 0 := by decide
set_option maxHeartbeats 2000000 in
theorem ordered (w : World) : Calls Try.prog 22 #[] w fun e w' => e = .returned (.bool true) ∧ Below w.heap.size w w' := by
  have hw1 := w1_eq
  have hw2 := w2_eq
  have h1 := o1
  have h2 := o2
  have h3 := o3
  go_enter Try.func22, Try.ntmps22
  go_wp2_with fail
  have q0 : ((w.alloc (Obj.cells #[.int .i64 2, .int .i64 1] 43)).alloc (Obj.cells #[.int .i64 1, .int .i64 9] 43)).cell? ⟨w.heap.size, 0, none⟩ = some (.int .i64 2) := by simp
  have q1 : ((w.alloc (Obj.cells #[.int .i64 2, .int .i64 1] 43)).alloc (Obj.cells #[.int .i64 1, .int .i64 9] 43)).cell? ⟨w.heap.size, 1, none⟩ = some (.int .i64 1) := by simp
  have q2 : ((w.alloc (Obj.cells #[.int .i64 2, .int .i64 1] 43)).alloc (Obj.cells #[.int .i64 1, .int .i64 9] 43)).cell? ⟨w.heap.size + 1, 0, none⟩ = some (.int .i64 1) := by simp
  have q3 : ((w.alloc (Obj.cells #[.int .i64 2, .int .i64 1] 43)).alloc (Obj.cells #[.int .i64 1, .int .i64 9] 43)).cell? ⟨w.heap.size + 1, 1, none⟩ = some (.int .i64 9) := by simp
  have qb : Below w.heap.size w ((w.alloc (Obj.cells #[.int .i64 2, .int .i64 1] 43)).alloc (Obj.cells #[.int .i64 1, .int .i64 9] 43)) := by (repeat (first | exact Below.refl _ _ | assumption | refine bal ?_ _ | refine bdr ?_ | refine bdn ?_ _ | refine bst ?_ (by first | assumption | exact Nat.le_refl _ | omega) _ | refine bch ?_ (by assumption)))
  generalize (w.alloc (Obj.cells #[.int .i64 2, .int .i64 1] 43)).alloc (Obj.cells #[.int .i64 1, .int .i64 9] 43) = W at *
  go_wp2_with (go_at_call 23; (with_reducible refine (ident_compare _ _ _ _ _).mono ?_); rintro e w' ⟨rfl, hb⟩; replace q0 := cell_below hb (by first | exact q0 | exact cell_alloc q0 _ | exact cell_alloc (cell_alloc q0 _) _); replace q1 := cell_below hb (by first | exact q1 | exact cell_alloc q1 _ | exact cell_alloc (cell_alloc q1 _) _); replace q2 := cell_below hb (by first | exact q2 | exact cell_alloc q2 _ | exact cell_alloc (cell_alloc q2 _) _); replace q3 := cell_below hb (by first | exact q3 | exact cell_alloc q3 _ | exact cell_alloc (cell_alloc q3 _) _))
  refine (ident_within 2 1 _ _ [] [⟨1, 2⟩] _ (SliceIs.nil _ _) (SliceIs.of_row (row_alloc _ _ _) rfl (by decide) (by decide) (by decide))).mono ?_
  rintro e w5 ⟨rfl, hb⟩
  replace q0 := cell_below hb (cell_alloc q0 _)
  replace q1 := cell_below hb (cell_alloc q1 _)
  go_wp2_with fail
  refine (ident_within 2 1 _ _ [⟨1, 2⟩] [] _ (SliceIs.of_row (row_alloc _ _ _) rfl (by decide) (by decide) (by decide)) (SliceIs.nil _ _)).mono ?_
  rintro e w6 ⟨rfl, hb6⟩
  go_wp2
  go_ret
  exact ⟨rfl, by (repeat (first | exact Below.refl _ _ | assumption | refine bal ?_ _ | refine bdr ?_ | refine bdn ?_ _ | refine bst ?_ (by first | assumption | exact Nat.le_refl _ | omega) _ | refine bch ?_ (by assumption)))⟩
/-- How two ids compare. -/
def cmpId (t r u s : Int) : Int := orInt (cmp2 t u) (cmp2 r s)
theorem cmpId_cases (t r u s : Int) : (cmpId t r u s = -1 ∧ cmpId u s t r = 1 ∧ ¬ (t = u ∧ r = s)) ∨ (cmpId t r u s = 0 ∧ cmpId u s t r = 0 ∧ t = u ∧ r = s) ∨ (cmpId t r u s = 1 ∧ cmpId u s t r = -1 ∧ ¬ (t = u ∧ r = s)) := by
  unfold cmpId orInt cmp2
  repeat' split
  all_goals omega
theorem cmpId_neg (t r u s : Int) : cmpId t r u s < 0 ↔ t < u ∨ (t = u ∧ r < s) := by
  unfold cmpId orInt cmp2
  repeat' split
  all_goals omega
theorem cmpId_trans (t r u s v q : Int) (h1 : cmpId t r u s < 0) (h2 : cmpId u s v q < 0) : cmpId t r v q < 0 := by
  rw [cmpId_neg] at *
  omega
def idCells (t r : Int) : Array Value := #[.int .i64 t, .int .i64 r]
set_option maxHeartbeats 2000000 in
set_option maxRecDepth 100000 in
theorem io_neg_t (t r u s v q x y z x' : Int) (w : World)
    (e1 : orInt (cmp2 t u) (cmp2 r s) = x) (e2 : orInt (cmp2 u v) (cmp2 s q) = y) (e3 : orInt (cmp2 t v) (cmp2 r q) = z) (e4 : orInt (cmp2 u t) (cmp2 s r) = x')
    (hx : x = -1) (hx' : x' = 1) (hz : y < 0 → z < 0) (htu : ¬ t = u) :
    Calls Try.prog 9 #[.agg #[.int .i64 t, .int .i64 r], .agg #[.int .i64 u, .int .i64 s], .agg #[.int .i64 v, .int .i64 q]] w fun e w' => e = .returned (.bool true) ∧ Below w.heap.size w w' := by
  subst hx hx'
  by_cases hy : y < 0
  · have hzn := hz hy
    clear hz
    go_enter Try.func9, Try.ntmps9
    go_wp2_with (go_at_call 22; go_must (refine (ordered _).mono ?_); rintro e w' ⟨rfl, hb⟩)
    have r0 := (((row_at #[.int .i64 t, .int .i64 r] 43 (rfl : w.heap.size = w.heap.size)).alloc (Obj.cells #[.int .i64 u, .int .i64 s] 43)).alloc (Obj.cells #[.int .i64 v, .int .i64 q] 43)).below hb
    have r1 := ((row_at #[.int .i64 u, .int .i64 s] 43 (by simp : w.heap.size + 1 = (w.alloc (Obj.cells #[.int .i64 t, .int .i64 r] 43)).heap.size)).alloc (Obj.cells #[.int .i64 v, .int .i64 q] 43)).below hb
    have r2 := (row_at #[.int .i64 v, .int .i64 q] 43 (by simp : w.heap.size + 1 + 1 = ((w.alloc (Obj.cells #[.int .i64 t, .int .i64 r] 43)).alloc (Obj.cells #[.int .i64 u, .int .i64 s] 43)).heap.size)).below hb
    have qb : Below w.heap.size w w' := (by (repeat (first | exact Below.refl _ _ | assumption | refine bal ?_ _ | refine bdr ?_ | refine bdn ?_ _ | refine bst ?_ (by first | assumption | exact Nat.le_refl _ | omega) _ | refine bch ?_ (by assumption))) : Below w.heap.size w (((w.alloc (Obj.cells #[.int .i64 t, .int .i64 r] 43)).alloc (Obj.cells #[.int .i64 u, .int .i64 s] 43)).alloc (Obj.cells #[.int .i64 v, .int .i64 q] 43))).trans (hb.mono (by simp; omega))
    have q0 := Old.cell (r0.cell 0)
    have q1 := Old.cell (r0.cell 1)
    have q2 := Old.cell (r1.cell 0)
    have q3 := Old.cell (r1.cell 1)
    have q4 := Old.cell (r2.cell 0)
    have q5 := Old.cell (r2.cell 1)
    clear hb
    (have hN := Old.ne w'; refine wp_region_kept (Old w'.heap.size w') (by kernel_rfl) (by kernel_rfl) (Old.start w') ?_; (repeat (first | go_big_quiet_step ((first | (go_at_call 23; go_must (exact calls_kept (ident_compare _ _ _ _ _) Old.below)))) | quiet_step ((first | (go_at_call 23; go_must (exact calls_kept (ident_compare _ _ _ _ _) Old.below)))))); refine wpQuiet_nil ?_; rintro _ ⟨X, rfl⟩)
    replace r0 := r0.below X.ok.2
    replace r1 := r1.below X.ok.2
    have xb := qb.trans (X.ok.2.mono qb.size)
    generalize X.val = wx at *
    clear q0 q1 q2 q3 q4 q5 r2 qb hN X
    have q0 : wx.cell? ⟨w.heap.size, 0, none⟩ = some (.int .i64 t) := r0.cell 0
    have q1 : wx.cell? ⟨w.heap.size, 1, none⟩ = some (.int .i64 r) := r0.cell 1
    have q2 : wx.cell? ⟨w.heap.size + 1, 0, none⟩ = some (.int .i64 u) := r1.cell 0
    have q3 : wx.cell? ⟨w.heap.size + 1, 1, none⟩ = some (.int .i64 s) := r1.cell 1
    go_wp2_with (go_at_call 23; (with_reducible refine (ident_compare _ _ _ _ _).mono ?_); rintro e w' ⟨rfl, hb⟩; replace q0 := cell_below hb (by first | exact q0 | exact cell_alloc q0 _ | exact cell_alloc (cell_alloc q0 _) _); replace q1 := cell_below hb (by first | exact q1 | exact cell_alloc q1 _ | exact cell_alloc (cell_alloc q1 _) _); replace q2 := cell_below hb (by first | exact q2 | exact cell_alloc q2 _ | exact cell_alloc (cell_alloc q2 _) _); replace q3 := cell_below hb (by first | exact q3 | exact cell_alloc q3 _ | exact cell_alloc (cell_alloc q3 _) _))
    go_ret
    exact ⟨rfl, by (repeat (first | exact Below.refl _ _ | assumption | refine bal ?_ _ | refine bdr ?_ | refine bdn ?_ _ | refine bst ?_ (by first | assumption | exact Nat.le_refl _ | omega) _ | refine bch ?_ (by assumption)))⟩
  · clear hz
    go_enter Try.func9, Try.ntmps9
    go_wp2_with (go_at_call 22; go_must (refine (ordered _).mono ?_); rintro e w' ⟨rfl, hb⟩)
    have r0 := (((row_at #[.int .i64 t, .int .i64 r] 43 (rfl : w.heap.size = w.heap.size)).alloc (Obj.cells #[.int .i64 u, .int .i64 s] 43)).alloc (Obj.cells #[.int .i64 v, .int .i64 q] 43)).below hb
    have r1 := ((row_at #[.int .i64 u, .int .i64 s] 43 (by simp : w.heap.size + 1 = (w.alloc (Obj.cells #[.int .i64 t, .int .i64 r] 43)).heap.size)).alloc (Obj.cells #[.int .i64 v, .int .i64 q] 43)).below hb
    have r2 := (row_at #[.int .i64 v, .int .i64 q] 43 (by simp : w.heap.size + 1 + 1 = ((w.alloc (Obj.cells #[.int .i64 t, .int .i64 r] 43)).alloc (Obj.cells #[.int .i64 u, .int .i64 s] 43)).heap.size)).below hb
    have qb : Below w.heap.size w w' := (by (repeat (first | exact Below.refl _ _ | assumption | refine bal ?_ _ | refine bdr ?_ | refine bdn ?_ _ | refine bst ?_ (by first | assumption | exact Nat.le_refl _ | omega) _ | refine bch ?_ (by assumption))) : Below w.heap.size w (((w.alloc (Obj.cells #[.int .i64 t, .int .i64 r] 43)).alloc (Obj.cells #[.int .i64 u, .int .i64 s] 43)).alloc (Obj.cells #[.int .i64 v, .int .i64 q] 43))).trans (hb.mono (by simp; omega))
    have q0 := Old.cell (r0.cell 0)
    have q1 := Old.cell (r0.cell 1)
    have q2 := Old.cell (r1.cell 0)
    have q3 := Old.cell (r1.cell 1)
    have q4 := Old.cell (r2.cell 0)
    have q5 := Old.cell (r2.cell 1)
    clear hb
    (have hN := Old.ne w'; refine wp_region_kept (Old w'.heap.size w') (by kernel_rfl) (by kernel_rfl) (Old.start w') ?_; (repeat (first | go_big_quiet_step ((first | (go_at_call 23; go_must (exact calls_kept (ident_compare _ _ _ _ _) Old.below)))) | quiet_step ((first | (go_at_call 23; go_must (exact calls_kept (ident_compare _ _ _ _ _) Old.below)))))); refine wpQuiet_nil ?_; rintro _ ⟨X, rfl⟩)
    replace r0 := r0.below X.ok.2
    replace r1 := r1.below X.ok.2
    have xb := qb.trans (X.ok.2.mono qb.size)
    generalize X.val = wx at *
    clear q0 q1 q2 q3 q4 q5 r2 qb hN X
    have q0 : wx.cell? ⟨w.heap.size, 0, none⟩ = some (.int .i64 t) := r0.cell 0
    have q1 : wx.cell? ⟨w.heap.size, 1, none⟩ = some (.int .i64 r) := r0.cell 1
    have q2 : wx.cell? ⟨w.heap.size + 1, 0, none⟩ = some (.int .i64 u) := r1.cell 0
    have q3 : wx.cell? ⟨w.heap.size + 1, 1, none⟩ = some (.int .i64 s) := r1.cell 1
    go_wp2_with (go_at_call 23; (with_reducible refine (ident_compare _ _ _ _ _).mono ?_); rintro e w' ⟨rfl, hb⟩; replace q0 := cell_below hb (by first | exact q0 | exact cell_alloc q0 _ | exact cell_alloc (cell_alloc q0 _) _); replace q1 := cell_below hb (by first | exact q1 | exact cell_alloc q1 _ | exact cell_alloc (cell_alloc q1 _) _); replace q2 := cell_below hb (by first | exact q2 | exact cell_alloc q2 _ | exact cell_alloc (cell_alloc q2 _) _); replace q3 := cell_below hb (by first | exact q3 | exact cell_alloc q3 _ | exact cell_alloc (cell_alloc q3 _) _))
    go_ret
    exact ⟨rfl, by (repeat (first | exact Below.refl _ _ | assumption | refine bal ?_ _ | refine bdr ?_ | refine bdn ?_ _ | refine bst ?_ (by first | assumption | exact Nat.le_refl _ | omega) _ | refine bch ?_ (by assumption)))⟩
set_option maxHeartbeats 2000000 in
set_option maxRecDepth 100000 in
theorem io_neg_r (t r s v q x y z x' : Int) (w : World)
    (e1 : orInt (cmp2 t t) (cmp2 r s) = x) (e2 : orInt (cmp2 t v) (cmp2 s q) = y) (e3 : orInt (cmp2 t v) (cmp2 r q) = z) (e4 : orInt (cmp2 t t) (cmp2 s r) = x')
    (hx : x = -1) (hx' : x' = 1) (hz : y < 0 → z < 0) (hrs : ¬ r = s) :
    Calls Try.prog 9 #[.agg #[.int .i64 t, .int .i64 r], .agg #[.int .i64 t, .int .i64 s], .agg #[.int .i64 v, .int .i64 q]] w fun e w' => e = .returned (.bool true) ∧ Below w.heap.size w w' := by
  subst hx hx'
  by_cases hy : y < 0
  · have hzn := hz hy
    clear hz
    go_enter Try.func9, Try.ntmps9
    go_wp2_with (go_at_call 22; go_must (refine (ordered _).mono ?_); rintro e w' ⟨rfl, hb⟩)
    have r0 := (((row_at #[.int .i64 t, .int .i64 r] 43 (rfl : w.heap.size = w.heap.size)).alloc (Obj.cells #[.int .i64 t, .int .i64 s] 43)).alloc (Obj.cells #[.int .i64 v, .int .i64 q] 43)).below hb
    have r1 := ((row_at #[.int .i64 t, .int .i64 s] 43 (by simp : w.heap.size + 1 = (w.alloc (Obj.cells #[.int .i64 t, .int .i64 r] 43)).heap.size)).alloc (Obj.cells #[.int .i64 v, .int .i64 q] 43)).below hb
    have r2 := (row_at #[.int .i64 v, .int .i64 q] 43 (by simp : w.heap.size + 1 + 1 = ((w.alloc (Obj.cells #[.int .i64 t, .int .i64 r] 43)).alloc (Obj.cells #[.int .i64 t, .int .i64 s] 43)).heap.size)).below hb
    have qb : Below w.heap.size w w' := (by (repeat (first | exact Below.refl _ _ | assumption | refine bal ?_ _ | refine bdr ?_ | refine bdn ?_ _ | refine bst ?_ (by first | assumption | exact Nat.le_refl _ | omega) _ | refine bch ?_ (by assumption))) : Below w.heap.size w (((w.alloc (Obj.cells #[.int .i64 t, .int .i64 r] 43)).alloc (Obj.cells #[.int .i64 t, .int .i64 s] 43)).alloc (Obj.cells #[.int .i64 v, .int .i64 q] 43))).trans (hb.mono (by simp; omega))
    have q0 := Old.cell (r0.cell 0)
    have q1 := Old.cell (r0.cell 1)
    have q2 := Old.cell (r1.cell 0)
    have q3 := Old.cell (r1.cell 1)
    have q4 := Old.cell (r2.cell 0)
    have q5 := Old.cell (r2.cell 1)
    clear hb
    (have hN := Old.ne w'; refine wp_region_kept (Old w'.heap.size w') (by kernel_rfl) (by kernel_rfl) (Old.start w') ?_; (repeat (first | go_big_quiet_step ((first | (go_at_call 23; go_must (exact calls_kept (ident_compare _ _ _ _ _) Old.below)))) | quiet_step ((first | (go_at_call 23; go_must (exact calls_kept (ident_compare _ _ _ _ _) Old.below)))))); refine wpQuiet_nil ?_; rintro _ ⟨X, rfl⟩)
    replace r0 := r0.below X.ok.2
    replace r1 := r1.below X.ok.2
    have xb := qb.trans (X.ok.2.mono qb.size)
    generalize X.val = wx at *
    clear q0 q1 q2 q3 q4 q5 r2 qb hN X
    have q0 : wx.cell? ⟨w.heap.size, 0, none⟩ = some (.int .i64 t) := r0.cell 0
    have q1 : wx.cell? ⟨w.heap.size, 1, none⟩ = some (.int .i64 r) := r0.cell 1
    have q2 : wx.cell? ⟨w.heap.size + 1, 0, none⟩ = some (.int .i64 t) := r1.cell 0
    have q3 : wx.cell? ⟨w.heap.size + 1, 1, none⟩ = some (.int .i64 s) := r1.cell 1
    go_wp2_with (go_at_call 23; (with_reducible refine (ident_compare _ _ _ _ _).mono ?_); rintro e w' ⟨rfl, hb⟩; replace q0 := cell_below hb (by first | exact q0 | exact cell_alloc q0 _ | exact cell_alloc (cell_alloc q0 _) _); replace q1 := cell_below hb (by first | exact q1 | exact cell_alloc q1 _ | exact cell_alloc (cell_alloc q1 _) _); replace q2 := cell_below hb (by first | exact q2 | exact cell_alloc q2 _ | exact cell_alloc (cell_alloc q2 _) _); replace q3 := cell_below hb (by first | exact q3 | exact cell_alloc q3 _ | exact cell_alloc (cell_alloc q3 _) _))
    go_ret
    exact ⟨rfl, by (repeat (first | exact Below.refl _ _ | assumption | refine bal ?_ _ | refine bdr ?_ | refine bdn ?_ _ | refine bst ?_ (by first | assumption | exact Nat.le_refl _ | omega) _ | refine bch ?_ (by assumption)))⟩
  · clear hz
    go_enter Try.func9, Try.ntmps9
    go_wp2_with (go_at_call 22; go_must (refine (ordered _).mono ?_); rintro e w' ⟨rfl, hb⟩)
    have r0 := (((row_at #[.int .i64 t, .int .i64 r] 43 (rfl : w.heap.size = w.heap.size)).alloc (Obj.cells #[.int .i64 t, .int .i64 s] 43)).alloc (Obj.cells #[.int .i64 v, .int .i64 q] 43)).below hb
    have r1 := ((row_at #[.int .i64 t, .int .i64 s] 43 (by simp : w.heap.size + 1 = (w.alloc (Obj.cells #[.int .i64 t, .int .i64 r] 43)).heap.size)).alloc (Obj.cells #[.int .i64 v, .int .i64 q] 43)).below hb
    have r2 := (row_at #[.int .i64 v, .int .i64 q] 43 (by simp : w.heap.size + 1 + 1 = ((w.alloc (Obj.cells #[.int .i64 t, .int .i64 r] 43)).alloc (Obj.cells #[.int .i64 t, .int .i64 s] 43)).heap.size)).below hb
    have qb : Below w.heap.size w w' := (by (repeat (first | exact Below.refl _ _ | assumption | refine bal ?_ _ | refine bdr ?_ | refine bdn ?_ _ | refine bst ?_ (by first | assumption | exact Nat.le_refl _ | omega) _ | refine bch ?_ (by assumption))) : Below w.heap.size w (((w.alloc (Obj.cells #[.int .i64 t, .int .i64 r] 43)).alloc (Obj.cells #[.int .i64 t, .int .i64 s] 43)).alloc (Obj.cells #[.int .i64 v, .int .i64 q] 43))).trans (hb.mono (by simp; omega))
    have q0 := Old.cell (r0.cell 0)
    have q1 := Old.cell (r0.cell 1)
    have q2 := Old.cell (r1.cell 0)
    have q3 := Old.cell (r1.cell 1)
    have q4 := Old.cell (r2.cell 0)
    have q5 := Old.cell (r2.cell 1)
    clear hb
    (have hN := Old.ne w'; refine wp_region_kept (Old w'.heap.size w') (by kernel_rfl) (by kernel_rfl) (Old.start w') ?_; (repeat (first | go_big_quiet_step ((first | (go_at_call 23; go_must (exact calls_kept (ident_compare _ _ _ _ _) Old.below)))) | quiet_step ((first | (go_at_call 23; go_must (exact calls_kept (ident_compare _ _ _ _ _) Old.below)))))); refine wpQuiet_nil ?_; rintro _ ⟨X, rfl⟩)
    replace r0 := r0.below X.ok.2
    replace r1 := r1.below X.ok.2
    have xb := qb.trans (X.ok.2.mono qb.size)
    generalize X.val = wx at *
    clear q0 q1 q2 q3 q4 q5 r2 qb hN X
    have q0 : wx.cell? ⟨w.heap.size, 0, none⟩ = some (.int .i64 t) := r0.cell 0
    have q1 : wx.cell? ⟨w.heap.size, 1, none⟩ = some (.int .i64 r) := r0.cell 1
    have q2 : wx.cell? ⟨w.heap.size + 1, 0, none⟩ = some (.int .i64 t) := r1.cell 0
    have q3 : wx.cell? ⟨w.heap.size + 1, 1, none⟩ = some (.int .i64 s) := r1.cell 1
    go_wp2_with (go_at_call 23; (with_reducible refine (ident_compare _ _ _ _ _).mono ?_); rintro e w' ⟨rfl, hb⟩; replace q0 := cell_below hb (by first | exact q0 | exact cell_alloc q0 _ | exact cell_alloc (cell_alloc q0 _) _); replace q1 := cell_below hb (by first | exact q1 | exact cell_alloc q1 _ | exact cell_alloc (cell_alloc q1 _) _); replace q2 := cell_below hb (by first | exact q2 | exact cell_alloc q2 _ | exact cell_alloc (cell_alloc q2 _) _); replace q3 := cell_below hb (by first | exact q3 | exact cell_alloc q3 _ | exact cell_alloc (cell_alloc q3 _) _))
    go_ret
    exact ⟨rfl, by (repeat (first | exact Below.refl _ _ | assumption | refine bal ?_ _ | refine bdr ?_ | refine bdn ?_ _ | refine bst ?_ (by first | assumption | exact Nat.le_refl _ | omega) _ | refine bch ?_ (by assumption)))⟩
set_option maxHeartbeats 2000000 in
set_option maxRecDepth 100000 in
theorem io_zero (t r v q x y z x' : Int) (w : World)
    (e1 : orInt (cmp2 t t) (cmp2 r r) = x) (e2 : orInt (cmp2 t v) (cmp2 r q) = y) (e3 : orInt (cmp2 t v) (cmp2 r q) = z) (e4 : orInt (cmp2 t t) (cmp2 r r) = x')
    (hx : x = 0) (hx' : x' = 0) (hz : y = z) :
    Calls Try.prog 9 #[.agg #[.int .i64 t, .int .i64 r], .agg #[.int .i64 t, .int .i64 r], .agg #[.int .i64 v, .int .i64 q]] w fun e w' => e = .returned (.bool true) ∧ Below w.heap.size w w' := by
  subst hx hx'
  subst hz
  go_enter Try.func9, Try.ntmps9
  go_wp2_with (go_at_call 22; go_must (refine (ordered _).mono ?_); rintro e w' ⟨rfl, hb⟩)
  have r0 := (((row_at #[.int .i64 t, .int .i64 r] 43 (rfl : w.heap.size = w.heap.size)).alloc (Obj.cells #[.int .i64 t, .int .i64 r] 43)).alloc (Obj.cells #[.int .i64 v, .int .i64 q] 43)).below hb
  have r1 := ((row_at #[.int .i64 t, .int .i64 r] 43 (by simp : w.heap.size + 1 = (w.alloc (Obj.cells #[.int .i64 t, .int .i64 r] 43)).heap.size)).alloc (Obj.cells #[.int .i64 v, .int .i64 q] 43)).below hb
  have r2 := (row_at #[.int .i64 v, .int .i64 q] 43 (by simp : w.heap.size + 1 + 1 = ((w.alloc (Obj.cells #[.int .i64 t, .int .i64 r] 43)).alloc (Obj.cells #[.int .i64 t, .int .i64 r] 43)).heap.size)).below hb
  have qb : Below w.heap.size w w' := (by (repeat (first | exact Below.refl _ _ | assumption | refine bal ?_ _ | refine bdr ?_ | refine bdn ?_ _ | refine bst ?_ (by first | assumption | exact Nat.le_refl _ | omega) _ | refine bch ?_ (by assumption))) : Below w.heap.size w (((w.alloc (Obj.cells #[.int .i64 t, .int .i64 r] 43)).alloc (Obj.cells #[.int .i64 t, .int .i64 r] 43)).alloc (Obj.cells #[.int .i64 v, .int .i64 q] 43))).trans (hb.mono (by simp; omega))
  have q0 := Old.cell (r0.cell 0)
  have q1 := Old.cell (r0.cell 1)
  have q2 := Old.cell (r1.cell 0)
  have q3 := Old.cell (r1.cell 1)
  have q4 := Old.cell (r2.cell 0)
  have q5 := Old.cell (r2.cell 1)
  clear hb
  (have hN := Old.ne w'; refine wp_region_kept (Old w'.heap.size w') (by kernel_rfl) (by kernel_rfl) (Old.start w') ?_; (repeat (first | go_big_quiet_step ((first | (go_at_call 23; go_must (exact calls_kept (ident_compare _ _ _ _ _) Old.below)))) | quiet_step ((first | (go_at_call 23; go_must (exact calls_kept (ident_compare _ _ _ _ _) Old.below)))))); refine wpQuiet_nil ?_; rintro _ ⟨X, rfl⟩)
  replace r0 := r0.below X.ok.2
  replace r1 := r1.below X.ok.2
  have xb := qb.trans (X.ok.2.mono qb.size)
  generalize X.val = wx at *
  clear q0 q1 q2 q3 q4 q5 r2 qb hN X
  have q0 : wx.cell? ⟨w.heap.size, 0, none⟩ = some (.int .i64 t) := r0.cell 0
  have q1 : wx.cell? ⟨w.heap.size, 1, none⟩ = some (.int .i64 r) := r0.cell 1
  have q2 : wx.cell? ⟨w.heap.size + 1, 0, none⟩ = some (.int .i64 t) := r1.cell 0
  have q3 : wx.cell? ⟨w.heap.size + 1, 1, none⟩ = some (.int .i64 r) := r1.cell 1
  go_wp2_with (go_at_call 23; (with_reducible refine (ident_compare _ _ _ _ _).mono ?_); rintro e w' ⟨rfl, hb⟩; replace q0 := cell_below hb (by first | exact q0 | exact cell_alloc q0 _ | exact cell_alloc (cell_alloc q0 _) _); replace q1 := cell_below hb (by first | exact q1 | exact cell_alloc q1 _ | exact cell_alloc (cell_alloc q1 _) _); replace q2 := cell_below hb (by first | exact q2 | exact cell_alloc q2 _ | exact cell_alloc (cell_alloc q2 _) _); replace q3 := cell_below hb (by first | exact q3 | exact cell_alloc q3 _ | exact cell_alloc (cell_alloc q3 _) _))
  go_ret
  exact ⟨rfl, by (repeat (first | exact Below.refl _ _ | assumption | refine bal ?_ _ | refine bdr ?_ | refine bdn ?_ _ | refine bst ?_ (by first | assumption | exact Nat.le_refl _ | omega) _ | refine bch ?_ (by assumption)))⟩
set_option maxHeartbeats 2000000 in
set_option maxRecDepth 100000 in
theorem io_pos_t (t r u s v q x y z x' : Int) (w : World)
    (e1 : orInt (cmp2 t u) (cmp2 r s) = x) (e2 : orInt (cmp2 u v) (cmp2 s q) = y) (e3 : orInt (cmp2 t v) (cmp2 r q) = z) (e4 : orInt (cmp2 u t) (cmp2 s r) = x')
    (hx : x = 1) (hx' : x' = -1) (htu : ¬ t = u) :
    Calls Try.prog 9 #[.agg #[.int .i64 t, .int .i64 r], .agg #[.int .i64 u, .int .i64 s], .agg #[.int .i64 v, .int .i64 q]] w fun e w' => e = .returned (.bool true) ∧ Below w.heap.size w w' := by
  subst hx hx'
  go_enter Try.func9, Try.ntmps9
  go_wp2_with (go_at_call 22; go_must (refine (ordered _).mono ?_); rintro e w' ⟨rfl, hb⟩)
  have r0 := (((row_at #[.int .i64 t, .int .i64 r] 43 (rfl : w.heap.size = w.heap.size)).alloc (Obj.cells #[.int .i64 u, .int .i64 s] 43)).alloc (Obj.cells #[.int .i64 v, .int .i64 q] 43)).below hb
  have r1 := ((row_at #[.int .i64 u, .int .i64 s] 43 (by simp : w.heap.size + 1 = (w.alloc (Obj.cells #[.int .i64 t, .int .i64 r] 43)).heap.size)).alloc (Obj.cells #[.int .i64 v, .int .i64 q] 43)).below hb
  have r2 := (row_at #[.int .i64 v, .int .i64 q] 43 (by simp : w.heap.size + 1 + 1 = ((w.alloc (Obj.cells #[.int .i64 t, .int .i64 r] 43)).alloc (Obj.cells #[.int .i64 u, .int .i64 s] 43)).heap.size)).below hb
  have qb : Below w.heap.size w w' := (by (repeat (first | exact Below.refl _ _ | assumption | refine bal ?_ _ | refine bdr ?_ | refine bdn ?_ _ | refine bst ?_ (by first | assumption | exact Nat.le_refl _ | omega) _ | refine bch ?_ (by assumption))) : Below w.heap.size w (((w.alloc (Obj.cells #[.int .i64 t, .int .i64 r] 43)).alloc (Obj.cells #[.int .i64 u, .int .i64 s] 43)).alloc (Obj.cells #[.int .i64 v, .int .i64 q] 43))).trans (hb.mono (by simp; omega))
  have q0 := Old.cell (r0.cell 0)
  have q1 := Old.cell (r0.cell 1)
  have q2 := Old.cell (r1.cell 0)
  have q3 := Old.cell (r1.cell 1)
  have q4 := Old.cell (r2.cell 0)
  have q5 := Old.cell (r2.cell 1)
  clear hb
  (have hN := Old.ne w'; refine wp_region_kept (Old w'.heap.size w') (by kernel_rfl) (by kernel_rfl) (Old.start w') ?_; (repeat (first | go_big_quiet_step ((first | (go_at_call 23; go_must (exact calls_kept (ident_compare _ _ _ _ _) Old.below)))) | quiet_step ((first | (go_at_call 23; go_must (exact calls_kept (ident_compare _ _ _ _ _) Old.below)))))); refine wpQuiet_nil ?_; rintro _ ⟨X, rfl⟩)
  replace r0 := r0.below X.ok.2
  replace r1 := r1.below X.ok.2
  have xb := qb.trans (X.ok.2.mono qb.size)
  generalize X.val = wx at *
  clear q0 q1 q2 q3 q4 q5 r2 qb hN X
  have q0 : wx.cell? ⟨w.heap.size, 0, none⟩ = some (.int .i64 t) := r0.cell 0
  have q1 : wx.cell? ⟨w.heap.size, 1, none⟩ = some (.int .i64 r) := r0.cell 1
  have q2 : wx.cell? ⟨w.heap.size + 1, 0, none⟩ = some (.int .i64 u) := r1.cell 0
  have q3 : wx.cell? ⟨w.heap.size + 1, 1, none⟩ = some (.int .i64 s) := r1.cell 1
  go_wp2_with (go_at_call 23; (with_reducible refine (ident_compare _ _ _ _ _).mono ?_); rintro e w' ⟨rfl, hb⟩; replace q0 := cell_below hb (by first | exact q0 | exact cell_alloc q0 _ | exact cell_alloc (cell_alloc q0 _) _); replace q1 := cell_below hb (by first | exact q1 | exact cell_alloc q1 _ | exact cell_alloc (cell_alloc q1 _) _); replace q2 := cell_below hb (by first | exact q2 | exact cell_alloc q2 _ | exact cell_alloc (cell_alloc q2 _) _); replace q3 := cell_below hb (by first | exact q3 | exact cell_alloc q3 _ | exact cell_alloc (cell_alloc q3 _) _))
  go_ret
  exact ⟨rfl, by (repeat (first | exact Below.refl _ _ | assumption | refine bal ?_ _ | refine bdr ?_ | refine bdn ?_ _ | refine bst ?_ (by first | assumption | exact Nat.le_refl _ | omega) _ | refine bch ?_ (by assumption)))⟩
set_option maxHeartbeats 2000000 in
set_option maxRecDepth 100000 in
theorem io_pos_r (t r s v q x y z x' : Int) (w : World)
    (e1 : orInt (cmp2 t t) (cmp2 r s) = x) (e2 : orInt (cmp2 t v) (cmp2 s q) = y) (e3 : orInt (cmp2 t v) (cmp2 r q) = z) (e4 : orInt (cmp2 t t) (cmp2 s r) = x')
    (hx : x = 1) (hx' : x' = -1) (hrs : ¬ r = s) :
    Calls Try.prog 9 #[.agg #[.int .i64 t, .int .i64 r], .agg #[.int .i64 t, .int .i64 s], .agg #[.int .i64 v, .int .i64 q]] w fun e w' => e = .returned (.bool true) ∧ Below w.heap.size w w' := by
  subst hx hx'
  go_enter Try.func9, Try.ntmps9
  go_wp2_with (go_at_call 22; go_must (refine (ordered _).mono ?_); rintro e w' ⟨rfl, hb⟩)
  have r0 := (((row_at #[.int .i64 t, .int .i64 r] 43 (rfl : w.heap.size = w.heap.size)).alloc (Obj.cells #[.int .i64 t, .int .i64 s] 43)).alloc (Obj.cells #[.int .i64 v, .int .i64 q] 43)).below hb
  have r1 := ((row_at #[.int .i64 t, .int .i64 s] 43 (by simp : w.heap.size + 1 = (w.alloc (Obj.cells #[.int .i64 t, .int .i64 r] 43)).heap.size)).alloc (Obj.cells #[.int .i64 v, .int .i64 q] 43)).below hb
  have r2 := (row_at #[.int .i64 v, .int .i64 q] 43 (by simp : w.heap.size + 1 + 1 = ((w.alloc (Obj.cells #[.int .i64 t, .int .i64 r] 43)).alloc (Obj.cells #[.int .i64 t, .int .i64 s] 43)).heap.size)).below hb
  have qb : Below w.heap.size w w' := (by (repeat (first | exact Below.refl _ _ | assumption | refine bal ?_ _ | refine bdr ?_ | refine bdn ?_ _ | refine bst ?_ (by first | assumption | exact Nat.le_refl _ | omega) _ | refine bch ?_ (by assumption))) : Below w.heap.size w (((w.alloc (Obj.cells #[.int .i64 t, .int .i64 r] 43)).alloc (Obj.cells #[.int .i64 t, .int .i64 s] 43)).alloc (Obj.cells #[.int .i64 v, .int .i64 q] 43))).trans (hb.mono (by simp; omega))
  have q0 := Old.cell (r0.cell 0)
  have q1 := Old.cell (r0.cell 1)
  have q2 := Old.cell (r1.cell 0)
  have q3 := Old.cell (r1.cell 1)
  have q4 := Old.cell (r2.cell 0)
  have q5 := Old.cell (r2.cell 1)
  clear hb
  (have hN := Old.ne w'; refine wp_region_kept (Old w'.heap.size w') (by kernel_rfl) (by kernel_rfl) (Old.start w') ?_; (repeat (first | go_big_quiet_step ((first | (go_at_call 23; go_must (exact calls_kept (ident_compare _ _ _ _ _) Old.below)))) | quiet_step ((first | (go_at_call 23; go_must (exact calls_kept (ident_compare _ _ _ _ _) Old.below)))))); refine wpQuiet_nil ?_; rintro _ ⟨X, rfl⟩)
  replace r0 := r0.below X.ok.2
  replace r1 := r1.below X.ok.2
  have xb := qb.trans (X.ok.2.mono qb.size)
  generalize X.val = wx at *
  clear q0 q1 q2 q3 q4 q5 r2 qb hN X
  have q0 : wx.cell? ⟨w.heap.size, 0, none⟩ = some (.int .i64 t) := r0.cell 0
  have q1 : wx.cell? ⟨w.heap.size, 1, none⟩ = some (.int .i64 r) := r0.cell 1
  have q2 : wx.cell? ⟨w.heap.size + 1, 0, none⟩ = some (.int .i64 t) := r1.cell 0
  have q3 : wx.cell? ⟨w.heap.size + 1, 1, none⟩ = some (.int .i64 s) := r1.cell 1
  go_wp2_with (go_at_call 23; (with_reducible refine (ident_compare _ _ _ _ _).mono ?_); rintro e w' ⟨rfl, hb⟩; replace q0 := cell_below hb (by first | exact q0 | exact cell_alloc q0 _ | exact cell_alloc (cell_alloc q0 _) _); replace q1 := cell_below hb (by first | exact q1 | exact cell_alloc q1 _ | exact cell_alloc (cell_alloc q1 _) _); replace q2 := cell_below hb (by first | exact q2 | exact cell_alloc q2 _ | exact cell_alloc (cell_alloc q2 _) _); replace q3 := cell_below hb (by first | exact q3 | exact cell_alloc q3 _ | exact cell_alloc (cell_alloc q3 _) _))
  go_ret
  exact ⟨rfl, by (repeat (first | exact Below.refl _ _ | assumption | refine bal ?_ _ | refine bdr ?_ | refine bdn ?_ _ | refine bst ?_ (by first | assumption | exact Nat.le_refl _ | omega) _ | refine bch ?_ (by assumption)))⟩
theorem IdentOrder_walk (t r u s v q : Int) (w : World) (_ : (Lit.int .i64 t).wf = true ∧ (Lit.int .i64 r).wf = true) (_ : (Lit.int .i64 u).wf = true ∧ (Lit.int .i64 s).wf = true) (_ : (Lit.int .i64 v).wf = true ∧ (Lit.int .i64 q).wf = true) :
    Calls Try.prog 9 #[.agg #[.int .i64 t, .int .i64 r], .agg #[.int .i64 u, .int .i64 s], .agg #[.int .i64 v, .int .i64 q]] w fun e w' => e = .returned (.bool true) ∧ Below w.heap.size w w' := by
  rcases cmpId_cases t r u s with ⟨h1, h2, h3⟩ | ⟨h1, h2, rfl, rfl⟩ | ⟨h1, h2, h3⟩
  · by_cases htu : t = u
    · subst htu
      exact io_neg_r t r s v q _ _ _ _ w rfl rfl rfl rfl h1 h2 (cmpId_trans t r t s v q (by omega)) (fun h => h3 ⟨rfl, h⟩)
    · exact io_neg_t t r u s v q _ _ _ _ w rfl rfl rfl rfl h1 h2 (cmpId_trans t r u s v q (by omega)) htu
  · exact io_zero t r v q _ _ _ _ w rfl rfl rfl rfl h1 h2 rfl
  · by_cases htu : t = u
    · subst htu
      exact io_pos_r t r s v q _ _ _ _ w rfl rfl rfl rfl h1 h2 (fun h => h3 ⟨rfl, h⟩)
    · exact io_pos_t t r u s v q _ _ _ _ w rfl rfl rfl rfl h1 h2 htu
end Go.Proofs.Ytmjgminajkhfdaa
