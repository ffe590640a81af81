/- The walk of ident.Within. -/
import Derived.Test.YtdbpiabcpjgblaaDoorWVecOf
namespace Go.Proofs.YtdbpiabcpjgblaaDoor
open Go.RowKit
set_option linter.unusedVariables false
def within (t r : Int) (a b : List Vec.Entry) : Bool := decide (Vec.of a r < t) && decide (t ≤ Vec.of b r)
set_option maxHeartbeats 1000000 in
theorem ident_within (t r : Int) (va vb : Value) (a b : List Vec.Entry) (w : World) (ha : VecIs w va a) (hb : VecIs w vb b) :
    Calls Tryd.prog 32 #[.agg #[.int .i64 t, .int .i64 r], va, vb] w fun e w' => e = .returned (.bool (within t r a b)) ∧ Below w.heap.size w w' := by
  have hW : Hid (within t r a b = (decide (Vec.of a r < t) && decide (t ≤ Vec.of b r))) := Lib.hid rfl
  have s3 : ∀ W, Below w.heap.size w W → VecIs W va a := fun W h => ha.below h
  have s4 : ∀ W, Below w.heap.size w W → VecIs W vb b := fun W h => hb.below h
  replace s3 := Lib.hid s3
  replace s4 := Lib.hid s4
  by_cases h : Vec.of a r < t
  all_goals
    first | (have hd : decide (Vec.of a r < t) = true := by simpa using h) | (have hd : decide (Vec.of a r < t) = false := by simpa using h)
    go_enter Tryd.func32, Tryd.ntmps32
    go_wp2_with fail
    have q0 : (w.alloc (Obj.cells #[.int .i64 t, .int .i64 r] 23)).cell? ⟨w.heap.size, 0, none⟩ = some (.int .i64 t) := by simp
    have q1 : (w.alloc (Obj.cells #[.int .i64 t, .int .i64 r] 23)).cell? ⟨w.heap.size, 1, none⟩ = some (.int .i64 r) := by simp
    have q3 : Below w.heap.size w (w.alloc (Obj.cells #[.int .i64 t, .int .i64 r] 23)) := by (repeat (first | exact Below.refl _ _ | assumption | refine bal ?_ _ | refine bdr ?_ | refine bdn ?_ _ | refine bst ?_ (by first | assumption | exact Nat.le_refl _ | omega) _ | refine bch ?_ (by assumption)))
    generalize w.alloc (Obj.cells #[.int .i64 t, .int .i64 r] 23) = w1 at *
    have c0 := Old.cell q0
    have c1 := Old.cell q1
    have cb : ∀ x : Kept (Old w1.heap.size w1), Below w.heap.size w x.val := fun x => q3.trans (x.ok.2.mono q3.size)
    replace cb := Lib.hid cb
    (have hN := Old.ne w1; refine wp_region_kept (Old w1.heap.size w1) (by kernel_rfl) (by kernel_rfl) (Old.start w1) ?_; (repeat (first | go_big_quiet_step ((first | (go_at_call 29; go_must (exact calls_kept (vector_of _ _ _ _ (by first | exact s3.out _ (cb.out _) | exact s4.out _ (cb.out _))) Old.below)))) | quiet_step ((first | (go_at_call 29; go_must (exact calls_kept (vector_of _ _ _ _ (by first | exact s3.out _ (cb.out _) | exact s4.out _ (cb.out _))) Old.below)))))); refine wpQuiet_nil ?_; rintro _ ⟨X, rfl⟩)
    go_wp2
    go_ret
    exact ⟨ret_bool (by rw [hW.out, hd]; simp), cb.out _⟩
end Go.Proofs.YtdbpiabcpjgblaaDoor
