/- The walk of keep.known. -/
import Derived.Test.YtlgaklbfjjpfkaaDoorWJoinV
import Derived.Test.YtlgaklbfjjpfkaaDoorWVecW
import Derived.Test.YtlgaklbfjjpfkaaDoorWEqEnt
namespace Go.Proofs.YtlgaklbfjjpfkaaDoor
open Go.RowKit
set_option linter.unusedVariables false
set_option maxHeartbeats 4000000 in
set_option maxRecDepth 100000 in
def kA : List Vec.Entry := [⟨1, 5⟩, ⟨2, 3⟩]
def kB : List Vec.Entry := [⟨2, 9⟩, ⟨7, 1⟩]
def kC : List Vec.Entry := [⟨1, 5⟩, ⟨2, 9⟩, ⟨7, 1⟩]
theorem kA_fine : Vec.right kA = .ok := by rfl
theorem kB_fine : Vec.right kB = .ok := by rfl
theorem kC_fine : Vec.right kC = .ok := by rfl
theorem k_merge : Vec.merge kA kB = kC := by simp [kA, kB, kC, Vec.merge]; decide
theorem k_joined : joined kA kB = .inr kC := by unfold joined; rw [kA_fine, kB_fine, k_merge]; rfl
theorem k_ext1 : Vec.ext_ 1 1 [⟨2, 9⟩, ⟨7, 1⟩] = 2 := by decide
theorem k_write : (⟨(Vec.write kC).toArray⟩ : ByteArray) = ⟨#[2, 1, 1, 5, 9, 3, 0, 1]⟩ := by
  have e2 : Vec.enc false 3 [⟨7, 1⟩] = (1, [3, 0, 1]) := by
    rw [Vec.enc_cons]; simp [Vec.ext_, Vec.enc_nil, Vary.put_small, Vec.times]
  have e1 : Vec.enc true 0 kC = (2, [1, 1, 5, 9, 3, 0, 1]) := by
    unfold kC
    rw [Vec.enc_cons]; simp [Vec.ext_, e2, Vary.put_small, Vec.times]
  unfold Vec.write
  rw [e1]; simp [Vary.put_small]
theorem k_of : Vec.of kC 2 = 9 := by rfl
theorem k_covers : coversB kA kB = false := by simp [coversB, kA, kB, Vec.right, Vec.of]
theorem keep_known (w : World) (hL : Laid w) :
    Calls Tryd.prog 19 #[] w fun e w' => e = .returned (.bool true) ∧ Below w.heap.size w w' := by
  go_enter Tryd.func19, Tryd.ntmps19
  go_wp2_with fail
  have ha0 := ListIs.of_alloc (f := entCells) (sz := 2) w 87 kA #[Value.int IntKind.i64 1, Value.int IntKind.i64 5, Value.int IntKind.i64 2, Value.int IntKind.i64 3] rfl entCells_len (by decide) 2 rfl
  have ha : VecIs ((w.alloc (Obj.cells #[Value.int IntKind.i64 1, Value.int IntKind.i64 5, Value.int IntKind.i64 2, Value.int IntKind.i64 3] 87)).alloc (Obj.cells #[Value.int IntKind.i64 2, Value.int IntKind.i64 9, Value.int IntKind.i64 7, Value.int IntKind.i64 1] 87)) (.slice (some ⟨w.heap.size, 0, none⟩) 2 2) kA := VecIs.below ha0 ((Below.refl _ _).alloc (Nat.le_refl _) _)
  have hb : VecIs ((w.alloc (Obj.cells #[Value.int IntKind.i64 1, Value.int IntKind.i64 5, Value.int IntKind.i64 2, Value.int IntKind.i64 3] 87)).alloc (Obj.cells #[Value.int IntKind.i64 2, Value.int IntKind.i64 9, Value.int IntKind.i64 7, Value.int IntKind.i64 1] 87)) (.slice (some ⟨w.heap.size + 1, 0, none⟩) 2 2) kB := by
    have h := ListIs.of_alloc (f := entCells) (sz := 2) (w.alloc (Obj.cells #[Value.int IntKind.i64 1, Value.int IntKind.i64 5, Value.int IntKind.i64 2, Value.int IntKind.i64 3] 87)) 87 kB #[Value.int IntKind.i64 2, Value.int IntKind.i64 9, Value.int IntKind.i64 7, Value.int IntKind.i64 1] rfl entCells_len (by decide) 2 rfl
    rw [show (w.alloc (Obj.cells #[Value.int IntKind.i64 1, Value.int IntKind.i64 5, Value.int IntKind.i64 2, Value.int IntKind.i64 3] 87)).heap.size = w.heap.size + 1 from by first | rfl | simp] at h
    exact h
  have hL2 := (hL.alloc (Obj.cells #[Value.int IntKind.i64 1, Value.int IntKind.i64 5, Value.int IntKind.i64 2, Value.int IntKind.i64 3] 87)).alloc (Obj.cells #[Value.int IntKind.i64 2, Value.int IntKind.i64 9, Value.int IntKind.i64 7, Value.int IntKind.i64 1] 87)
  have hbel2 : Below w.heap.size w ((w.alloc (Obj.cells #[Value.int IntKind.i64 1, Value.int IntKind.i64 5, Value.int IntKind.i64 2, Value.int IntKind.i64 3] 87)).alloc (Obj.cells #[Value.int IntKind.i64 2, Value.int IntKind.i64 9, Value.int IntKind.i64 7, Value.int IntKind.i64 1] 87)) := by (repeat (first | exact Below.refl _ _ | assumption | refine bal ?_ _ | refine bdr ?_ | refine bdn ?_ _ | refine bst ?_ (by first | assumption | exact Nat.le_refl _ | omega) _ | refine bch ?_ (by assumption)))
  clear ha0
  generalize (w.alloc (Obj.cells #[Value.int IntKind.i64 1, Value.int IntKind.i64 5, Value.int IntKind.i64 2, Value.int IntKind.i64 3] 87)).alloc (Obj.cells #[Value.int IntKind.i64 2, Value.int IntKind.i64 9, Value.int IntKind.i64 7, Value.int IntKind.i64 1] 87) = w2 at *
  refine (vector_join_ok _ _ kA kB _ hL2 ha hb (by decide) (by decide) kA_fine kB_fine).mono ?_
  rintro e w3 ⟨h3, hb3⟩
  rw [k_joined] at h3
  obtain ⟨vc, rfl, hc⟩ := h3
  have ha3 := Lib.hid (ha.below hb3)
  have hb3' := Lib.hid (hb.below hb3)
  have hbel3 : Below w.heap.size w w3 := by (repeat (first | exact Below.refl _ _ | assumption | refine bal ?_ _ | refine bdr ?_ | refine bdn ?_ _ | refine bst ?_ (by first | assumption | exact Nat.le_refl _ | omega) _ | refine bch ?_ (by assumption)))
  replace hc := Lib.hid hc
  clear ha hb hb3 hbel2 hL2
  go_wp2_with fail
  refine (vector_write_ok vc kC _ hc.out kC_fine).mono ?_
  rintro e w4 ⟨rfl, hb4⟩
  rw [k_write]
  have hbel4 : Below w.heap.size w w4 := by (repeat (first | exact Below.refl _ _ | assumption | refine bal ?_ _ | refine bdr ?_ | refine bdn ?_ _ | refine bst ?_ (by first | assumption | exact Nat.le_refl _ | omega) _ | refine bch ?_ (by assumption)))
  have hc4 := hc.out.below hb4
  have ha4 := ha3.out.below hb4
  have hb4' := hb3'.out.below hb4
  clear ha3 hb3' hc hbel3 hb4
  go_wp2_with fail
  have hbn : Below w4.heap.size w4 (w4.alloc (Obj.cells #[Value.int IntKind.i64 1, Value.int IntKind.i64 5, Value.int IntKind.i64 2, Value.int IntKind.i64 9, Value.int IntKind.i64 7, Value.int IntKind.i64 1] 87)) := (Below.refl _ _).alloc (Nat.le_refl _) _
  refine (eq_ent vc _ kC kC _ (hc4.below hbn) (ListIs.of_alloc (f := entCells) (sz := 2) w4 87 kC _ rfl entCells_len (by decide) 3 rfl) (by decide) (by decide)).mono ?_
  rintro e w5 ⟨rfl, hb5⟩
  have hbel5 : Below w.heap.size w w5 := by (repeat (first | exact Below.refl _ _ | assumption | refine bal ?_ _ | refine bdr ?_ | refine bdn ?_ _ | refine bst ?_ (by first | assumption | exact Nat.le_refl _ | omega) _ | refine bch ?_ (by assumption)))
  have hc5 := (hc4.below hbn).below hb5
  have ha5 := (ha4.below hbn).below hb5
  have hb5' := (hb4'.below hbn).below hb5
  clear hc4 ha4 hb4' hbn hb5 hbel4
  rw [show decide (kC = kC) = true from by simp]
  go_wp2_with fail
  refine (vector_of vc kC 2 _ hc5).mono ?_
  rintro e w6 ⟨rfl, hb6⟩
  have hbel6 : Below w.heap.size w w6 := by (repeat (first | exact Below.refl _ _ | assumption | refine bal ?_ _ | refine bdr ?_ | refine bdn ?_ _ | refine bst ?_ (by first | assumption | exact Nat.le_refl _ | omega) _ | refine bch ?_ (by assumption)))
  have ha6 := ha5.below hb6
  have hb6' := hb5'.below hb6
  clear hc5 ha5 hb5' hb6 hbel5
  rw [k_of]
  go_wp2_with fail
  refine (vector_covers _ _ kA kB _ ha6 hb6' (by decide) (by decide)).mono ?_
  rintro e w7 ⟨rfl, hb7⟩
  rw [k_covers]
  go_wp2
  go_ret
  exact ⟨rfl, by (repeat (first | exact Below.refl _ _ | assumption | refine bal ?_ _ | refine bdr ?_ | refine bdn ?_ _ | refine bst ?_ (by first | assumption | exact Nat.le_refl _ | omega) _ | refine bch ?_ (by assumption)))⟩
end Go.Proofs.YtlgaklbfjjpfkaaDoor
