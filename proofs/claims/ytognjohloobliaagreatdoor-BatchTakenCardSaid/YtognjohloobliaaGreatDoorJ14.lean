/- The walk of vector.Of, and of ident.Within. -/
import Derived.Test.YtognjohloobliaaGreatDoorJ01
import Derived.Test.YtognjohloobliaaGreatDoorRows
import Derived.Test.YtognjohloobliaaGreatDoorJ08
import Derived.Deep.RegionHeld3
import Derived.Deep.RegionWith
import Derived.Test.YtognjohloobliaaGreatDoorJ13
namespace Go.Proofs.YtognjohloobliaaGreatDoor
open Go.RowKit
set_option linter.unusedVariables false
def entryCells (l : List Vec.Entry) : List Value := l.flatMap fun x => [.int .i64 x.r, .int .i64 x.t]
theorem entryCells_len (l : List Vec.Entry) : (entryCells l).length = l.length * 2 := by
 induction l with
 | nil => rfl
 | cons x l ih => simp [entryCells] at *; omega
theorem entryCells_r (l : List Vec.Entry) (k : Nat) (h : k < l.length) : (entryCells l)[k * 2]? = some (.int .i64 l[k].r) := by
 induction l generalizing k with
 | nil => simp at h
 | cons x l ih =>
  cases k with
  | zero => rfl
  | succ k =>
   have e : (k + 1) * 2 = k * 2 + 1 + 1 := by omega
   rw [e]
   simpa [entryCells] using ih k (by simpa using h)
theorem entryCells_t (l : List Vec.Entry) (k : Nat) (h : k < l.length) : (entryCells l)[k * 2 + 1]? = some (.int .i64 l[k].t) := by
 induction l generalizing k with
 | nil => simp at h
 | cons x l ih =>
  cases k with
  | zero => rfl
  | succ k =>
   have e : (k + 1) * 2 + 1 = k * 2 + 1 + 1 + 1 := by omega
   rw [e]
   simpa [entryCells] using ih k (by simpa using h)
/-- A slice that reads as a vector. -/
def VecIs (w : World) (v : Value) (l : List Vec.Entry) : Prop := SliceIs w v l.length 2 (entryCells l)
theorem VecIs.below {w w' : World} {v : Value} {l : List Vec.Entry} (h : VecIs w v l) (hb : Below w.heap.size w w') : VecIs w' v l := SliceIs.below h (by omega) hb
set_option maxHeartbeats 1000000 in
theorem vector_of (v : Value) (l : List Vec.Entry) (r : Int) (w : World) (hv : VecIs w v l) :
  Calls Tryz.prog 25 #[v, .int .i64 r] w fun e w' => e = .returned (.int .i64 (Vec.of l r)) ∧ Below w.heap.size w w' := by
 rcases hv.2 with ⟨h0, a, cap, rfl⟩ | ⟨h0, b, off, cap, rfl, hc, hm, hcell⟩
 ·have hl : l = [] := List.length_eq_zero_iff.1 h0
  subst hl
  clear hv h0
  go_enter Tryz.func25, Tryz.ntmps25
  go_wp2
  refine wp_loop_rounds 1 ?_
  rw [rounds_succ]
  go_wp2
  go_ret
  exact ⟨rfl, by exact blw⟩
 ·unfold maxLen at hm
  have hbl : b < w.heap.size := World.block_lt_of_cell? w _ (hcell 0 (by rw [entryCells_len]; omega))
  have hcr : ∀ k (h : k < l.length), w.cell? ⟨b, off + k * 2, none⟩ = some (.int .i64 l[k].r) := fun k h => by
   rw [hcell (k * 2) (by rw [entryCells_len]; omega), ← List.getElem?_eq_getElem, entryCells_r l k h]
  have hct : ∀ k (h : k < l.length), w.cell? ⟨b, off + k * 2 + 1, none⟩ = some (.int .i64 l[k].t) := fun k h => by
   rw [Nat.add_assoc, hcell (k * 2 + 1) (by rw [entryCells_len]; omega), ← List.getElem?_eq_getElem, entryCells_t l k h]
  replace hcr := Lib.hid hcr
  replace hct := Lib.hid hct
  clear hcell hv
  go_enter Tryz.func25, Tryz.ntmps25
  go_wp2

  go_loopw [9] (fun i wr => ∃ k : Nat, k ≤ l.length ∧ i = .int .i64 k ∧ Vec.of (l.drop k) r = Vec.of l r ∧ Below w.heap.size w wr) (fun i _ => l.length - (intOf i).toNat)
  case atStart => exact ⟨0, by omega, rfl, rfl, by exact blw⟩
  case round =>
   obtain ⟨k, hk, rfl, hof, hbel⟩ := hrel
   by_cases hlt : k < l.length
   ·have hof2 := Lib.hid (hof.symm.trans (Vec.of_drop l k r hlt))
    have c0 : wr.cell? ⟨b, off + k * 2, none⟩ = some (.int .i64 l[k].r) := (hbel.cell (p := ⟨b, off + k * 2, none⟩) hbl).trans (hcr.out k hlt)
    have c1 : wr.cell? ⟨b, off + k * 2 + 1, none⟩ = some (.int .i64 l[k].t) := (hbel.cell (p := ⟨b, off + k * 2 + 1, none⟩) hbl).trans (hct.out k hlt)
    clear hof
    have hsz := hbel.size
    by_cases hr : l[k].r = r
    ·have hrb : (l[k].r == r) = true := by simp [hr]
     replace hr := Lib.hid hr
     go_wp2
     go_ret
     exact ⟨ret_int (by rw [hof2.out, if_pos hr.out]), by exact blw⟩
    ·have hrb : (l[k].r == r) = false := by simp [hr]
     replace hr := Lib.hid hr
     go_wp2
     go_roundw
     case rel => exact ⟨k + 1, by omega, by go_num, by rw [hof2.out, if_neg hr.out], by exact blw⟩
     case measure => simp [intOf]; omega
   ·have hfin : Hid (Vec.of l r = 0) := Lib.hid (by rw [← hof, List.drop_of_length_le (by omega)]; rfl)
    clear hof
    go_wp2
    go_ret
    exact ⟨ret_int hfin.out.symm, by exact blw⟩
end Go.Proofs.YtognjohloobliaaGreatDoor
/- The walk of ident.Within. -/
namespace Go.Proofs.YtognjohloobliaaGreatDoor
open Go.RowKit
set_option linter.unusedVariables false
def within (t r : Int) (a b : List Vec.Entry) : Bool := decide (Vec.of a r < t) && decide (t ≤ Vec.of b r)
set_option maxHeartbeats 1000000 in
theorem ident_within (t r : Int) (va vb : Value) (a b : List Vec.Entry) (w : World) (ha : VecIs w va a) (hb : VecIs w vb b) :
  Calls Tryz.prog 14 #[.agg #[.int .i64 t, .int .i64 r], va, vb] w fun e w' => e = .returned (.bool (within t r a b)) ∧ Below w.heap.size w w' := by
 have hW : Hid (within t r a b = (decide (Vec.of a r < t) && decide (t ≤ Vec.of b r))) := Lib.hid rfl
 have s3 : ∀ W, Below w.heap.size w W → VecIs W va a := fun W h => ha.below h
 have s4 : ∀ W, Below w.heap.size w W → VecIs W vb b := fun W h => hb.below h
 replace s3 := Lib.hid s3
 replace s4 := Lib.hid s4
 by_cases h : Vec.of a r < t
 all_goals
  first | (have hd : decide (Vec.of a r < t) = true := by simpa using h) | (have hd : decide (Vec.of a r < t) = false := by simpa using h)
  go_enter Tryz.func14, Tryz.ntmps14
  go_wp2_with fail
  have q0 : (w.alloc (Obj.cells #[.int .i64 t, .int .i64 r] 31)).cell? ⟨w.heap.size, 0, none⟩ = some (.int .i64 t) := by simp
  have q1 : (w.alloc (Obj.cells #[.int .i64 t, .int .i64 r] 31)).cell? ⟨w.heap.size, 1, none⟩ = some (.int .i64 r) := by simp
  have q3 : Below w.heap.size w (w.alloc (Obj.cells #[.int .i64 t, .int .i64 r] 31)) := by exact blw
  generalize w.alloc (Obj.cells #[.int .i64 t, .int .i64 r] 31) = w1 at *
  have c0 := Old.cell q0
  have c1 := Old.cell q1
  have cb : ∀ x : Kept (Old w1.heap.size w1), Below w.heap.size w x.val := fun x => q3.trans (x.ok.2.mono q3.size)
  replace cb := Lib.hid cb
  (have hN := Old.ne w1; refine wp_region_kept (Old w1.heap.size w1) (by kernel_rfl) (by kernel_rfl) (Old.start w1) ?_; (repeat (first | go_big_quiet_step ((first | (go_at_call 25; go_must (exact calls_kept (vector_of _ _ _ _ (by first | exact s3.out _ (cb.out _) | exact s4.out _ (cb.out _))) Old.below)))) | quiet_step ((first | (go_at_call 25; go_must (exact calls_kept (vector_of _ _ _ _ (by first | exact s3.out _ (cb.out _) | exact s4.out _ (cb.out _))) Old.below)))))); refine wpQuiet_nil ?_; rintro _ ⟨X, rfl⟩)
  go_wp2
  go_ret
  exact ⟨ret_bool (by rw [hW.out, hd]; simp), cb.out _⟩
end Go.Proofs.YtognjohloobliaaGreatDoor
/- The walk of keep.ordered. -/
namespace Go.Proofs.YtognjohloobliaaGreatDoor
open Go.RowKit
set_option linter.unusedVariables false
theorem w1_eq : within 2 1 [] [⟨1, 2⟩] = true := by decide
theorem w2_eq : within 2 1 [⟨1, 2⟩] [] = false := by decide
theorem o1 : orInt (cmp2 2 1) (cmp2 1 9) = 1 := by decide
theorem o2 : orInt (cmp2 1 2) (cmp2 9 1) = -1 := by decide
theorem o3 : orInt (cmp2 2 2) (cmp2 1 1) = 0 := by decide
set_option maxHeartbeats 2000000 in
theorem ordered (w : World) : Calls Tryz.prog 10 #[] w fun e w' => e = .returned (.bool true) ∧ Below w.heap.size w w' := by
 have hw1 := w1_eq
 have hw2 := w2_eq
 have h1 := o1
 have h2 := o2
 have h3 := o3
 go_enter Tryz.func10, Tryz.ntmps10
 go_wp2_with fail
 have q0 : ((w.alloc (Obj.cells #[.int .i64 2, .int .i64 1] 31)).alloc (Obj.cells #[.int .i64 1, .int .i64 9] 31)).cell? ⟨w.heap.size, 0, none⟩ = some (.int .i64 2) := by simp
 have q1 : ((w.alloc (Obj.cells #[.int .i64 2, .int .i64 1] 31)).alloc (Obj.cells #[.int .i64 1, .int .i64 9] 31)).cell? ⟨w.heap.size, 1, none⟩ = some (.int .i64 1) := by simp
 have q2 : ((w.alloc (Obj.cells #[.int .i64 2, .int .i64 1] 31)).alloc (Obj.cells #[.int .i64 1, .int .i64 9] 31)).cell? ⟨w.heap.size + 1, 0, none⟩ = some (.int .i64 1) := by simp
 have q3 : ((w.alloc (Obj.cells #[.int .i64 2, .int .i64 1] 31)).alloc (Obj.cells #[.int .i64 1, .int .i64 9] 31)).cell? ⟨w.heap.size + 1, 1, none⟩ = some (.int .i64 9) := by simp
 have qb : Below w.heap.size w ((w.alloc (Obj.cells #[.int .i64 2, .int .i64 1] 31)).alloc (Obj.cells #[.int .i64 1, .int .i64 9] 31)) := by exact blw
 generalize (w.alloc (Obj.cells #[.int .i64 2, .int .i64 1] 31)).alloc (Obj.cells #[.int .i64 1, .int .i64 9] 31) = W at *
 go_wp2_with (go_at_call 24; (with_reducible refine (ident_compare _ _ _ _ _).mono ?_); rintro e w' ⟨rfl, hb⟩; replace q0 := cell_below hb (by first | exact q0 | exact cell_alloc q0 _ | exact cell_alloc (cell_alloc q0 _) _); replace q1 := cell_below hb (by first | exact q1 | exact cell_alloc q1 _ | exact cell_alloc (cell_alloc q1 _) _); replace q2 := cell_below hb (by first | exact q2 | exact cell_alloc q2 _ | exact cell_alloc (cell_alloc q2 _) _); replace q3 := cell_below hb (by first | exact q3 | exact cell_alloc q3 _ | exact cell_alloc (cell_alloc q3 _) _))
 refine (ident_within 2 1 _ _ [] [⟨1, 2⟩] _ (SliceIs.nil _ _) (SliceIs.of_row (row_alloc _ _ _) rfl (by decide) (by decide) (by decide))).mono ?_
 rintro e w5 ⟨rfl, hb⟩
 replace q0 := cell_below hb (cell_alloc q0 _)
 replace q1 := cell_below hb (cell_alloc q1 _)
 go_wp2_with fail
 refine (ident_within 2 1 _ _ [⟨1, 2⟩] [] _ (SliceIs.of_row (row_alloc _ _ _) rfl (by decide) (by decide) (by decide)) (SliceIs.nil _ _)).mono ?_
 rintro e w6 ⟨rfl, hb6⟩
 go_wp2
 go_ret
 exact ⟨rfl, by exact blw⟩
end Go.Proofs.YtognjohloobliaaGreatDoor
