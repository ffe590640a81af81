/- The walk of vector.Join, whose answer is of the call's own memory (XWJoinV's, told anew). -/
import Derived.Test.YtognjohloobliaaGreatDoorJ15
import Derived.Deep.RegionHeld3
namespace Go.Proofs.YtognjohloobliaaGreatDoor
open Go.RowKit
set_option linter.unusedVariables false
def JoinO (x : Err ⊕ List Vec.Entry) (w : World) (e : Ending) (w' : World) : Prop :=
 (match x with
 | .inl r => e = .returned (.tuple #[.slice none 0 0, errV r.code])
 | .inr l => ∃ v, e = .returned (.tuple #[v, .nilIface]) ∧ w'.ownsRow w.heap.size 45 2 v l.length (l.flatMap entCells)) ∧ Below w.heap.size w w'
set_option maxHeartbeats 4000000 in
set_option maxRecDepth 100000 in
theorem vector_join_own (va vb : Value) (a b : List Vec.Entry) (w : World) (hL : Laid w) (ha : VecIs w va a) (hb : VecIs w vb b) (hla : a.length ≤ 140737488351232) (hlb : b.length ≤ 140737488351232) (h1 : Vec.right a = .ok) (h2 : Vec.right b = .ok) :
  Calls Tryz.prog 34 #[va, vb] w (JoinO (joined a b) w) := by
 have hA := fun W h => vector_right va a W h hla
 have hB := fun W h => vector_right vb b W h hlb
 rw [h1] at hA
 rw [h2] at hB
 have hJ : Hid (joined a b = if 16 < (Vec.merge a b).length then .inl (.no 4) else .inr (Vec.merge a b)) := Lib.hid (by unfold joined; rw [if_neg (by simp [h1]), if_neg (by simp [h2])])
 have hm : a.length + b.length ≤ 32 := by
  have := ((Vec.right_iff a).1 h1).len
  have := ((Vec.right_iff b).1 h2).len
  omega
 replace hA := Lib.hid hA
 replace hB := Lib.hid hB
 have ha' := Lib.hid ha
 have hb' := Lib.hid hb
 clear h1 h2
 obtain ⟨oa, ca, rfl, -, -⟩ := ha.list.at entCells_len
 obtain ⟨ob, cb, rfl, -, -⟩ := hb.list.at entCells_len
 clear ha hb
 have i0 : ∀ (x y : Value) (w : World), (Instr.index 93 (.agg #[x, y]) (.int .i64 0)).run Tryz.prog w = .ok x w := fun _ _ _ => by kernel_rfl
 have i1 : ∀ (x y : Value) (w : World), (Instr.index 93 (.agg #[x, y]) (.int .i64 1)).run Tryz.prog w = .ok y w := fun _ _ _ => by kernel_rfl
 go_enter Tryz.func34, Tryz.ntmps34
 go_wp2
 refine wp_loop_rounds 3 ?_
 rw [rounds_succ]
 go_wp2_with fail
 refine (hA.out _ ha'.out).mono ?_
 rintro e w1 ⟨v1, rfl, hv1, hb1⟩
 have hv1 : v1 = .nilIface := hv1
 subst hv1
 go_wp2_with fail
 rw [rounds_succ]
 go_wp2_with fail
 refine (hB.out _ (hb'.out.below hb1)).mono ?_
 rintro e w2 ⟨v2, rfl, hv2, hb2⟩
 have hv2 : v2 = .nilIface := hv2
 subst hv2
 go_wp2_with fail
 rw [rounds_succ]
 go_wp2_with fail
 have hbel2 : Below w.heap.size w w2 := by exact blw
 go_loopw [0, 1, 9] (fun sa sb so wr => ∃ (oa ob : Option Addr) (ca cb : Nat) (a' b' out : List Vec.Entry), sa = .slice oa a'.length ca ∧ sb = .slice ob b'.length cb ∧ VecIs w (.slice oa a'.length ca) a' ∧ VecIs w (.slice ob b'.length cb) b' ∧ out ++ Vec.merge a' b' = Vec.merge a b ∧ out.length + (a'.length + b'.length) ≤ 32 ∧ wr.ownsRow w.heap.size 45 2 so out.length (out.flatMap entCells) ∧ Below w.heap.size w wr) (fun sa sb _ _ => sliceLen sa + sliceLen sb)
 case atStart => exact ⟨oa, ob, ca, cb, a, b, [], rfl, rfl, ha'.out, hb'.out, rfl, by simpa using hm, World.ownsRow_nil _ _ _ _, hbel2⟩
 case round =>
  clear hbel2 hb1 hb2 hA hB
  obtain ⟨oa', ob', ca', cb', a', b', out, rfl, rfl, hva, hvb, hmg, hln, hown, hbel⟩ := hrel
  have hsz := hbel.size
  cases a' with
  | nil =>
   cases b' with
   | nil =>
    rw [Vec.merge_nil, List.append_nil] at hmg
    obtain ⟨oo, co, rfl⟩ := owns_slice hown
    have hlast := Lib.hid hown
    have hmgH := Lib.hid hmg
    replace hva := Lib.hid hva
    replace hvb := Lib.hid hvb
    clear hmg
    by_cases h16 : 16 < out.length
    ·have hfin : Hid (joined a b = .inl (.no 4)) := Lib.hid (by rw [hJ.out, ← hmgH.out, if_pos h16])
     go_wp2
     go_ret2
     rw [hfin.out]
     exact ⟨rfl, hbel⟩
    ·have hfin : Hid (joined a b = .inr out) := Lib.hid (by rw [hJ.out, ← hmgH.out, if_neg h16])
     go_wp2
     go_ret2
     rw [hfin.out]
     exact ⟨⟨_, rfl, hlast.out⟩, hbel⟩
   | cons y b' =>
    have htb := vec_tail hvb
    obtain ⟨bb, fb, rfl, -, hcb1, hcm0, hcbm, hbbl, hyr, hyt, hvb2, hcb0⟩ := vec_cons hvb
    have hcm0 : b'.length + 1 ≤ cb' := hcm0
    have qyr := fun W (h : Below w.heap.size w W) => cell_below h hyr
    have qyt := fun W (h : Below w.heap.size w W) => cell_below h hyt
    have cyr := qyr _ hbel
    have cyt := qyt _ hbel
    rw [Vec.merge_nil] at hmg
    have hmg2 : Hid ((out ++ [y]) ++ Vec.merge [] b' = Vec.merge a b) := Lib.hid (by rw [Vec.merge_nil, List.append_assoc]; exact hmg)
    replace hva := Lib.hid hva
    replace hvb := Lib.hid hvb
    have b1 : (1 : Int) ≤ (b'.length : Int) + 1 := by omega
    replace hvb2 := Lib.hid hvb2
    replace hcb0 := Lib.hid hcb0
    clear hmg
    have bz : (((b'.length : Int) + 1) == 0) = false := by simp; omega
    obtain ⟨A, hAr, hAv⟩ := htb
    replace hAv := Lib.hid hAv
    simp only [List.length_cons]
    go_wp2
    go_quiet (fail)
    have hownq : (wr.drewN nq).ownsRow w.heap.size 45 2 u9 out.length (out.flatMap entCells) := hown
    have hbelq : Below w.heap.size w (wr.drewN nq) := bdn hbel nq
    generalize wr.drewN nq = wq at *
    have cyr2 := qyr _ hbelq
    have cyt2 := qyt _ hbelq
    go_wp2
    go_quiet (fail)
    go_wp2
    have hown3 : (wq.drewN nq).drew.ownsRow w.heap.size 45 2 u9 out.length (out.flatMap entCells) := hownq
    have hbel3 : Below w.heap.size w (wq.drewN nq).drew := bdr (bdn hbelq nq)
    generalize wq.drewN nq = w3 at *
    have hsz3 := hbel3.size
    go_region_held3 (fun W => Below w.heap.size w W) ((first | exact hbel3 | exact bal (by assumption) _ | exact Below.trans hbel3 (by assumption))) ((refine step_app_one (by rfl) _ _ 22 45 (by rfl) w.heap.size (.agg #[.int .i64 0, .int .i64 0]) 2 16 Tryz.underlying22 (by kernel_rfl) rfl _ _ _ (by rfl) hown3 #[.int .i64 y.r, .int .i64 y.t] w3.heap.size (by simp) (by rfl) (by rfl) (by simp [Value.oneCell']) (by omega) (by omega) hsz3 ?_; intro v9 w9 r1 r2 r3 r4 r5))
    have r1' := own_snoc r1
    have r5' := Below.trans hbel3 r5
    go_wp2
    go_roundw
    case rel => exact ⟨oa', some A, ca', cb' - 1, [], b', out ++ [y], rfl, rfl, hva.out, hAv.out, hmg2.out, by rw [List.length_append]; simp at hln ⊢ <;> omega, r1', r5'⟩
    case measure => simp [sliceLen]
  | cons x a' =>
   have hta := vec_tail hva
   obtain ⟨ba, fa, rfl, -, hca1, hcn0, hcam, hbal, hxr, hxt, hva2, hca0⟩ := vec_cons hva
   have hcn0 : a'.length + 1 ≤ ca' := hcn0
   have qxr := fun W (h : Below w.heap.size w W) => cell_below h hxr
   have qxt := fun W (h : Below w.heap.size w W) => cell_below h hxt
   have cxr := qxr _ hbel
   have cxt := qxt _ hbel
   cases b' with
   | nil =>
    rw [Vec.merge_nil'] at hmg
    have hmg2 : Hid ((out ++ [x]) ++ Vec.merge a' [] = Vec.merge a b) := Lib.hid (by rw [Vec.merge_nil', List.append_assoc]; exact hmg)
    replace hva := Lib.hid hva
    replace hvb := Lib.hid hvb
    have b1 : (1 : Int) ≤ (a'.length : Int) + 1 := by omega
    replace hva2 := Lib.hid hva2
    replace hca0 := Lib.hid hca0
    clear hmg
    obtain ⟨A, hAr, hAv⟩ := hta
    replace hAv := Lib.hid hAv
    simp only [List.length_cons]
    go_wp2
    go_quiet (fail)
    go_wp2
    have hown3 : (wr.drewN nq).drew.ownsRow w.heap.size 45 2 u9 out.length (out.flatMap entCells) := hown
    have hbel3 : Below w.heap.size w (wr.drewN nq).drew := bdr (bdn hbel nq)
    generalize wr.drewN nq = w3 at *
    have hsz3 := hbel3.size
    go_region_held3 (fun W => Below w.heap.size w W) ((first | exact hbel3 | exact bal (by assumption) _ | exact Below.trans hbel3 (by assumption))) ((refine step_app_one (by rfl) _ _ 22 45 (by rfl) w.heap.size (.agg #[.int .i64 0, .int .i64 0]) 2 16 Tryz.underlying22 (by kernel_rfl) rfl _ _ _ (by rfl) hown3 #[.int .i64 x.r, .int .i64 x.t] w3.heap.size (by simp) (by rfl) (by rfl) (by simp [Value.oneCell']) (by omega) (by omega) hsz3 ?_; intro v9 w9 r1 r2 r3 r4 r5))
    have r1' := own_snoc r1
    have r5' := Below.trans hbel3 r5
    go_wp2
    go_roundw
    case rel => exact ⟨some A, ob', ca' - 1, cb', a', [], out ++ [x], rfl, rfl, hAv.out, hvb.out, hmg2.out, by rw [List.length_append]; simp at hln ⊢ <;> omega, r1', r5'⟩
    case measure => simp [sliceLen]
   | cons y b' =>
    have htb := vec_tail hvb
    obtain ⟨bb, fb, rfl, -, hcb1, hcm0, hcbm, hbbl, hyr, hyt, hvb2, hcb0⟩ := vec_cons hvb
    have hcm0 : b'.length + 1 ≤ cb' := hcm0
    have qyr := fun W (h : Below w.heap.size w W) => cell_below h hyr
    have qyt := fun W (h : Below w.heap.size w W) => cell_below h hyt
    have cyr := qyr _ hbel
    have cyt := qyt _ hbel
    replace hva := Lib.hid hva
    replace hvb := Lib.hid hvb
    have b1 : (1 : Int) ≤ (a'.length : Int) + 1 := by omega
    have b2 : (1 : Int) ≤ (b'.length : Int) + 1 := by omega
    have b3 : (0 : Int) < (a'.length : Int) + 1 := by omega
    have b4 : (0 : Int) < (b'.length : Int) + 1 := by omega
    have bz : (((b'.length : Int) + 1) == 0) = false := by simp; omega
    have az : (((a'.length : Int) + 1) == 0) = false := by simp; omega
    have ap : decide ((0 : Int) < (a'.length : Int) + 1) = true := decide_eq_true (by omega)
    replace hva2 := Lib.hid hva2
    replace hca0 := Lib.hid hca0
    replace hvb2 := Lib.hid hvb2
    replace hcb0 := Lib.hid hcb0
    obtain ⟨A, hAr, hAv⟩ := hta
    replace hAv := Lib.hid hAv
    obtain ⟨B, hBr, hBv⟩ := htb
    replace hBv := Lib.hid hBv
    replace hmg := Lib.hid hmg
    rcases Int.lt_trichotomy x.r y.r with hlt | heq | hgt
    ·have hmg2 : Hid ((out ++ [x]) ++ Vec.merge a' (y :: b') = Vec.merge a b) := Lib.hid (by rw [← hmg.out, Vec.merge_lt hlt, List.append_assoc]; rfl)
     have d1 : decide (x.r < y.r) = true := by simp [hlt]
     simp only [List.length_cons]
     go_wp2
     go_quiet (fail)
     go_wp2
     have hown3 : (wr.drewN nq).drew.ownsRow w.heap.size 45 2 u9 out.length (out.flatMap entCells) := hown
     have hbel3 : Below w.heap.size w (wr.drewN nq).drew := bdr (bdn hbel nq)
     generalize wr.drewN nq = w3 at *
     have hsz3 := hbel3.size
     go_region_held3 (fun W => Below w.heap.size w W) ((first | exact hbel3 | exact bal (by assumption) _ | exact Below.trans hbel3 (by assumption))) ((refine step_app_one (by rfl) _ _ 22 45 (by rfl) w.heap.size (.agg #[.int .i64 0, .int .i64 0]) 2 16 Tryz.underlying22 (by kernel_rfl) rfl _ _ _ (by rfl) hown3 #[.int .i64 x.r, .int .i64 x.t] w3.heap.size (by simp) (by rfl) (by rfl) (by simp [Value.oneCell']) (by omega) (by omega) hsz3 ?_; intro v9 w9 r1 r2 r3 r4 r5))
     have r1' := own_snoc (x := x) r1
     have r5' := Below.trans hbel3 r5
     go_wp2
     go_roundw
     case rel => exact ⟨some A, some ⟨bb, fb, none⟩, ca' - 1, cb', a', y :: b', out ++ [x], rfl, rfl, hAv.out, hvb.out, hmg2.out, by rw [List.length_append]; simp at hln ⊢ <;> omega, r1', r5'⟩
     case measure => simp [sliceLen]
    ·have hxy : ¬ x.r < y.r := by omega
     have d1 : decide (x.r < y.r) = false := by simp; omega
     have d2 : decide (y.r < x.r) = false := by simp; omega
     obtain ⟨mt, hmt⟩ : ∃ mt, mt = max x.t y.t := ⟨_, rfl⟩
     have hmg2 : Hid ((out ++ [⟨x.r, mt⟩]) ++ Vec.merge a' b' = Vec.merge a b) := Lib.hid (by rw [← hmg.out, Vec.merge_eq heq, List.append_assoc, hmt]; rfl)
     have hmx : (if x.t < y.t then y.t else x.t) = mt := by rw [hmt]; split <;> omega
     have hmx2 : (if y.t < x.t then x.t else y.t) = mt := by rw [hmt]; split <;> omega
     replace hmt := Lib.hid hmt
     replace heq := Lib.hid heq
     simp only [List.length_cons]
     go_wp2
     go_quiet (fail)
     have hownq : (wr.drewN nq).ownsRow w.heap.size 45 2 u9 out.length (out.flatMap entCells) := hown
     have hbelq : Below w.heap.size w (wr.drewN nq) := bdn hbel nq
     generalize wr.drewN nq = wq at *
     have cxr2 := qxr _ hbelq
     have cxt2 := qxt _ hbelq
     have cyr2 := qyr _ hbelq
     have cyt2 := qyt _ hbelq
     go_wp2
     go_quiet (fail)
     go_wp2
     have hown3 : (wq.drewN nq).drew.ownsRow w.heap.size 45 2 u9 out.length (out.flatMap entCells) := hownq
     have hbel3 : Below w.heap.size w (wq.drewN nq).drew := bdr (bdn hbelq nq)
     generalize wq.drewN nq = w3 at *
     have hsz3 := hbel3.size
     go_region_held3 (fun W => Below w.heap.size w W) ((first | exact hbel3 | exact bal (by assumption) _ | exact Below.trans hbel3 (by assumption))) ((refine step_app_one (by rfl) _ _ 22 45 (by rfl) w.heap.size (.agg #[.int .i64 0, .int .i64 0]) 2 16 Tryz.underlying22 (by kernel_rfl) rfl _ _ _ (by rfl) hown3 #[.int .i64 x.r, .int .i64 mt] w3.heap.size (by simp) (by rfl) (by rfl) (by simp [Value.oneCell']) (by omega) (by omega) hsz3 ?_; intro v9 w9 r1 r2 r3 r4 r5))
     have r1' := own_snoc (x := ⟨x.r, mt⟩) r1
     have r5' := Below.trans hbel3 r5
     go_wp2
     go_quiet (fail)
     go_wp2
     go_roundw
     case rel => exact ⟨some A, some B, ca' - 1, cb' - 1, a', b', out ++ [⟨x.r, mt⟩], rfl, rfl, hAv.out, hBv.out, hmg2.out, by rw [List.length_append]; simp at hln ⊢ <;> omega, by exact r1', bdn r5' _⟩
     case measure => simp [sliceLen]; omega
    ·have hmg2 : Hid ((out ++ [y]) ++ Vec.merge (x :: a') b' = Vec.merge a b) := Lib.hid (by rw [← hmg.out, Vec.merge_gt hgt, List.append_assoc]; rfl)
     have d1 : decide (x.r < y.r) = false := by simp; omega
     have d2 : decide (y.r < x.r) = true := by simp [hgt]
     simp only [List.length_cons]
     go_wp2
     go_quiet (fail)
     have hownq : (wr.drewN nq).ownsRow w.heap.size 45 2 u9 out.length (out.flatMap entCells) := hown
     have hbelq : Below w.heap.size w (wr.drewN nq) := bdn hbel nq
     generalize wr.drewN nq = wq at *
     have cxr2 := qxr _ hbelq
     have cxt2 := qxt _ hbelq
     have cyr2 := qyr _ hbelq
     have cyt2 := qyt _ hbelq
     go_wp2
     go_quiet (fail)
     go_wp2
     have hown3 : (wq.drewN nq).drew.ownsRow w.heap.size 45 2 u9 out.length (out.flatMap entCells) := hownq
     have hbel3 : Below w.heap.size w (wq.drewN nq).drew := bdr (bdn hbelq nq)
     generalize wq.drewN nq = w3 at *
     have hsz3 := hbel3.size
     go_region_held3 (fun W => Below w.heap.size w W) ((first | exact hbel3 | exact bal (by assumption) _ | exact Below.trans hbel3 (by assumption))) ((refine step_app_one (by rfl) _ _ 22 45 (by rfl) w.heap.size (.agg #[.int .i64 0, .int .i64 0]) 2 16 Tryz.underlying22 (by kernel_rfl) rfl _ _ _ (by rfl) hown3 #[.int .i64 y.r, .int .i64 y.t] w3.heap.size (by simp) (by rfl) (by rfl) (by simp [Value.oneCell']) (by omega) (by omega) hsz3 ?_; intro v9 w9 r1 r2 r3 r4 r5))
     have r1' := own_snoc (x := y) r1
     have r5' := Below.trans hbel3 r5
     go_wp2
     go_roundw
     case rel => exact ⟨some ⟨ba, fa, none⟩, some B, ca', cb' - 1, x :: a', b', out ++ [y], rfl, rfl, hva.out, hBv.out, hmg2.out, by rw [List.length_append]; simp at hln ⊢ <;> omega, r1', r5'⟩
     case measure => simp [sliceLen]
end Go.Proofs.YtognjohloobliaaGreatDoor
