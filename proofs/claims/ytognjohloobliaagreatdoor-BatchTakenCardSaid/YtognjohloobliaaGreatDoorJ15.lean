/- Walks of vector: Right, Covers. -/
import Derived.Test.YtognjohloobliaaGreatDoorJ06
import Derived.Test.YtognjohloobliaaGreatDoorJ14
import Derived.Deep.RegionHeld3
import Derived.Test.YtognjohloobliaaGreatDoorJ07
import Derived.Test.YtognjohloobliaaGreatDoorJ08
namespace Go.Proofs.YtognjohloobliaaGreatDoor
open Go.RowKit
set_option linter.unusedVariables false
def entCells (x : Vec.Entry) : List Value := [.int .i64 x.r, .int .i64 x.t]
theorem entCells_len (x : Vec.Entry) : (entCells x).length = 2 := rfl
theorem VecIs.list {w : World} {v : Value} {l : List Vec.Entry} (h : VecIs w v l) : ListIs entCells 2 w v l := h
theorem wrongs_drop (l : List Vec.Entry) (k : Nat) (prev : Option Vec.Entry) (h : k < l.length) : Vec.wrongs (l.drop k) prev k = if Vec.wrong prev l[k] ≠ 0 then .at_ (Vec.wrong prev l[k]) k else Vec.wrongs (l.drop (k + 1)) (some l[k]) (k + 1) := by
 rw [List.drop_eq_getElem_cons h]; rfl
theorem wrongs_bad {l r : List Vec.Entry} {y : Vec.Entry} {prev : Option Vec.Entry} {k x : Nat} (h : Vec.right l = if Vec.wrong prev y ≠ 0 then .at_ (Vec.wrong prev y) k else Vec.wrongs r (some y) (k + 1)) (hw : Vec.wrong prev y = x) (hx : x ≠ 0) : Vec.right l = .at_ x k := by
 rw [h, hw, if_pos hx]
theorem wrongs_good {l r : List Vec.Entry} {y : Vec.Entry} {prev : Option Vec.Entry} {k : Nat} (h : Vec.right l = if Vec.wrong prev y ≠ 0 then .at_ (Vec.wrong prev y) k else Vec.wrongs r (some y) (k + 1)) (hw : Vec.wrong prev y = 0) : Vec.wrongs r (some y) (k + 1) = Vec.right l := by
 rw [h, if_neg (by omega)]
set_option maxHeartbeats 2000000 in
set_option maxRecDepth 100000 in
theorem vector_right (v : Value) (l : List Vec.Entry) (w : World) (hv : VecIs w v l) (hll : l.length ≤ 140737488351232) :
  Calls Tryz.prog 26 #[v] w (RetErr (Vec.right l) w) := by
 obtain ⟨a, cap, rfl, hcap, hcell⟩ := hv.list.at entCells_len
 clear hv
 replace hcell := Lib.hid hcell
 replace hcap := Lib.hid hcap
 by_cases h16 : 16 < l.length
 ·have hr : Hid (Vec.right l = .no 4) := Lib.hid (by unfold Vec.right; rw [if_pos h16])
  go_enter Tryz.func26, Tryz.ntmps26
  go_wp2
  go_ret
  rw [hr.out]
  exact ⟨_, rfl, rfl, by exact blw⟩
 ·have hr0 : Vec.right l = Vec.wrongs l none 0 := by unfold Vec.right; rw [if_neg h16]
  replace hr0 := Lib.hid hr0
  have d16 : decide ((16 : Int) < (l.length : Int)) = false := by simp; omega
  go_enter Tryz.func26, Tryz.ntmps26
  go_wp2
  go_loopw [12] (fun i wr => ∃ (k : Nat) (prev : Option Vec.Entry), k ≤ l.length ∧ i = .int .i64 k ∧ Vec.wrongs (l.drop k) prev k = Vec.right l ∧ ((k = 0 ∧ prev = none) ∨ ∃ h : k - 1 < l.length, 0 < k ∧ prev = some l[k - 1]) ∧ Below w.heap.size w wr) (fun i _ => l.length - (intOf i).toNat)
  case atStart => exact ⟨0, none, by omega, rfl, hr0.out.symm, .inl ⟨rfl, rfl⟩, by exact blw⟩
  case round =>
   obtain ⟨k, prev, hk, rfl, hr, hpr, hbel⟩ := hrel
   have hsz := hbel.size
   replace hpr := Lib.hid hpr
   by_cases hlt : k < l.length
   ·obtain ⟨b, off, rfl, hbw, hc⟩ := hcell.out k hlt
    have hbw := hbw (by omega)
    have c0 : wr.cell? ⟨b, off + k * 2, none⟩ = some (.int .i64 l[k].r) := (hbel.cell (p := ⟨b, off + k * 2, none⟩) hbw).trans (hc 0 _ rfl)
    have c1 : wr.cell? ⟨b, off + k * 2 + 1, none⟩ = some (.int .i64 l[k].t) := (hbel.cell (p := ⟨b, off + k * 2 + 1, none⟩) hbw).trans (hc 1 _ rfl)
    have hrd := wrongs_drop l k prev hlt
    rw [hr] at hrd
    clear hc hr
    replace hrd := Lib.hid hrd
    by_cases hrg : l[k].r < 0 ∨ 200 < l[k].r ∨ l[k].t < 1 ∨ 1099511627776 < l[k].t
    ·have hw : Hid (Vec.wrong prev l[k] = 2) := Lib.hid (by unfold Vec.wrong; rw [if_pos hrg])
     generalize l[k] = y at *
     have hrg' := Lib.hid hrg
     clear hrg hpr
     rcases hrg'.out with h | h | h | h
     all_goals
      go_wp2
      all_goals
       go_ret
       rw [wrongs_bad hrd.out hw.out (by omega)]
       exact retErrAt w _ (by exact blw) 2 k _ (by simp)
    ·have g1 : 0 ≤ l[k].r := by omega
     have g2 : l[k].r ≤ 200 := by omega
     have g3 : 1 ≤ l[k].t := by omega
     have g4 : l[k].t ≤ 1099511627776 := by omega
     have hwr : Hid (∀ p, prev = some p → Vec.wrong prev l[k] = if l[k].r ≤ p.r then 10 else 0) := Lib.hid (fun p hp => by
      unfold Vec.wrong; rw [if_neg hrg, hp])
     have hwn : Hid (prev = none → Vec.wrong prev l[k] = 0) := Lib.hid (fun hp => by unfold Vec.wrong; rw [if_neg hrg, hp])
     clear hrg
     rcases hpr.out with ⟨hk0, hp⟩ | ⟨hkl, hkp, hp⟩
     ·subst hk0
      have hw : Hid (Vec.wrong prev l[0] = 0) := Lib.hid (hwn.out hp)
      replace hp := Lib.hid hp
      simp only [Nat.zero_mul, Nat.add_zero] at c0 c1
      obtain ⟨y, hy⟩ : ∃ y, l[0] = y := ⟨_, rfl⟩
      rw [hy] at c0 c1 g1 g2 g3 g4 hw hrd
      replace hy := Lib.hid hy
      clear hwr hwn
      go_wp2
      go_quiet (fail)
      go_wp2
      go_roundw
      case rel => exact ⟨0 + 1, some y, by omega, by go_num, wrongs_good hrd.out hw.out, .inr ⟨by omega, by omega, by rw [← hy.out]⟩, by exact blw⟩
      case measure => simp [intOf]; omega
     ·obtain ⟨b', off', he, hbw', hc'⟩ := hcell.out (k - 1) hkl
      simp only [Option.some.injEq, Addr.mk.injEq, and_true] at he
      obtain ⟨rfl, rfl⟩ := he
      have z0 : decide ((0 : Int) < (k : Int)) = true := by simp; omega
      have c2 : (wr.alloc (Obj.cells #[Value.int IntKind.i64 l[k].r, Value.int IntKind.i64 l[k].t] 45)).cell? ⟨b, off + (k - 1) * 2, none⟩ = some (.int .i64 (l[k - 1]'hkl).r) := cell_alloc ((hbel.cell (p := ⟨b, off + (k - 1) * 2, none⟩) hbw).trans (hc' 0 _ rfl)) _
      have hsub : IntKind.i64.wrap ((k : Int) - 1) = ((k - 1 : Nat) : Int) := by rw [IntWalk.i64_in _ (by omega)]; omega
      have hwp := hwr.out _ hp
      have hkl' : ((k - 1 : Nat) : Int) < (l.length : Int) := by omega
      clear hc' hbw'
      by_cases hge : l[k].r ≤ (l[k - 1]'hkl).r
      ·have dge : decide (l[k].r ≤ (l[k - 1]'hkl).r) = true := by simp [hge]
       have hw : Hid (Vec.wrong prev l[k] = 10) := Lib.hid (by rw [hwp, if_pos hge])
       clear hwp hge
       replace hp := Lib.hid hp
       generalize l[k] = y at *
       generalize l[k - 1] = z at *
       go_wp2
       go_quiet (fail)
       go_wp2
       go_ret
       rw [wrongs_bad hrd.out hw.out (by omega)]
       exact retErrAt w _ (by exact blw) 10 k _ (by simp)
      ·have dge : decide (l[k].r ≤ (l[k - 1]'hkl).r) = false := by simp; omega
       have hw : Hid (Vec.wrong prev l[k] = 0) := Lib.hid (by rw [hwp, if_neg hge])
       have hy : Hid (l[k] = l[k + 1 - 1]'(by omega)) := Lib.hid (by simp)
       clear hwp hge
       replace hp := Lib.hid hp
       go_wp2
       go_quiet (fail)
       go_wp2
       go_roundw
       case rel => exact ⟨k + 1, some l[k], by omega, by go_num, wrongs_good hrd.out hw.out, .inr ⟨by omega, by omega, by rw [hy.out]⟩, by exact blw⟩
       case measure => simp [intOf]; omega
   ·obtain rfl : k = l.length := by omega
    have hfin : Hid (Vec.right l = .ok) := Lib.hid (by rw [← hr, List.drop_length]; rfl)
    clear hr
    go_wp2
    go_ret
    rw [hfin.out]
    exact ⟨_, rfl, rfl, by exact blw⟩
end Go.Proofs.YtognjohloobliaaGreatDoor
/- Walks of vector: Covers, Join. -/
namespace Go.Proofs.YtognjohloobliaaGreatDoor
open Go.RowKit
set_option linter.unusedVariables false
def coversB (a b : List Vec.Entry) : Bool := decide (Vec.right a = .ok) && (decide (Vec.right b = .ok) && b.all fun x => decide (x.t ≤ Vec.of a x.r))
theorem errNe {w : World} {v : Value} {e : Err} (h : ErrRep w v e) (hne : e ≠ .ok) : ∃ t x, v = .iface t x := by
 cases e with
 | ok => exact absurd rfl hne
 | no n => exact ⟨_, _, h⟩
 | at_ n i => obtain ⟨g, hv, _⟩ := h; exact ⟨_, _, hv⟩
set_option maxHeartbeats 2000000 in
theorem vector_covers (va vb : Value) (a b : List Vec.Entry) (w : World) (ha : VecIs w va a) (hb : VecIs w vb b) (hla : a.length ≤ 140737488351232) (hlb : b.length ≤ 140737488351232) :
  Calls Tryz.prog 13 #[va, vb] w fun e w' => e = .returned (.bool (coversB a b)) ∧ Below w.heap.size w w' := by
 have hA := fun W h => vector_right va a W h hla
 have hB := fun W h => vector_right vb b W h hlb
 replace hA := Lib.hid hA
 replace hB := Lib.hid hB
 have ha' := Lib.hid ha
 have hb' := Lib.hid hb
 by_cases h1 : Vec.right a = .ok
 ·by_cases h2 : Vec.right b = .ok
  ·have hW : Hid (coversB a b = b.all fun x => decide (x.t ≤ Vec.of a x.r)) := Lib.hid (by unfold coversB; rw [decide_eq_true h1, decide_eq_true h2]; rfl)
   obtain ⟨ob, cap, rfl, hcap, hcell⟩ := hb.list.at entCells_len
   replace hcell := Lib.hid hcell
   replace hcap := Lib.hid hcap
   replace h1 := Lib.hid h1
   replace h2 := Lib.hid h2
   clear ha hb
   go_enter Tryz.func13, Tryz.ntmps13
   go_wp2_with fail
   refine (hA.out _ ha'.out).mono ?_
   rintro e w1 ⟨v1, rfl, hv1, hb1⟩
   rw [h1.out] at hv1
   have hv1 : v1 = .nilIface := hv1
   subst hv1
   go_wp2_with fail
   refine (hB.out _ (hb'.out.below hb1)).mono ?_
   rintro e w2 ⟨v2, rfl, hv2, hb2⟩
   rw [h2.out] at hv2
   have hv2 : v2 = .nilIface := hv2
   subst hv2
   go_wp2
   have hbel2 : Below w.heap.size w w2 := by exact blw
   go_loopw [17] (fun i wr => ∃ k : Nat, k ≤ b.length ∧ i = .int .i64 k ∧ (b.drop k).all (fun x => decide (x.t ≤ Vec.of a x.r)) = b.all (fun x => decide (x.t ≤ Vec.of a x.r)) ∧ Below w.heap.size w wr) (fun i _ => b.length - (intOf i).toNat)
   case atStart => exact ⟨0, by omega, rfl, rfl, hbel2⟩
   case round =>
    clear hbel2 hb1 hb2
    obtain ⟨k, hk, rfl, hall, hbel⟩ := hrel
    have hsz := hbel.size
    by_cases hlt : k < b.length
    ·obtain ⟨b0, off, rfl, hbw, hc⟩ := hcell.out k hlt
     have hbw := hbw (by omega)
     have c0 : wr.cell? ⟨b0, off + k * 2, none⟩ = some (.int .i64 b[k].r) := (hbel.cell (p := ⟨b0, off + k * 2, none⟩) hbw).trans (hc 0 _ rfl)
     have c1 : wr.cell? ⟨b0, off + k * 2 + 1, none⟩ = some (.int .i64 b[k].t) := (hbel.cell (p := ⟨b0, off + k * 2 + 1, none⟩) hbw).trans (hc 1 _ rfl)
     rw [List.drop_eq_getElem_cons hlt, List.all_cons] at hall
     clear hc
     generalize b[k] = y at *
     by_cases hy : y.t ≤ Vec.of a y.r
     ·have d1 : decide (Vec.of a y.r < y.t) = false := by simp; omega
      rw [decide_eq_true hy, Bool.true_and] at hall
      replace hall := Lib.hid hall
      go_wp2
      have q0 := row_at #[.int .i64 y.r, .int .i64 y.t] 45 (rfl : wr.heap.size = wr.heap.size)
      have qb : Below w.heap.size w (wr.alloc (Obj.cells #[.int .i64 y.r, .int .i64 y.t] 45)) := by exact blw
      generalize wr.alloc (Obj.cells #[.int .i64 y.r, .int .i64 y.t] 45) = w3 at *
      have q1 := Old.cell (q0.cell 0)
      have q2 := Old.cell (q0.cell 1)
      have qa : ∀ x : Kept (Old w3.heap.size w3), VecIs x.val va a := fun x => ha'.out.below (qb.trans (x.ok.2.mono qb.size))
      replace qa := Lib.hid qa
      (have hN := Old.ne w3; refine wp_region_kept (Old w3.heap.size w3) (by kernel_rfl) (by kernel_rfl) (Old.start w3) ?_; (repeat (first | go_big_quiet_step ((first | (go_at_call 25; go_must (exact calls_kept (vector_of _ _ _ _ (qa.out _)) Old.below)))) | quiet_step ((first | (go_at_call 25; go_must (exact calls_kept (vector_of _ _ _ _ (qa.out _)) Old.below)))))); refine wpQuiet_nil ?_; rintro _ ⟨X, rfl⟩)
      have qx := qb.trans (X.ok.2.mono qb.size)
      generalize X.val = w4 at *
      go_wp2
      go_roundw
      case rel => exact ⟨k + 1, by omega, by go_num, hall.out, qx⟩
      case measure => simp [intOf]; omega
     ·have d1 : decide (Vec.of a y.r < y.t) = true := by simp; omega
      rw [decide_eq_false hy, Bool.false_and] at hall
      replace hall := Lib.hid hall
      go_wp2
      have q0 := row_at #[.int .i64 y.r, .int .i64 y.t] 45 (rfl : wr.heap.size = wr.heap.size)
      have qb : Below w.heap.size w (wr.alloc (Obj.cells #[.int .i64 y.r, .int .i64 y.t] 45)) := by exact blw
      generalize wr.alloc (Obj.cells #[.int .i64 y.r, .int .i64 y.t] 45) = w3 at *
      have q1 := Old.cell (q0.cell 0)
      have q2 := Old.cell (q0.cell 1)
      have qa : ∀ x : Kept (Old w3.heap.size w3), VecIs x.val va a := fun x => ha'.out.below (qb.trans (x.ok.2.mono qb.size))
      replace qa := Lib.hid qa
      (have hN := Old.ne w3; refine wp_region_kept (Old w3.heap.size w3) (by kernel_rfl) (by kernel_rfl) (Old.start w3) ?_; (repeat (first | go_big_quiet_step ((first | (go_at_call 25; go_must (exact calls_kept (vector_of _ _ _ _ (qa.out _)) Old.below)))) | quiet_step ((first | (go_at_call 25; go_must (exact calls_kept (vector_of _ _ _ _ (qa.out _)) Old.below)))))); refine wpQuiet_nil ?_; rintro _ ⟨X, rfl⟩)
      have qx := qb.trans (X.ok.2.mono qb.size)
      generalize X.val = w4 at *
      go_wp2
      go_ret
      exact ⟨ret_bool (by rw [hW.out, ← hall.out]), qx⟩
    ·have hfin : Hid (b.all (fun x => decide (x.t ≤ Vec.of a x.r)) = true) := Lib.hid (by rw [← hall, List.drop_of_length_le (by omega)]; rfl)
     clear hall
     go_wp2
     go_ret
     exact ⟨ret_bool (by rw [hW.out, hfin.out]), hbel⟩
  ·have hW : Hid (coversB a b = false) := Lib.hid (by unfold coversB; rw [decide_eq_false h2]; simp)
   replace h1 := Lib.hid h1
   replace h2 := Lib.hid h2
   clear ha hb
   go_enter Tryz.func13, Tryz.ntmps13
   go_wp2_with fail
   refine (hA.out _ ha'.out).mono ?_
   rintro e w1 ⟨v1, rfl, hv1, hb1⟩
   rw [h1.out] at hv1
   have hv1 : v1 = .nilIface := hv1
   subst hv1
   go_wp2_with fail
   refine (hB.out _ (hb'.out.below hb1)).mono ?_
   rintro e w2 ⟨v2, rfl, hv2, hb2⟩
   obtain ⟨t2, x2, rfl⟩ := errNe hv2 h2.out
   go_wp2
   go_ret
   exact ⟨ret_bool hW.out.symm, by exact blw⟩
 ·have hW : Hid (coversB a b = false) := Lib.hid (by unfold coversB; rw [decide_eq_false h1]; simp)
  replace h1 := Lib.hid h1
  clear ha hb
  go_enter Tryz.func13, Tryz.ntmps13
  go_wp2_with fail
  refine (hA.out _ ha'.out).mono ?_
  rintro e w1 ⟨v1, rfl, hv1, hb1⟩
  obtain ⟨t2, x2, rfl⟩ := errNe hv1 h1.out
  go_wp2
  go_ret
  exact ⟨ret_bool hW.out.symm, by exact blw⟩
end Go.Proofs.YtognjohloobliaaGreatDoor
/- What the walks of vector.Join, and others, share. -/
namespace Go.Proofs.YtognjohloobliaaGreatDoor
open Go.RowKit
set_option linter.unusedVariables false
/-- What Join comes to. -/
def joined (a b : List Vec.Entry) : Err ⊕ List Vec.Entry :=
 if Vec.right a ≠ .ok then .inl (Vec.right a) else if Vec.right b ≠ .ok then .inl (Vec.right b)
 else if 16 < (Vec.merge a b).length then .inl (.no 4) else .inr (Vec.merge a b)
def RetJoin (x : Err ⊕ List Vec.Entry) (w : World) (e : Ending) (w' : World) : Prop :=
 (match x with
 | .inl r => e = .returned (.tuple #[.slice none 0 0, errV r.code])
 | .inr l => ∃ v, e = .returned (.tuple #[v, .nilIface]) ∧ VecIs w' v l) ∧ Below w.heap.size w w'
/-- A slice that reads as a list, by its parts: the first element's cells, and what is left. -/
theorem vec_cons {w : World} {a : Option Addr} {n cap : Nat} {x : Vec.Entry} {l : List Vec.Entry} (h : VecIs w (.slice a n cap) (x :: l)) : ∃ b off, a = some ⟨b, off, none⟩ ∧ n = l.length + 1 ∧ 1 ≤ cap ∧ n ≤ cap ∧ cap ≤ maxLen ∧ b < w.heap.size ∧ w.cell? ⟨b, off, none⟩ = some (.int .i64 x.r) ∧ w.cell? ⟨b, off + 1, none⟩ = some (.int .i64 x.t) ∧
  VecIs w (.slice (some ⟨b, off + 2, none⟩) l.length (cap - 1)) l ∧ (cap = 1 → l = []) := by
 obtain ⟨a', cap', he, hcap, hcell⟩ := h.list.at entCells_len
 simp only [Value.slice.injEq] at he
 obtain ⟨rfl, rfl, rfl⟩ := he
 obtain ⟨b, off, rfl, hb, hc⟩ := hcell 0 (by simp)
 obtain ⟨hc1, hc2⟩ := hcap (by simp)
 have hl : (x :: l).length = l.length + 1 := rfl
 have h0 := hc 0 (.int .i64 x.r) rfl
 have h1 := hc 1 (.int .i64 x.t) rfl
 simp only [Nat.zero_mul, Nat.add_zero] at h0 h1
 refine ⟨b, off, rfl, rfl, by omega, hc1, hc2, hb (by omega), h0, h1, ?_, fun h => ?_⟩
 ·have := ListIs.drop h.list entCells_len 1 (by simp) l.length (cap - 1) (by simp) (by omega) (by omega)
  exact this
 ·exact List.eq_nil_of_length_eq_zero (by omega)
theorem vec_nil (w : World) (a : Option Addr) (cap : Nat) : VecIs w (.slice a 0 cap) [] := ⟨rfl, .inl ⟨rfl, a, cap, rfl⟩⟩
theorem run_tail (w : World) (b off n cap : Nat) (h : n + 1 ≤ cap) (hm : cap ≤ maxLen) : (Instr.slice 22 (.slice (some ⟨b, off, none⟩) (n + 1) cap) (some (.int .i64 1)) none none).run Tryz.prog w = .ok (.slice (some (if cap = 1 then ⟨b, off, none⟩ else ⟨b, off + 2, none⟩)) n (cap - 1)) w := by
 unfold maxLen at hm
 by_cases h1 : cap = 1
 ·subst h1
  obtain rfl : n = 0 := by omega
  go_simp
 ·have e1 : 1 ≤ cap := by omega
  go_simp
  intro h; omega
theorem vec_tail {w : World} {a : Option Addr} {n cap : Nat} {x : Vec.Entry} {l : List Vec.Entry} (h : VecIs w (.slice a n cap) (x :: l)) : ∃ A : Addr, (∀ W, (Instr.slice 22 (.slice a (l.length + 1) cap) (some (.int .i64 1)) none none).run Tryz.prog W = .ok (.slice (some A) l.length (cap - 1)) W) ∧ VecIs w (.slice (some A) l.length (cap - 1)) l := by
 obtain ⟨b, off, rfl, hn, h1, h2, h3, h4, -, -, h5, h6⟩ := vec_cons h
 refine ⟨_, fun W => run_tail W b off l.length cap (by omega) h3, ?_⟩
 by_cases hc : cap = 1
 ·rw [if_pos hc]
  have := h6 hc
  subst this
  exact vec_nil w _ _
 ·rw [if_neg hc]; exact h5
theorem owns_slice {w : World} {base : Nat} {e : TypeId} {sz n : Nat} {v : Value} {xs : List Value} (h : w.ownsRow base e sz v n xs) : ∃ o c, v = .slice o n c := by
 rcases h.2 with ⟨rfl, rfl⟩ | ⟨g, cap, cur, rfl, _⟩
 ·exact ⟨none, 0, rfl⟩
 ·exact ⟨_, cap, rfl⟩
def sliceLen : Value → Nat
 | .slice _ n _ => n
 | _ => 0
theorem ent_snoc (out : List Vec.Entry) (x : Vec.Entry) : out.flatMap entCells ++ [.int .i64 x.r, .int .i64 x.t] = (out ++ [x]).flatMap entCells := by simp [entCells]
theorem own_snoc {w : World} {base : Nat} {v : Value} {out : List Vec.Entry} {x : Vec.Entry} (h : w.ownsRow base 45 2 v (out.length + 1) (out.flatMap entCells ++ (#[Value.int .i64 x.r, Value.int .i64 x.t] : Array Value).toList)) : w.ownsRow base 45 2 v (out ++ [x]).length ((out ++ [x]).flatMap entCells) := by
 rw [List.length_append, ← ent_snoc]; exact h
end Go.Proofs.YtognjohloobliaaGreatDoor
/- Words for a law's walk: what a call answers in each later world; keep.few of two and of three; vector's functions so. -/
namespace Go.Proofs.YtognjohloobliaaGreatDoor
open Go.RowKit
set_option linter.unusedVariables false
/-- From w on the call answers v. -/
def From (f : FuncId) (args : Array Value) (w : World) (v : Value) : Prop := ∀ W, Below w.heap.size w W → Calls Tryz.prog f args W fun e w' => e = .returned v ∧ Below W.heap.size W w'
theorem from_covers {w : World} {va vb : Value} {a b : List Vec.Entry} (ha : VecIs w va a) (hb : VecIs w vb b) (hla : a.length ≤ 140737488351232) (hlb : b.length ≤ 140737488351232) (v : Bool) (h : coversB a b = v) : From 13 #[va, vb] w (.bool v) := fun W hW => h ▸ vector_covers va vb a b W (ha.below hW) (hb.below hW) hla hlb
end Go.Proofs.YtognjohloobliaaGreatDoor
/- ident.Within in each later world. -/
namespace Go.Proofs.YtognjohloobliaaGreatDoor
open Go.RowKit
set_option linter.unusedVariables false
theorem from_within {w : World} {va vb : Value} {a b : List Vec.Entry} (ha : VecIs w va a) (hb : VecIs w vb b) (t r : Int) (v : Bool) (h : within t r a b = v) : From 14 #[.agg #[.int .i64 t, .int .i64 r], va, vb] w (.bool v) := fun W hW => h ▸ ident_within t r va vb a b W (ha.below hW) (hb.below hW)
end Go.Proofs.YtognjohloobliaaGreatDoor
/- The walk of slices.Equal over entries. -/
namespace Go.Proofs.YtognjohloobliaaGreatDoor
open Go.RowKit
set_option linter.unusedVariables false
theorem eq_drop {α : Type} [DecidableEq α] {a b : List α} {k : Nat} (ha : k < a.length) (hb : k < b.length) (he : a[k] = b[k]) : (a.drop k = b.drop k) ↔ (a.drop (k + 1) = b.drop (k + 1)) := by
 rw [List.drop_eq_getElem_cons ha, List.drop_eq_getElem_cons hb, he]; exact List.cons_inj_right _
theorem ne_drop {α : Type} {a b : List α} {k : Nat} (ha : k < a.length) (hb : k < b.length) (he : a[k] ≠ b[k]) : a.drop k ≠ b.drop k := by
 rw [List.drop_eq_getElem_cons ha, List.drop_eq_getElem_cons hb]; intro h; injection h with h _; exact he h
set_option maxHeartbeats 2000000 in
theorem eq_ent (va vb : Value) (a b : List Vec.Entry) (w : World) (ha : VecIs w va a) (hb : VecIs w vb b) (hla : a.length ≤ 140737488351232) (hlb : b.length ≤ 140737488351232) :
  Calls Tryz.prog 19 #[va, vb] w fun e w' => e = .returned (.bool (decide (a = b))) ∧ Below w.heap.size w w' := by
 obtain ⟨oa, ca, rfl, hca, hcella⟩ := ha.list.at entCells_len
 obtain ⟨ob, cb, rfl, hcb, hcellb⟩ := hb.list.at entCells_len
 clear ha hb hca hcb
 replace hcella := Lib.hid hcella
 replace hcellb := Lib.hid hcellb
 by_cases hl : a.length = b.length
 ·have hl1 : a.length ≤ b.length := by omega
  have hl2 : b.length ≤ a.length := by omega
  have hle : ((a.length : Int) == (b.length : Int)) = true := by simp; omega
  have hle2 : ((a.length : Int) != (b.length : Int)) = false := by simp; omega
  replace hl := Lib.hid hl
  go_enter Tryz.func19, Tryz.ntmps19
  go_wp2
  go_loopw [13] (fun i wr => ∃ k : Nat, k ≤ a.length ∧ i = .int .i64 k ∧ (a.drop k = b.drop k ↔ a = b) ∧ Below w.heap.size w wr) (fun i _ => a.length - (intOf i).toNat)
  case atStart => exact ⟨0, by omega, rfl, by simp, by exact blw⟩
  case round =>
   obtain ⟨k, hk, rfl, heq, hbel⟩ := hrel
   have hsz := hbel.size
   by_cases hlt : k < a.length
   ·have hlt2 : k < b.length := by omega
    obtain ⟨b1, f1, rfl, hb1, hc1⟩ := hcella.out k hlt
    obtain ⟨b2, f2, rfl, hb2, hc2⟩ := hcellb.out k hlt2
    have hb1 := hb1 (by omega)
    have hb2 := hb2 (by omega)
    have c0 : wr.cell? ⟨b1, f1 + k * 2, none⟩ = some (.int .i64 a[k].r) := (hbel.cell (p := ⟨b1, f1 + k * 2, none⟩) hb1).trans (hc1 0 _ rfl)
    have c1 : wr.cell? ⟨b1, f1 + k * 2 + 1, none⟩ = some (.int .i64 a[k].t) := (hbel.cell (p := ⟨b1, f1 + k * 2 + 1, none⟩) hb1).trans (hc1 1 _ rfl)
    have c2 : wr.cell? ⟨b2, f2 + k * 2, none⟩ = some (.int .i64 b[k].r) := (hbel.cell (p := ⟨b2, f2 + k * 2, none⟩) hb2).trans (hc2 0 _ rfl)
    have c3 : wr.cell? ⟨b2, f2 + k * 2 + 1, none⟩ = some (.int .i64 b[k].t) := (hbel.cell (p := ⟨b2, f2 + k * 2 + 1, none⟩) hb2).trans (hc2 1 _ rfl)
    clear hc1 hc2
    by_cases hxy : a[k] = b[k]
    ·have hnx : Hid (a.drop (k + 1) = b.drop (k + 1) ↔ a = b) := Lib.hid ((eq_drop hlt hlt2 hxy).symm.trans heq)
     rw [hxy] at c0 c1
     replace hxy := Lib.hid hxy
     clear heq
     generalize b[k] = y at *
     have e1 : (y.r == y.r) = true := by simp
     have e2 : (y.t == y.t) = true := by simp
     go_wp2
     go_quiet (fail)
     go_wp2
     go_roundw
     case rel => exact ⟨k + 1, by omega, by go_num, hnx.out, by exact blw⟩
     case measure => simp [intOf]; omega
    ·have hfin : Hid (decide (a = b) = false) := Lib.hid (decide_eq_false (fun h => ne_drop hlt hlt2 hxy (heq.2 h)))
     have hrt : ¬ (a[k].r = b[k].r ∧ a[k].t = b[k].t) := fun h => hxy (by
      cases hx : a[k]; cases hy : b[k]; rw [hx, hy] at h; simp only at h; rw [h.1, h.2])
     clear heq hxy
     generalize a[k] = x at *
     generalize b[k] = y at *
     by_cases hr : x.r = y.r
     ·have ht : ¬ x.t = y.t := fun h => hrt ⟨hr, h⟩
      rw [hr] at c0
      clear hrt hr
      go_wp2
      go_quiet (fail)
      go_wp2
      go_ret
      exact ⟨ret_bool hfin.out.symm, by exact blw⟩
     ·clear hrt
      go_wp2
      go_quiet (fail)
      go_wp2
      go_ret
      exact ⟨ret_bool hfin.out.symm, by exact blw⟩
   ·have hfin : Hid (decide (a = b) = true) := Lib.hid (decide_eq_true (heq.1 (by rw [List.drop_of_length_le (by omega), List.drop_of_length_le (by omega)])))
    clear heq
    go_wp2
    go_ret
    exact ⟨ret_bool hfin.out.symm, by exact blw⟩
 ·have hne : Hid (decide (a = b) = false) := Lib.hid (decide_eq_false (fun h => hl (by rw [h])))
  have hle : ((a.length : Int) == (b.length : Int)) = false := by simp; omega
  have hle2 : ((a.length : Int) != (b.length : Int)) = true := by simp; omega
  go_enter Tryz.func19, Tryz.ntmps19
  go_wp2
  go_ret
  exact ⟨ret_bool hne.out.symm, by exact blw⟩
end Go.Proofs.YtognjohloobliaaGreatDoor
/- The walk of vector.Join. -/
namespace Go.Proofs.YtognjohloobliaaGreatDoor
open Go.RowKit
set_option linter.unusedVariables false
set_option maxHeartbeats 4000000 in
set_option maxRecDepth 100000 in
theorem vector_join_ok (va vb : Value) (a b : List Vec.Entry) (w : World) (hL : Laid w) (ha : VecIs w va a) (hb : VecIs w vb b) (hla : a.length ≤ 140737488351232) (hlb : b.length ≤ 140737488351232) (h1 : Vec.right a = .ok) (h2 : Vec.right b = .ok) :
  Calls Tryz.prog 34 #[va, vb] w (RetJoin (joined a b) w) := by
 have hA := fun W h => vector_right va a W h hla
 have hB := fun W h => vector_right vb b W h hlb
 rw [h1] at hA
 rw [h2] at hB
 have hJ : Hid (joined a b = if 16 < (Vec.merge a b).length then .inl (.no 4) else .inr (Vec.merge a b)) := Lib.hid (by unfold joined; rw [if_neg (by simp [h1]), if_neg (by simp [h2])])
 have hm : a.length + b.length ≤ 32 := by
  have := ((Vec.right_iff a).1 h1).len
  have := ((Vec.right_iff b).1 h2).len
  omega
 replace hA := Lib.hid hA
 replace hB := Lib.hid hB
 have ha' := Lib.hid ha
 have hb' := Lib.hid hb
 clear h1 h2
 obtain ⟨oa, ca, rfl, -, -⟩ := ha.list.at entCells_len
 obtain ⟨ob, cb, rfl, -, -⟩ := hb.list.at entCells_len
 clear ha hb
 have i0 : ∀ (x y : Value) (w : World), (Instr.index 93 (.agg #[x, y]) (.int .i64 0)).run Tryz.prog w = .ok x w := fun _ _ _ => by kernel_rfl
 have i1 : ∀ (x y : Value) (w : World), (Instr.index 93 (.agg #[x, y]) (.int .i64 1)).run Tryz.prog w = .ok y w := fun _ _ _ => by kernel_rfl
 go_enter Tryz.func34, Tryz.ntmps34
 go_wp2
 refine wp_loop_rounds 3 ?_
 rw [rounds_succ]
 go_wp2_with fail
 refine (hA.out _ ha'.out).mono ?_
 rintro e w1 ⟨v1, rfl, hv1, hb1⟩
 have hv1 : v1 = .nilIface := hv1
 subst hv1
 go_wp2_with fail
 rw [rounds_succ]
 go_wp2_with fail
 refine (hB.out _ (hb'.out.below hb1)).mono ?_
 rintro e w2 ⟨v2, rfl, hv2, hb2⟩
 have hv2 : v2 = .nilIface := hv2
 subst hv2
 go_wp2_with fail
 rw [rounds_succ]
 go_wp2_with fail
 have hbel2 : Below w.heap.size w w2 := by exact blw
 go_loopw [0, 1, 9] (fun sa sb so wr => ∃ (oa ob : Option Addr) (ca cb : Nat) (a' b' out : List Vec.Entry), sa = .slice oa a'.length ca ∧ sb = .slice ob b'.length cb ∧ VecIs w (.slice oa a'.length ca) a' ∧ VecIs w (.slice ob b'.length cb) b' ∧ out ++ Vec.merge a' b' = Vec.merge a b ∧ out.length + (a'.length + b'.length) ≤ 32 ∧ wr.ownsRow w.heap.size 45 2 so out.length (out.flatMap entCells) ∧ Below w.heap.size w wr) (fun sa sb _ _ => sliceLen sa + sliceLen sb)
 case atStart => exact ⟨oa, ob, ca, cb, a, b, [], rfl, rfl, ha'.out, hb'.out, rfl, by simpa using hm, World.ownsRow_nil _ _ _ _, hbel2⟩
 case round =>
  clear hbel2 hb1 hb2 hA hB
  obtain ⟨oa', ob', ca', cb', a', b', out, rfl, rfl, hva, hvb, hmg, hln, hown, hbel⟩ := hrel
  have hsz := hbel.size
  cases a' with
  | nil =>
   cases b' with
   | nil =>
    rw [Vec.merge_nil, List.append_nil] at hmg
    obtain ⟨oo, co, rfl⟩ := owns_slice hown
    have hlast := Lib.hid hown
    have hmgH := Lib.hid hmg
    replace hva := Lib.hid hva
    replace hvb := Lib.hid hvb
    clear hmg
    by_cases h16 : 16 < out.length
    ·have hfin : Hid (joined a b = .inl (.no 4)) := Lib.hid (by rw [hJ.out, ← hmgH.out, if_pos h16])
     go_wp2
     go_ret2
     rw [hfin.out]
     exact ⟨rfl, hbel⟩
    ·have hfin : Hid (joined a b = .inr out) := Lib.hid (by rw [hJ.out, ← hmgH.out, if_neg h16])
     go_wp2
     go_ret2
     rw [hfin.out]
     exact ⟨⟨_, rfl, ListIs.of_owns hlast.out⟩, hbel⟩
   | cons y b' =>
    have htb := vec_tail hvb
    obtain ⟨bb, fb, rfl, -, hcb1, hcm0, hcbm, hbbl, hyr, hyt, hvb2, hcb0⟩ := vec_cons hvb
    have hcm0 : b'.length + 1 ≤ cb' := hcm0
    have qyr := fun W (h : Below w.heap.size w W) => cell_below h hyr
    have qyt := fun W (h : Below w.heap.size w W) => cell_below h hyt
    have cyr := qyr _ hbel
    have cyt := qyt _ hbel
    rw [Vec.merge_nil] at hmg
    have hmg2 : Hid ((out ++ [y]) ++ Vec.merge [] b' = Vec.merge a b) := Lib.hid (by rw [Vec.merge_nil, List.append_assoc]; exact hmg)
    replace hva := Lib.hid hva
    replace hvb := Lib.hid hvb
    have b1 : (1 : Int) ≤ (b'.length : Int) + 1 := by omega
    replace hvb2 := Lib.hid hvb2
    replace hcb0 := Lib.hid hcb0
    clear hmg
    have bz : (((b'.length : Int) + 1) == 0) = false := by simp; omega
    obtain ⟨A, hAr, hAv⟩ := htb
    replace hAv := Lib.hid hAv
    simp only [List.length_cons]
    go_wp2
    go_quiet (fail)
    have hownq : (wr.drewN nq).ownsRow w.heap.size 45 2 u9 out.length (out.flatMap entCells) := hown
    have hbelq : Below w.heap.size w (wr.drewN nq) := bdn hbel nq
    generalize wr.drewN nq = wq at *
    have cyr2 := qyr _ hbelq
    have cyt2 := qyt _ hbelq
    go_wp2
    go_quiet (fail)
    go_wp2
    have hown3 : (wq.drewN nq).drew.ownsRow w.heap.size 45 2 u9 out.length (out.flatMap entCells) := hownq
    have hbel3 : Below w.heap.size w (wq.drewN nq).drew := bdr (bdn hbelq nq)
    generalize wq.drewN nq = w3 at *
    have hsz3 := hbel3.size
    go_region_held3 (fun W => Below w.heap.size w W) ((first | exact hbel3 | exact bal (by assumption) _ | exact Below.trans hbel3 (by assumption))) ((refine step_app_one (by rfl) _ _ 22 45 (by rfl) w.heap.size (.agg #[.int .i64 0, .int .i64 0]) 2 16 Tryz.underlying22 (by kernel_rfl) rfl _ _ _ (by rfl) hown3 #[.int .i64 y.r, .int .i64 y.t] w3.heap.size (by simp) (by rfl) (by rfl) (by simp [Value.oneCell']) (by omega) (by omega) hsz3 ?_; intro v9 w9 r1 r2 r3 r4 r5))
    have r1' := own_snoc r1
    have r5' := Below.trans hbel3 r5
    go_wp2
    go_roundw
    case rel => exact ⟨oa', some A, ca', cb' - 1, [], b', out ++ [y], rfl, rfl, hva.out, hAv.out, hmg2.out, by rw [List.length_append]; simp at hln ⊢ <;> omega, r1', r5'⟩
    case measure => simp [sliceLen]
  | cons x a' =>
   have hta := vec_tail hva
   obtain ⟨ba, fa, rfl, -, hca1, hcn0, hcam, hbal, hxr, hxt, hva2, hca0⟩ := vec_cons hva
   have hcn0 : a'.length + 1 ≤ ca' := hcn0
   have qxr := fun W (h : Below w.heap.size w W) => cell_below h hxr
   have qxt := fun W (h : Below w.heap.size w W) => cell_below h hxt
   have cxr := qxr _ hbel
   have cxt := qxt _ hbel
   cases b' with
   | nil =>
    rw [Vec.merge_nil'] at hmg
    have hmg2 : Hid ((out ++ [x]) ++ Vec.merge a' [] = Vec.merge a b) := Lib.hid (by rw [Vec.merge_nil', List.append_assoc]; exact hmg)
    replace hva := Lib.hid hva
    replace hvb := Lib.hid hvb
    have b1 : (1 : Int) ≤ (a'.length : Int) + 1 := by omega
    replace hva2 := Lib.hid hva2
    replace hca0 := Lib.hid hca0
    clear hmg
    obtain ⟨A, hAr, hAv⟩ := hta
    replace hAv := Lib.hid hAv
    simp only [List.length_cons]
    go_wp2
    go_quiet (fail)
    go_wp2
    have hown3 : (wr.drewN nq).drew.ownsRow w.heap.size 45 2 u9 out.length (out.flatMap entCells) := hown
    have hbel3 : Below w.heap.size w (wr.drewN nq).drew := bdr (bdn hbel nq)
    generalize wr.drewN nq = w3 at *
    have hsz3 := hbel3.size
    go_region_held3 (fun W => Below w.heap.size w W) ((first | exact hbel3 | exact bal (by assumption) _ | exact Below.trans hbel3 (by assumption))) ((refine step_app_one (by rfl) _ _ 22 45 (by rfl) w.heap.size (.agg #[.int .i64 0, .int .i64 0]) 2 16 Tryz.underlying22 (by kernel_rfl) rfl _ _ _ (by rfl) hown3 #[.int .i64 x.r, .int .i64 x.t] w3.heap.size (by simp) (by rfl) (by rfl) (by simp [Value.oneCell']) (by omega) (by omega) hsz3 ?_; intro v9 w9 r1 r2 r3 r4 r5))
    have r1' := own_snoc r1
    have r5' := Below.trans hbel3 r5
    go_wp2
    go_roundw
    case rel => exact ⟨some A, ob', ca' - 1, cb', a', [], out ++ [x], rfl, rfl, hAv.out, hvb.out, hmg2.out, by rw [List.length_append]; simp at hln ⊢ <;> omega, r1', r5'⟩
    case measure => simp [sliceLen]
   | cons y b' =>
    have htb := vec_tail hvb
    obtain ⟨bb, fb, rfl, -, hcb1, hcm0, hcbm, hbbl, hyr, hyt, hvb2, hcb0⟩ := vec_cons hvb
    have hcm0 : b'.length + 1 ≤ cb' := hcm0
    have qyr := fun W (h : Below w.heap.size w W) => cell_below h hyr
    have qyt := fun W (h : Below w.heap.size w W) => cell_below h hyt
    have cyr := qyr _ hbel
    have cyt := qyt _ hbel
    replace hva := Lib.hid hva
    replace hvb := Lib.hid hvb
    have b1 : (1 : Int) ≤ (a'.length : Int) + 1 := by omega
    have b2 : (1 : Int) ≤ (b'.length : Int) + 1 := by omega
    have b3 : (0 : Int) < (a'.length : Int) + 1 := by omega
    have b4 : (0 : Int) < (b'.length : Int) + 1 := by omega
    have bz : (((b'.length : Int) + 1) == 0) = false := by simp; omega
    have az : (((a'.length : Int) + 1) == 0) = false := by simp; omega
    have ap : decide ((0 : Int) < (a'.length : Int) + 1) = true := decide_eq_true (by omega)
    replace hva2 := Lib.hid hva2
    replace hca0 := Lib.hid hca0
    replace hvb2 := Lib.hid hvb2
    replace hcb0 := Lib.hid hcb0
    obtain ⟨A, hAr, hAv⟩ := hta
    replace hAv := Lib.hid hAv
    obtain ⟨B, hBr, hBv⟩ := htb
    replace hBv := Lib.hid hBv
    replace hmg := Lib.hid hmg
    rcases Int.lt_trichotomy x.r y.r with hlt | heq | hgt
    ·have hmg2 : Hid ((out ++ [x]) ++ Vec.merge a' (y :: b') = Vec.merge a b) := Lib.hid (by rw [← hmg.out, Vec.merge_lt hlt, List.append_assoc]; rfl)
     have d1 : decide (x.r < y.r) = true := by simp [hlt]
     simp only [List.length_cons]
     go_wp2
     go_quiet (fail)
     go_wp2
     have hown3 : (wr.drewN nq).drew.ownsRow w.heap.size 45 2 u9 out.length (out.flatMap entCells) := hown
     have hbel3 : Below w.heap.size w (wr.drewN nq).drew := bdr (bdn hbel nq)
     generalize wr.drewN nq = w3 at *
     have hsz3 := hbel3.size
     go_region_held3 (fun W => Below w.heap.size w W) ((first | exact hbel3 | exact bal (by assumption) _ | exact Below.trans hbel3 (by assumption))) ((refine step_app_one (by rfl) _ _ 22 45 (by rfl) w.heap.size (.agg #[.int .i64 0, .int .i64 0]) 2 16 Tryz.underlying22 (by kernel_rfl) rfl _ _ _ (by rfl) hown3 #[.int .i64 x.r, .int .i64 x.t] w3.heap.size (by simp) (by rfl) (by rfl) (by simp [Value.oneCell']) (by omega) (by omega) hsz3 ?_; intro v9 w9 r1 r2 r3 r4 r5))
     have r1' := own_snoc (x := x) r1
     have r5' := Below.trans hbel3 r5
     go_wp2
     go_roundw
     case rel => exact ⟨some A, some ⟨bb, fb, none⟩, ca' - 1, cb', a', y :: b', out ++ [x], rfl, rfl, hAv.out, hvb.out, hmg2.out, by rw [List.length_append]; simp at hln ⊢ <;> omega, r1', r5'⟩
     case measure => simp [sliceLen]
    ·have hxy : ¬ x.r < y.r := by omega
     have d1 : decide (x.r < y.r) = false := by simp; omega
     have d2 : decide (y.r < x.r) = false := by simp; omega
     obtain ⟨mt, hmt⟩ : ∃ mt, mt = max x.t y.t := ⟨_, rfl⟩
     have hmg2 : Hid ((out ++ [⟨x.r, mt⟩]) ++ Vec.merge a' b' = Vec.merge a b) := Lib.hid (by rw [← hmg.out, Vec.merge_eq heq, List.append_assoc, hmt]; rfl)
     have hmx : (if x.t < y.t then y.t else x.t) = mt := by rw [hmt]; split <;> omega
     have hmx2 : (if y.t < x.t then x.t else y.t) = mt := by rw [hmt]; split <;> omega
     replace hmt := Lib.hid hmt
     replace heq := Lib.hid heq
     simp only [List.length_cons]
     go_wp2
     go_quiet (fail)
     have hownq : (wr.drewN nq).ownsRow w.heap.size 45 2 u9 out.length (out.flatMap entCells) := hown
     have hbelq : Below w.heap.size w (wr.drewN nq) := bdn hbel nq
     generalize wr.drewN nq = wq at *
     have cxr2 := qxr _ hbelq
     have cxt2 := qxt _ hbelq
     have cyr2 := qyr _ hbelq
     have cyt2 := qyt _ hbelq
     go_wp2
     go_quiet (fail)
     go_wp2
     have hown3 : (wq.drewN nq).drew.ownsRow w.heap.size 45 2 u9 out.length (out.flatMap entCells) := hownq
     have hbel3 : Below w.heap.size w (wq.drewN nq).drew := bdr (bdn hbelq nq)
     generalize wq.drewN nq = w3 at *
     have hsz3 := hbel3.size
     go_region_held3 (fun W => Below w.heap.size w W) ((first | exact hbel3 | exact bal (by assumption) _ | exact Below.trans hbel3 (by assumption))) ((refine step_app_one (by rfl) _ _ 22 45 (by rfl) w.heap.size (.agg #[.int .i64 0, .int .i64 0]) 2 16 Tryz.underlying22 (by kernel_rfl) rfl _ _ _ (by rfl) hown3 #[.int .i64 x.r, .int .i64 mt] w3.heap.size (by simp) (by rfl) (by rfl) (by simp [Value.oneCell']) (by omega) (by omega) hsz3 ?_; intro v9 w9 r1 r2 r3 r4 r5))
     have r1' := own_snoc (x := ⟨x.r, mt⟩) r1
     have r5' := Below.trans hbel3 r5
     go_wp2
     go_quiet (fail)
     go_wp2
     go_roundw
     case rel => exact ⟨some A, some B, ca' - 1, cb' - 1, a', b', out ++ [⟨x.r, mt⟩], rfl, rfl, hAv.out, hBv.out, hmg2.out, by rw [List.length_append]; simp at hln ⊢ <;> omega, by exact r1', bdn r5' _⟩
     case measure => simp [sliceLen]; omega
    ·have hmg2 : Hid ((out ++ [y]) ++ Vec.merge (x :: a') b' = Vec.merge a b) := Lib.hid (by rw [← hmg.out, Vec.merge_gt hgt, List.append_assoc]; rfl)
     have d1 : decide (x.r < y.r) = false := by simp; omega
     have d2 : decide (y.r < x.r) = true := by simp [hgt]
     simp only [List.length_cons]
     go_wp2
     go_quiet (fail)
     have hownq : (wr.drewN nq).ownsRow w.heap.size 45 2 u9 out.length (out.flatMap entCells) := hown
     have hbelq : Below w.heap.size w (wr.drewN nq) := bdn hbel nq
     generalize wr.drewN nq = wq at *
     have cxr2 := qxr _ hbelq
     have cxt2 := qxt _ hbelq
     have cyr2 := qyr _ hbelq
     have cyt2 := qyt _ hbelq
     go_wp2
     go_quiet (fail)
     go_wp2
     have hown3 : (wq.drewN nq).drew.ownsRow w.heap.size 45 2 u9 out.length (out.flatMap entCells) := hownq
     have hbel3 : Below w.heap.size w (wq.drewN nq).drew := bdr (bdn hbelq nq)
     generalize wq.drewN nq = w3 at *
     have hsz3 := hbel3.size
     go_region_held3 (fun W => Below w.heap.size w W) ((first | exact hbel3 | exact bal (by assumption) _ | exact Below.trans hbel3 (by assumption))) ((refine step_app_one (by rfl) _ _ 22 45 (by rfl) w.heap.size (.agg #[.int .i64 0, .int .i64 0]) 2 16 Tryz.underlying22 (by kernel_rfl) rfl _ _ _ (by rfl) hown3 #[.int .i64 y.r, .int .i64 y.t] w3.heap.size (by simp) (by rfl) (by rfl) (by simp [Value.oneCell']) (by omega) (by omega) hsz3 ?_; intro v9 w9 r1 r2 r3 r4 r5))
     have r1' := own_snoc (x := y) r1
     have r5' := Below.trans hbel3 r5
     go_wp2
     go_roundw
     case rel => exact ⟨some ⟨ba, fa, none⟩, some B, ca', cb' - 1, x :: a', b', out ++ [y], rfl, rfl, hva.out, hBv.out, hmg2.out, by rw [List.length_append]; simp at hln ⊢ <;> omega, r1', r5'⟩
     case measure => simp [sliceLen]
end Go.Proofs.YtognjohloobliaaGreatDoor
