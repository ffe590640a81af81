/- Walks of vector: Right, Covers. -/
import Derived.Test.YtdbpiabcpjgblaaDoorErr
import Derived.Test.YtdbpiabcpjgblaaDoorWVecOf
import Derived.Deep.RegionHeld3
namespace Go.Proofs.YtdbpiabcpjgblaaDoor
open Go.RowKit
set_option linter.unusedVariables false
def entCells (x : Vec.Entry) : List Value := [.int .i64 x.r, .int .i64 x.t]
theorem entCells_len (x : Vec.Entry) : (entCells x).length = 2 := rfl
theorem VecIs.list {w : World} {v : Value} {l : List Vec.Entry} (h : VecIs w v l) : ListIs entCells 2 w v l := h
theorem wrongs_drop (l : List Vec.Entry) (k : Nat) (prev : Option Vec.Entry) (h : k < l.length) : Vec.wrongs (l.drop k) prev k = if Vec.wrong prev l[k] ≠ 0 then .at_ (Vec.wrong prev l[k]) k else Vec.wrongs (l.drop (k + 1)) (some l[k]) (k + 1) := by
  rw [List.drop_eq_getElem_cons h]; rfl
theorem wrongs_bad {l r : List Vec.Entry} {y : Vec.Entry} {prev : Option Vec.Entry} {k x : Nat} (h : Vec.right l = if Vec.wrong prev y ≠ 0 then .at_ (Vec.wrong prev y) k else Vec.wrongs r (some y) (k + 1)) (hw : Vec.wrong prev y = x) (hx : x ≠ 0) : Vec.right l = .at_ x k := by
  rw [h, hw, if_pos hx]
theorem wrongs_good {l r : List Vec.Entry} {y : Vec.Entry} {prev : Option Vec.Entry} {k : Nat} (h : Vec.right l = if Vec.wrong prev y ≠ 0 then .at_ (Vec.wrong prev y) k else Vec.wrongs r (some y) (k + 1)) (hw : Vec.wrong prev y = 0) : Vec.wrongs r (some y) (k + 1) = Vec.right l := by
  rw [h, if_neg (by omega)]
set_option maxHeartbeats 2000000 in
set_option maxRecDepth 100000 in
theorem vector_right (v : Value) (l : List Vec.Entry) (w : World) (hv : VecIs w v l) (hll : l.length ≤ 140737488351232) :
    Calls Tryd.prog 28 #[v] w (RetErr (Vec.right l) w) := by
  obtain ⟨a, cap, rfl, hcap, hcell⟩ := hv.list.at entCells_len
  clear hv
  replace hcell := Lib.hid hcell
  replace hcap := Lib.hid hcap
  by_cases h16 : 16 < l.length
  · have hr : Hid (Vec.right l = .no 4) := Lib.hid (by unfold Vec.right; rw [if_pos h16])
    go_enter Tryd.func28, Tryd.ntmps28
    go_wp2
    go_ret
    rw [hr.out]
    exact ⟨_, rfl, rfl, by (repeat (first | exact Below.refl _ _ | assumption | refine bal ?_ _ | refine bdr ?_ | refine bdn ?_ _ | refine bst ?_ (by first | assumption | exact Nat.le_refl _ | omega) _ | refine bch ?_ (by assumption)))⟩
  · have hr0 : Vec.right l = Vec.wrongs l none 0 := by unfold Vec.right; rw [if_neg h16]
    replace hr0 := Lib.hid hr0
    have d16 : decide ((16 : Int) < (l.length : Int)) = false := by simp; omega
    go_enter Tryd.func28, Tryd.ntmps28
    go_wp2
    go_loopw [12] (fun i wr => ∃ (k : Nat) (prev : Option Vec.Entry), k ≤ l.length ∧ i = .int .i64 k ∧ Vec.wrongs (l.drop k) prev k = Vec.right l ∧ ((k = 0 ∧ prev = none) ∨ ∃ h : k - 1 < l.length, 0 < k ∧ prev = some l[k - 1]) ∧ Below w.heap.size w wr) (fun i _ => l.length - (intOf i).toNat)
    case atStart => exact ⟨0, none, by omega, rfl, hr0.out.symm, .inl ⟨rfl, rfl⟩, by (repeat (first | exact Below.refl _ _ | assumption | refine bal ?_ _ | refine bdr ?_ | refine bdn ?_ _ | refine bst ?_ (by first | assumption | exact Nat.le_refl _ | omega) _ | refine bch ?_ (by assumption)))⟩
    case round =>
      obtain ⟨k, prev, hk, rfl, hr, hpr, hbel⟩ := hrel
      have hsz := hbel.size
      replace hpr := Lib.hid hpr
      by_cases hlt : k < l.length
      · obtain ⟨b, off, rfl, hbw, hc⟩ := hcell.out k hlt
        have hbw := hbw (by omega)
        have c0 : wr.cell? ⟨b, off + k * 2, none⟩ = some (.int .i64 l[k].r) := (hbel.cell (p := ⟨b, off + k * 2, none⟩) hbw).trans (hc 0 _ rfl)
        have c1 : wr.cell? ⟨b, off + k * 2 + 1, none⟩ = some (.int .i64 l[k].t) := (hbel.cell (p := ⟨b, off + k * 2 + 1, none⟩) hbw).trans (hc 1 _ rfl)
        have hrd := wrongs_drop l k prev hlt
        rw [hr] at hrd
        clear hc hr
        replace hrd := Lib.hid hrd
        by_cases hrg : l[k].r < 0 ∨ 200 < l[k].r ∨ l[k].t < 1 ∨ 1099511627776 < l[k].t
        · have hw : Hid (Vec.wrong prev l[k] = 2) := Lib.hid (by unfold Vec.wrong; rw [if_pos hrg])
          generalize l[k] = y at *
          have hrg' := Lib.hid hrg
          clear hrg hpr
          rcases hrg'.out with h | h | h | h
          all_goals
            go_wp2
            all_goals
              go_ret
              rw [wrongs_bad hrd.out hw.out (by omega)]
              exact retErrAt w _ (by (repeat (first | exact Below.refl _ _ | assumption | refine bal ?_ _ | refine bdr ?_ | refine bdn ?_ _ | refine bst ?_ (by first | assumption | exact Nat.le_refl _ | omega) _ | refine bch ?_ (by assumption)))) 2 k _ (by simp)
        · have g1 : 0 ≤ l[k].r := by omega
          have g2 : l[k].r ≤ 200 := by omega
          have g3 : 1 ≤ l[k].t := by omega
          have g4 : l[k].t ≤ 1099511627776 := by omega
          have hwr : Hid (∀ p, prev = some p → Vec.wrong prev l[k] = if l[k].r ≤ p.r then 10 else 0) := Lib.hid (fun p hp => by
            unfold Vec.wrong; rw [if_neg hrg, hp])
          have hwn : Hid (prev = none → Vec.wrong prev l[k] = 0) := Lib.hid (fun hp => by unfold Vec.wrong; rw [if_neg hrg, hp])
          clear hrg
          rcases hpr.out with ⟨hk0, hp⟩ | ⟨hkl, hkp, hp⟩
          · subst hk0
            have hw : Hid (Vec.wrong prev l[0] = 0) := Lib.hid (hwn.out hp)
            replace hp := Lib.hid hp
            simp only [Nat.zero_mul, Nat.add_zero] at c0 c1
            obtain ⟨y, hy⟩ : ∃ y, l[0] = y := ⟨_, rfl⟩
            rw [hy] at c0 c1 g1 g2 g3 g4 hw hrd
            replace hy := Lib.hid hy
            clear hwr hwn
            go_wp2
            go_quiet (fail)
            go_wp2
            go_roundw
            case rel => exact ⟨0 + 1, some y, by omega, by go_num, wrongs_good hrd.out hw.out, .inr ⟨by omega, by omega, by rw [← hy.out]⟩, by (repeat (first | exact Below.refl _ _ | assumption | refine bal ?_ _ | refine bdr ?_ | refine bdn ?_ _ | refine bst ?_ (by first | assumption | exact Nat.le_refl _ | omega) _ | refine bch ?_ (by assumption)))⟩
            case measure => simp [intOf]; omega
          · obtain ⟨b', off', he, hbw', hc'⟩ := hcell.out (k - 1) hkl
            simp only [Option.some.injEq, Addr.mk.injEq, and_true] at he
            obtain ⟨rfl, rfl⟩ := he
            have z0 : decide ((0 : Int) < (k : Int)) = true := by simp; omega
            have c2 : (wr.alloc (Obj.cells #[Value.int IntKind.i64 l[k].r, Value.int IntKind.i64 l[k].t] 34)).cell? ⟨b, off + (k - 1) * 2, none⟩ = some (.int .i64 (l[k - 1]'hkl).r) := cell_alloc ((hbel.cell (p := ⟨b, off + (k - 1) * 2, none⟩) hbw).trans (hc' 0 _ rfl)) _
            have hsub : IntKind.i64.wrap ((k : Int) - 1) = ((k - 1 : Nat) : Int) := by rw [IntWalk.i64_in _ (by omega)]; omega
            have hwp := hwr.out _ hp
            have hkl' : ((k - 1 : Nat) : Int) < (l.length : Int) := by omega
            clear hc' hbw'
            by_cases hge : l[k].r ≤ (l[k - 1]'hkl).r
            · have dge : decide (l[k].r ≤ (l[k - 1]'hkl).r) = true := by simp [hge]
              have hw : Hid (Vec.wrong prev l[k] = 10) := Lib.hid (by rw [hwp, if_pos hge])
              clear hwp hge
              replace hp := Lib.hid hp
              generalize l[k] = y at *
              generalize l[k - 1] = z at *
              go_wp2
              go_quiet (fail)
              go_wp2
              go_ret
              rw [wrongs_bad hrd.out hw.out (by omega)]
              exact retErrAt w _ (by (repeat (first | exact Below.refl _ _ | assumption | refine bal ?_ _ | refine bdr ?_ | refine bdn ?_ _ | refine bst ?_ (by first | assumption | exact Nat.le_refl _ | omega) _ | refine bch ?_ (by assumption)))) 10 k _ (by simp)
            · have dge : decide (l[k].r ≤ (l[k - 1]'hkl).r) = false := by simp; omega
              have hw : Hid (Vec.wrong prev l[k] = 0) := Lib.hid (by rw [hwp, if_neg hge])
              have hy : Hid (l[k] = l[k + 1 - 1]'(by omega)) := Lib.hid (by simp)
              clear hwp hge
              replace hp := Lib.hid hp
              go_wp2
              go_quiet (fail)
              go_wp2
              go_roundw
              case rel => exact ⟨k + 1, some l[k], by omega, by go_num, wrongs_good hrd.out hw.out, .inr ⟨by omega, by omega, by rw [hy.out]⟩, by (repeat (first | exact Below.refl _ _ | assumption | refine bal ?_ _ | refine bdr ?_ | refine bdn ?_ _ | refine bst ?_ (by first | assumption | exact Nat.le_refl _ | omega) _ | refine bch ?_ (by assumption)))⟩
              case measure => simp [intOf]; omega
      · obtain rfl : k = l.length := by omega
        have hfin : Hid (Vec.right l = .ok) := Lib.hid (by rw [← hr, List.drop_length]; rfl)
        clear hr
        go_wp2
        go_ret
        rw [hfin.out]
        exact ⟨_, rfl, rfl, by (repeat (first | exact Below.refl _ _ | assumption | refine bal ?_ _ | refine bdr ?_ | refine bdn ?_ _ | refine bst ?_ (by first | assumption | exact Nat.le_refl _ | omega) _ | refine bch ?_ (by assumption)))⟩
end Go.Proofs.YtdbpiabcpjgblaaDoor
/- Walks of vector: Covers, Join. -/
namespace Go.Proofs.YtdbpiabcpjgblaaDoor
open Go.RowKit
set_option linter.unusedVariables false
def coversB (a b : List Vec.Entry) : Bool := decide (Vec.right a = .ok) && (decide (Vec.right b = .ok) && b.all fun x => decide (x.t ≤ Vec.of a x.r))
theorem errNe {w : World} {v : Value} {e : Err} (h : ErrRep w v e) (hne : e ≠ .ok) : ∃ t x, v = .iface t x := by
  cases e with
  | ok => exact absurd rfl hne
  | no n => exact ⟨_, _, h⟩
  | at_ n i => obtain ⟨g, hv, _⟩ := h; exact ⟨_, _, hv⟩
set_option maxHeartbeats 2000000 in
theorem vector_covers (va vb : Value) (a b : List Vec.Entry) (w : World) (ha : VecIs w va a) (hb : VecIs w vb b) (hla : a.length ≤ 140737488351232) (hlb : b.length ≤ 140737488351232) :
    Calls Tryd.prog 16 #[va, vb] w fun e w' => e = .returned (.bool (coversB a b)) ∧ Below w.heap.size w w' := by
  have hA := fun W h => vector_right va a W h hla
  have hB := fun W h => vector_right vb b W h hlb
  replace hA := Lib.hid hA
  replace hB := Lib.hid hB
  have ha' := Lib.hid ha
  have hb' := Lib.hid hb
  by_cases h1 : Vec.right a = .ok
  · by_cases h2 : Vec.right b = .ok
    · have hW : Hid (coversB a b = b.all fun x => decide (x.t ≤ Vec.of a x.r)) := Lib.hid (by unfold coversB; rw [decide_eq_true h1, decide_eq_true h2]; rfl)
      obtain ⟨ob, cap, rfl, hcap, hcell⟩ := hb.list.at entCells_len
      replace hcell := Lib.hid hcell
      replace hcap := Lib.hid hcap
      replace h1 := Lib.hid h1
      replace h2 := Lib.hid h2
      clear ha hb
      go_enter Tryd.func16, Tryd.ntmps16
      go_wp2_with fail
      refine (hA.out _ ha'.out).mono ?_
      rintro e w1 ⟨v1, rfl, hv1, hb1⟩
      rw [h1.out] at hv1
      have hv1 : v1 = .nilIface := hv1
      subst hv1
      go_wp2_with fail
      refine (hB.out _ (hb'.out.below hb1)).mono ?_
      rintro e w2 ⟨v2, rfl, hv2, hb2⟩
      rw [h2.out] at hv2
      have hv2 : v2 = .nilIface := hv2
      subst hv2
      go_wp2
      have hbel2 : Below w.heap.size w w2 := by (repeat (first | exact Below.refl _ _ | assumption | refine bal ?_ _ | refine bdr ?_ | refine bdn ?_ _ | refine bst ?_ (by first | assumption | exact Nat.le_refl _ | omega) _ | refine bch ?_ (by assumption)))
      go_loopw [17] (fun i wr => ∃ k : Nat, k ≤ b.length ∧ i = .int .i64 k ∧ (b.drop k).all (fun x => decide (x.t ≤ Vec.of a x.r)) = b.all (fun x => decide (x.t ≤ Vec.of a x.r)) ∧ Below w.heap.size w wr) (fun i _ => b.length - (intOf i).toNat)
      case atStart => exact ⟨0, by omega, rfl, rfl, hbel2⟩
      case round =>
        clear hbel2 hb1 hb2
        obtain ⟨k, hk, rfl, hall, hbel⟩ := hrel
        have hsz := hbel.size
        by_cases hlt : k < b.length
        · obtain ⟨b0, off, rfl, hbw, hc⟩ := hcell.out k hlt
          have hbw := hbw (by omega)
          have c0 : wr.cell? ⟨b0, off + k * 2, none⟩ = some (.int .i64 b[k].r) := (hbel.cell (p := ⟨b0, off + k * 2, none⟩) hbw).trans (hc 0 _ rfl)
          have c1 : wr.cell? ⟨b0, off + k * 2 + 1, none⟩ = some (.int .i64 b[k].t) := (hbel.cell (p := ⟨b0, off + k * 2 + 1, none⟩) hbw).trans (hc 1 _ rfl)
          rw [List.drop_eq_getElem_cons hlt, List.all_cons] at hall
          clear hc
          generalize b[k] = y at *
          by_cases hy : y.t ≤ Vec.of a y.r
          · have d1 : decide (Vec.of a y.r < y.t) = false := by simp; omega
            rw [decide_eq_true hy, Bool.true_and] at hall
            replace hall := Lib.hid hall
            go_wp2
            have q0 := row_at #[.int .i64 y.r, .int .i64 y.t] 34 (rfl : wr.heap.size = wr.heap.size)
            have qb : Below w.heap.size w (wr.alloc (Obj.cells #[.int .i64 y.r, .int .i64 y.t] 34)) := by (repeat (first | exact Below.refl _ _ | assumption | refine bal ?_ _ | refine bdr ?_ | refine bdn ?_ _ | refine bst ?_ (by first | assumption | exact Nat.le_refl _ | omega) _ | refine bch ?_ (by assumption)))
            generalize wr.alloc (Obj.cells #[.int .i64 y.r, .int .i64 y.t] 34) = w3 at *
            have q1 := Old.cell (q0.cell 0)
            have q2 := Old.cell (q0.cell 1)
            have qa : ∀ x : Kept (Old w3.heap.size w3), VecIs x.val va a := fun x => ha'.out.below (qb.trans (x.ok.2.mono qb.size))
            replace qa := Lib.hid qa
            (have hN := Old.ne w3; refine wp_region_kept (Old w3.heap.size w3) (by kernel_rfl) (by kernel_rfl) (Old.start w3) ?_; (repeat (first | go_big_quiet_step ((first | (go_at_call 29; go_must (exact calls_kept (vector_of _ _ _ _ (qa.out _)) Old.below)))) | quiet_step ((first | (go_at_call 29; go_must (exact calls_kept (vector_of _ _ _ _ (qa.out _)) Old.below)))))); refine wpQuiet_nil ?_; rintro _ ⟨X, rfl⟩)
            have qx := qb.trans (X.ok.2.mono qb.size)
            generalize X.val = w4 at *
            go_wp2
            go_roundw
            case rel => exact ⟨k + 1, by omega, by go_num, hall.out, qx⟩
            case measure => simp [intOf]; omega
          · have d1 : decide (Vec.of a y.r < y.t) = true := by simp; omega
            rw [decide_eq_false hy, Bool.false_and] at hall
            replace hall := Lib.hid hall
            go_wp2
            have q0 := row_at #[.int .i64 y.r, .int .i64 y.t] 34 (rfl : wr.heap.size = wr.heap.size)
            have qb : Below w.heap.size w (wr.alloc (Obj.cells #[.int .i64 y.r, .int .i64 y.t] 34)) := by (repeat (first | exact Below.refl _ _ | assumption | refine bal ?_ _ | refine bdr ?_ | refine bdn ?_ _ | refine bst ?_ (by first | assumption | exact Nat.le_refl _ | omega) _ | refine bch ?_ (by assumption)))
            generalize wr.alloc (Obj.cells #[.int .i64 y.r, .int .i64 y.t] 34) = w3 at *
            have q1 := Old.cell (q0.cell 0)
            have q2 := Old.cell (q0.cell 1)
            have qa : ∀ x : Kept (Old w3.heap.size w3), VecIs x.val va a := fun x => ha'.out.below (qb.trans (x.ok.2.mono qb.size))
            replace qa := Lib.hid qa
            (have hN := Old.ne w3; refine wp_region_kept (Old w3.heap.size w3) (by kernel_rfl) (by kernel_rfl) (Old.start w3) ?_; (repeat (first | go_big_quiet_step ((first | (go_at_call 29; go_must (exact calls_kept (vector_of _ _ _ _ (qa.out _)) Old.below)))) | quiet_step ((first | (go_at_call 29; go_must (exact calls_kept (vector_of _ _ _ _ (qa.out _)) Old.below)))))); refine wpQuiet_nil ?_; rintro _ ⟨X, rfl⟩)
            have qx := qb.trans (X.ok.2.mono qb.size)
            generalize X.val = w4 at *
            go_wp2
            go_ret
            exact ⟨ret_bool (by rw [hW.out, ← hall.out]), qx⟩
        · have hfin : Hid (b.all (fun x => decide (x.t ≤ Vec.of a x.r)) = true) := Lib.hid (by rw [← hall, List.drop_of_length_le (by omega)]; rfl)
          clear hall
          go_wp2
          go_ret
          exact ⟨ret_bool (by rw [hW.out, hfin.out]), hbel⟩
    · have hW : Hid (coversB a b = false) := Lib.hid (by unfold coversB; rw [decide_eq_false h2]; simp)
      replace h1 := Lib.hid h1
      replace h2 := Lib.hid h2
      clear ha hb
      go_enter Tryd.func16, Tryd.ntmps16
      go_wp2_with fail
      refine (hA.out _ ha'.out).mono ?_
      rintro e w1 ⟨v1, rfl, hv1, hb1⟩
      rw [h1.out] at hv1
      have hv1 : v1 = .nilIface := hv1
      subst hv1
      go_wp2_with fail
      refine (hB.out _ (hb'.out.below hb1)).mono ?_
      rintro e w2 ⟨v2, rfl, hv2, hb2⟩
      obtain ⟨t2, x2, rfl⟩ := errNe hv2 h2.out
      go_wp2
      go_ret
      exact ⟨ret_bool hW.out.symm, by (repeat (first | exact Below.refl _ _ | assumption | refine bal ?_ _ | refine bdr ?_ | refine bdn ?_ _ | refine bst ?_ (by first | assumption | exact Nat.le_refl _ | omega) _ | refine bch ?_ (by assumption)))⟩
  · have hW : Hid (coversB a b = false) := Lib.hid (by unfold coversB; rw [decide_eq_false h1]; simp)
    replace h1 := Lib.hid h1
    clear ha hb
    go_enter Tryd.func16, Tryd.ntmps16
    go_wp2_with fail
    refine (hA.out _ ha'.out).mono ?_
    rintro e w1 ⟨v1, rfl, hv1, hb1⟩
    obtain ⟨t2, x2, rfl⟩ := errNe hv1 h1.out
    go_wp2
    go_ret
    exact ⟨ret_bool hW.out.symm, by (repeat (first | exact Below.refl _ _ | assumption | refine bal ?_ _ | refine bdr ?_ | refine bdn ?_ _ | refine bst ?_ (by first | assumption | exact Nat.le_refl _ | omega) _ | refine bch ?_ (by assumption)))⟩
end Go.Proofs.YtdbpiabcpjgblaaDoor
