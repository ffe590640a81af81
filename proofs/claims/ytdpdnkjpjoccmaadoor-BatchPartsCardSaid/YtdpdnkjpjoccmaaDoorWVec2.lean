/- Walks of vector: Covers, Join. -/
import Derived.Test.YtdpdnkjpjoccmaaDoorWVec
import Derived.Deep.RegionHeld3
namespace Go.Proofs.YtdpdnkjpjoccmaaDoor
open Go.RowKit
set_option linter.unusedVariables false
def coversB (a b : List Vec.Entry) : Bool := decide (Vec.right a = .ok) && (decide (Vec.right b = .ok) && b.all fun x => decide (x.t ≤ Vec.of a x.r))
theorem errNe {w : World} {v : Value} {e : Err} (h : ErrRep w v e) (hne : e ≠ .ok) : ∃ t x, v = .iface t x := by
  cases e with
  | ok => exact absurd rfl hne
  | no n => exact ⟨_, _, h⟩
  | at_ n i => obtain ⟨g, hv, _⟩ := h; exact ⟨_, _, hv⟩
set_option maxHeartbeats 2000000 in
theorem vector_covers (va vb : Value) (a b : List Vec.Entry) (w : World) (ha : VecIs w va a) (hb : VecIs w vb b) (hla : a.length ≤ 140737488351232) (hlb : b.length ≤ 140737488351232) :
    Calls Tryd.prog 35 #[va, vb] w fun e w' => e = .returned (.bool (coversB a b)) ∧ Below w.heap.size w w' := by
  have hA := fun W h => vector_right va a W h hla
  have hB := fun W h => vector_right vb b W h hlb
  replace hA := Lib.hid hA
  replace hB := Lib.hid hB
  have ha' := Lib.hid ha
  have hb' := Lib.hid hb
  by_cases h1 : Vec.right a = .ok
  · by_cases h2 : Vec.right b = .ok
    · have hW : Hid (coversB a b = b.all fun x => decide (x.t ≤ Vec.of a x.r)) := Lib.hid (by unfold coversB; rw [decide_eq_true h1, decide_eq_true h2]; rfl)
      obtain ⟨ob, cap, rfl, hcap, hcell⟩ := hb.list.at entCells_len
      replace hcell := Lib.hid hcell
      replace hcap := Lib.hid hcap
      replace h1 := Lib.hid h1
      replace h2 := Lib.hid h2
      clear ha hb
      go_enter Tryd.func35, Tryd.ntmps35
      go_wp2_with fail
      refine (hA.out _ ha'.out).mono ?_
      rintro e w1 ⟨v1, rfl, hv1, hb1⟩
      rw [h1.out] at hv1
      have hv1 : v1 = .nilIface := hv1
      subst hv1
      go_wp2_with fail
      refine (hB.out _ (hb'.out.below hb1)).mono ?_
      rintro e w2 ⟨v2, rfl, hv2, hb2⟩
      rw [h2.out] at hv2
      have hv2 : v2 = .nilIface := hv2
      subst hv2
      go_wp2
      have hbel2 : Below w.heap.size w w2 := by (repeat (first | exact Below.refl _ _ | assumption | refine bal ?_ _ | refine bdr ?_ | refine bdn ?_ _ | refine bst ?_ (by first | assumption | exact Nat.le_refl _ | omega) _ | refine bch ?_ (by assumption)))
      go_loopw [17] (fun i wr => ∃ k : Nat, k ≤ b.length ∧ i = .int .i64 k ∧ (b.drop k).all (fun x => decide (x.t ≤ Vec.of a x.r)) = b.all (fun x => decide (x.t ≤ Vec.of a x.r)) ∧ Below w.heap.size w wr) (fun i _ => b.length - (intOf i).toNat)
      case atStart => exact ⟨0, by omega, rfl, rfl, hbel2⟩
      case round =>
        clear hbel2 hb1 hb2
        obtain ⟨k, hk, rfl, hall, hbel⟩ := hrel
        have hsz := hbel.size
        by_cases hlt : k < b.length
        · obtain ⟨b0, off, rfl, hbw, hc⟩ := hcell.out k hlt
          have hbw := hbw (by omega)
          have c0 : wr.cell? ⟨b0, off + k * 2, none⟩ = some (.int .i64 b[k].r) := (hbel.cell (p := ⟨b0, off + k * 2, none⟩) hbw).trans (hc 0 _ rfl)
          have c1 : wr.cell? ⟨b0, off + k * 2 + 1, none⟩ = some (.int .i64 b[k].t) := (hbel.cell (p := ⟨b0, off + k * 2 + 1, none⟩) hbw).trans (hc 1 _ rfl)
          rw [List.drop_eq_getElem_cons hlt, List.all_cons] at hall
          clear hc
          generalize b[k] = y at *
          by_cases hy : y.t ≤ Vec.of a y.r
          · have d1 : decide (Vec.of a y.r < y.t) = false := by simp; omega
            rw [decide_eq_true hy, Bool.true_and] at hall
            replace hall := Lib.hid hall
            go_wp2
            have q0 := row_at #[.int .i64 y.r, .int .i64 y.t] 108 (rfl : wr.heap.size = wr.heap.size)
            have qb : Below w.heap.size w (wr.alloc (Obj.cells #[.int .i64 y.r, .int .i64 y.t] 108)) := by (repeat (first | exact Below.refl _ _ | assumption | refine bal ?_ _ | refine bdr ?_ | refine bdn ?_ _ | refine bst ?_ (by first | assumption | exact Nat.le_refl _ | omega) _ | refine bch ?_ (by assumption)))
            generalize wr.alloc (Obj.cells #[.int .i64 y.r, .int .i64 y.t] 108) = w3 at *
            have q1 := Old.cell (q0.cell 0)
            have q2 := Old.cell (q0.cell 1)
            have qa : ∀ x : Kept (Old w3.heap.size w3), VecIs x.val va a := fun x => ha'.out.below (qb.trans (x.ok.2.mono qb.size))
            replace qa := Lib.hid qa
            (have hN := Old.ne w3; refine wp_region_kept (Old w3.heap.size w3) (by kernel_rfl) (by kernel_rfl) (Old.start w3) ?_; (repeat (first | go_big_quiet_step ((first | (go_at_call 63; go_must (exact calls_kept (vector_of _ _ _ _ (qa.out _)) Old.below)))) | quiet_step ((first | (go_at_call 63; go_must (exact calls_kept (vector_of _ _ _ _ (qa.out _)) Old.below)))))); refine wpQuiet_nil ?_; rintro _ ⟨X, rfl⟩)
            have qx := qb.trans (X.ok.2.mono qb.size)
            generalize X.val = w4 at *
            go_wp2
            go_roundw
            case rel => exact ⟨k + 1, by omega, by go_num, hall.out, qx⟩
            case measure => simp [intOf]; omega
          · have d1 : decide (Vec.of a y.r < y.t) = true := by simp; omega
            rw [decide_eq_false hy, Bool.false_and] at hall
            replace hall := Lib.hid hall
            go_wp2
            have q0 := row_at #[.int .i64 y.r, .int .i64 y.t] 108 (rfl : wr.heap.size = wr.heap.size)
            have qb : Below w.heap.size w (wr.alloc (Obj.cells #[.int .i64 y.r, .int .i64 y.t] 108)) := by (repeat (first | exact Below.refl _ _ | assumption | refine bal ?_ _ | refine bdr ?_ | refine bdn ?_ _ | refine bst ?_ (by first | assumption | exact Nat.le_refl _ | omega) _ | refine bch ?_ (by assumption)))
            generalize wr.alloc (Obj.cells #[.int .i64 y.r, .int .i64 y.t] 108) = w3 at *
            have q1 := Old.cell (q0.cell 0)
            have q2 := Old.cell (q0.cell 1)
            have qa : ∀ x : Kept (Old w3.heap.size w3), VecIs x.val va a := fun x => ha'.out.below (qb.trans (x.ok.2.mono qb.size))
            replace qa := Lib.hid qa
            (have hN := Old.ne w3; refine wp_region_kept (Old w3.heap.size w3) (by kernel_rfl) (by kernel_rfl) (Old.start w3) ?_; (repeat (first | go_big_quiet_step ((first | (go_at_call 63; go_must (exact calls_kept (vector_of _ _ _ _ (qa.out _)) Old.below)))) | quiet_step ((first | (go_at_call 63; go_must (exact calls_kept (vector_of _ _ _ _ (qa.out _)) Old.below)))))); refine wpQuiet_nil ?_; rintro _ ⟨X, rfl⟩)
            have qx := qb.trans (X.ok.2.mono qb.size)
            generalize X.val = w4 at *
            go_wp2
            go_ret
            exact ⟨ret_bool (by rw [hW.out, ← hall.out]), qx⟩
        · have hfin : Hid (b.all (fun x => decide (x.t ≤ Vec.of a x.r)) = true) := Lib.hid (by rw [← hall, List.drop_of_length_le (by omega)]; rfl)
          clear hall
          go_wp2
          go_ret
          exact ⟨ret_bool (by rw [hW.out, hfin.out]), hbel⟩
    · have hW : Hid (coversB a b = false) := Lib.hid (by unfold coversB; rw [decide_eq_false h2]; simp)
      replace h1 := Lib.hid h1
      replace h2 := Lib.hid h2
      clear ha hb
      go_enter Tryd.func35, Tryd.ntmps35
      go_wp2_with fail
      refine (hA.out _ ha'.out).mono ?_
      rintro e w1 ⟨v1, rfl, hv1, hb1⟩
      rw [h1.out] at hv1
      have hv1 : v1 = .nilIface := hv1
      subst hv1
      go_wp2_with fail
      refine (hB.out _ (hb'.out.below hb1)).mono ?_
      rintro e w2 ⟨v2, rfl, hv2, hb2⟩
      obtain ⟨t2, x2, rfl⟩ := errNe hv2 h2.out
      go_wp2
      go_ret
      exact ⟨ret_bool hW.out.symm, by (repeat (first | exact Below.refl _ _ | assumption | refine bal ?_ _ | refine bdr ?_ | refine bdn ?_ _ | refine bst ?_ (by first | assumption | exact Nat.le_refl _ | omega) _ | refine bch ?_ (by assumption)))⟩
  · have hW : Hid (coversB a b = false) := Lib.hid (by unfold coversB; rw [decide_eq_false h1]; simp)
    replace h1 := Lib.hid h1
    clear ha hb
    go_enter Tryd.func35, Tryd.ntmps35
    go_wp2_with fail
    refine (hA.out _ ha'.out).mono ?_
    rintro e w1 ⟨v1, rfl, hv1, hb1⟩
    obtain ⟨t2, x2, rfl⟩ := errNe hv1 h1.out
    go_wp2
    go_ret
    exact ⟨ret_bool hW.out.symm, by (repeat (first | exact Below.refl _ _ | assumption | refine bal ?_ _ | refine bdr ?_ | refine bdn ?_ _ | refine bst ?_ (by first | assumption | exact Nat.le_refl _ | omega) _ | refine bch ?_ (by assumption)))⟩
end Go.Proofs.YtdpdnkjpjoccmaaDoor
