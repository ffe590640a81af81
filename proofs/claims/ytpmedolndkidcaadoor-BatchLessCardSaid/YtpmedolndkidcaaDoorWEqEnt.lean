/- The walk of slices.Equal over entries. -/
import Derived.Test.YtpmedolndkidcaaDoorWVec2
namespace Go.Proofs.YtpmedolndkidcaaDoor
open Go.RowKit
set_option linter.unusedVariables false
theorem eq_drop {α : Type} [DecidableEq α] {a b : List α} {k : Nat} (ha : k < a.length) (hb : k < b.length) (he : a[k] = b[k]) : (a.drop k = b.drop k) ↔ (a.drop (k + 1) = b.drop (k + 1)) := by
  rw [List.drop_eq_getElem_cons ha, List.drop_eq_getElem_cons hb, he]; exact List.cons_inj_right _
theorem ne_drop {α : Type} {a b : List α} {k : Nat} (ha : k < a.length) (hb : k < b.length) (he : a[k] ≠ b[k]) : a.drop k ≠ b.drop k := by
  rw [List.drop_eq_getElem_cons ha, List.drop_eq_getElem_cons hb]; intro h; injection h with h _; exact he h
set_option maxHeartbeats 2000000 in
theorem eq_ent (va vb : Value) (a b : List Vec.Entry) (w : World) (ha : VecIs w va a) (hb : VecIs w vb b) (hla : a.length ≤ 140737488351232) (hlb : b.length ≤ 140737488351232) :
    Calls Tryd.prog 99 #[va, vb] w fun e w' => e = .returned (.bool (decide (a = b))) ∧ Below w.heap.size w w' := by
  obtain ⟨oa, ca, rfl, hca, hcella⟩ := ha.list.at entCells_len
  obtain ⟨ob, cb, rfl, hcb, hcellb⟩ := hb.list.at entCells_len
  clear ha hb hca hcb
  replace hcella := Lib.hid hcella
  replace hcellb := Lib.hid hcellb
  by_cases hl : a.length = b.length
  · have hl1 : a.length ≤ b.length := by omega
    have hl2 : b.length ≤ a.length := by omega
    have hle : ((a.length : Int) == (b.length : Int)) = true := by simp; omega
    have hle2 : ((a.length : Int) != (b.length : Int)) = false := by simp; omega
    replace hl := Lib.hid hl
    go_enter Tryd.func99, Tryd.ntmps99
    go_wp2
    go_loopw [13] (fun i wr => ∃ k : Nat, k ≤ a.length ∧ i = .int .i64 k ∧ (a.drop k = b.drop k ↔ a = b) ∧ Below w.heap.size w wr) (fun i _ => a.length - (intOf i).toNat)
    case atStart => exact ⟨0, by omega, rfl, by simp, by (repeat (first | exact Below.refl _ _ | assumption | refine bal ?_ _ | refine bdr ?_ | refine bdn ?_ _ | refine bst ?_ (by first | assumption | exact Nat.le_refl _ | omega) _ | refine bch ?_ (by assumption)))⟩
    case round =>
      obtain ⟨k, hk, rfl, heq, hbel⟩ := hrel
      have hsz := hbel.size
      by_cases hlt : k < a.length
      · have hlt2 : k < b.length := by omega
        obtain ⟨b1, f1, rfl, hb1, hc1⟩ := hcella.out k hlt
        obtain ⟨b2, f2, rfl, hb2, hc2⟩ := hcellb.out k hlt2
        have hb1 := hb1 (by omega)
        have hb2 := hb2 (by omega)
        have c0 : wr.cell? ⟨b1, f1 + k * 2, none⟩ = some (.int .i64 a[k].r) := (hbel.cell (p := ⟨b1, f1 + k * 2, none⟩) hb1).trans (hc1 0 _ rfl)
        have c1 : wr.cell? ⟨b1, f1 + k * 2 + 1, none⟩ = some (.int .i64 a[k].t) := (hbel.cell (p := ⟨b1, f1 + k * 2 + 1, none⟩) hb1).trans (hc1 1 _ rfl)
        have c2 : wr.cell? ⟨b2, f2 + k * 2, none⟩ = some (.int .i64 b[k].r) := (hbel.cell (p := ⟨b2, f2 + k * 2, none⟩) hb2).trans (hc2 0 _ rfl)
        have c3 : wr.cell? ⟨b2, f2 + k * 2 + 1, none⟩ = some (.int .i64 b[k].t) := (hbel.cell (p := ⟨b2, f2 + k * 2 + 1, none⟩) hb2).trans (hc2 1 _ rfl)
        clear hc1 hc2
        by_cases hxy : a[k] = b[k]
        · have hnx : Hid (a.drop (k + 1) = b.drop (k + 1) ↔ a = b) := Lib.hid ((eq_drop hlt hlt2 hxy).symm.trans heq)
          rw [hxy] at c0 c1
          replace hxy := Lib.hid hxy
          clear heq
          generalize b[k] = y at *
          have e1 : (y.r == y.r) = true := by simp
          have e2 : (y.t == y.t) = true := by simp
          go_wp2
          go_quiet (fail)
          go_wp2
          go_roundw
          case rel => exact ⟨k + 1, by omega, by go_num, hnx.out, by (repeat (first | exact Below.refl _ _ | assumption | refine bal ?_ _ | refine bdr ?_ | refine bdn ?_ _ | refine bst ?_ (by first | assumption | exact Nat.le_refl _ | omega) _ | refine bch ?_ (by assumption)))⟩
          case measure => simp [intOf]; omega
        · have hfin : Hid (decide (a = b) = false) := Lib.hid (decide_eq_false (fun h => ne_drop hlt hlt2 hxy (heq.2 h)))
          have hrt : ¬ (a[k].r = b[k].r ∧ a[k].t = b[k].t) := fun h => hxy (by
            cases hx : a[k]; cases hy : b[k]; rw [hx, hy] at h; simp only at h; rw [h.1, h.2])
          clear heq hxy
          generalize a[k] = x at *
          generalize b[k] = y at *
          by_cases hr : x.r = y.r
          · have ht : ¬ x.t = y.t := fun h => hrt ⟨hr, h⟩
            rw [hr] at c0
            clear hrt hr
            go_wp2
            go_quiet (fail)
            go_wp2
            go_ret
            exact ⟨ret_bool hfin.out.symm, by (repeat (first | exact Below.refl _ _ | assumption | refine bal ?_ _ | refine bdr ?_ | refine bdn ?_ _ | refine bst ?_ (by first | assumption | exact Nat.le_refl _ | omega) _ | refine bch ?_ (by assumption)))⟩
          · clear hrt
            go_wp2
            go_quiet (fail)
            go_wp2
            go_ret
            exact ⟨ret_bool hfin.out.symm, by (repeat (first | exact Below.refl _ _ | assumption | refine bal ?_ _ | refine bdr ?_ | refine bdn ?_ _ | refine bst ?_ (by first | assumption | exact Nat.le_refl _ | omega) _ | refine bch ?_ (by assumption)))⟩
      · have hfin : Hid (decide (a = b) = true) := Lib.hid (decide_eq_true (heq.1 (by rw [List.drop_of_length_le (by omega), List.drop_of_length_le (by omega)])))
        clear heq
        go_wp2
        go_ret
        exact ⟨ret_bool hfin.out.symm, by (repeat (first | exact Below.refl _ _ | assumption | refine bal ?_ _ | refine bdr ?_ | refine bdn ?_ _ | refine bst ?_ (by first | assumption | exact Nat.le_refl _ | omega) _ | refine bch ?_ (by assumption)))⟩
  · have hne : Hid (decide (a = b) = false) := Lib.hid (decide_eq_false (fun h => hl (by rw [h])))
    have hle : ((a.length : Int) == (b.length : Int)) = false := by simp; omega
    have hle2 : ((a.length : Int) != (b.length : Int)) = true := by simp; omega
    go_enter Tryd.func99, Tryd.ntmps99
    go_wp2
    go_ret
    exact ⟨ret_bool hne.out.symm, by (repeat (first | exact Below.refl _ _ | assumption | refine bal ?_ _ | refine bdr ?_ | refine bdn ?_ _ | refine bst ?_ (by first | assumption | exact Nat.le_refl _ | omega) _ | refine bch ?_ (by assumption)))⟩
end Go.Proofs.YtpmedolndkidcaaDoor
