/- slices.Equal over writes, whatever they are. -/
import Derived.Test.YtdbpiabcpjgblaaDoorWBatch
import Derived.Test.YtdbpiabcpjgblaaDoorLib4
namespace Go.Proofs.YtdbpiabcpjgblaaDoor
open Go.RowKit
set_option linter.unusedVariables false
set_option linter.unusedSimpArgs false
instance : DecidableEq WrB := fun a b => decidable_of_iff (a.t = b.t ∧ a.r = b.r ∧ a.k = b.k ∧ a.key = b.key ∧ a.val = b.val ∧ a.n = b.n) (by cases a; cases b; simp)
theorem wrb_ext {x y : WrB} (h : x.t = y.t ∧ x.r = y.r ∧ x.k = y.k ∧ x.key = y.key ∧ x.val = y.val ∧ x.n = y.n) : x = y := by
  cases x; cases y; simp only [WrB.mk.injEq] at *; exact h
theorem ba_ne {x y : ByteArray} (h : ¬ x = y) : (x.toList == y.toList) = false := by
  rw [beq_eq_false_iff_ne]
  intro e
  rw [ByteArray.toList_eq, ByteArray.toList_eq] at e
  exact h (ba_ext e)
theorem eqw_drop {a b : List WrB} {k : Nat} (ha : k < a.length) (hb : k < b.length) (he : a[k] = b[k]) : (a.drop k = b.drop k) ↔ (a.drop (k + 1) = b.drop (k + 1)) := by
  rw [List.drop_eq_getElem_cons ha, List.drop_eq_getElem_cons hb, he]; exact List.cons_inj_right _
theorem new_drop {a b : List WrB} {k : Nat} (ha : k < a.length) (hb : k < b.length) (he : a[k] ≠ b[k]) : a.drop k ≠ b.drop k := by
  rw [List.drop_eq_getElem_cons ha, List.drop_eq_getElem_cons hb]; intro h; injection h with h _; exact he h
set_option maxHeartbeats 8000000 in
theorem eq_wrs (va vb : Value) (a b : List WrB) (w : World) (ha : WrsIs w va a) (hb : WrsIs w vb b) (hla : a.length ≤ 140737488351232) (hlb : b.length ≤ 140737488351232) :
    Calls Tryd.prog 12 #[va, vb] w fun e w' => e = .returned (.bool (decide (a = b))) ∧ Below w.heap.size w w' := by
  obtain ⟨oa, ca, rfl, -, hcella⟩ := ListIs.at ha wrBCells_len
  obtain ⟨ob, cb, rfl, -, hcellb⟩ := ListIs.at hb wrBCells_len
  clear ha hb
  replace hcella := Lib.hid hcella
  replace hcellb := Lib.hid hcellb
  by_cases hl : a.length = b.length
  · have hl1 : a.length ≤ b.length := by omega
    have hl2 : b.length ≤ a.length := by omega
    have hle : ((a.length : Int) == (b.length : Int)) = true := by simp; omega
    have hle2 : ((a.length : Int) != (b.length : Int)) = false := by simp; omega
    replace hl := Lib.hid hl
    go_enter Tryd.func12, Tryd.ntmps12
    go_wp2
    go_loopw [13] (fun i wr => ∃ k : Nat, k ≤ a.length ∧ i = .int .i64 k ∧ (a.drop k = b.drop k ↔ a = b) ∧ Below w.heap.size w wr) (fun i _ => a.length - (intOf i).toNat)
    case atStart => exact ⟨0, by omega, rfl, by simp, by (repeat (first | exact Below.refl _ _ | assumption | refine bal ?_ _ | refine bdr ?_ | refine bdn ?_ _ | refine bst ?_ (by first | assumption | exact Nat.le_refl _ | omega) _ | refine bch ?_ (by assumption)))⟩
    case round =>
      obtain ⟨k, hk, rfl, heq, hbel⟩ := hrel
      have hsz := hbel.size
      by_cases hlt : k < a.length
      · have hlt2 : k < b.length := by omega
        obtain ⟨b1, f1, rfl, hb1, hc1⟩ := hcella.out k hlt
        obtain ⟨b2, f2, rfl, hb2, hc2⟩ := hcellb.out k hlt2
        have hb1 := hb1 (by omega)
        have hb2 := hb2 (by omega)
        have c0 : wr.cell? ⟨b1, f1 + k * 6, none⟩ = some (.int .i64 a[k].t) := (hbel.cell (p := ⟨b1, f1 + k * 6, none⟩) hb1).trans (hc1 0 _ rfl)
        have c1 : wr.cell? ⟨b1, f1 + k * 6 + 1, none⟩ = some (.int .i64 a[k].r) := (hbel.cell (p := ⟨b1, f1 + k * 6 + 1, none⟩) hb1).trans (hc1 1 _ rfl)
        have c2 : wr.cell? ⟨b1, f1 + k * 6 + 2, none⟩ = some (.int .i64 a[k].k) := (hbel.cell (p := ⟨b1, f1 + k * 6 + 2, none⟩) hb1).trans (hc1 2 _ rfl)
        have c3 : wr.cell? ⟨b1, f1 + k * 6 + 3, none⟩ = some (.string a[k].key) := (hbel.cell (p := ⟨b1, f1 + k * 6 + 3, none⟩) hb1).trans (hc1 3 _ rfl)
        have c4 : wr.cell? ⟨b1, f1 + k * 6 + 4, none⟩ = some (.string a[k].val) := (hbel.cell (p := ⟨b1, f1 + k * 6 + 4, none⟩) hb1).trans (hc1 4 _ rfl)
        have c5 : wr.cell? ⟨b1, f1 + k * 6 + 5, none⟩ = some (.int .i64 a[k].n) := (hbel.cell (p := ⟨b1, f1 + k * 6 + 5, none⟩) hb1).trans (hc1 5 _ rfl)
        have d0 : wr.cell? ⟨b2, f2 + k * 6, none⟩ = some (.int .i64 b[k].t) := (hbel.cell (p := ⟨b2, f2 + k * 6, none⟩) hb2).trans (hc2 0 _ rfl)
        have d1 : wr.cell? ⟨b2, f2 + k * 6 + 1, none⟩ = some (.int .i64 b[k].r) := (hbel.cell (p := ⟨b2, f2 + k * 6 + 1, none⟩) hb2).trans (hc2 1 _ rfl)
        have d2 : wr.cell? ⟨b2, f2 + k * 6 + 2, none⟩ = some (.int .i64 b[k].k) := (hbel.cell (p := ⟨b2, f2 + k * 6 + 2, none⟩) hb2).trans (hc2 2 _ rfl)
        have d3 : wr.cell? ⟨b2, f2 + k * 6 + 3, none⟩ = some (.string b[k].key) := (hbel.cell (p := ⟨b2, f2 + k * 6 + 3, none⟩) hb2).trans (hc2 3 _ rfl)
        have d4 : wr.cell? ⟨b2, f2 + k * 6 + 4, none⟩ = some (.string b[k].val) := (hbel.cell (p := ⟨b2, f2 + k * 6 + 4, none⟩) hb2).trans (hc2 4 _ rfl)
        have d5 : wr.cell? ⟨b2, f2 + k * 6 + 5, none⟩ = some (.int .i64 b[k].n) := (hbel.cell (p := ⟨b2, f2 + k * 6 + 5, none⟩) hb2).trans (hc2 5 _ rfl)
        clear hc1 hc2
        by_cases hxy : a[k] = b[k]
        · have hnx : Hid (a.drop (k + 1) = b.drop (k + 1) ↔ a = b) := Lib.hid ((eqw_drop hlt hlt2 hxy).symm.trans heq)
          rw [hxy] at c0 c1 c2 c3 c4 c5
          replace hxy := Lib.hid hxy
          clear heq
          generalize b[k] = y at *
          have e0 : (y.t == y.t) = true := by simp
          have e1 : (y.r == y.r) = true := by simp
          have e2 : (y.k == y.k) = true := by simp
          have e3 : (y.key.toList == y.key.toList) = true := by simp
          have e4 : (y.val.toList == y.val.toList) = true := by simp
          have e5 : (y.n == y.n) = true := by simp
          go_wp2
          go_quiet (fail)
          go_wp2
          go_roundw
          case rel => exact ⟨k + 1, by omega, by go_num, hnx.out, by (repeat (first | exact Below.refl _ _ | assumption | refine bal ?_ _ | refine bdr ?_ | refine bdn ?_ _ | refine bst ?_ (by first | assumption | exact Nat.le_refl _ | omega) _ | refine bch ?_ (by assumption)))⟩
          case measure => simp [intOf]; omega
        · have hfin : Hid (decide (a = b) = false) := Lib.hid (decide_eq_false (fun h => new_drop hlt hlt2 hxy (heq.2 h)))
          have hrt : ¬ (a[k].t = b[k].t ∧ a[k].r = b[k].r ∧ a[k].k = b[k].k ∧ a[k].key = b[k].key ∧ a[k].val = b[k].val ∧ a[k].n = b[k].n) := fun h => hxy (wrb_ext h)
          clear heq hxy
          generalize a[k] = x at *
          generalize b[k] = y at *
          by_cases g0 : x.t = y.t
          · skip
            by_cases g1 : x.r = y.r
            · skip
              by_cases g2 : x.k = y.k
              · skip
                by_cases g3 : x.key = y.key
                · skip
                  by_cases g4 : x.val = y.val
                  · skip
                    by_cases g5 : x.n = y.n
                    · skip
                      exact absurd ⟨g0, g1, g2, g3, g4, g5⟩ hrt
                    · skip
                      rw [g0] at c0
                      rw [g1] at c1
                      rw [g2] at c2
                      rw [g3] at c3
                      rw [g4] at c4
                      have e0 : (y.t == y.t) = true := by simp
                      have e1 : (y.r == y.r) = true := by simp
                      have e2 : (y.k == y.k) = true := by simp
                      have e3 : (y.key.toList == y.key.toList) = true := by simp
                      have e4 : (y.val.toList == y.val.toList) = true := by simp
                      have hne : (x.n == y.n) = false := by simp; exact g5
                      clear hrt
                      replace g0 := Lib.hid g0
                      replace g1 := Lib.hid g1
                      replace g2 := Lib.hid g2
                      replace g3 := Lib.hid g3
                      replace g4 := Lib.hid g4
                      replace g5 := Lib.hid g5
                      go_wp2
                      go_quiet (fail)
                      go_wp2
                      go_ret
                      exact ⟨ret_bool hfin.out.symm, by (repeat (first | exact Below.refl _ _ | assumption | refine bal ?_ _ | refine bdr ?_ | refine bdn ?_ _ | refine bst ?_ (by first | assumption | exact Nat.le_refl _ | omega) _ | refine bch ?_ (by assumption)))⟩
                  · skip
                    rw [g0] at c0
                    rw [g1] at c1
                    rw [g2] at c2
                    rw [g3] at c3
                    have e0 : (y.t == y.t) = true := by simp
                    have e1 : (y.r == y.r) = true := by simp
                    have e2 : (y.k == y.k) = true := by simp
                    have e3 : (y.key.toList == y.key.toList) = true := by simp
                    have hne := ba_ne g4
                    clear hrt
                    replace g0 := Lib.hid g0
                    replace g1 := Lib.hid g1
                    replace g2 := Lib.hid g2
                    replace g3 := Lib.hid g3
                    replace g4 := Lib.hid g4
                    go_wp2
                    go_quiet (fail)
                    go_wp2
                    go_ret
                    exact ⟨ret_bool hfin.out.symm, by (repeat (first | exact Below.refl _ _ | assumption | refine bal ?_ _ | refine bdr ?_ | refine bdn ?_ _ | refine bst ?_ (by first | assumption | exact Nat.le_refl _ | omega) _ | refine bch ?_ (by assumption)))⟩
                · skip
                  rw [g0] at c0
                  rw [g1] at c1
                  rw [g2] at c2
                  have e0 : (y.t == y.t) = true := by simp
                  have e1 : (y.r == y.r) = true := by simp
                  have e2 : (y.k == y.k) = true := by simp
                  have hne := ba_ne g3
                  clear hrt
                  replace g0 := Lib.hid g0
                  replace g1 := Lib.hid g1
                  replace g2 := Lib.hid g2
                  replace g3 := Lib.hid g3
                  go_wp2
                  go_quiet (fail)
                  go_wp2
                  go_ret
                  exact ⟨ret_bool hfin.out.symm, by (repeat (first | exact Below.refl _ _ | assumption | refine bal ?_ _ | refine bdr ?_ | refine bdn ?_ _ | refine bst ?_ (by first | assumption | exact Nat.le_refl _ | omega) _ | refine bch ?_ (by assumption)))⟩
              · skip
                rw [g0] at c0
                rw [g1] at c1
                have e0 : (y.t == y.t) = true := by simp
                have e1 : (y.r == y.r) = true := by simp
                have hne : (x.k == y.k) = false := by simp; exact g2
                clear hrt
                replace g0 := Lib.hid g0
                replace g1 := Lib.hid g1
                replace g2 := Lib.hid g2
                go_wp2
                go_quiet (fail)
                go_wp2
                go_ret
                exact ⟨ret_bool hfin.out.symm, by (repeat (first | exact Below.refl _ _ | assumption | refine bal ?_ _ | refine bdr ?_ | refine bdn ?_ _ | refine bst ?_ (by first | assumption | exact Nat.le_refl _ | omega) _ | refine bch ?_ (by assumption)))⟩
            · skip
              rw [g0] at c0
              have e0 : (y.t == y.t) = true := by simp
              have hne : (x.r == y.r) = false := by simp; exact g1
              clear hrt
              replace g0 := Lib.hid g0
              replace g1 := Lib.hid g1
              go_wp2
              go_quiet (fail)
              go_wp2
              go_ret
              exact ⟨ret_bool hfin.out.symm, by (repeat (first | exact Below.refl _ _ | assumption | refine bal ?_ _ | refine bdr ?_ | refine bdn ?_ _ | refine bst ?_ (by first | assumption | exact Nat.le_refl _ | omega) _ | refine bch ?_ (by assumption)))⟩
          · skip
            have hne : (x.t == y.t) = false := by simp; exact g0
            clear hrt
            replace g0 := Lib.hid g0
            go_wp2
            go_quiet (fail)
            go_wp2
            go_ret
            exact ⟨ret_bool hfin.out.symm, by (repeat (first | exact Below.refl _ _ | assumption | refine bal ?_ _ | refine bdr ?_ | refine bdn ?_ _ | refine bst ?_ (by first | assumption | exact Nat.le_refl _ | omega) _ | refine bch ?_ (by assumption)))⟩
      · have hfin : Hid (decide (a = b) = true) := Lib.hid (decide_eq_true (heq.1 (by rw [List.drop_of_length_le (by omega), List.drop_of_length_le (by omega)])))
        clear heq
        go_wp2
        go_ret
        exact ⟨ret_bool hfin.out.symm, by (repeat (first | exact Below.refl _ _ | assumption | refine bal ?_ _ | refine bdr ?_ | refine bdn ?_ _ | refine bst ?_ (by first | assumption | exact Nat.le_refl _ | omega) _ | refine bch ?_ (by assumption)))⟩
  · have hne : Hid (decide (a = b) = false) := Lib.hid (decide_eq_false (fun h => hl (by rw [h])))
    have hle : ((a.length : Int) == (b.length : Int)) = false := by simp; omega
    have hle2 : ((a.length : Int) != (b.length : Int)) = true := by simp; omega
    go_enter Tryd.func12, Tryd.ntmps12
    go_wp2
    go_ret
    exact ⟨ret_bool hne.out.symm, by (repeat (first | exact Below.refl _ _ | assumption | refine bal ?_ _ | refine bdr ?_ | refine bdn ?_ _ | refine bst ?_ (by first | assumption | exact Nat.le_refl _ | omega) _ | refine bch ?_ (by assumption)))⟩
end Go.Proofs.YtdbpiabcpjgblaaDoor
