/- The walk of slices.Equal over strings; lists of strings. -/
import Derived.Test.YtognjohloobliaaDoorLib4
namespace Go.Proofs.YtognjohloobliaaDoor
open Go.RowKit
set_option linter.unusedVariables false
theorem eqs_drop {a b : List ByteArray} {k : Nat} (ha : k < a.length) (hb : k < b.length) (he : a[k] = b[k]) : (a.drop k = b.drop k) ↔ (a.drop (k + 1) = b.drop (k + 1)) := by
  rw [List.drop_eq_getElem_cons ha, List.drop_eq_getElem_cons hb, he]; exact List.cons_inj_right _
theorem nes_drop {a b : List ByteArray} {k : Nat} (ha : k < a.length) (hb : k < b.length) (he : a[k] ≠ b[k]) : a.drop k ≠ b.drop k := by
  rw [List.drop_eq_getElem_cons ha, List.drop_eq_getElem_cons hb]; intro h; injection h with h _; exact he h
set_option maxHeartbeats 2000000 in
theorem eq_strs (va vb : Value) (a b : List ByteArray) (w : World) (ha : StrsIs w va a) (hb : StrsIs w vb b) (hla : a.length ≤ 140737488351232) (hlb : b.length ≤ 140737488351232) :
    Calls Tryd.prog 7 #[va, vb] w fun e w' => e = .returned (.bool (decide (a = b))) ∧ Below w.heap.size w w' := by
  obtain ⟨oa, ca, rfl, hca, hcella⟩ := ha.at strCells_len
  obtain ⟨ob, cb, rfl, hcb, hcellb⟩ := hb.at strCells_len
  clear ha hb hca hcb
  replace hcella := Lib.hid hcella
  replace hcellb := Lib.hid hcellb
  by_cases hl : a.length = b.length
  · have hl1 : a.length ≤ b.length := by omega
    have hl2 : b.length ≤ a.length := by omega
    have hle : ((a.length : Int) == (b.length : Int)) = true := by simp; omega
    have hle2 : ((a.length : Int) != (b.length : Int)) = false := by simp; omega
    replace hl := Lib.hid hl
    go_enter Tryd.func7, Tryd.ntmps7
    go_wp2
    go_loopw [13] (fun i wr => ∃ k : Nat, k ≤ a.length ∧ i = .int .i64 k ∧ (a.drop k = b.drop k ↔ a = b) ∧ Below w.heap.size w wr) (fun i _ => a.length - (intOf i).toNat)
    case atStart => exact ⟨0, by omega, rfl, by simp, by exact blw⟩
    case round =>
      obtain ⟨k, hk, rfl, heq, hbel⟩ := hrel
      have hsz := hbel.size
      by_cases hlt : k < a.length
      · have hlt2 : k < b.length := by omega
        obtain ⟨b1, f1, rfl, hb1, hc1⟩ := hcella.out k hlt
        obtain ⟨b2, f2, rfl, hb2, hc2⟩ := hcellb.out k hlt2
        have hb1 := hb1 (by omega)
        have hb2 := hb2 (by omega)
        have c0 : wr.cell? ⟨b1, f1 + k, none⟩ = some (.string a[k]) := (hbel.cell (p := ⟨b1, f1 + k, none⟩) hb1).trans (by have := hc1 0 _ rfl; simpa using this)
        have c2 : wr.cell? ⟨b2, f2 + k, none⟩ = some (.string b[k]) := (hbel.cell (p := ⟨b2, f2 + k, none⟩) hb2).trans (by have := hc2 0 _ rfl; simpa using this)
        clear hc1 hc2
        by_cases hxy : a[k] = b[k]
        · have hnx : Hid (a.drop (k + 1) = b.drop (k + 1) ↔ a = b) := Lib.hid ((eqs_drop hlt hlt2 hxy).symm.trans heq)
          rw [hxy] at c0
          replace hxy := Lib.hid hxy
          clear heq
          generalize b[k] = y at *
          have e1 : (y.toList == y.toList) = true := by simp
          go_wp2
          go_quiet (fail)
          go_wp2
          go_roundw
          case rel => exact ⟨k + 1, by omega, by go_num, hnx.out, by exact blw⟩
          case measure => simp [intOf]; omega
        · have hfin : Hid (decide (a = b) = false) := Lib.hid (decide_eq_false (fun h => nes_drop hlt hlt2 hxy (heq.2 h)))
          have hne := ba_list_ne hxy
          replace hxy := Lib.hid hxy
          clear heq
          generalize a[k] = x at *
          generalize b[k] = y at *
          go_wp2
          go_quiet (fail)
          go_wp2
          go_ret
          exact ⟨ret_bool hfin.out.symm, by exact blw⟩
      · have hfin : Hid (decide (a = b) = true) := Lib.hid (decide_eq_true (heq.1 (by rw [List.drop_of_length_le (by omega), List.drop_of_length_le (by omega)])))
        clear heq
        go_wp2
        go_ret
        exact ⟨ret_bool hfin.out.symm, by exact blw⟩
  · have hne : Hid (decide (a = b) = false) := Lib.hid (decide_eq_false (fun h => hl (by rw [h])))
    have hle : ((a.length : Int) == (b.length : Int)) = false := by simp; omega
    have hle2 : ((a.length : Int) != (b.length : Int)) = true := by simp; omega
    go_enter Tryd.func7, Tryd.ntmps7
    go_wp2
    go_ret
    exact ⟨ret_bool hne.out.symm, by exact blw⟩
end Go.Proofs.YtognjohloobliaaDoor
