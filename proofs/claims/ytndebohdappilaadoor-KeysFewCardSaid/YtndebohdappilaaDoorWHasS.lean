/- The walks of slices.Contains and slices.ContainsFunc over strings, with the closure of KeysFew. -/
import Derived.Test.YtndebohdappilaaDoorWConcatS
import Derived.Shelf.Lay
namespace Go.Proofs.YtndebohdappilaaDoor
open Go.RowKit
set_option linter.unusedVariables false
set_option linter.unusedSimpArgs false
/-- Whether a text is among others. -/
def memB (x : ByteArray) (l : List ByteArray) : Bool := l.any fun y => decide (y = x)
theorem memB_yes {x : ByteArray} {l : List ByteArray} (h : x ∈ l) : memB x l = true := by unfold memB; rw [List.any_eq_true]; exact ⟨x, h, by simp⟩
theorem memB_no {x : ByteArray} {l : List ByteArray} (h : x ∉ l) : memB x l = false := by
  unfold memB
  rw [List.any_eq_false]
  intro y hy
  simp only [decide_eq_true_eq]
  intro e; exact h (e ▸ hy)
set_option maxHeartbeats 4000000 in
set_option maxRecDepth 20000 in
theorem index_str (v : Value) (l : List ByteArray) (x : ByteArray) (w : World) (hv : StrsIs w v l) (hl : l.length ≤ 140737488351232) :
    Calls Tryd.prog 61 #[v, .string x] w fun e w' => (∃ j : Int, e = .returned (.int .i64 j) ∧ decide (0 ≤ j) = memB x l) ∧ Below w.heap.size w w' := by
  obtain ⟨o, c, rfl, hcap, hcell⟩ := hv.at strCells_len
  clear hcap hv
  replace hcell := Lib.hid hcell
  go_enter Tryd.func61, Tryd.ntmps61
  go_wp2
  go_loopw [5, 8] (fun _ i wr => ∃ k : Nat, k ≤ l.length ∧ i = .int .i64 k ∧ (x ∈ l.drop k ↔ x ∈ l) ∧ Below w.heap.size w wr) (fun _ i _ => l.length - (intOf i).toNat)
  case atStart => exact ⟨0, by omega, rfl, by simp, by (repeat (first | exact Below.refl _ _ | assumption | refine bal ?_ _ | refine bdr ?_ | refine bdn ?_ _ | refine bst ?_ (by first | assumption | exact Nat.le_refl _ | omega) _ | refine bch ?_ (by assumption)))⟩
  case round =>
    obtain ⟨k, hk, rfl, hany, hbel⟩ := hrel
    by_cases hlt : k < l.length
    · obtain ⟨b1, f1, rfl, hb1, hc1⟩ := hcell.out k hlt
      have hb1 := hb1 (by omega)
      have c0 : wr.cell? ⟨b1, f1 + k, none⟩ = some (.string l[k]) := (hbel.cell (p := ⟨b1, f1 + k, none⟩) hb1).trans (by have := hc1 0 _ rfl; simpa using this)
      clear hc1
      rw [List.drop_eq_getElem_cons hlt, List.mem_cons] at hany
      generalize l[k] = y at *
      replace hany := Lib.hid hany
      by_cases hx : x = y
      · have hq : (x.toList == y.toList) = true := by rw [hx]; simp
        replace hx := Lib.hid hx
        go_wp2
        go_ret
        refine ⟨⟨_, rfl, ?_⟩, hbel⟩
        have h : x ∈ l := hany.out.1 (.inl hx.out)
        rw [memB_yes h]; simp
      · have hq : (x.toList == y.toList) = false := by
          rw [beq_eq_false_iff_ne]
          intro e
          rw [ByteArray.toList_eq, ByteArray.toList_eq] at e
          exact hx (ba_ext e)
        replace hx := Lib.hid hx
        go_wp2
        go_roundw
        case rel => exact ⟨k + 1, by omega, by go_num, ⟨fun h => hany.out.1 (.inr h), fun h => (hany.out.2 h).resolve_left hx.out⟩, hbel⟩
        case measure => simp [intOf]; omega
    · obtain rfl : k = l.length := by omega
      rw [List.drop_of_length_le (Nat.le_refl _)] at hany
      replace hany := Lib.hid hany
      go_wp2
      go_ret
      refine ⟨⟨_, rfl, ?_⟩, hbel⟩
      have h : x ∉ l := fun h => by cases hany.out.2 h
      rw [memB_no h]; rfl
theorem has_str (v : Value) (l : List ByteArray) (x : ByteArray) (w : World) (hv : StrsIs w v l) (hl : l.length ≤ 140737488351232) :
    Calls Tryd.prog 22 #[v, .string x] w fun e w' => e = .returned (.bool (memB x l)) ∧ Below w.heap.size w w' := by
  have hI := Lib.hid (index_str v l x w hv hl)
  clear hv
  generalize memB x l = q at *
  go_enter Tryd.func22, Tryd.ntmps22
  go_wp2_with fail
  refine hI.out.mono ?_
  rintro e w2 ⟨⟨j, rfl, hj⟩, hb2⟩
  replace hj := Lib.hid hj
  go_wp2
  go_ret
  exact ⟨by rw [← hj.out]; rfl, hb2⟩
theorem few_not (g : Nat) (tv : Value) (T : List ByteArray) (x : ByteArray) (w : World) (hg : w.cell? ⟨g, 0, none⟩ = some tv) (hv : StrsIs w tv T) (hl : T.length ≤ 140737488351232) :
    Calls Tryd.prog 24 #[.string x, .pointer (some ⟨g, 0, none⟩)] w fun e w' => e = .returned (.bool (!memB x T)) ∧ Below w.heap.size w w' := by
  have hH := Lib.hid (has_str tv T x w hv hl)
  obtain ⟨o, c, rfl, -, -⟩ := hv.at strCells_len
  clear hv
  generalize memB x T = q at *
  go_enter Tryd.func24, Tryd.ntmps24
  go_wp2_with fail
  refine hH.out.mono ?_
  rintro e w2 ⟨rfl, hb2⟩
  go_wp2
  go_ret
  exact ⟨rfl, hb2⟩
set_option maxHeartbeats 4000000 in
set_option maxRecDepth 20000 in
theorem index_not (v : Value) (l : List ByteArray) (g : Nat) (tv : Value) (T : List ByteArray) (w : World) (hv : StrsIs w v l) (hl : l.length ≤ 140737488351232) (hg : w.cell? ⟨g, 0, none⟩ = some tv) (hT : StrsIs w tv T) (hTl : T.length ≤ 140737488351232) (hall : ∀ x ∈ l, x ∈ T) :
    Calls Tryd.prog 62 #[v, .func (.func 24) #[] #[.pointer (some ⟨g, 0, none⟩)]] w fun e w' => e = .returned (.int .i64 (-1)) ∧ Below w.heap.size w w' := by
  have eg : ∀ args w, (callFunc 24 args).run Tryd.prog w = .ok (.enter 24 args) w := enters_of Tryd.func24 (by kernel_rfl) rfl
  obtain ⟨o, c, rfl, hcap, hcell⟩ := hv.at strCells_len
  clear hcap hv
  have hgl := World.block_lt_of_cell? _ _ hg
  have hnot := Lib.hid (fun W (hW : Below w.heap.size w W) x => few_not g tv T x W (cell_below hW hg) (hT.below (by omega) hW) hTl)
  replace hcell := Lib.hid hcell
  replace hall := Lib.hid hall
  clear hg hT
  go_enter Tryd.func62, Tryd.ntmps62
  go_wp2
  go_loopw [5, 8] (fun _ i wr => ∃ k : Nat, k ≤ l.length ∧ i = .int .i64 k ∧ Below w.heap.size w wr) (fun _ i _ => l.length - (intOf i).toNat)
  case atStart => exact ⟨0, by omega, rfl, by (repeat (first | exact Below.refl _ _ | assumption | refine bal ?_ _ | refine bdr ?_ | refine bdn ?_ _ | refine bst ?_ (by first | assumption | exact Nat.le_refl _ | omega) _ | refine bch ?_ (by assumption)))⟩
  case round =>
    obtain ⟨k, hk, rfl, hbel⟩ := hrel
    by_cases hlt : k < l.length
    · obtain ⟨b1, f1, rfl, hb1, hc1⟩ := hcell.out k hlt
      have hb1 := hb1 (by omega)
      have c0 : wr.cell? ⟨b1, f1 + k, none⟩ = some (.string l[k]) := (hbel.cell (p := ⟨b1, f1 + k, none⟩) hb1).trans (by have := hc1 0 _ rfl; simpa using this)
      clear hc1
      have hx := hall.out l[k] (List.getElem_mem hlt)
      have hn := hnot.out wr hbel l[k]
      rw [memB_yes hx] at hn
      generalize l[k] = y at *
      replace hn := Lib.hid hn
      replace hx := Lib.hid hx
      go_wp2_with fail
      refine hn.out.mono ?_
      rintro e w2 ⟨rfl, hb2⟩
      go_wp2
      go_roundw
      case rel => exact ⟨k + 1, by omega, by go_num, bch hbel hb2⟩
      case measure => simp [intOf]; omega
    · obtain rfl : k = l.length := by omega
      go_wp2
      go_ret
      exact ⟨rfl, hbel⟩
theorem none_not (v : Value) (l : List ByteArray) (g : Nat) (tv : Value) (T : List ByteArray) (w : World) (hv : StrsIs w v l) (hl : l.length ≤ 140737488351232) (hg : w.cell? ⟨g, 0, none⟩ = some tv) (hT : StrsIs w tv T) (hTl : T.length ≤ 140737488351232) (hall : ∀ x ∈ l, x ∈ T) :
    Calls Tryd.prog 23 #[v, .func (.func 24) #[] #[.pointer (some ⟨g, 0, none⟩)]] w fun e w' => e = .returned (.bool false) ∧ Below w.heap.size w w' := by
  have hI := Lib.hid (index_not v l g tv T w hv hl hg hT hTl hall)
  clear hv hg hT hall
  go_enter Tryd.func23, Tryd.ntmps23
  go_wp2_with fail
  refine hI.out.mono ?_
  rintro e w2 ⟨rfl, hb2⟩
  go_wp2
  go_ret
  exact ⟨rfl, hb2⟩
end Go.Proofs.YtndebohdappilaaDoor
