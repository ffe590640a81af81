/- Sectors that are written: lists of Dab; keep.light. -/
import Derived.Test.YtdpdnkjpjoccmaaWRepeat
import Derived.Test.YtdpdnkjpjoccmaaWPick
namespace Go.Proofs.Ytdpdnkjpjoccmaa
open Go.RowKit
set_option linter.unusedVariables false
set_option linter.unusedSimpArgs false
structure Dab where
  at_ : Int
  s : ByteArray
  y : Bool
def dabCells (d : Dab) : List Value := [.int .i64 d.at_, .string d.s, .bool d.y]
theorem dabCells_len (d : Dab) : (dabCells d).length = 3 := rfl
abbrev DabsIs (w : World) (v : Value) (l : List Dab) : Prop := ListIs dabCells 3 w v l
def DabOk (d : Dab) : Prop := (Lit.int .i64 d.at_).wf = true ∧ d.s.size ≤ 140737488351232
theorem big_dab (d : Dab) (w : World) :
    Calls Try.prog 21 #[.agg #[.int .i64 d.at_, .string d.s, .bool d.y]] w fun e w' => e = .returned (.bool (decide ((100 : Int) < (d.s.size : Int)))) ∧ Below w.heap.size w w' := by
  go_enter Try.func21, Try.ntmps21
  go_wp2
  go_ret
  exact ⟨rfl, by (repeat (first | exact Below.refl _ _ | assumption | refine bal ?_ _ | refine bdr ?_ | refine bdn ?_ _ | refine bst ?_ (by first | assumption | exact Nat.le_refl _ | omega) _ | refine bch ?_ (by assumption)))⟩
set_option maxHeartbeats 4000000 in
set_option maxRecDepth 20000 in
theorem index_big (v : Value) (l : List Dab) (w : World) (hv : DabsIs w v l) (hl : l.length ≤ 140737488351232) (hr : ∀ d ∈ l, d.s.size ≤ 140737488351232) :
    Calls Try.prog 22 #[v, .func (.func 21) #[] #[]] w fun e w' => (∃ j : Int, e = .returned (.int .i64 j) ∧ decide (0 ≤ j) = l.any (fun d => decide (100 < d.s.size))) ∧ Below w.heap.size w w' := by
  have eg : ∀ args w, (callFunc 21 args).run Try.prog w = .ok (.enter 21 args) w := enters_of Try.func21 (by kernel_rfl) rfl
  obtain ⟨o, c, rfl, hcap, hcell⟩ := hv.at dabCells_len
  clear hcap hv
  replace hcell := Lib.hid hcell
  replace hr := Lib.hid hr
  go_enter Try.func22, Try.ntmps22
  go_wp2
  go_loopw [5, 8] (fun _ i wr => ∃ k : Nat, k ≤ l.length ∧ i = .int .i64 k ∧ (l.drop k).any (fun d => decide (100 < d.s.size)) = l.any (fun d => decide (100 < d.s.size)) ∧ Below w.heap.size w wr) (fun _ i _ => l.length - (intOf i).toNat)
  case atStart => exact ⟨0, by omega, rfl, by simp, by (repeat (first | exact Below.refl _ _ | assumption | refine bal ?_ _ | refine bdr ?_ | refine bdn ?_ _ | refine bst ?_ (by first | assumption | exact Nat.le_refl _ | omega) _ | refine bch ?_ (by assumption)))⟩
  case round =>
    obtain ⟨k, hk, rfl, hany, hbel⟩ := hrel
    by_cases hlt : k < l.length
    · obtain ⟨b1, f1, rfl, hb1, hc1⟩ := hcell.out k hlt
      have hb1 := hb1 (by omega)
      have c0 : wr.cell? ⟨b1, f1 + k * 3, none⟩ = some (.int .i64 l[k].at_) := (hbel.cell (p := ⟨b1, f1 + k * 3, none⟩) hb1).trans (hc1 0 _ rfl)
      have c1 : wr.cell? ⟨b1, f1 + k * 3 + 1, none⟩ = some (.string l[k].s) := (hbel.cell (p := ⟨b1, f1 + k * 3 + 1, none⟩) hb1).trans (hc1 1 _ rfl)
      have c2 : wr.cell? ⟨b1, f1 + k * 3 + 2, none⟩ = some (.bool l[k].y) := (hbel.cell (p := ⟨b1, f1 + k * 3 + 2, none⟩) hb1).trans (hc1 2 _ rfl)
      clear hc1
      rw [List.drop_eq_getElem_cons hlt, List.any_cons] at hany
      have hdr := hr.out l[k] (List.getElem_mem hlt)
      have hbd := Lib.hid (fun W => big_dab l[k] W)
      generalize l[k] = d at *
      by_cases hx : 100 < d.s.size
      · have hd : decide (100 < d.s.size) = true := by simp [hx]
        rw [hd, Bool.true_or] at hany
        have hd2 : decide ((100 : Int) < (d.s.size : Int)) = true := by simp; omega
        rw [hd2] at hbd
        replace hany := Lib.hid hany
        replace hd := Lib.hid hd
        go_wp2_with fail
        refine (hbd.out _).mono ?_
        rintro e w2 ⟨rfl, hb2⟩
        go_wp2
        go_ret
        refine ⟨⟨_, rfl, ?_⟩, bch hbel hb2⟩
        rw [← hany.out]; simp
      · have hd : decide (100 < d.s.size) = false := by simp; omega
        rw [hd, Bool.false_or] at hany
        have hd2 : decide ((100 : Int) < (d.s.size : Int)) = false := by simp; omega
        rw [hd2] at hbd
        replace hany := Lib.hid hany
        replace hd := Lib.hid hd
        go_wp2_with fail
        refine (hbd.out _).mono ?_
        rintro e w2 ⟨rfl, hb2⟩
        go_wp2
        go_roundw
        case rel => exact ⟨k + 1, by omega, by go_num, hany.out, bch hbel hb2⟩
        case measure => simp [intOf]; omega
    · obtain rfl : k = l.length := by omega
      rw [List.drop_of_length_le (Nat.le_refl _)] at hany
      replace hany := Lib.hid hany
      go_wp2
      go_ret
      refine ⟨⟨_, rfl, ?_⟩, hbel⟩
      rw [← hany.out]; rfl
theorem any_big (v : Value) (l : List Dab) (w : World) (hv : DabsIs w v l) (hl : l.length ≤ 140737488351232) (hr : ∀ d ∈ l, d.s.size ≤ 140737488351232) :
    Calls Try.prog 20 #[v, .func (.func 21) #[] #[]] w fun e w' => e = .returned (.bool (l.any (fun d => decide (100 < d.s.size)))) ∧ Below w.heap.size w w' := by
  have hI := Lib.hid (index_big v l w hv hl hr)
  clear hv hr
  go_enter Try.func20, Try.ntmps20
  go_wp2_with fail
  refine hI.out.mono ?_
  rintro e w2 ⟨⟨j, rfl, hj⟩, hb2⟩
  replace hj := Lib.hid hj
  go_wp2
  go_ret
  exact ⟨by rw [← hj.out]; rfl, hb2⟩
def light (l : List Dab) : Bool := decide (l.length ≤ 60) && !(l.any (fun d => decide (100 < d.s.size)))
theorem keep_light (v : Value) (l : List Dab) (w : World) (hv : DabsIs w v l) (hl : l.length ≤ 140737488351232) (hr : ∀ d ∈ l, d.s.size ≤ 140737488351232) :
    Calls Try.prog 5 #[v] w fun e w' => e = .returned (.bool (light l)) ∧ Below w.heap.size w w' := by
  have hA := Lib.hid (any_big v l w hv hl hr)
  obtain ⟨o, c, rfl, hcap, -⟩ := hv.at dabCells_len
  clear hcap hv hr
  by_cases h60 : l.length ≤ 60
  · have hli : Hid (light l = !(l.any (fun d => decide (100 < d.s.size)))) := Lib.hid (by unfold light; simp [h60])
    generalize l.any (fun d => decide (100 < d.s.size)) = q at *
    go_enter Try.func5, Try.ntmps5
    go_wp2_with fail
    refine hA.out.mono ?_
    rintro e w2 ⟨rfl, hb2⟩
    go_wp2
    go_ret
    exact ⟨by rw [hli.out]; rfl, hb2⟩
  · have hli : Hid (light l = false) := Lib.hid (by unfold light; simp [h60])
    clear hA
    go_enter Try.func5, Try.ntmps5
    go_wp2
    go_ret
    exact ⟨by rw [hli.out]; rfl, by (repeat (first | exact Below.refl _ _ | assumption | refine bal ?_ _ | refine bdr ?_ | refine bdn ?_ _ | refine bst ?_ (by first | assumption | exact Nat.le_refl _ | omega) _ | refine bch ?_ (by assumption)))⟩
end Go.Proofs.Ytdpdnkjpjoccmaa
