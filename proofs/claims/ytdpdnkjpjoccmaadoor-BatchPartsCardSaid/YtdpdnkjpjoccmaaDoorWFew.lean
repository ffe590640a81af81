/- The walk of keep.few: whether each of the vectors is right. -/
import Derived.Test.YtdpdnkjpjoccmaaDoorWVec2
namespace Go.Proofs.YtdpdnkjpjoccmaaDoor
open Go.RowKit
set_option linter.unusedVariables false
def fewB (ls : List (List Vec.Entry)) : Bool := ls.all fun l => decide (Vec.right l = .ok)
theorem few_drop (ls : List (List Vec.Entry)) (k : Nat) (h : k < ls.length) : fewB (ls.drop k) = (decide (Vec.right ls[k] = .ok) && fewB (ls.drop (k + 1))) := by
  rw [List.drop_eq_getElem_cons h]; rfl
set_option maxHeartbeats 2000000 in
set_option maxRecDepth 100000 in
theorem keep_few (vs : List Value) (ls : List (List Vec.Entry)) (g : Nat) (w : World) (hn : vs.length = ls.length) (hn2 : ls.length ≤ 1000) (hc : ∀ k (h : k < vs.length), w.cell? ⟨g, k, none⟩ = some vs[k]) (hv : ∀ k (h : k < vs.length) (h2 : k < ls.length), VecIs w vs[k] ls[k]) (hl : ∀ l ∈ ls, l.length ≤ 140737488351232) :
    Calls Tryd.prog 34 #[.slice (some ⟨g, 0, none⟩) ls.length ls.length] w fun e w' => e = .returned (.bool (fewB ls)) ∧ Below w.heap.size w w' := by
  replace hc := Lib.hid hc
  replace hv := Lib.hid hv
  replace hl := Lib.hid hl
  go_enter Tryd.func34, Tryd.ntmps34
  go_wp2
  go_loopw [7] (fun i wr => ∃ k : Nat, i = .int .i64 k ∧ k ≤ ls.length ∧ fewB (ls.drop k) = fewB ls ∧ Below w.heap.size w wr) (fun i _ => ls.length - (intOf i).toNat)
  case atStart => exact ⟨0, rfl, by omega, rfl, by (repeat (first | exact Below.refl _ _ | assumption | refine bal ?_ _ | refine bdr ?_ | refine bdn ?_ _ | refine bst ?_ (by first | assumption | exact Nat.le_refl _ | omega) _ | refine bch ?_ (by assumption)))⟩
  case round =>
    obtain ⟨k, rfl, hk, hf, hbel⟩ := hrel
    have hsz := hbel.size
    by_cases hlt : k < ls.length
    · have hkv : k < vs.length := by omega
      have h1 := hv.out k hkv hlt
      have h2 := hl.out _ (List.getElem_mem hlt)
      have ck := cell_below hbel (hc.out k hkv)
      have hA := vector_right vs[k] ls[k] wr (h1.below hbel) h2
      rw [few_drop ls k hlt] at hf
      obtain ⟨a, cap, e, -, -⟩ := h1.list.at entCells_len
      rw [e] at ck hA
      clear h1 e
      generalize ls[k] = x at *
      replace hA := Lib.hid hA
      by_cases h16 : 16 < x.length
      · have hr : Hid (fewB ls = false) := Lib.hid (by rw [← hf, show Vec.right x = .no 4 from by unfold Vec.right; rw [if_pos h16]]; rfl)
        replace hf := Lib.hid hf
        go_wp2
        go_ret
        rw [hr.out]
        exact ⟨rfl, by (repeat (first | exact Below.refl _ _ | assumption | refine bal ?_ _ | refine bdr ?_ | refine bdn ?_ _ | refine bst ?_ (by first | assumption | exact Nat.le_refl _ | omega) _ | refine bch ?_ (by assumption)))⟩
      · have d16 : decide ((16 : Int) < (x.length : Int)) = false := by simp; omega
        replace hf := Lib.hid hf
        go_wp2_with fail
        refine hA.out.mono ?_
        rintro e w1 ⟨v1, rfl, hv1, hb1⟩
        by_cases hok : Vec.right x = .ok
        · rw [hok] at hv1
          have hv1 : v1 = .nilIface := hv1
          subst hv1
          go_wp2
          go_roundw
          case rel => exact ⟨k + 1, by go_num, by omega, by rw [← hf.out, hok]; simp, by (repeat (first | exact Below.refl _ _ | assumption | refine bal ?_ _ | refine bdr ?_ | refine bdn ?_ _ | refine bst ?_ (by first | assumption | exact Nat.le_refl _ | omega) _ | refine bch ?_ (by assumption)))⟩
          case measure => simp [intOf]; omega
        · obtain ⟨t, y, rfl⟩ := errNe hv1 hok
          have hr : Hid (fewB ls = false) := Lib.hid (by rw [← hf.out]; simp [hok])
          go_wp2
          go_ret
          rw [hr.out]
          exact ⟨rfl, by (repeat (first | exact Below.refl _ _ | assumption | refine bal ?_ _ | refine bdr ?_ | refine bdn ?_ _ | refine bst ?_ (by first | assumption | exact Nat.le_refl _ | omega) _ | refine bch ?_ (by assumption)))⟩
    · obtain rfl : k = ls.length := by omega
      have hr : Hid (fewB ls = true) := Lib.hid (by rw [← hf, List.drop_length]; rfl)
      go_wp2
      go_ret
      rw [hr.out]
      exact ⟨rfl, by (repeat (first | exact Below.refl _ _ | assumption | refine bal ?_ _ | refine bdr ?_ | refine bdn ?_ _ | refine bst ?_ (by first | assumption | exact Nat.le_refl _ | omega) _ | refine bch ?_ (by assumption)))⟩
end Go.Proofs.YtdpdnkjpjoccmaaDoor
