/- Walks of match: whether tokens are right. -/
import Derived.Test.YtndebohdappilaaDoorWTok
namespace Go.Proofs.YtndebohdappilaaDoor
open Go.RowKit
set_option linter.unusedVariables false
/-- An error at a place. -/
def AtIs (w : World) (v : Value) (x i : Nat) : Prop := ∃ g, v = .iface 98 (.pointer (some ⟨g, 0, none⟩)) ∧ Row w g 100 [.int .i64 x, .int .i64 i]
theorem AtIs.below {w w' : World} {v : Value} {x i : Nat} (h : AtIs w v x i) (hb : Below w.heap.size w w') : AtIs w' v x i := by
  obtain ⟨g, hv, hr⟩ := h; exact ⟨g, hv, hr.below hb⟩
/-- No error, or one at a place. -/
def MaybeAt (w : World) (v : Value) : Option (Nat × Nat) → Prop
  | none => v = .nilIface
  | some (x, i) => AtIs w v x i
def RetMaybeAt (o : Option (Nat × Nat)) (w : World) (e : Ending) (w' : World) : Prop := ∃ v, e = .returned v ∧ MaybeAt w' v o ∧ Below w.heap.size w w'
theorem right_drop (l : List Match.Tok) (k n : Nat) (h : k < l.length) : Match.right (l.drop k) k n = if Match.wrong l[k] n ≠ 0 then some (Match.wrong l[k] n, k) else Match.right (l.drop (k + 1)) (k + 1) (n + Match.adv l[k]) := by
  rw [List.drop_eq_getElem_cons h]; rfl
theorem retAt (w0 w : World) (hb : Below w0.heap.size w0 w) (x i g : Nat) (hg : g = w.heap.size) : RetMaybeAt (some (x, i)) w0 (.returned (.iface 98 (.pointer (some ⟨g, 0, none⟩)))) (w.alloc (.cells #[.int .i64 x, .int .i64 i] 100)) := by
  subst hg
  exact ⟨_, rfl, ⟨w.heap.size, rfl, row_alloc w _ _⟩, bal hb _⟩
theorem right_bad {l r : List Match.Tok} {t : Match.Tok} {k m x : Nat} (h : Match.right l 0 0 = if Match.wrong t m ≠ 0 then some (Match.wrong t m, k) else Match.right r (k + 1) (m + Match.adv t)) (hw : Match.wrong t m = x) (hx : x ≠ 0) : Match.right l 0 0 = some (x, k) := by
  rw [h, hw, if_pos hx]
theorem right_good {l r : List Match.Tok} {t : Match.Tok} {k m : Nat} (h : Match.right l 0 0 = if Match.wrong t m ≠ 0 then some (Match.wrong t m, k) else Match.right r (k + 1) (m + Match.adv t)) (hw : Match.wrong t m = 0) : Match.right r (k + 1) (m + Match.adv t) = Match.right l 0 0 := by
  rw [h, if_neg (by omega)]
theorem bne_t {a : Int} (h : (!a != 0) = true) : a = 0 := by simpa using h
theorem bne_f {a : Int} (h : (!a != 0) = false) : a ≠ 0 := by simpa using h
theorem bne_t' {a : Int} (h : (a != 0) = true) : a ≠ 0 := by simpa using h
theorem bne_f' {a : Int} (h : (a != 0) = false) : a = 0 := by simpa using h
theorem empty_of_size {s : ByteArray} (h : s.size = 0) : s.toList.isEmpty = true := by
  rw [ByteArray.toList_eq, List.isEmpty_iff]; exact List.eq_nil_of_length_eq_zero ((Match.ba_len s).trans h)
theorem nonempty_of_size {s : ByteArray} (h : s.size ≠ 0) : s.toList.isEmpty = false := by
  rw [ByteArray.toList_eq, List.isEmpty_eq_false_iff]; intro e; have := Match.ba_len s; rw [e] at this; exact h this.symm
set_option maxHeartbeats 2000000 in
set_option maxRecDepth 100000 in
theorem match_right (v : Value) (l : List Match.Tok) (w : World) (hv : TokIs w v l) (hl : ∀ t ∈ l, t.own.size ≤ 140737488351232) (hll : l.length ≤ 1000000000) :
    Calls Tryd.prog 97 #[v] w (RetMaybeAt (Match.right l 0 0) w) := by
  obtain ⟨a, cap, rfl, hcap, hcell⟩ := hv.at tokCells_len
  clear hv
  replace hcell := Lib.hid hcell
  replace hcap := Lib.hid hcap
  replace hl := Lib.hid hl
  go_enter Tryd.func97, Tryd.ntmps97
  go_wp2
  go_loopw [3, 10] (fun n i wr => ∃ k m : Nat, k ≤ l.length ∧ i = .int .i64 k ∧ n = .int .i64 m ∧ m ≤ 20000 ∧ Match.right (l.drop k) k m = Match.right l 0 0 ∧ Below w.heap.size w wr) (fun _ i _ => l.length - (intOf i).toNat)
  case atStart => exact ⟨0, 0, by omega, rfl, rfl, by omega, rfl, by (repeat (first | exact Below.refl _ _ | assumption | refine bal ?_ _ | refine bdr ?_ | refine bdn ?_ _ | refine bst ?_ (by first | assumption | exact Nat.le_refl _ | omega) _ | refine bch ?_ (by assumption)))⟩
  case round =>
    obtain ⟨k, m, hk, rfl, rfl, hm, hr, hbel⟩ := hrel
    have hsz := hbel.size
    by_cases hlt : k < l.length
    · obtain ⟨b, off, rfl, hbw, hc⟩ := hcell.out k hlt
      have hbw := hbw (by omega)
      have c0 : wr.cell? ⟨b, off + k * 3, none⟩ = some (.string l[k].own) := (hbel.cell (p := ⟨b, off + k * 3, none⟩) hbw).trans (hc 0 _ rfl)
      have c1 : wr.cell? ⟨b, off + k * 3 + 1, none⟩ = some (.int .i64 l[k].back) := (hbel.cell (p := ⟨b, off + k * 3 + 1, none⟩) hbw).trans (hc 1 _ rfl)
      have c2 : wr.cell? ⟨b, off + k * 3 + 2, none⟩ = some (.int .i64 l[k].size) := (hbel.cell (p := ⟨b, off + k * 3 + 2, none⟩) hbw).trans (hc 2 _ rfl)
      have hrd := right_drop l k m hlt
      rw [hr] at hrd
      have hos := hl.out l[k] (List.getElem_mem hlt)
      clear hc hr
      replace hrd := Lib.hid hrd
      generalize l[k] = t at *
      by_cases ho : t.own.size = 0
      · have hemp : t.own.toList.isEmpty = true := empty_of_size ho
        go_wp2
        all_goals first
          | (go_ret; rw [right_bad (x := 1) hrd.out (by (first | have q := bne_t ‹_› | have q := bne_f ‹_› | have q := bne_t' ‹_› | have q := bne_f' ‹_› | skip); unfold Match.wrong; (repeat' split) <;> first | rfl | omega) (by omega)]; exact retAt w _ (by (repeat (first | exact Below.refl _ _ | assumption | refine bal ?_ _ | refine bdr ?_ | refine bdn ?_ _ | refine bst ?_ (by first | assumption | exact Nat.le_refl _ | omega) _ | refine bch ?_ (by assumption)))) 1 k _ (by simp))
          | (go_ret; rw [right_bad (x := 2) hrd.out (by (first | have q := bne_t ‹_› | have q := bne_f ‹_› | have q := bne_t' ‹_› | have q := bne_f' ‹_› | skip); unfold Match.wrong; (repeat' split) <;> first | rfl | omega) (by omega)]; exact retAt w _ (by (repeat (first | exact Below.refl _ _ | assumption | refine bal ?_ _ | refine bdr ?_ | refine bdn ?_ _ | refine bst ?_ (by first | assumption | exact Nat.le_refl _ | omega) _ | refine bch ?_ (by assumption)))) 2 k _ (by simp))
          | (go_ret; rw [right_bad (x := 4) hrd.out (by (first | have q := bne_t ‹_› | have q := bne_f ‹_› | have q := bne_t' ‹_› | have q := bne_f' ‹_› | skip); unfold Match.wrong; (repeat' split) <;> first | rfl | omega) (by omega)]; exact retAt w _ (by (repeat (first | exact Below.refl _ _ | assumption | refine bal ?_ _ | refine bdr ?_ | refine bdn ?_ _ | refine bst ?_ (by first | assumption | exact Nat.le_refl _ | omega) _ | refine bch ?_ (by assumption)))) 4 k _ (by simp))
          | (go_ret; rw [right_bad (x := 7) hrd.out (by (first | have q := bne_t ‹_› | have q := bne_f ‹_› | have q := bne_t' ‹_› | have q := bne_f' ‹_› | skip); unfold Match.wrong; (repeat' split) <;> first | rfl | omega) (by omega)]; exact retAt w _ (by (repeat (first | exact Below.refl _ _ | assumption | refine bal ?_ _ | refine bdr ?_ | refine bdn ?_ _ | refine bst ?_ (by first | assumption | exact Nat.le_refl _ | omega) _ | refine bch ?_ (by assumption)))) 7 k _ (by simp))
          | skip
        go_roundw
        case rel =>
          have hz : Match.wrong t m = 0 := (by (first | have q := bne_t ‹_› | have q := bne_f ‹_› | have q := bne_t' ‹_› | have q := bne_f' ‹_› | skip); unfold Match.wrong; (repeat' split) <;> first | rfl | omega)
          refine ⟨k + 1, m + Match.adv t, by omega, by go_num, ?_, ?_, right_good hrd.out hz, by (repeat (first | exact Below.refl _ _ | assumption | refine bal ?_ _ | refine bdr ?_ | refine bdn ?_ _ | refine bst ?_ (by first | assumption | exact Nat.le_refl _ | omega) _ | refine bch ?_ (by assumption)))⟩
          · rw [Match.adv_rep ho]; go_num
          · rw [Match.adv_rep ho]; omega
        case measure => simp [intOf]; omega
      · have hemp := nonempty_of_size ho
        go_wp2
        all_goals first
          | (go_ret; rw [right_bad (x := 1) hrd.out (by (first | have q := bne_t ‹_› | have q := bne_f ‹_› | have q := bne_t' ‹_› | have q := bne_f' ‹_› | skip); unfold Match.wrong; (repeat' split) <;> first | rfl | omega) (by omega)]; exact retAt w _ (by (repeat (first | exact Below.refl _ _ | assumption | refine bal ?_ _ | refine bdr ?_ | refine bdn ?_ _ | refine bst ?_ (by first | assumption | exact Nat.le_refl _ | omega) _ | refine bch ?_ (by assumption)))) 1 k _ (by simp))
          | (go_ret; rw [right_bad (x := 2) hrd.out (by (first | have q := bne_t ‹_› | have q := bne_f ‹_› | have q := bne_t' ‹_› | have q := bne_f' ‹_› | skip); unfold Match.wrong; (repeat' split) <;> first | rfl | omega) (by omega)]; exact retAt w _ (by (repeat (first | exact Below.refl _ _ | assumption | refine bal ?_ _ | refine bdr ?_ | refine bdn ?_ _ | refine bst ?_ (by first | assumption | exact Nat.le_refl _ | omega) _ | refine bch ?_ (by assumption)))) 2 k _ (by simp))
          | (go_ret; rw [right_bad (x := 4) hrd.out (by (first | have q := bne_t ‹_› | have q := bne_f ‹_› | have q := bne_t' ‹_› | have q := bne_f' ‹_› | skip); unfold Match.wrong; (repeat' split) <;> first | rfl | omega) (by omega)]; exact retAt w _ (by (repeat (first | exact Below.refl _ _ | assumption | refine bal ?_ _ | refine bdr ?_ | refine bdn ?_ _ | refine bst ?_ (by first | assumption | exact Nat.le_refl _ | omega) _ | refine bch ?_ (by assumption)))) 4 k _ (by simp))
          | (go_ret; rw [right_bad (x := 7) hrd.out (by (first | have q := bne_t ‹_› | have q := bne_f ‹_› | have q := bne_t' ‹_› | have q := bne_f' ‹_› | skip); unfold Match.wrong; (repeat' split) <;> first | rfl | omega) (by omega)]; exact retAt w _ (by (repeat (first | exact Below.refl _ _ | assumption | refine bal ?_ _ | refine bdr ?_ | refine bdn ?_ _ | refine bst ?_ (by first | assumption | exact Nat.le_refl _ | omega) _ | refine bch ?_ (by assumption)))) 7 k _ (by simp))
          | skip
        go_roundw
        case rel =>
          have hz : Match.wrong t m = 0 := (by (first | have q := bne_t ‹_› | have q := bne_f ‹_› | have q := bne_t' ‹_› | have q := bne_f' ‹_› | skip); unfold Match.wrong; (repeat' split) <;> first | rfl | omega)
          refine ⟨k + 1, m + Match.adv t, by omega, by go_num, ?_, ?_, right_good hrd.out hz, by (repeat (first | exact Below.refl _ _ | assumption | refine bal ?_ _ | refine bdr ?_ | refine bdn ?_ _ | refine bst ?_ (by first | assumption | exact Nat.le_refl _ | omega) _ | refine bch ?_ (by assumption)))⟩
          · rw [Match.adv_own ho]; go_num
          · rw [Match.adv_own ho]; omega
        case measure => simp [intOf]; omega
    · obtain rfl : k = l.length := by omega
      have hfin : Hid (Match.right l 0 0 = none) := Lib.hid (by rw [← hr, List.drop_length]; rfl)
      clear hr
      go_wp2
      go_ret
      rw [hfin.out]
      exact ⟨_, rfl, rfl, by (repeat (first | exact Below.refl _ _ | assumption | refine bal ?_ _ | refine bdr ?_ | refine bdn ?_ _ | refine bst ?_ (by first | assumption | exact Nat.le_refl _ | omega) _ | refine bch ?_ (by assumption)))⟩
end Go.Proofs.YtndebohdappilaaDoor
