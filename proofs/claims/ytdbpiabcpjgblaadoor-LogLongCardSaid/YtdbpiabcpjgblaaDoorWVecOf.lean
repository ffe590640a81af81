/- The walk of vector.Of, and of ident.Within. -/
import Derived.Test.YtdbpiabcpjgblaaDoorLib4
import Derived.Test.YtdbpiabcpjgblaaDoorRows
import Derived.Test.YtdbpiabcpjgblaaDoorPlainVecRd
import Derived.Deep.RegionHeld3
import Derived.Deep.RegionWith
namespace Go.Proofs.YtdbpiabcpjgblaaDoor
open Go.RowKit
set_option linter.unusedVariables false
def entryCells (l : List Vec.Entry) : List Value := l.flatMap fun x => [.int .i64 x.r, .int .i64 x.t]
theorem entryCells_len (l : List Vec.Entry) : (entryCells l).length = l.length * 2 := by
  induction l with
  | nil => rfl
  | cons x l ih => simp [entryCells] at *; omega
theorem entryCells_r (l : List Vec.Entry) (k : Nat) (h : k < l.length) : (entryCells l)[k * 2]? = some (.int .i64 l[k].r) := by
  induction l generalizing k with
  | nil => simp at h
  | cons x l ih =>
    cases k with
    | zero => rfl
    | succ k =>
      have e : (k + 1) * 2 = k * 2 + 1 + 1 := by omega
      rw [e]
      simpa [entryCells] using ih k (by simpa using h)
theorem entryCells_t (l : List Vec.Entry) (k : Nat) (h : k < l.length) : (entryCells l)[k * 2 + 1]? = some (.int .i64 l[k].t) := by
  induction l generalizing k with
  | nil => simp at h
  | cons x l ih =>
    cases k with
    | zero => rfl
    | succ k =>
      have e : (k + 1) * 2 + 1 = k * 2 + 1 + 1 + 1 := by omega
      rw [e]
      simpa [entryCells] using ih k (by simpa using h)
/-- A slice that reads as a vector. -/
def VecIs (w : World) (v : Value) (l : List Vec.Entry) : Prop := SliceIs w v l.length 2 (entryCells l)
theorem VecIs.below {w w' : World} {v : Value} {l : List Vec.Entry} (h : VecIs w v l) (hb : Below w.heap.size w w') : VecIs w' v l := SliceIs.below h (by omega) hb
set_option maxHeartbeats 1000000 in
theorem vector_of (v : Value) (l : List Vec.Entry) (r : Int) (w : World) (hv : VecIs w v l) :
    Calls Tryd.prog 29 #[v, .int .i64 r] w fun e w' => e = .returned (.int .i64 (Vec.of l r)) ∧ Below w.heap.size w w' := by
  rcases hv.2 with ⟨h0, a, cap, rfl⟩ | ⟨h0, b, off, cap, rfl, hc, hm, hcell⟩
  · have hl : l = [] := List.length_eq_zero_iff.1 h0
    subst hl
    clear hv h0
    go_enter Tryd.func29, Tryd.ntmps29
    go_wp2
    refine wp_loop_rounds 1 ?_
    rw [rounds_succ]
    go_wp2
    go_ret
    exact ⟨rfl, by (repeat (first | exact Below.refl _ _ | assumption | refine bal ?_ _ | refine bdr ?_ | refine bdn ?_ _ | refine bst ?_ (by first | assumption | exact Nat.le_refl _ | omega) _ | refine bch ?_ (by assumption)))⟩
  · unfold maxLen at hm
    have hbl : b < w.heap.size := World.block_lt_of_cell? w _ (hcell 0 (by rw [entryCells_len]; omega))
    have hcr : ∀ k (h : k < l.length), w.cell? ⟨b, off + k * 2, none⟩ = some (.int .i64 l[k].r) := fun k h => by
      rw [hcell (k * 2) (by rw [entryCells_len]; omega), ← List.getElem?_eq_getElem, entryCells_r l k h]
    have hct : ∀ k (h : k < l.length), w.cell? ⟨b, off + k * 2 + 1, none⟩ = some (.int .i64 l[k].t) := fun k h => by
      rw [Nat.add_assoc, hcell (k * 2 + 1) (by rw [entryCells_len]; omega), ← List.getElem?_eq_getElem, entryCells_t l k h]
    replace hcr := Lib.hid hcr
    replace hct := Lib.hid hct
    clear hcell hv
    go_enter Tryd.func29, Tryd.ntmps29
    go_wp2

    go_loopw [9] (fun i wr => ∃ k : Nat, k ≤ l.length ∧ i = .int .i64 k ∧ Vec.of (l.drop k) r = Vec.of l r ∧ Below w.heap.size w wr) (fun i _ => l.length - (intOf i).toNat)
    case atStart => exact ⟨0, by omega, rfl, rfl, by (repeat (first | exact Below.refl _ _ | assumption | refine bal ?_ _ | refine bdr ?_ | refine bdn ?_ _ | refine bst ?_ (by first | assumption | exact Nat.le_refl _ | omega) _ | refine bch ?_ (by assumption)))⟩
    case round =>
      obtain ⟨k, hk, rfl, hof, hbel⟩ := hrel
      by_cases hlt : k < l.length
      · have hof2 := Lib.hid (hof.symm.trans (Vec.of_drop l k r hlt))
        have c0 : wr.cell? ⟨b, off + k * 2, none⟩ = some (.int .i64 l[k].r) := (hbel.cell (p := ⟨b, off + k * 2, none⟩) hbl).trans (hcr.out k hlt)
        have c1 : wr.cell? ⟨b, off + k * 2 + 1, none⟩ = some (.int .i64 l[k].t) := (hbel.cell (p := ⟨b, off + k * 2 + 1, none⟩) hbl).trans (hct.out k hlt)
        clear hof
        have hsz := hbel.size
        by_cases hr : l[k].r = r
        · have hrb : (l[k].r == r) = true := by simp [hr]
          replace hr := Lib.hid hr
          go_wp2
          go_ret
          exact ⟨ret_int (by rw [hof2.out, if_pos hr.out]), by (repeat (first | exact Below.refl _ _ | assumption | refine bal ?_ _ | refine bdr ?_ | refine bdn ?_ _ | refine bst ?_ (by first | assumption | exact Nat.le_refl _ | omega) _ | refine bch ?_ (by assumption)))⟩
        · have hrb : (l[k].r == r) = false := by simp [hr]
          replace hr := Lib.hid hr
          go_wp2
          go_roundw
          case rel => exact ⟨k + 1, by omega, by go_num, by rw [hof2.out, if_neg hr.out], by (repeat (first | exact Below.refl _ _ | assumption | refine bal ?_ _ | refine bdr ?_ | refine bdn ?_ _ | refine bst ?_ (by first | assumption | exact Nat.le_refl _ | omega) _ | refine bch ?_ (by assumption)))⟩
          case measure => simp [intOf]; omega
      · have hfin : Hid (Vec.of l r = 0) := Lib.hid (by rw [← hof, List.drop_of_length_le (by omega)]; rfl)
        clear hof
        go_wp2
        go_ret
        exact ⟨ret_int hfin.out.symm, by (repeat (first | exact Below.refl _ _ | assumption | refine bal ?_ _ | refine bdr ?_ | refine bdn ?_ _ | refine bst ?_ (by first | assumption | exact Nat.le_refl _ | omega) _ | refine bch ?_ (by assumption)))⟩
end Go.Proofs.YtdbpiabcpjgblaaDoor
