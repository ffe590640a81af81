/- Walks of keep.big, keep.held. -/
import Derived.Test.YtpmedolndkidcaaDoorWSame
import Derived.Test.YtpmedolndkidcaaDoorWFromC
namespace Go.Proofs.YtpmedolndkidcaaDoor
open Go.RowKit
set_option linter.unusedVariables false
set_option linter.unusedSimpArgs false
set_option maxHeartbeats 4000000 in
set_option maxRecDepth 20000 in
theorem keep_big (vf vh vw : Value) (f h : List Vec.Entry) (ws : List WrB) (w : World) (hf : VecIs w vf f) (hh : VecIs w vh h) (hw : WrsIs w vw ws) (hlf : f.length ≤ 140737488351232) (hlh : h.length ≤ 140737488351232) (hlw : ws.length ≤ 140737488351232) (hq : ∀ x ∈ ws, WrBOk x) :
    Calls Tryd.prog 73 #[.agg #[vf, vh, vw]] w fun e w' => (∃ r, e = .returned (.bool r)) ∧ Below w.heap.size w w' := by
  obtain ⟨o1, c1, rfl, -, -⟩ := hf.list.at entCells_len
  obtain ⟨o2, c2, rfl, -, -⟩ := hh.list.at entCells_len
  obtain ⟨o3, c3, rfl, -, hcell⟩ := ListIs.at hw wrBCells_len
  replace hcell := Lib.hid hcell
  replace hq := Lib.hid hq
  clear hf hh hw
  go_enter Tryd.func73, Tryd.ntmps73
  go_wp2
  go_loopw [3, 20] (fun x i wr => ∃ (k : Nat) (y : Int), k ≤ ws.length ∧ i = .int .i64 k ∧ x = .int .i64 y ∧ Below w.heap.size w wr) (fun _ i _ => ws.length - (intOf i).toNat)
  case atStart => exact ⟨0, _, by omega, rfl, rfl, by (repeat (first | exact Below.refl _ _ | assumption | refine bal ?_ _ | refine bdr ?_ | refine bdn ?_ _ | refine bst ?_ (by first | assumption | exact Nat.le_refl _ | omega) _ | refine bch ?_ (by assumption)))⟩
  case round =>
    obtain ⟨k, y, hk, rfl, rfl, hbel⟩ := hrel
    by_cases hlt : k < ws.length
    · obtain ⟨b1, f1, rfl, hb1, hc1⟩ := hcell.out k hlt
      have hb1 := hb1 (by omega)
      have c0 : wr.cell? ⟨b1, f1 + k * 6, none⟩ = some (.int .i64 ws[k].t) := (hbel.cell (p := ⟨b1, f1 + k * 6, none⟩) hb1).trans (hc1 0 _ rfl)
      have c1 : wr.cell? ⟨b1, f1 + k * 6 + 1, none⟩ = some (.int .i64 ws[k].r) := (hbel.cell (p := ⟨b1, f1 + k * 6 + 1, none⟩) hb1).trans (hc1 1 _ rfl)
      have c2 : wr.cell? ⟨b1, f1 + k * 6 + 2, none⟩ = some (.int .i64 ws[k].k) := (hbel.cell (p := ⟨b1, f1 + k * 6 + 2, none⟩) hb1).trans (hc1 2 _ rfl)
      have c3 : wr.cell? ⟨b1, f1 + k * 6 + 3, none⟩ = some (.string ws[k].key) := (hbel.cell (p := ⟨b1, f1 + k * 6 + 3, none⟩) hb1).trans (hc1 3 _ rfl)
      have c4 : wr.cell? ⟨b1, f1 + k * 6 + 4, none⟩ = some (.string ws[k].val) := (hbel.cell (p := ⟨b1, f1 + k * 6 + 4, none⟩) hb1).trans (hc1 4 _ rfl)
      have c5 : wr.cell? ⟨b1, f1 + k * 6 + 5, none⟩ = some (.int .i64 ws[k].n) := (hbel.cell (p := ⟨b1, f1 + k * 6 + 5, none⟩) hb1).trans (hc1 5 _ rfl)
      have hx := hq.out ws[k] (List.getElem_mem hlt)
      have hx1 := hx.2.2.1
      have hx2 := hx.2.2.2.1
      clear hc1 hx
      generalize ws[k] = x at *
      go_wp2
      go_roundw
      case rel => exact ⟨k + 1, _, by omega, by go_num, rfl, by (repeat (first | exact Below.refl _ _ | assumption | refine bal ?_ _ | refine bdr ?_ | refine bdn ?_ _ | refine bst ?_ (by first | assumption | exact Nat.le_refl _ | omega) _ | refine bch ?_ (by assumption)))⟩
      case measure => simp [intOf]; omega
    · go_wp2
      go_ret
      exact ⟨⟨_, rfl⟩, hbel⟩
set_option maxHeartbeats 4000000 in
set_option maxRecDepth 20000 in
theorem keep_held (vf vh vw : Value) (f h : List Vec.Entry) (ws : List WrB) (w : World) (hL : Laid w) (hf : VecIs w vf f) (hh : VecIs w vh h) (hw : WrsIs w vw ws) (hlf : f.length ≤ 140737488351232) (hlh : h.length ≤ 140737488351232) (hlw : ws.length ≤ 140737488351232) (hq : ∀ x ∈ ws, WrBOk x) :
    Calls Tryd.prog 40 #[.agg #[vf, vh, vw]] w fun e w' => (∃ r, e = .returned (.bool r) ∧ (r = true → Bat.right f h (ws.map WrB.plain) = .ok)) ∧ Below w.heap.size w w' := by
  have hB := fun W (hW : Below w.heap.size w W) => keep_big vf vh vw f h ws W (hf.below hW) (hh.below hW) (hw.below hW) hlf hlh hlw hq
  have hR := fun W (hW : Below w.heap.size w W) => batch_right vf vh vw f h ws W (hL.below hW) (hf.below hW) (hh.below hW) (hw.below hW) hlf hlh hlw
  obtain ⟨o1, c1, e1, -, -⟩ := hf.list.at entCells_len
  obtain ⟨o2, c2, e2, -, -⟩ := hh.list.at entCells_len
  obtain ⟨o3, c3, e3, -, -⟩ := ListIs.at hw wrBCells_len
  clear hf hh hw
  subst e1 e2 e3
  replace hB := Lib.hid hB
  replace hR := Lib.hid hR
  replace hq := Lib.hid hq
  go_enter Tryd.func40, Tryd.ntmps40
  go_wp2_with fail
  have q0 := row_at #[.slice o1 f.length c1, .slice o2 h.length c2, .slice o3 ws.length c3] 67 (rfl : w.heap.size = w.heap.size)
  have hb1 := bal (Below.refl w.heap.size w) (Obj.cells #[.slice o1 f.length c1, .slice o2 h.length c2, .slice o3 ws.length c3] 67)
  generalize w.alloc (Obj.cells #[.slice o1 f.length c1, .slice o2 h.length c2, .slice o3 ws.length c3] 67) = w1 at *
  refine (hB.out _ hb1).mono ?_
  rintro _ w2 ⟨⟨r, rfl⟩, hb2⟩
  replace q0 := q0.below hb2
  replace hb1 := bch hb1 hb2
  (have c0 := q0.cell 0; have c1 := q0.cell 1; have c2 := q0.cell 2; simp only [List.set_cons_succ, List.set_cons_zero, List.getElem?_cons_zero, List.getElem?_cons_succ] at c0 c1 c2)
  clear hb2 q0
  cases r with
  | true =>
    go_wp2
    go_ret
    exact ⟨⟨false, rfl, by simp⟩, hb1⟩
  | false =>
    go_wp2_with fail
    refine (hR.out _ hb1).mono ?_
    rintro _ w3 ⟨v, rfl, hv, hb3⟩
    cases hx : Bat.right f h (ws.map WrB.plain) with
    | ok =>
      rw [hx] at hv
      have hv : v = .nilIface := hv
      subst hv
      replace hx := Lib.hid hx
      go_wp2
      go_ret
      exact ⟨⟨true, rfl, fun _ => hx.out⟩, bch hb1 hb3⟩
    | no n =>
      rw [hx] at hv
      have hv : v = .iface 70 (.int .i64 n) := hv
      subst hv
      replace hx := Lib.hid hx
      go_wp2
      go_ret
      exact ⟨⟨false, rfl, by simp⟩, bch hb1 hb3⟩
    | at_ n i =>
      rw [hx] at hv
      obtain ⟨g, rfl, -⟩ := hv
      replace hx := Lib.hid hx
      go_wp2
      go_ret
      exact ⟨⟨false, rfl, by simp⟩, bch hb1 hb3⟩
/-- A batch as it comes in: three slices. -/
def BatQ (w : World) (p : Value × Value × Value) : Prop :=
  (∃ l : List Vec.Entry, ListIs entCells 2 w p.1 l ∧ (∀ x ∈ l, (Lit.int .i64 x.r).wf = true ∧ (Lit.int .i64 x.t).wf = true) ∧ l.length ≤ 140737488351232) ∧
  (∃ l : List Vec.Entry, ListIs entCells 2 w p.2.1 l ∧ (∀ x ∈ l, (Lit.int .i64 x.r).wf = true ∧ (Lit.int .i64 x.t).wf = true) ∧ l.length ≤ 140737488351232) ∧
  (∃ l : List WrB, ListIs wrBCells 6 w p.2.2 l ∧ (∀ x ∈ l, WrBOk x) ∧ l.length ≤ 140737488351232)
end Go.Proofs.YtpmedolndkidcaaDoor
