/- Walks of keep.big, keep.held, and of the law BatchWide. -/
import Derived.Test.YtonblpcbpfhlmaaDoorWGath
import Derived.Test.YtonblpcbpfhlmaaDoorWFrom
namespace Go.Proofs.YtonblpcbpfhlmaaDoor
open Go.RowKit
set_option linter.unusedVariables false
set_option linter.unusedSimpArgs false
set_option maxHeartbeats 4000000 in
set_option maxRecDepth 20000 in
theorem keep_big (vf vh vw : Value) (f h : List Vec.Entry) (ws : List WrB) (w : World) (hf : VecIs w vf f) (hh : VecIs w vh h) (hw : WrsIs w vw ws) (hlf : f.length ≤ 140737488351232) (hlh : h.length ≤ 140737488351232) (hlw : ws.length ≤ 140737488351232) (hq : ∀ x ∈ ws, WrBOk x) :
    Calls Tryd.prog 17 #[.agg #[vf, vh, vw]] w fun e w' => (∃ r, e = .returned (.bool r)) ∧ Below w.heap.size w w' := by
  obtain ⟨o1, c1, rfl, -, -⟩ := hf.list.at entCells_len
  obtain ⟨o2, c2, rfl, -, -⟩ := hh.list.at entCells_len
  obtain ⟨o3, c3, rfl, -, hcell⟩ := ListIs.at hw wrBCells_len
  replace hcell := Lib.hid hcell
  replace hq := Lib.hid hq
  clear hf hh hw
  go_enter Tryd.func17, Tryd.ntmps17
  go_wp2
  go_loopw [3, 20] (fun x i wr => ∃ (k : Nat) (y : Int), k ≤ ws.length ∧ i = .int .i64 k ∧ x = .int .i64 y ∧ Below w.heap.size w wr) (fun _ i _ => ws.length - (intOf i).toNat)
  case atStart => exact ⟨0, _, by omega, rfl, rfl, by (repeat (first | exact Below.refl _ _ | assumption | refine bal ?_ _ | refine bdr ?_ | refine bdn ?_ _ | refine bst ?_ (by first | assumption | exact Nat.le_refl _ | omega) _ | refine bch ?_ (by assumption)))⟩
  case round =>
    obtain ⟨k, y, hk, rfl, rfl, hbel⟩ := hrel
    by_cases hlt : k < ws.length
    · obtain ⟨b1, f1, rfl, hb1, hc1⟩ := hcell.out k hlt
      have hb1 := hb1 (by omega)
      have c0 : wr.cell? ⟨b1, f1 + k * 6, none⟩ = some (.int .i64 ws[k].t) := (hbel.cell (p := ⟨b1, f1 + k * 6, none⟩) hb1).trans (hc1 0 _ rfl)
      have c1 : wr.cell? ⟨b1, f1 + k * 6 + 1, none⟩ = some (.int .i64 ws[k].r) := (hbel.cell (p := ⟨b1, f1 + k * 6 + 1, none⟩) hb1).trans (hc1 1 _ rfl)
      have c2 : wr.cell? ⟨b1, f1 + k * 6 + 2, none⟩ = some (.int .i64 ws[k].k) := (hbel.cell (p := ⟨b1, f1 + k * 6 + 2, none⟩) hb1).trans (hc1 2 _ rfl)
      have c3 : wr.cell? ⟨b1, f1 + k * 6 + 3, none⟩ = some (.string ws[k].key) := (hbel.cell (p := ⟨b1, f1 + k * 6 + 3, none⟩) hb1).trans (hc1 3 _ rfl)
      have c4 : wr.cell? ⟨b1, f1 + k * 6 + 4, none⟩ = some (.string ws[k].val) := (hbel.cell (p := ⟨b1, f1 + k * 6 + 4, none⟩) hb1).trans (hc1 4 _ rfl)
      have c5 : wr.cell? ⟨b1, f1 + k * 6 + 5, none⟩ = some (.int .i64 ws[k].n) := (hbel.cell (p := ⟨b1, f1 + k * 6 + 5, none⟩) hb1).trans (hc1 5 _ rfl)
      have hx := hq.out ws[k] (List.getElem_mem hlt)
      have hx1 := hx.2.2.1
      have hx2 := hx.2.2.2.1
      clear hc1 hx
      generalize ws[k] = x at *
      go_wp2
      go_roundw
      case rel => exact ⟨k + 1, _, by omega, by go_num, rfl, by (repeat (first | exact Below.refl _ _ | assumption | refine bal ?_ _ | refine bdr ?_ | refine bdn ?_ _ | refine bst ?_ (by first | assumption | exact Nat.le_refl _ | omega) _ | refine bch ?_ (by assumption)))⟩
      case measure => simp [intOf]; omega
    · go_wp2
      go_ret
      exact ⟨⟨_, rfl⟩, hbel⟩
set_option maxHeartbeats 4000000 in
set_option maxRecDepth 20000 in
theorem keep_held (vf vh vw : Value) (f h : List Vec.Entry) (ws : List WrB) (w : World) (hL : Laid w) (hf : VecIs w vf f) (hh : VecIs w vh h) (hw : WrsIs w vw ws) (hlf : f.length ≤ 140737488351232) (hlh : h.length ≤ 140737488351232) (hlw : ws.length ≤ 140737488351232) (hq : ∀ x ∈ ws, WrBOk x) :
    Calls Tryd.prog 26 #[.agg #[vf, vh, vw]] w fun e w' => (∃ r, e = .returned (.bool r) ∧ (r = true → Bat.right f h (ws.map WrB.plain) = .ok)) ∧ Below w.heap.size w w' := by
  have hB := fun W (hW : Below w.heap.size w W) => keep_big vf vh vw f h ws W (hf.below hW) (hh.below hW) (hw.below hW) hlf hlh hlw hq
  have hR := fun W (hW : Below w.heap.size w W) => batch_right vf vh vw f h ws W (hL.below hW) (hf.below hW) (hh.below hW) (hw.below hW) hlf hlh hlw
  obtain ⟨o1, c1, e1, -, -⟩ := hf.list.at entCells_len
  obtain ⟨o2, c2, e2, -, -⟩ := hh.list.at entCells_len
  obtain ⟨o3, c3, e3, -, -⟩ := ListIs.at hw wrBCells_len
  clear hf hh hw
  subst e1 e2 e3
  replace hB := Lib.hid hB
  replace hR := Lib.hid hR
  replace hq := Lib.hid hq
  go_enter Tryd.func26, Tryd.ntmps26
  go_wp2_with fail
  have q0 := row_at #[.slice o1 f.length c1, .slice o2 h.length c2, .slice o3 ws.length c3] 40 (rfl : w.heap.size = w.heap.size)
  have hb1 := bal (Below.refl w.heap.size w) (Obj.cells #[.slice o1 f.length c1, .slice o2 h.length c2, .slice o3 ws.length c3] 40)
  generalize w.alloc (Obj.cells #[.slice o1 f.length c1, .slice o2 h.length c2, .slice o3 ws.length c3] 40) = w1 at *
  refine (hB.out _ hb1).mono ?_
  rintro _ w2 ⟨⟨r, rfl⟩, hb2⟩
  replace q0 := q0.below hb2
  replace hb1 := bch hb1 hb2
  (have c0 := q0.cell 0; have c1 := q0.cell 1; have c2 := q0.cell 2; simp only [List.set_cons_succ, List.set_cons_zero, List.getElem?_cons_zero, List.getElem?_cons_succ] at c0 c1 c2)
  clear hb2 q0
  cases r with
  | true =>
    go_wp2
    go_ret
    exact ⟨⟨false, rfl, by simp⟩, hb1⟩
  | false =>
    go_wp2_with fail
    refine (hR.out _ hb1).mono ?_
    rintro _ w3 ⟨v, rfl, hv, hb3⟩
    cases hx : Bat.right f h (ws.map WrB.plain) with
    | ok =>
      rw [hx] at hv
      have hv : v = .nilIface := hv
      subst hv
      replace hx := Lib.hid hx
      go_wp2
      go_ret
      exact ⟨⟨true, rfl, fun _ => hx.out⟩, bch hb1 hb3⟩
    | no n =>
      rw [hx] at hv
      have hv : v = .iface 43 (.int .i64 n) := hv
      subst hv
      replace hx := Lib.hid hx
      go_wp2
      go_ret
      exact ⟨⟨false, rfl, by simp⟩, bch hb1 hb3⟩
    | at_ n i =>
      rw [hx] at hv
      obtain ⟨g, rfl, -⟩ := hv
      replace hx := Lib.hid hx
      go_wp2
      go_ret
      exact ⟨⟨false, rfl, by simp⟩, bch hb1 hb3⟩
set_option maxHeartbeats 4000000 in
set_option maxRecDepth 20000 in
theorem batch_wide (vf vh vw : Value) (f h : List Vec.Entry) (ws : List WrB) (va vb : Value) (a b : List Vec.Entry) (w : World) (hL : Laid w) (hf : VecIs w vf f) (hh : VecIs w vh h) (hw : WrsIs w vw ws) (ha : VecIs w va a) (hb : VecIs w vb b) (hlf : f.length ≤ 140737488351232) (hlh : h.length ≤ 140737488351232) (hlw : ws.length ≤ 140737488351232) (hq : ∀ x ∈ ws, WrBOk x) (hla : a.length ≤ 140737488351232) (hlb : b.length ≤ 140737488351232) :
    Calls Tryd.prog 8 #[.agg #[vf, vh, vw], va, vb] w fun e w' => e = .returned (.bool true) ∧ Below w.heap.size w w' := by
  have hG := fun W (hW : Below w.heap.size w W) => gathered W (hL.below hW)
  have hK := from_known w hL
  have hH := fun W (hW : Below w.heap.size w W) => keep_held vf vh vw f h ws W (hL.below hW) (hf.below hW) (hh.below hW) (hw.below hW) hlf hlh hlw hq
  have hF : ∀ v, fewB [a, b] = v → Few2 va vb w v := fun v hv W T hW => few_two va vb a b v w W T ha hb hla hlb hv hW
  have hC1 := fun v hv => from_covers hf ha hlf hla v hv
  have hC2 := fun v hv => from_covers hb hh hlb hlh v hv
  have hR := fun W (hW : Below w.heap.size w W) => batch_right va vb vw a b ws W (hL.below hW) (ha.below hW) (hb.below hW) (hw.below hW) hla hlb hlw
  obtain ⟨o1, c1, e1, -, -⟩ := hf.list.at entCells_len
  obtain ⟨o2, c2, e2, -, -⟩ := hh.list.at entCells_len
  obtain ⟨o3, c3, e3, -, -⟩ := ListIs.at hw wrBCells_len
  obtain ⟨o4, c4, e4, -, -⟩ := ha.list.at entCells_len
  obtain ⟨o5, c5, e5, -, -⟩ := hb.list.at entCells_len
  clear hf hh hw ha hb
  subst e1 e2 e3 e4 e5
  replace hG := Lib.hid hG
  replace hH := Lib.hid hH
  replace hR := Lib.hid hR
  replace hF := Lib.hid hF
  replace hC1 := Lib.hid hC1
  replace hC2 := Lib.hid hC2
  replace hq := Lib.hid hq
  go_enter Tryd.func8, Tryd.ntmps8
  go_wp2_with fail
  have q0 := row_at #[.slice o1 f.length c1, .slice o2 h.length c2, .slice o3 ws.length c3] 40 (rfl : w.heap.size = w.heap.size)
  have hb1 := bal (Below.refl w.heap.size w) (Obj.cells #[.slice o1 f.length c1, .slice o2 h.length c2, .slice o3 ws.length c3] 40)
  generalize w.alloc (Obj.cells #[.slice o1 f.length c1, .slice o2 h.length c2, .slice o3 ws.length c3] 40) = w1 at *
  refine (hG.out _ hb1).mono ?_
  rintro _ w2 ⟨rfl, hb2⟩
  replace q0 := q0.below hb2
  replace hb1 := bch hb1 hb2
  clear hb2
  go_wp2_with fail
  refine (hK _ hb1).mono ?_
  rintro _ w3 ⟨rfl, hb2⟩
  replace q0 := q0.below hb2
  replace hb1 := bch hb1 hb2
  clear hb2
  (have c0 := q0.cell 0; have c1 := q0.cell 1; have c2 := q0.cell 2; simp only [List.set_cons_succ, List.set_cons_zero, List.getElem?_cons_zero, List.getElem?_cons_succ] at c0 c1 c2)
  go_wp2_with fail
  refine (hH.out _ hb1).mono ?_
  rintro _ w4 ⟨⟨r, rfl, hr⟩, hb2⟩
  replace q0 := q0.below hb2
  replace hb1 := bch hb1 hb2
  clear hb2 c0 c1 c2
  (have c0 := q0.cell 0; have c1 := q0.cell 1; have c2 := q0.cell 2; simp only [List.set_cons_succ, List.set_cons_zero, List.getElem?_cons_zero, List.getElem?_cons_succ] at c0 c1 c2)
  cases r with
  | false =>
    replace hr := Lib.hid hr
    go_wp2
    go_ret
    exact ⟨rfl, hb1⟩
  | true =>
    have hok := hr rfl
    replace hr := Lib.hid hr
    cases hf2 : fewB [a, b] with
    | false =>
      have hF2 := hF.out _ hf2
      replace hok := Lib.hid hok
      replace hf2 := Lib.hid hf2
      go_wp2_with fail
      refine (hF2 _ _ hb1).mono ?_
      rintro _ w5 ⟨rfl, hb2⟩
      go_wp2
      go_ret
      exact ⟨rfl, by (repeat (first | exact Below.refl _ _ | assumption | refine bal ?_ _ | refine bdr ?_ | refine bdn ?_ _ | refine bst ?_ (by first | assumption | exact Nat.le_refl _ | omega) _ | refine bch ?_ (by assumption)))⟩
    | true =>
      have hF2 := hF.out _ hf2
      replace hf2 := Lib.hid hf2
      replace hok := Lib.hid hok
      go_wp2_with fail
      refine (hF2 _ _ hb1).mono ?_
      rintro _ w5 ⟨rfl, hb2⟩
      replace q0 := q0.below hb2
      replace hb1 := bch hb1 hb2
      clear hb2 c0 c1 c2 hF2
      (have c0 := q0.cell 0; have c1 := q0.cell 1; have c2 := q0.cell 2; simp only [List.set_cons_succ, List.set_cons_zero, List.getElem?_cons_zero, List.getElem?_cons_succ] at c0 c1 c2)
      cases hcv : coversB f a with
      | false =>
        have hC := hC1.out _ hcv
        replace hcv := Lib.hid hcv
        go_wp2_with fail
        refine (hC _ hb1).mono ?_
        rintro _ w6 ⟨rfl, hb2⟩
        go_wp2
        go_ret
        exact ⟨rfl, by (repeat (first | exact Below.refl _ _ | assumption | refine bal ?_ _ | refine bdr ?_ | refine bdn ?_ _ | refine bst ?_ (by first | assumption | exact Nat.le_refl _ | omega) _ | refine bch ?_ (by assumption)))⟩
      | true =>
        have hC := hC1.out _ hcv
        replace hcv := Lib.hid hcv
        go_wp2_with fail
        refine (hC _ hb1).mono ?_
        rintro _ w6 ⟨rfl, hb2⟩
        replace q0 := q0.below hb2
        replace hb1 := bch hb1 hb2
        clear hb2 c0 c1 c2 hC
        (have c0 := q0.cell 0; have c1 := q0.cell 1; have c2 := q0.cell 2; simp only [List.set_cons_succ, List.set_cons_zero, List.getElem?_cons_zero, List.getElem?_cons_succ] at c0 c1 c2)
        cases hcw : coversB b h with
        | false =>
          have hC := hC2.out _ hcw
          replace hcw := Lib.hid hcw
          go_wp2_with fail
          refine (hC _ hb1).mono ?_
          rintro _ w7 ⟨rfl, hb2⟩
          go_wp2
          go_ret
          exact ⟨rfl, by (repeat (first | exact Below.refl _ _ | assumption | refine bal ?_ _ | refine bdr ?_ | refine bdn ?_ _ | refine bst ?_ (by first | assumption | exact Nat.le_refl _ | omega) _ | refine bch ?_ (by assumption)))⟩
        | true =>
          have hC := hC2.out _ hcw
          have hfine := Bat.wide ((Bat.right_iff _ _ _).1 hok.out) (show Bat.covers f a = true from hcv.out) (show Bat.covers b h = true from hcw)
          have hfin := (Bat.right_iff _ _ _).2 hfine
          clear hfine
          rw [hfin] at hR
          replace hfin := Lib.hid hfin
          replace hcw := Lib.hid hcw
          go_wp2_with fail
          refine (hC _ hb1).mono ?_
          rintro _ w7 ⟨rfl, hb2⟩
          replace q0 := q0.below hb2
          replace hb1 := bch hb1 hb2
          clear hb2 c0 c1 c2 hC
          (have c0 := q0.cell 0; have c1 := q0.cell 1; have c2 := q0.cell 2; simp only [List.set_cons_succ, List.set_cons_zero, List.getElem?_cons_zero, List.getElem?_cons_succ] at c0 c1 c2)
          go_wp2_with fail
          refine (hR.out _ hb1).mono ?_
          rintro _ w8 ⟨v, rfl, hv, hb2⟩
          have hv : v = .nilIface := hv
          subst hv
          go_wp2
          go_ret
          exact ⟨rfl, by (repeat (first | exact Below.refl _ _ | assumption | refine bal ?_ _ | refine bdr ?_ | refine bdn ?_ _ | refine bst ?_ (by first | assumption | exact Nat.le_refl _ | omega) _ | refine bch ?_ (by assumption)))⟩
/-- A batch as it comes in: three slices. -/
def BatQ (w : World) (p : Value × Value × Value) : Prop :=
  (∃ l : List Vec.Entry, ListIs entCells 2 w p.1 l ∧ (∀ x ∈ l, (Lit.int .i64 x.r).wf = true ∧ (Lit.int .i64 x.t).wf = true) ∧ l.length ≤ 140737488351232) ∧
  (∃ l : List Vec.Entry, ListIs entCells 2 w p.2.1 l ∧ (∀ x ∈ l, (Lit.int .i64 x.r).wf = true ∧ (Lit.int .i64 x.t).wf = true) ∧ l.length ≤ 140737488351232) ∧
  (∃ l : List WrB, ListIs wrBCells 6 w p.2.2 l ∧ (∀ x ∈ l, WrBOk x) ∧ l.length ≤ 140737488351232)
theorem BatchWide_walk (vf vh vw : Value) (v1 : Value) (l1 : List Vec.Entry) (v2 : Value) (l2 : List Vec.Entry) (w : World) (q : BatQ w (vf, vh, vw)) (L1 : ListIs entCells 2 w v1 l1) (q1 : ∀ x ∈ l1, (Lit.int .i64 x.r).wf = true ∧ (Lit.int .i64 x.t).wf = true) (z1 : l1.length ≤ 140737488351232) (L2 : ListIs entCells 2 w v2 l2) (q2 : ∀ x ∈ l2, (Lit.int .i64 x.r).wf = true ∧ (Lit.int .i64 x.t).wf = true) (z2 : l2.length ≤ 140737488351232) (hL : Laid w) :
    Calls Tryd.prog 8 #[.agg #[vf, vh, vw], v1, v2] w fun e w' => e = .returned (.bool true) ∧ Below w.heap.size w w' := by
  obtain ⟨⟨f, hf, -, hlf⟩, ⟨h, hh, -, hlh⟩, ⟨ws, hw, hq, hlw⟩⟩ := q
  exact batch_wide vf vh vw f h ws v1 v2 l1 l2 w hL hf hh hw L1 L2 hlf hlh hlw hq z1 z2
end Go.Proofs.YtonblpcbpfhlmaaDoor
