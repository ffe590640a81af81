/- The walk of the law OldLift. -/
import Derived.Test.YtdeepahaggkipaaDoorWFramed
import Derived.Test.YtdeepahaggkipaaDoorWHeld
import Derived.Test.YtdeepahaggkipaaDoorWOldA
import Derived.Test.YtdeepahaggkipaaDoorWOldLen
namespace Go.Proofs.YtdeepahaggkipaaDoor
open Go.RowKit
set_option linter.unusedVariables false
set_option linter.unusedSimpArgs false
set_option maxHeartbeats 8000000 in
set_option maxRecDepth 20000 in
theorem old_lift_law (vf vh vw : Value) (f h : List Vec.Entry) (ws : List WrB) (w : World) (hL : Laid w) (hf : VecIs w vf f) (hh : VecIs w vh h) (hw : WrsIs w vw ws) (hlf : f.length ≤ 140737488351232) (hlh : h.length ≤ 140737488351232) (hlw : ws.length ≤ 140737488351232) (hq : ∀ x ∈ ws, WrBOk x) :
    Calls Tryd.prog 8 #[.agg #[vf, vh, vw]] w fun e w' => e = .returned (.bool true) ∧ Below w.heap.size w w' := by
  have hG := fun W (hW : Below w.heap.size w W) => framed W (hL.below hW)
  have hH := fun W (hW : Below w.heap.size w W) => keep_held vf vh vw f h ws W (hL.below hW) (hf.below hW) (hh.below hW) (hw.below hW) hlf hlh hlw hq
  have hFr := fun W (hW : Below w.heap.size w W) => frame_write_all vf vh vw f h ws W (hL.below hW) (hf.below hW) (hh.below hW) (hw.below hW) hlf hlh hlw
  have hF1 := fun W (hW : Below w.heap.size w W) hok => old_first_ok vf vh vw f h ws W (hL.below hW) (hf.below hW) (hh.below hW) (hw.below hW) hlf hlh hlw hok
  have hF2 := fun W (hW : Below w.heap.size w W) hok hl => old_second vf vh vw f h ws W (hL.below hW) (hf.below hW) (hh.below hW) (hw.below hW) hlf hlh hlw hok hl
  have hF3 := fun W (hW : Below w.heap.size w W) hok hl => old_second_long vf vh vw f h ws W (hL.below hW) (hf.below hW) (hh.below hW) (hw.below hW) hlf hlh hlw hok hl
  obtain ⟨o1, m1, e1, -, -⟩ := hf.list.at entCells_len
  obtain ⟨o2, m2, e2, -, -⟩ := hh.list.at entCells_len
  obtain ⟨o3, m3, e3, -, -⟩ := ListIs.at hw wrBCells_len
  clear hf hh hw
  subst e1 e2 e3
  replace hG := Lib.hid hG
  replace hH := Lib.hid hH
  replace hFr := Lib.hid hFr
  replace hF1 := Lib.hid hF1
  replace hF2 := Lib.hid hF2
  replace hF3 := Lib.hid hF3
  replace hq := Lib.hid hq
  go_enter Tryd.func8, Tryd.ntmps8
  go_wp2_with fail
  have q0 := row_at #[.slice o1 f.length m1, .slice o2 h.length m2, .slice o3 ws.length m3] 25 (rfl : w.heap.size = w.heap.size)
  have hb1 := bal (Below.refl w.heap.size w) (Obj.cells #[.slice o1 f.length m1, .slice o2 h.length m2, .slice o3 ws.length m3] 25)
  generalize w.alloc (Obj.cells #[.slice o1 f.length m1, .slice o2 h.length m2, .slice o3 ws.length m3] 25) = w1 at *
  refine (hG.out _ hb1).mono ?_
  rintro _ w2 ⟨rfl, hb2⟩
  replace q0 := q0.below hb2
  replace hb1 := bch hb1 hb2
  clear hb2
  (have c0 := q0.cell 0; have c1 := q0.cell 1; have c2 := q0.cell 2; simp only [List.set_cons_succ, List.set_cons_zero, List.getElem?_cons_zero, List.getElem?_cons_succ] at c0 c1 c2)
  go_wp2_with fail
  refine (hH.out _ hb1).mono ?_
  rintro _ w4 ⟨⟨r, rfl, hr⟩, hb2⟩
  replace q0 := q0.below hb2
  replace hb1 := bch hb1 hb2
  clear hb2 c0 c1 c2
  (have c0 := q0.cell 0; have c1 := q0.cell 1; have c2 := q0.cell 2; simp only [List.set_cons_succ, List.set_cons_zero, List.getElem?_cons_zero, List.getElem?_cons_succ] at c0 c1 c2)
  cases r with
  | false =>
    replace hr := Lib.hid hr
    go_wp2
    go_ret
    exact ⟨rfl, hb1⟩
  | true =>
  have hok := hr rfl
  clear hr
  have hno : 20000 < (bodyOf f h ws).length → ∀ s E, FW f h ws s E → s = ⟨#[]⟩ ∧ ∃ t u, E = .iface t u := fun hl s E hf => by
    rcases hf with ⟨-, h2, h3, -⟩ | ⟨h1, -, h3⟩
    · omega
    · exact ⟨h1, h3⟩
  have hyes : ¬ 20000 < (bodyOf f h ws).length → ∀ s E, FW f h ws s E → E = .nilIface ∧ s = ⟨(Frame.write f h (ws.map WrB.plain)).toArray⟩ := fun hl s E hf => by
    rcases hf with ⟨h1, -, -, h4⟩ | ⟨-, h2, -⟩
    · exact ⟨h1, h4⟩
    · exact absurd ⟨hok, by omega⟩ h2
  replace hF1 := Lib.hid (fun W hW => hF1.out W hW hok)
  have hPl := Fst.first_len hok
  have hv1 := Fst.anyB_first hok
  by_cases hlong : 20000 < (bodyOf f h ws).length
  · replace hno := Lib.hid (hno hlong)
    replace hF3 := Lib.hid (fun W hW => hF3.out W hW hok hlong)
    generalize Fst.write f h (ws.map WrB.plain) = FR1 at *
    clear hlong hok hyes
    go_wp2_with fail
    refine (hFr.out _ hb1).mono ?_
    rintro _ w5 ⟨⟨s, E, rfl, hfw⟩, hb2⟩
    obtain ⟨rfl, t, u, rfl⟩ := hno.out s E hfw
    replace q0 := q0.below hb2
    replace hb1 := bch hb1 hb2
    clear hb2 c0 c1 c2
    (have c0 := q0.cell 0; have c1 := q0.cell 1; have c2 := q0.cell 2; simp only [List.set_cons_succ, List.set_cons_zero, List.getElem?_cons_zero, List.getElem?_cons_succ] at c0 c1 c2)
    replace hfw := Lib.hid hfw
    go_wp2_with fail
    refine (hF1.out _ hb1).mono ?_
    rintro _ w6 ⟨rfl, hb2⟩
    replace q0 := q0.below hb2
    replace hb1 := bch hb1 hb2
    clear hb2 c0 c1 c2
    (have c0 := q0.cell 0; have c1 := q0.cell 1; have c2 := q0.cell 2; simp only [List.set_cons_succ, List.set_cons_zero, List.getElem?_cons_zero, List.getElem?_cons_succ] at c0 c1 c2)
    go_wp2_with fail
    refine (hF3.out _ hb1).mono ?_
    rintro _ w6 ⟨rfl, hb2⟩
    replace hb1 := bch hb1 hb2
    clear hb2
    go_wp2
    go_ret
    exact ⟨rfl, hb1⟩
  · have hFl := Fst.frame_len f h ws (by omega)
    have hv2 := Fst.anyB_second (ws := ws.map WrB.plain) hok (by show (bodyOf f h ws).length ≤ 20000; omega)
    have hv3 := Fst.anyB_third (ws := ws.map WrB.plain) hok (by show (bodyOf f h ws).length ≤ 20000; omega)
    change Fst.anyB (Frame.around 2 (bodyOf f h ws)) = _ at hv2
    have hSl : (Frame.around 2 (bodyOf f h ws)).length ≤ 20100 := by rw [Frame.around_len]; omega
    replace hyes := Lib.hid (hyes hlong)
    replace hF2 := Lib.hid (fun W hW => hF2.out W hW hok hlong)
    have hLi := fun X hX hv W hW => old_lift_ok X f h (ws.map WrB.plain) W hX hW hv hok (by show (bodyOf f h ws).length ≤ 20000; omega)
    generalize Fst.write f h (ws.map WrB.plain) = FR1 at *
    generalize Frame.write f h (ws.map WrB.plain) = FR3 at *
    generalize Frame.around 2 (bodyOf f h ws) = FR2 at *
    have hL1 := Lib.hid (fun W (hW : Below w.heap.size w W) => hLi ⟨FR1.toArray⟩ (by rw [ba_size]; omega) hv1 W (hL.below hW))
    have hL2 := Lib.hid (fun W (hW : Below w.heap.size w W) => hLi ⟨FR2.toArray⟩ (by rw [ba_size]; omega) hv2 W (hL.below hW))
    have hL3 := Lib.hid (fun W (hW : Below w.heap.size w W) => hLi ⟨FR3.toArray⟩ (by rw [ba_size]; omega) hv3 W (hL.below hW))
    clear hlong hok hno hv1 hv2 hv3 hLi
    go_wp2_with fail
    refine (hFr.out _ hb1).mono ?_
    rintro _ w5 ⟨⟨s, E, rfl, hfw⟩, hb2⟩
    obtain ⟨rfl, rfl⟩ := hyes.out s E hfw
    replace q0 := q0.below hb2
    replace hb1 := bch hb1 hb2
    clear hb2 c0 c1 c2
    (have c0 := q0.cell 0; have c1 := q0.cell 1; have c2 := q0.cell 2; simp only [List.set_cons_succ, List.set_cons_zero, List.getElem?_cons_zero, List.getElem?_cons_succ] at c0 c1 c2)
    replace hfw := Lib.hid hfw
    go_wp2_with fail
    refine (hF1.out _ hb1).mono ?_
    rintro _ w6 ⟨rfl, hb2⟩
    replace q0 := q0.below hb2
    replace hb1 := bch hb1 hb2
    clear hb2 c0 c1 c2
    (have c0 := q0.cell 0; have c1 := q0.cell 1; have c2 := q0.cell 2; simp only [List.set_cons_succ, List.set_cons_zero, List.getElem?_cons_zero, List.getElem?_cons_succ] at c0 c1 c2)
    go_wp2_with fail
    refine (hF2.out _ hb1).mono ?_
    rintro _ w6 ⟨rfl, hb2⟩
    replace hb1 := bch hb1 hb2
    clear hb2
    go_wp2_with fail
    refine (hL1.out _ hb1).mono ?_
    rintro _ w7 ⟨rfl, hb2⟩
    replace hb1 := bch hb1 hb2
    clear hb2
    go_wp2_with fail
    refine (hL2.out _ hb1).mono ?_
    rintro _ w8 ⟨rfl, hb2⟩
    replace hb1 := bch hb1 hb2
    clear hb2
    go_wp2_with fail
    refine (hL3.out _ hb1).mono ?_
    rintro _ w9 ⟨rfl, hb2⟩
    replace hb1 := bch hb1 hb2
    clear hb2
    go_wp2
    go_ret
    exact ⟨rfl, hb1⟩
theorem OldLift_walk (vf vh vw : Value) (w : World) (q : BatQ w (vf, vh, vw)) (hL : Laid w) :
    Calls Tryd.prog 8 #[.agg #[vf, vh, vw]] w fun e w' => e = .returned (.bool true) ∧ Below w.heap.size w w' := by
  obtain ⟨⟨f, hf, -, hlf⟩, ⟨h, hh, -, hlh⟩, ⟨ws, hw, hq, hlw⟩⟩ := q
  exact old_lift_law vf vh vw f h ws w hL hf hh hw hlf hlh hlw hq
end Go.Proofs.YtdeepahaggkipaaDoor
