/- The walk of the law BodyBack. -/
import Derived.Test.YtlgaklbfjjpfkaaDoorWBodied
namespace Go.Proofs.YtlgaklbfjjpfkaaDoor
open Go.RowKit
set_option linter.unusedVariables false
set_option linter.unusedSimpArgs false
theorem WrB.of_plain (x : WrB) : WrB.of x.plain = x := by
  obtain ⟨t, r, k, key, val, n⟩ := x
  show WrB.mk t r k ⟨key.data.toList.toArray⟩ ⟨val.data.toList.toArray⟩ n = _
  rw [ba_mk, ba_mk]
theorem of_plains (ws : List WrB) : (ws.map WrB.plain).map WrB.of = ws := by
  rw [List.map_map]
  exact (List.map_congr_left (g := id) fun x _ => WrB.of_plain x).trans (List.map_id ws)
/-- What is read of what was written. -/
theorem read_back (f h : List Vec.Entry) (ws : List WrB) (w : World) (hL : Laid w) (hok : Bat.right f h (ws.map WrB.plain) = .ok) (hs : ¬ 20000 < (bodyOf f h ws).length) :
    Calls Tryd.prog 14 #[.string ⟨(bodyOf f h ws).toArray⟩] w fun e w' => (∃ vf vh vw, e = .returned (.tuple #[.agg #[vf, vh, vw], .nilIface]) ∧ VecIs w' vf f ∧ VecIs w' vh h ∧ WrsIs w' vw ws) ∧ Below w.heap.size w w' := by
  have hR := body_read ⟨(bodyOf f h ws).toArray⟩ w (by rw [ba_size]; omega) hL
  unfold BodyGot at hR
  rw [show (ByteArray.mk (bodyOf f h ws).toArray).data.toList = Body.write f h (ws.map WrB.plain) from rfl, Body.read_write hok] at hR
  simp only [of_plains] at hR
  exact hR
set_option maxHeartbeats 4000000 in
set_option maxRecDepth 20000 in
theorem body_back (vf vh vw : Value) (f h : List Vec.Entry) (ws : List WrB) (w : World) (hL : Laid w) (hf : VecIs w vf f) (hh : VecIs w vh h) (hw : WrsIs w vw ws) (hlf : f.length ≤ 140737488351232) (hlh : h.length ≤ 140737488351232) (hlw : ws.length ≤ 140737488351232) (hq : ∀ x ∈ ws, WrBOk x) :
    Calls Tryd.prog 3 #[.agg #[vf, vh, vw]] w fun e w' => e = .returned (.bool true) ∧ Below w.heap.size w w' := by
  have hG := fun W (hW : Below w.heap.size w W) => bodied W (hL.below hW)
  have hB := fun W (hW : Below w.heap.size w W) => keep_big vf vh vw f h ws W (hf.below hW) (hh.below hW) (hw.below hW) hlf hlh hlw hq
  have hR := fun W (hW : Below w.heap.size w W) => batch_right vf vh vw f h ws W (hL.below hW) (hf.below hW) (hh.below hW) (hw.below hW) hlf hlh hlw
  have hWb := fun W (hW : Below w.heap.size w W) hbad => body_write_bad vf vh vw f h ws W (hL.below hW) (hf.below hW) (hh.below hW) (hw.below hW) hlf hlh hlw hbad
  have hWo := fun W (hW : Below w.heap.size w W) hok => body_write_ok vf vh vw f h ws W (hL.below hW) (hf.below hW) (hh.below hW) (hw.below hW) hlf hlh hlw hok
  have hSy := fun v1 v2 v3 W (hW : Below w.heap.size w W) (h1 : VecIs W v1 f) (h2 : VecIs W v2 h) (h3 : WrsIs W v3 ws) => same_yes vf vh vw v1 v2 v3 f h ws W (hf.below hW) (hh.below hW) (hw.below hW) h1 h2 h3 hlf hlh hlw
  obtain ⟨o1, c1, e1, -, -⟩ := hf.list.at entCells_len
  obtain ⟨o2, c2, e2, -, -⟩ := hh.list.at entCells_len
  obtain ⟨o3, c3, e3, -, -⟩ := ListIs.at hw wrBCells_len
  clear hf hh hw
  subst e1 e2 e3
  replace hG := Lib.hid hG
  replace hB := Lib.hid hB
  replace hR := Lib.hid hR
  replace hWb := Lib.hid hWb
  replace hWo := Lib.hid hWo
  replace hSy := Lib.hid hSy
  replace hq := Lib.hid hq
  go_enter Tryd.func3, Tryd.ntmps3
  go_wp2_with fail
  have q0 := row_at #[.slice o1 f.length c1, .slice o2 h.length c2, .slice o3 ws.length c3] 25 (rfl : w.heap.size = w.heap.size)
  have hb1 := bal (Below.refl w.heap.size w) (Obj.cells #[.slice o1 f.length c1, .slice o2 h.length c2, .slice o3 ws.length c3] 25)
  generalize w.alloc (Obj.cells #[.slice o1 f.length c1, .slice o2 h.length c2, .slice o3 ws.length c3] 25) = w1 at *
  refine (hG.out _ hb1).mono ?_
  rintro _ w2 ⟨rfl, hb2⟩
  replace q0 := q0.below hb2
  replace hb1 := bch hb1 hb2
  clear hb2
  (have c0 := q0.cell 0; have c1 := q0.cell 1; have c2 := q0.cell 2; simp only [List.set_cons_succ, List.set_cons_zero, List.getElem?_cons_zero, List.getElem?_cons_succ] at c0 c1 c2)
  go_wp2_with fail
  refine (hB.out _ hb1).mono ?_
  rintro _ w4 ⟨⟨r, rfl⟩, hb2⟩
  replace q0 := q0.below hb2
  replace hb1 := bch hb1 hb2
  clear hb2 c0 c1 c2
  (have c0 := q0.cell 0; have c1 := q0.cell 1; have c2 := q0.cell 2; simp only [List.set_cons_succ, List.set_cons_zero, List.getElem?_cons_zero, List.getElem?_cons_succ] at c0 c1 c2)
  cases r with
  | true =>
    go_wp2
    go_ret
    exact ⟨rfl, hb1⟩
  | false =>
    by_cases hok : Bat.right f h (ws.map WrB.plain) = .ok
    · have hWr := Lib.hid (hWo.out w4 hb1 hok)
      by_cases hlong : 20000 < (bodyOf f h ws).length
      · rw [if_pos hlong] at hWr
        rw [hok] at hR
        clear hlong hok
        go_wp2_with fail
        refine hWr.out.mono ?_
        rintro _ w5 ⟨rfl, hb2⟩
        replace q0 := q0.below hb2
        replace hb1 := bch hb1 hb2
        clear hb2 c0 c1 c2 hWr
        (have c0 := q0.cell 0; have c1 := q0.cell 1; have c2 := q0.cell 2; simp only [List.set_cons_succ, List.set_cons_zero, List.getElem?_cons_zero, List.getElem?_cons_succ] at c0 c1 c2)
        go_wp2_with fail
        refine (hR.out _ hb1).mono ?_
        rintro _ w6 ⟨v, rfl, hv, hb2⟩
        have hv : v = .nilIface := hv
        subst hv
        replace hb1 := bch hb1 hb2
        clear hb2 c0 c1 c2 q0
        have hT := Lib.hid (tell_errno 4 w6 (hL.below hb1))
        unfold errV
        go_wp2_with fail
        refine hT.out.mono ?_
        rintro _ w7 ⟨rfl, hb2⟩
        go_wp2
        go_ret
        exact ⟨rfl, bch hb1 hb2⟩
      · rw [if_neg hlong] at hWr
        have hRd := fun W hW => read_back f h ws W hW hok hlong
        rw [hok] at hR
        have hsz : (bodyOf f h ws).length ≤ 20000 := by omega
        clear hlong hok
        generalize bodyOf f h ws = bo at *
        replace hRd := Lib.hid hRd
        go_wp2_with fail
        refine hWr.out.mono ?_
        rintro _ w5 ⟨rfl, hb2⟩
        replace q0 := q0.below hb2
        replace hb1 := bch hb1 hb2
        clear hb2 c0 c1 c2 hWr
        (have c0 := q0.cell 0; have c1 := q0.cell 1; have c2 := q0.cell 2; simp only [List.set_cons_succ, List.set_cons_zero, List.getElem?_cons_zero, List.getElem?_cons_succ] at c0 c1 c2)
        go_wp2_with fail
        refine (hR.out _ hb1).mono ?_
        rintro _ w6 ⟨v, rfl, hv, hb2⟩
        have hv : v = .nilIface := hv
        subst hv
        replace q0 := q0.below hb2
        replace hb1 := bch hb1 hb2
        clear hb2 c0 c1 c2
        go_wp2_with fail
        refine (hRd.out _ (hL.below hb1)).mono ?_
        rintro _ w7 ⟨⟨v1, v2, v3, rfl, h1, h2, h3⟩, hb2⟩
        obtain ⟨o4, c4, rfl, -, -⟩ := h1.list.at entCells_len
        obtain ⟨o5, c5, rfl, -, -⟩ := h2.list.at entCells_len
        obtain ⟨o6, c6, rfl, -, -⟩ := ListIs.at h3 wrBCells_len
        replace q0 := q0.below hb2
        replace hb1 := bch hb1 hb2
        have hA := bal (Below.refl w7.heap.size w7) (Obj.cells #[.slice o4 f.length c4, .slice o5 h.length c5, .slice o6 ws.length c6] 25)
        replace q0 := q0.below hA
        have q1 := row_at #[.slice o4 f.length c4, .slice o5 h.length c5, .slice o6 ws.length c6] 25 (rfl : w7.heap.size = w7.heap.size)
        (have c0 := q0.cell 0; have c1 := q0.cell 1; have c2 := q0.cell 2; simp only [List.set_cons_succ, List.set_cons_zero, List.getElem?_cons_zero, List.getElem?_cons_succ] at c0 c1 c2)
        (have d0 := q1.cell 0; have d1 := q1.cell 1; have d2 := q1.cell 2; simp only [List.set_cons_succ, List.set_cons_zero, List.getElem?_cons_zero, List.getElem?_cons_succ] at d0 d1 d2)
        have hS := Lib.hid (hSy.out _ _ _ _ (bch hb1 hA) (h1.below hA) (h2.below hA) (h3.below hA))
        have hb3 := Lib.hid (bch hb1 hA)
        clear h1 h2 h3 q0 q1 hA hb2 hb1
        go_wp2_with fail
        refine hS.out.mono ?_
        rintro _ w8 ⟨rfl, hb2⟩
        go_wp2
        go_ret
        exact ⟨rfl, bch hb3.out hb2⟩
    · have hWr := Lib.hid (hWb.out w4 hb1 hok)
      go_wp2_with fail
      refine hWr.out.mono ?_
      rintro _ w5 ⟨⟨E, rfl, hE⟩, hb2⟩
      obtain ⟨t, u, rfl⟩ := err_some hE hok
      replace q0 := q0.below hb2
      replace hb1 := bch hb1 hb2
      clear hb2 c0 c1 c2 hWr hE
      (have c0 := q0.cell 0; have c1 := q0.cell 1; have c2 := q0.cell 2; simp only [List.set_cons_succ, List.set_cons_zero, List.getElem?_cons_zero, List.getElem?_cons_succ] at c0 c1 c2)
      go_wp2_with fail
      refine (hR.out _ hb1).mono ?_
      rintro _ w6 ⟨v, rfl, hE, hb2⟩
      obtain ⟨t2, u2, rfl⟩ := err_some hE hok
      replace hok := Lib.hid hok
      replace hE := Lib.hid hE
      go_wp2
      go_ret
      exact ⟨rfl, bch hb1 hb2⟩
theorem BodyBack_walk (vf vh vw : Value) (w : World) (q : BatQ w (vf, vh, vw)) (hL : Laid w) :
    Calls Tryd.prog 3 #[.agg #[vf, vh, vw]] w fun e w' => e = .returned (.bool true) ∧ Below w.heap.size w w' := by
  obtain ⟨⟨f, hf, -, hlf⟩, ⟨h, hh, -, hlh⟩, ⟨ws, hw, hq, hlw⟩⟩ := q
  exact body_back vf vh vw f h ws w hL hf hh hw hlf hlh hlw hq
end Go.Proofs.YtlgaklbfjjpfkaaDoor
