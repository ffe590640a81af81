/- The walk of the law BodyHead. -/
import Derived.Test.YtlgaklbfjjpfkaaDoorLawsBodyB
import Derived.Test.YtlgaklbfjjpfkaaDoorShelf
namespace Go.Proofs.YtlgaklbfjjpfkaaDoor
open Go.RowKit
set_option linter.unusedVariables false
set_option linter.unusedSimpArgs false
set_option maxHeartbeats 4000000 in
set_option maxRecDepth 20000 in
theorem body_head (vf vh vw : Value) (f h : List Vec.Entry) (ws : List WrB) (w : World) (hL : Laid w) (hf : VecIs w vf f) (hh : VecIs w vh h) (hw : WrsIs w vw ws) (hlf : f.length ≤ 140737488351232) (hlh : h.length ≤ 140737488351232) (hlw : ws.length ≤ 140737488351232) (hq : ∀ x ∈ ws, WrBOk x) :
    Calls Tryd.prog 7 #[.agg #[vf, vh, vw]] w fun e w' => e = .returned (.bool true) ∧ Below w.heap.size w w' := by
  have hG := fun W (hW : Below w.heap.size w W) => bodied W (hL.below hW)
  have hK := from_known w hL
  have hH := fun W (hW : Below w.heap.size w W) => keep_held vf vh vw f h ws W (hL.below hW) (hf.below hW) (hh.below hW) (hw.below hW) hlf hlh hlw hq
  have hWo := fun W (hW : Below w.heap.size w W) hok => body_write_ok vf vh vw f h ws W (hL.below hW) (hf.below hW) (hh.below hW) (hw.below hW) hlf hlh hlw hok
  have hVf := fun W (hW : Below w.heap.size w W) hr => vector_write_ok vf f W (hf.below hW) hr
  have hVh := fun W (hW : Below w.heap.size w W) hr => vector_write_ok vh h W (hh.below hW) hr
  obtain ⟨o1, c1, e1, -, -⟩ := hf.list.at entCells_len
  obtain ⟨o2, c2, e2, -, -⟩ := hh.list.at entCells_len
  obtain ⟨o3, c3, e3, -, -⟩ := ListIs.at hw wrBCells_len
  clear hf hh hw
  subst e1 e2 e3
  replace hG := Lib.hid hG
  replace hH := Lib.hid hH
  replace hWo := Lib.hid hWo
  replace hVf := Lib.hid hVf
  replace hVh := Lib.hid hVh
  replace hq := Lib.hid hq
  go_enter Tryd.func7, Tryd.ntmps7
  go_wp2_with fail
  have q0 := row_at #[.slice o1 f.length c1, .slice o2 h.length c2, .slice o3 ws.length c3] 25 (rfl : w.heap.size = w.heap.size)
  have hb1 := bal (Below.refl w.heap.size w) (Obj.cells #[.slice o1 f.length c1, .slice o2 h.length c2, .slice o3 ws.length c3] 25)
  generalize w.alloc (Obj.cells #[.slice o1 f.length c1, .slice o2 h.length c2, .slice o3 ws.length c3] 25) = w1 at *
  refine (hG.out _ hb1).mono ?_
  rintro _ w2 ⟨rfl, hb2⟩
  replace q0 := q0.below hb2
  replace hb1 := bch hb1 hb2
  clear hb2
  go_wp2_with fail
  refine (hK _ hb1).mono ?_
  rintro _ w3 ⟨rfl, hb2⟩
  replace q0 := q0.below hb2
  replace hb1 := bch hb1 hb2
  clear hb2
  (have c0 := q0.cell 0; have c1 := q0.cell 1; have c2 := q0.cell 2; simp only [List.set_cons_succ, List.set_cons_zero, List.getElem?_cons_zero, List.getElem?_cons_succ] at c0 c1 c2)
  go_wp2_with fail
  refine (hH.out _ hb1).mono ?_
  rintro _ w4 ⟨⟨r, rfl, hr⟩, hb2⟩
  replace q0 := q0.below hb2
  replace hb1 := bch hb1 hb2
  clear hb2 c0 c1 c2
  (have c0 := q0.cell 0; have c1 := q0.cell 1; have c2 := q0.cell 2; simp only [List.set_cons_succ, List.set_cons_zero, List.getElem?_cons_zero, List.getElem?_cons_succ] at c0 c1 c2)
  cases r with
  | false =>
    replace hr := Lib.hid hr
    go_wp2
    go_ret
    exact ⟨rfl, hb1⟩
  | true =>
  have hok := hr rfl
  clear hr
  have hWr := Lib.hid (hWo.out w4 hb1 hok)
  have hF := (Bat.right_iff _ _ _).1 hok
  have hf16 := ((Vec.right_iff f).1 hF.from_).len
  have hf1 := vec_write_len hF.from_
  have hf2 := vec_write_len hF.have_
  replace hVf := Lib.hid (fun W hW => hVf.out W hW hF.from_)
  replace hVh := Lib.hid (fun W hW => hVh.out W hW hF.have_)
  clear hF
  have hpre : ∃ R, bodyOf f h ws = (Vec.write f ++ Vec.write h) ++ R := ⟨_, by rw [body_parts, List.append_assoc, List.append_assoc, List.append_assoc (Vec.write f ++ Vec.write h)]⟩
  by_cases hlong : 20000 < (bodyOf f h ws).length
  · rw [if_pos hlong] at hWr
    unfold errV at hWr
    clear hlong hok hpre
    go_wp2_with fail
    refine hWr.out.mono ?_
    rintro _ w5 ⟨rfl, hb2⟩
    replace q0 := q0.below hb2
    replace hb1 := bch hb1 hb2
    clear hb2 c0 c1 c2 hWr
    (have c0 := q0.cell 0; have c1 := q0.cell 1; have c2 := q0.cell 2; simp only [List.set_cons_succ, List.set_cons_zero, List.getElem?_cons_zero, List.getElem?_cons_succ] at c0 c1 c2)
    go_wp2_with fail
    refine (hVf.out _ hb1).mono ?_
    rintro _ w6 ⟨rfl, hb2⟩
    replace q0 := q0.below hb2
    replace hb1 := bch hb1 hb2
    clear hb2 c0 c1 c2
    (have c0 := q0.cell 0; have c1 := q0.cell 1; have c2 := q0.cell 2; simp only [List.set_cons_succ, List.set_cons_zero, List.getElem?_cons_zero, List.getElem?_cons_succ] at c0 c1 c2)
    go_wp2_with fail
    refine (hVh.out _ hb1).mono ?_
    rintro _ w7 ⟨rfl, hb2⟩
    go_wp2
    go_ret
    exact ⟨rfl, bch hb1 hb2⟩
  · rw [if_neg hlong] at hWr
    have hsz : (bodyOf f h ws).length ≤ 20000 := by omega
    have hHP := fun W => Tryd.strings_HasPrefix ⟨(bodyOf f h ws).toArray⟩ ⟨(Vec.write f ++ Vec.write h).toArray⟩ W
    have hyes : Lib.hasPrefix (ByteArray.mk (bodyOf f h ws).toArray).data.toList (ByteArray.mk (Vec.write f ++ Vec.write h).toArray).data.toList = true := by
      obtain ⟨R, hR⟩ := hpre
      show Lib.hasPrefix (bodyOf f h ws) (Vec.write f ++ Vec.write h) = true
      rw [hR]
      simp [Lib.hasPrefix]
    rw [hyes] at hHP
    have hcat := bytes_cat (Vec.write f) (Vec.write h)
    clear hlong hok hpre hyes
    generalize bodyOf f h ws = bo at *
    generalize Vec.write f = x1 at *
    generalize Vec.write h = x2 at *
    replace hHP := Lib.hid hHP
    go_wp2_with fail
    refine hWr.out.mono ?_
    rintro _ w5 ⟨rfl, hb2⟩
    replace q0 := q0.below hb2
    replace hb1 := bch hb1 hb2
    clear hb2 c0 c1 c2 hWr
    (have c0 := q0.cell 0; have c1 := q0.cell 1; have c2 := q0.cell 2; simp only [List.set_cons_succ, List.set_cons_zero, List.getElem?_cons_zero, List.getElem?_cons_succ] at c0 c1 c2)
    go_wp2_with fail
    refine (hVf.out _ hb1).mono ?_
    rintro _ w6 ⟨rfl, hb2⟩
    replace q0 := q0.below hb2
    replace hb1 := bch hb1 hb2
    clear hb2 c0 c1 c2
    (have c0 := q0.cell 0; have c1 := q0.cell 1; have c2 := q0.cell 2; simp only [List.set_cons_succ, List.set_cons_zero, List.getElem?_cons_zero, List.getElem?_cons_succ] at c0 c1 c2)
    go_wp2_with fail
    refine (hVh.out _ hb1).mono ?_
    rintro _ w7 ⟨rfl, hb2⟩
    replace hb1 := bch hb1 hb2
    go_wp2_with fail
    refine (hHP.out _).mono ?_
    rintro _ w8 ⟨rfl, rfl⟩
    go_wp2
    go_ret
    exact ⟨rfl, hb1⟩
theorem BodyHead_walk (vf vh vw : Value) (w : World) (q : BatQ w (vf, vh, vw)) (hL : Laid w) :
    Calls Tryd.prog 7 #[.agg #[vf, vh, vw]] w fun e w' => e = .returned (.bool true) ∧ Below w.heap.size w w' := by
  obtain ⟨⟨f, hf, -, hlf⟩, ⟨h, hh, -, hlh⟩, ⟨ws, hw, hq, hlw⟩⟩ := q
  exact body_head vf vh vw f h ws w hL hf hh hw hlf hlh hlw hq
end Go.Proofs.YtlgaklbfjjpfkaaDoor
