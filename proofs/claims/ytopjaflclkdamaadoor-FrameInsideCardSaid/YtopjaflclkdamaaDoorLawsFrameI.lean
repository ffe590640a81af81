/- The walk of the law FrameInside. -/
import Derived.Test.YtopjaflclkdamaaDoorWFramed
import Derived.Test.YtopjaflclkdamaaDoorWSecond
import Derived.Test.YtopjaflclkdamaaDoorWSummed
import Derived.Test.YtopjaflclkdamaaDoorWHeld
namespace Go.Proofs.YtopjaflclkdamaaDoor
open Go.RowKit
set_option linter.unusedVariables false
set_option linter.unusedSimpArgs false
set_option maxHeartbeats 4000000 in
set_option maxRecDepth 20000 in
theorem frame_inside_law (vf vh vw : Value) (f h : List Vec.Entry) (ws : List WrB) (w : World) (hL : Laid w) (hf : VecIs w vf f) (hh : VecIs w vh h) (hw : WrsIs w vw ws) (hlf : f.length ≤ 140737488351232) (hlh : h.length ≤ 140737488351232) (hlw : ws.length ≤ 140737488351232) (hq : ∀ x ∈ ws, WrBOk x) :
    Calls Tryd.prog 8 #[.agg #[vf, vh, vw]] w fun e w' => e = .returned (.bool true) ∧ Below w.heap.size w w' := by
  have hG := fun W (hW : Below w.heap.size w W) => framed W (hL.below hW)
  have hSm := fun W => summed W
  have hH := fun W (hW : Below w.heap.size w W) => keep_held vf vh vw f h ws W (hL.below hW) (hf.below hW) (hh.below hW) (hw.below hW) hlf hlh hlw hq
  have hWo := fun W (hW : Below w.heap.size w W) hok => body_write_ok vf vh vw f h ws W (hL.below hW) (hf.below hW) (hh.below hW) (hw.below hW) hlf hlh hlw hok
  have hS1 := fun W (hW : Below w.heap.size w W) hok hl => old_second vf vh vw f h ws W (hL.below hW) (hf.below hW) (hh.below hW) (hw.below hW) hlf hlh hlw hok hl
  have hS2 := fun W (hW : Below w.heap.size w W) hok hl => old_second_long vf vh vw f h ws W (hL.below hW) (hf.below hW) (hh.below hW) (hw.below hW) hlf hlh hlw hok hl
  obtain ⟨o1, m1, e1, -, -⟩ := hf.list.at entCells_len
  obtain ⟨o2, m2, e2, -, -⟩ := hh.list.at entCells_len
  obtain ⟨o3, m3, e3, -, -⟩ := ListIs.at hw wrBCells_len
  clear hf hh hw
  subst e1 e2 e3
  replace hG := Lib.hid hG
  replace hSm := Lib.hid hSm
  replace hH := Lib.hid hH
  replace hWo := Lib.hid hWo
  replace hS1 := Lib.hid hS1
  replace hS2 := Lib.hid hS2
  replace hq := Lib.hid hq
  go_enter Tryd.func8, Tryd.ntmps8
  go_wp2_with fail
  have q0 := row_at #[.slice o1 f.length m1, .slice o2 h.length m2, .slice o3 ws.length m3] 26 (rfl : w.heap.size = w.heap.size)
  have hb1 := bal (Below.refl w.heap.size w) (Obj.cells #[.slice o1 f.length m1, .slice o2 h.length m2, .slice o3 ws.length m3] 26)
  generalize w.alloc (Obj.cells #[.slice o1 f.length m1, .slice o2 h.length m2, .slice o3 ws.length m3] 26) = w1 at *
  refine (hG.out _ hb1).mono ?_
  rintro _ w2 ⟨rfl, hb2⟩
  replace q0 := q0.below hb2
  replace hb1 := bch hb1 hb2
  clear hb2
  go_wp2_with fail
  refine (hSm.out _).mono ?_
  rintro _ w3 ⟨rfl, rfl⟩
  (have c0 := q0.cell 0; have c1 := q0.cell 1; have c2 := q0.cell 2; simp only [List.set_cons_succ, List.set_cons_zero, List.getElem?_cons_zero, List.getElem?_cons_succ] at c0 c1 c2)
  go_wp2_with fail
  refine (hH.out _ hb1).mono ?_
  rintro _ w4 ⟨⟨r, rfl, hr⟩, hb2⟩
  replace q0 := q0.below hb2
  replace hb1 := bch hb1 hb2
  clear hb2 c0 c1 c2
  (have c0 := q0.cell 0; have c1 := q0.cell 1; have c2 := q0.cell 2; simp only [List.set_cons_succ, List.set_cons_zero, List.getElem?_cons_zero, List.getElem?_cons_succ] at c0 c1 c2)
  cases r with
  | false =>
    replace hr := Lib.hid hr
    go_wp2
    go_ret
    exact ⟨rfl, hb1⟩
  | true =>
  have hok := hr rfl
  clear hr
  by_cases hlong : 20000 < (bodyOf f h ws).length
  · have hA := Lib.hid (hS2.out w4 hb1 hok hlong)
    have hI := Lib.hid (fun W => frame_inside_bad ⟨#[]⟩ 7 W (by decide) (by decide))
    replace hWo := Lib.hid (fun W hW => hWo.out W hW hok)
    simp only [if_pos hlong, errV] at hWo
    clear hlong hok hS1 hS2
    go_wp2_with fail
    refine hA.out.mono ?_
    rintro _ w5 ⟨rfl, hb2⟩
    replace q0 := q0.below hb2
    replace hb1 := bch hb1 hb2
    clear hb2 c0 c1 c2
    (have c0 := q0.cell 0; have c1 := q0.cell 1; have c2 := q0.cell 2; simp only [List.set_cons_succ, List.set_cons_zero, List.getElem?_cons_zero, List.getElem?_cons_succ] at c0 c1 c2)
    go_wp2_with fail
    refine (hWo.out _ hb1).mono ?_
    rintro _ w6 ⟨rfl, hb2⟩
    replace hb1 := bch hb1 hb2
    clear hb2 c0 c1 c2 q0
    go_wp2_with fail
    refine (hI.out _).mono ?_
    rintro _ w7 ⟨rfl, hb2⟩
    go_wp2
    go_ret
    exact ⟨rfl, bch hb1 hb2⟩
  · have hA := Lib.hid (hS1.out w4 hb1 hok hlong)
    have hS : (bodyOf f h ws).length ≤ 20000 := by omega
    have hS0 : 1 ≤ (bodyOf f h ws).length := by
      rw [body_parts]
      have := Vary.put_pos ws.length
      simp only [List.length_append]
      omega
    have hI := Lib.hid (fun W => inside_around 2 (bodyOf f h ws) W (by decide) (by decide) hS0 (by omega))
    replace hWo := Lib.hid (fun W hW => hWo.out W hW hok)
    simp only [if_neg hlong] at hWo
    have hSe := fun W => crc_seal ((⟨#[80, 84, 2]⟩ : ByteArray) ++ ⟨(bodyOf f h ws).toArray⟩) W (by
      have e1 : ((⟨#[80, 84, 2]⟩ : ByteArray) ++ ⟨(bodyOf f h ws).toArray⟩).size = 3 + (bodyOf f h ws).length := by
        rw [← ba_len, two_ba]
        simp only [List.length_cons]
        omega
      rw [e1]; unfold maxLen; omega)
    rw [two_ba] at hSe
    rw [show Crc.seal_ (80 :: 84 :: 2 :: bodyOf f h ws) = Frame.around 2 (bodyOf f h ws) from rfl] at hSe
    replace hSe := Lib.hid hSe
    clear hlong hok hS1 hS2
    generalize Frame.around 2 (bodyOf f h ws) = AR at *
    generalize bodyOf f h ws = S at *
    go_wp2_with fail
    refine hA.out.mono ?_
    rintro _ w5 ⟨rfl, hb2⟩
    replace q0 := q0.below hb2
    replace hb1 := bch hb1 hb2
    clear hb2 c0 c1 c2
    (have c0 := q0.cell 0; have c1 := q0.cell 1; have c2 := q0.cell 2; simp only [List.set_cons_succ, List.set_cons_zero, List.getElem?_cons_zero, List.getElem?_cons_succ] at c0 c1 c2)
    go_wp2_with fail
    refine (hWo.out _ hb1).mono ?_
    rintro _ w6 ⟨rfl, hb2⟩
    replace hb1 := bch hb1 hb2
    clear hb2 c0 c1 c2 q0
    go_wp2_with fail
    refine (hI.out _).mono ?_
    rintro _ w7 ⟨rfl, hb2⟩
    replace hb1 := bch hb1 hb2
    go_wp2_with fail
    refine (hSe.out _).mono ?_
    rintro _ w8 ⟨rfl, hb3⟩
    go_wp2
    go_ret
    exact ⟨rfl, bch hb1 hb3⟩
theorem FrameInside_walk (vf vh vw : Value) (w : World) (q : BatQ w (vf, vh, vw)) (hL : Laid w) :
    Calls Tryd.prog 8 #[.agg #[vf, vh, vw]] w fun e w' => e = .returned (.bool true) ∧ Below w.heap.size w w' := by
  obtain ⟨⟨f, hf, -, hlf⟩, ⟨h, hh, -, hlh⟩, ⟨ws, hw, hq, hlw⟩⟩ := q
  exact frame_inside_law vf vh vw f h ws w hL hf hh hw hlf hlh hlw hq
end Go.Proofs.YtopjaflclkdamaaDoor
