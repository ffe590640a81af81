/- The walk of the law BodyCut. -/
import Derived.Test.YtlgaklbfjjpfkaaDoorLawsBodyB
import Derived.Test.YtlgaklbfjjpfkaaDoorWPick
namespace Go.Proofs.YtlgaklbfjjpfkaaDoor
open Go.RowKit
set_option linter.unusedVariables false
set_option linter.unusedSimpArgs false
theorem take_ba (s : ByteArray) (k : Nat) (hk : k ≤ s.size) : (s.extract 0 k).data.toList = s.data.toList.take k := by
  rw [ByteArray.data_extract, Array.toList_extract, List.extract_eq_take_drop, List.drop_zero]
  simp
theorem ba_full {B : ByteArray} (h : B ≠ ⟨#[]⟩) : B.toList.isEmpty = false := by
  cases hb : B.toList with
  | nil => exact absurd (ba_ext (by rw [← ByteArray.toList_eq, hb])) h
  | cons x l => rfl
/-- What a beginning gives. -/
theorem read_short (B : ByteArray) (f h : List Vec.Entry) (ws : List WrB) (k : Nat) (w : World) (hL : Laid w) (hB : B.data.toList = bodyOf f h ws) (hok : Bat.right f h (ws.map WrB.plain) = .ok) (hs : B.size ≤ 20000) (hk : k < B.size) :
    Calls Tryd.prog 14 #[.string (B.extract 0 k)] w fun e w' => (∃ g, e = .returned (.tuple #[.agg #[.slice none 0 0, .slice none 0 0, .slice none 0 0], .iface 69 (.pointer (some ⟨g, 0, none⟩))])) ∧ Below w.heap.size w w' := by
  have hR := body_read (B.extract 0 k) w (by simp only [ByteArray.size_extract]; omega) hL
  unfold BodyGot at hR
  rw [take_ba B k (by omega), hB] at hR
  obtain ⟨e, he⟩ := Body.read_cut hok k (by rw [show Body.write f h (ws.map WrB.plain) = bodyOf f h ws from rfl, ← hB, Array.length_toList]; exact hk)
  rw [show bodyOf f h ws = Body.write f h (ws.map WrB.plain) from rfl, he] at hR
  exact hR.mono fun _ _ ⟨⟨g, h1, _⟩, h2⟩ => ⟨⟨g, h1⟩, h2⟩
/-- What more behind it gives. -/
theorem read_long (B more : ByteArray) (f h : List Vec.Entry) (ws : List WrB) (w : World) (hL : Laid w) (hB : B.data.toList = bodyOf f h ws) (hok : Bat.right f h (ws.map WrB.plain) = .ok) (hs : B.size + more.size ≤ 20000) (hm : more.data.toList ≠ []) :
    Calls Tryd.prog 14 #[.string (B ++ more)] w fun e w' => (∃ g, e = .returned (.tuple #[.agg #[.slice none 0 0, .slice none 0 0, .slice none 0 0], .iface 69 (.pointer (some ⟨g, 0, none⟩))]) ∧ w'.cell? ⟨g, 0, none⟩ = some (.int .i64 (3 : Nat))) ∧ Below w.heap.size w w' := by
  have hR := body_read (B ++ more) w (by rw [ByteArray.size_append]; omega) hL
  unfold BodyGot at hR
  rw [ba_app, hB, show bodyOf f h ws = Body.write f h (ws.map WrB.plain) from rfl, Body.read_more hok _ hm] at hR
  exact hR
set_option maxHeartbeats 8000000 in
set_option maxRecDepth 20000 in
theorem body_cut (vf vh vw : Value) (f h : List Vec.Entry) (ws : List WrB) (n : Int) (more : ByteArray) (w : World) (hL : Laid w) (hf : VecIs w vf f) (hh : VecIs w vh h) (hw : WrsIs w vw ws) (hlf : f.length ≤ 140737488351232) (hlh : h.length ≤ 140737488351232) (hlw : ws.length ≤ 140737488351232) (hq : ∀ x ∈ ws, WrBOk x) (hm : more.size ≤ 140737488351232) :
    Calls Tryd.prog 5 #[.agg #[vf, vh, vw], .int .i64 n, .string more] w fun e w' => e = .returned (.bool true) ∧ Below w.heap.size w w' := by
  have hG := fun W (hW : Below w.heap.size w W) => bodied W (hL.below hW)
  have hB := fun W (hW : Below w.heap.size w W) => keep_big vf vh vw f h ws W (hf.below hW) (hh.below hW) (hw.below hW) hlf hlh hlw hq
  have hWb := fun W (hW : Below w.heap.size w W) hbad => body_write_bad vf vh vw f h ws W (hL.below hW) (hf.below hW) (hh.below hW) (hw.below hW) hlf hlh hlw hbad
  have hWo := fun W (hW : Below w.heap.size w W) hok => body_write_ok vf vh vw f h ws W (hL.below hW) (hf.below hW) (hh.below hW) (hw.below hW) hlf hlh hlw hok
  obtain ⟨o1, c1, e1, -, -⟩ := hf.list.at entCells_len
  obtain ⟨o2, c2, e2, -, -⟩ := hh.list.at entCells_len
  obtain ⟨o3, c3, e3, -, -⟩ := ListIs.at hw wrBCells_len
  clear hf hh hw
  subst e1 e2 e3
  replace hG := Lib.hid hG
  replace hB := Lib.hid hB
  replace hWb := Lib.hid hWb
  replace hWo := Lib.hid hWo
  replace hq := Lib.hid hq
  go_enter Tryd.func5, Tryd.ntmps5
  go_wp2_with fail
  have q0 := row_at #[.slice o1 f.length c1, .slice o2 h.length c2, .slice o3 ws.length c3] 25 (rfl : w.heap.size = w.heap.size)
  have hb1 := bal (Below.refl w.heap.size w) (Obj.cells #[.slice o1 f.length c1, .slice o2 h.length c2, .slice o3 ws.length c3] 25)
  generalize w.alloc (Obj.cells #[.slice o1 f.length c1, .slice o2 h.length c2, .slice o3 ws.length c3] 25) = w1 at *
  refine (hG.out _ hb1).mono ?_
  rintro _ w2 ⟨rfl, hb2⟩
  replace q0 := q0.below hb2
  replace hb1 := bch hb1 hb2
  clear hb2
  (have c0 := q0.cell 0; have c1 := q0.cell 1; have c2 := q0.cell 2; simp only [List.set_cons_succ, List.set_cons_zero, List.getElem?_cons_zero, List.getElem?_cons_succ] at c0 c1 c2)
  go_wp2_with fail
  refine (hB.out _ hb1).mono ?_
  rintro _ w4 ⟨⟨r, rfl⟩, hb2⟩
  replace q0 := q0.below hb2
  replace hb1 := bch hb1 hb2
  clear hb2 c0 c1 c2
  (have c0 := q0.cell 0; have c1 := q0.cell 1; have c2 := q0.cell 2; simp only [List.set_cons_succ, List.set_cons_zero, List.getElem?_cons_zero, List.getElem?_cons_succ] at c0 c1 c2)
  have hm2 : (more.size : Int) ≤ 140737488351232 := by omega
  cases r with
  | true =>
    go_wp2
    go_ret
    exact ⟨rfl, hb1⟩
  | false =>
  by_cases hm3 : (100 : Int) < (more.size : Int)
  · go_wp2
    go_ret
    exact ⟨rfl, hb1⟩
  by_cases hok : Bat.right f h (ws.map WrB.plain) = .ok
  · have hWr := Lib.hid (hWo.out w4 hb1 hok)
    by_cases hlong : 20000 < (bodyOf f h ws).length
    · rw [if_pos hlong] at hWr
      clear hlong hok
      go_wp2_with fail
      refine hWr.out.mono ?_
      rintro _ w5 ⟨rfl, hb2⟩
      replace hb1 := bch hb1 hb2
      clear hb2 c0 c1 c2 hWr q0
      unfold errV
      go_wp2
      go_ret
      exact ⟨rfl, hb1⟩
    · rw [if_neg hlong] at hWr
      obtain ⟨B, hBB⟩ : ∃ B : ByteArray, B = ⟨(bodyOf f h ws).toArray⟩ := ⟨_, rfl⟩
      have hBl : B.data.toList = bodyOf f h ws := by rw [hBB]
      have hBs : B.size ≤ 20000 := by rw [hBB, ba_size]; omega
      have hB0 : 0 < B.size := by
        rw [hBB, ba_size, body_parts]
        have := Vary.put_pos ws.length
        simp only [List.length_append]
        omega
      rw [← hBB] at hWr
      have hSh := fun k W hW hk => read_short B f h ws k W hW hBl hok hBs hk
      have hLo := fun W hW h1 h2 => read_long B more f h ws W hW hBl hok h1 h2
      have hSame : ∀ W, Laid W → Calls Tryd.prog 14 #[.string B] W fun e w' => (∃ vf vh vw, e = .returned (.tuple #[.agg #[vf, vh, vw], .nilIface]) ∧ VecIs w' vf f ∧ VecIs w' vh h ∧ WrsIs w' vw ws) ∧ Below W.heap.size W w' := fun W hW => by
        have := read_back f h ws W hW hok hlong
        rw [← hBB] at this; exact this
      have hLL := fun W h1 => body_read_long (B ++ more) W h1 (by rw [ByteArray.size_append]; unfold maxLen; omega)
      have hBe : B.toList.isEmpty = false := ba_full (fun e => by rw [e] at hB0; exact absurd hB0 (by decide))
      clear hlong hok hBB hBl
      replace hSh := Lib.hid hSh
      replace hLo := Lib.hid hLo
      replace hSame := Lib.hid hSame
      replace hLL := Lib.hid hLL
      go_wp2_with fail
      refine hWr.out.mono ?_
      rintro _ w5 ⟨rfl, hb2⟩
      replace hb1 := bch hb1 hb2
      clear hb2 c0 c1 c2 hWr q0
      have hP0 := fun W => keep_pick n B.size B.size W rfl hB0 (by omega)
      have hkl0 := pickN_lt n B.size hB0
      generalize pickN n B.size = k at *
      replace hP0 := Lib.hid hP0
      have hk0 : (0 : Int) ≤ (k : Int) := by omega
      have hk1 : (k : Int) ≤ (B.size : Int) := by omega
      go_wp2_with fail
      refine (hP0.out _).mono ?_
      rintro _ w6 ⟨rfl, rfl⟩
      have hS1 := Lib.hid (hSh.out k w5 (hL.below hb1) hkl0)
      go_wp2_with fail
      refine hS1.out.mono ?_
      rintro _ w7 ⟨⟨g, rfl⟩, hb2⟩
      replace hb1 := bch hb1 hb2
      replace hb1 := bal hb1 (Obj.cells #[.slice none 0 0, .slice none 0 0, .slice none 0 0] 25)
      have hms : more.size ≤ 100 := by omega
      clear hS1 hSh hP0 hb2
      by_cases hme : more.data.toList = []
      · have hmn : more = ⟨#[]⟩ := ba_ext (by rw [hme])
        subst hmn
        have hBa : B ++ ⟨#[]⟩ = B := ba_ext (by rw [ba_app]; simp)
        have hR2 := Lib.hid (hSame.out _ (hL.below hb1))
        clear hLo hLL hme
        go_wp2_with fail
        (try rw [hBa])
        refine hR2.out.mono ?_
        rintro _ w8 ⟨⟨v1, v2, v3, rfl, h1, h2, h3⟩, hb2⟩
        obtain ⟨o4, c4, rfl, -, -⟩ := h1.list.at entCells_len
        obtain ⟨o5, c5, rfl, -, -⟩ := h2.list.at entCells_len
        obtain ⟨o6, c6, rfl, -, -⟩ := ListIs.at h3 wrBCells_len
        clear h1 h2 h3
        go_wp2
        go_ret
        exact ⟨rfl, bal (bch hb1 hb2) _⟩
      · have hmE : more.toList.isEmpty = false := ba_full (fun e => hme (by rw [e]))
        by_cases htot : 20000 < B.size + more.size
        · have hR2 := Lib.hid (hLL.out (w7.alloc (Obj.cells #[.slice none 0 0, .slice none 0 0, .slice none 0 0] 25)) (by rw [ByteArray.size_append]; exact htot))
          have htI : (20000 : Int) < (B.size : Int) + (more.size : Int) := by omega
          clear hLo hLL hSame
          unfold errV at hR2
          go_wp2_with fail
          refine hR2.out.mono ?_
          rintro _ w8 ⟨rfl, hb2⟩
          replace hb1 := bal (bch hb1 hb2) (Obj.cells #[.slice none 0 0, .slice none 0 0, .slice none 0 0] 25)
          have hT := Lib.hid (tell_errno 4 _ (hL.below hb1))
          go_wp2_with fail
          refine hT.out.mono ?_
          rintro _ w9 ⟨rfl, hb9⟩
          go_wp2
          go_ret
          exact ⟨rfl, bch hb1 hb9⟩
        · have hR2 := Lib.hid (hLo.out _ (hL.below hb1) (by omega) hme)
          clear hLo hLL hSame
          go_wp2_with fail
          refine hR2.out.mono ?_
          rintro _ w8 ⟨⟨g8, rfl, hg8⟩, hb2⟩
          replace hg8 := cell_alloc hg8 (Obj.cells #[.slice none 0 0, .slice none 0 0, .slice none 0 0] 25)
          replace hb1 := bal (bch hb1 hb2) (Obj.cells #[.slice none 0 0, .slice none 0 0, .slice none 0 0] 25)
          have hT := Lib.hid (tell_at 3 g8 _ (hL.below hb1) hg8)
          replace hg8 := Lib.hid hg8
          go_wp2_with fail
          refine hT.out.mono ?_
          rintro _ w9 ⟨rfl, hb9⟩
          go_wp2
          go_ret
          exact ⟨rfl, bch hb1 hb9⟩
  · have hWr := Lib.hid (hWb.out w4 hb1 hok)
    go_wp2_with fail
    refine hWr.out.mono ?_
    rintro _ w5 ⟨⟨E, rfl, hE⟩, hb2⟩
    obtain ⟨t, u, rfl⟩ := err_some hE hok
    replace hb1 := bch hb1 hb2
    clear hb2 c0 c1 c2 hWr hE q0
    replace hok := Lib.hid hok
    go_wp2
    go_ret
    exact ⟨rfl, hb1⟩
theorem BodyCut_walk (vf vh vw : Value) (a1 : Int) (a2 : ByteArray) (w : World) (q : BatQ w (vf, vh, vw)) (w1 : (Lit.int .i64 a1).wf = true) (w2 : a2.size ≤ 140737488351232) (hL : Laid w) :
    Calls Tryd.prog 5 #[.agg #[vf, vh, vw], .int .i64 a1, .string a2] w fun e w' => e = .returned (.bool true) ∧ Below w.heap.size w w' := by
  obtain ⟨⟨f, hf, -, hlf⟩, ⟨h, hh, -, hlh⟩, ⟨ws, hw, hq, hlw⟩⟩ := q
  exact body_cut vf vh vw f h ws a1 a2 w hL hf hh hw hlf hlh hlw hq w2
end Go.Proofs.YtlgaklbfjjpfkaaDoor
