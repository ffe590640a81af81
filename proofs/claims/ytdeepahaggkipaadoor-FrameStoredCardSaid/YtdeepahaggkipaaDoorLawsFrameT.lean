/- The walk of the law FrameStored. -/
import Derived.Test.YtdeepahaggkipaaDoorWFramed
import Derived.Test.YtdeepahaggkipaaDoorWSqueezed
import Derived.Test.YtdeepahaggkipaaDoorWSummed
import Derived.Test.YtdeepahaggkipaaDoorWHeld
namespace Go.Proofs.YtdeepahaggkipaaDoor
open Go.RowKit
set_option linter.unusedVariables false
set_option linter.unusedSimpArgs false
theorem keep_sealed (s : ByteArray) (w : World) (hs : s.size + 4 ≤ maxLen) :
    Calls Tryd.prog 26 #[.string s] w fun e w' => e = .returned (.string ⟨(Crc.seal_ s.data.toList).toArray⟩) ∧ Below w.heap.size w w' := by
  go_enter Tryd.func26, Tryd.ntmps26
  go_wp2_with (go_at_call 34; go_must (refine (crc_seal s _ hs).mono ?_); rintro e w' ⟨rfl, hb⟩)
  go_ret
  exact ⟨rfl, by (repeat (first | exact Below.refl _ _ | assumption | refine bal ?_ _ | refine bdr ?_ | refine bdn ?_ _ | refine bst ?_ (by first | assumption | exact Nat.le_refl _ | omega) _ | refine bch ?_ (by assumption)))⟩
theorem keep_size (n : Nat) (w : World) (hn : n ≤ 20000) :
    Calls Tryd.prog 27 #[.int .i64 n] w fun e w' => e = .returned (.string ⟨(Vary.put n).toArray⟩) ∧ Below w.heap.size w w' := by
  have hw : IntKind.u64.wrap (n : Int) = (n : Int) := by rw [IntKind.wrap_u64]; omega
  go_enter Tryd.func27, Tryd.ntmps27
  go_wp2_with (go_at_call 35; go_must (refine (vary_put n _ (by omega)).mono ?_); rintro e w' ⟨rfl, hb⟩)
  go_ret
  exact ⟨rfl, by (repeat (first | exact Below.refl _ _ | assumption | refine bal ?_ _ | refine bdr ?_ | refine bdn ?_ _ | refine bst ?_ (by first | assumption | exact Nat.le_refl _ | omega) _ | refine bch ?_ (by assumption)))⟩
/-- The frame that keeps the body the other way. -/
theorem frame_other (f h : List Vec.Entry) (ws : List WrB) (b : Bool) (w : World) (hL : Laid w) (hok : Bat.right f h (ws.map WrB.plain) = .ok) (hl : (bodyOf f h ws).length ≤ 20000)
    (hb : b = decide ((Frame.squeeze (bodyOf f h ws)).length < (bodyOf f h ws).length)) (U : List UInt8) (hU : U = Frame.around 3 (Frame.packed (!b) (bodyOf f h ws))) (hs : U.length ≤ 700000) :
    (Calls Tryd.prog 15 #[.string ⟨U.toArray⟩] w fun e w' => e = .returned (.tuple #[.agg #[.slice none 0 0, .slice none 0 0, .slice none 0 0], .iface 43 (.int .i64 13)]) ∧ Below w.heap.size w w') ∧ U ≠ Frame.write f h (ws.map WrB.plain) := by
  have hne : U ≠ Frame.write f h (ws.map WrB.plain) := fun e => by
    unfold Frame.write at e
    rw [Frame.inside_packed, hU] at e
    have := Frame.around_inj e
    rw [show Body.write f h (ws.map WrB.plain) = bodyOf f h ws from rfl, ← hb] at this
    exact Frame.packed_ne (bodyOf f h ws) b this.symm
  refine ⟨?_, hne⟩
  have hR := frame_read ⟨U.toArray⟩ w (by rw [ba_size]; exact hs) hL
  unfold FrameGot at hR
  rw [show (ByteArray.mk U.toArray).data.toList = U from rfl, show Frame.readB U = some (f, h, ws.map WrB.plain) by
    rw [hU]; exact Frame.readB_packed (!b) hok hl] at hR
  simp only at hR
  simp only [if_neg (fun e : Frame.write f h (ws.map WrB.plain) = U => hne e.symm)] at hR
  exact hR
theorem list_neq {A B : List UInt8} (h : A ≠ B) : (A == B) = false := by simpa using h
set_option maxHeartbeats 8000000 in
set_option maxRecDepth 20000 in
theorem frame_stored (vf vh vw : Value) (f h : List Vec.Entry) (ws : List WrB) (w : World) (hL : Laid w) (hf : VecIs w vf f) (hh : VecIs w vh h) (hw : WrsIs w vw ws) (hlf : f.length ≤ 140737488351232) (hlh : h.length ≤ 140737488351232) (hlw : ws.length ≤ 140737488351232) (hq : ∀ x ∈ ws, WrBOk x) :
    Calls Tryd.prog 5 #[.agg #[vf, vh, vw]] w fun e w' => e = .returned (.bool true) ∧ Below w.heap.size w w' := by
  have hG := fun W (hW : Below w.heap.size w W) => framed W (hL.below hW)
  have hD := fun W (hW : Below w.heap.size w W) => bodied W (hL.below hW)
  have hQ := fun W => squeezed W
  have hSm := fun W => summed W
  have hH := fun W (hW : Below w.heap.size w W) => keep_held vf vh vw f h ws W (hL.below hW) (hf.below hW) (hh.below hW) (hw.below hW) hlf hlh hlw hq
  have hWo := fun W (hW : Below w.heap.size w W) hok => body_write_ok vf vh vw f h ws W (hL.below hW) (hf.below hW) (hh.below hW) (hw.below hW) hlf hlh hlw hok
  have hFr := fun W (hW : Below w.heap.size w W) => frame_write_all vf vh vw f h ws W (hL.below hW) (hf.below hW) (hh.below hW) (hw.below hW) hlf hlh hlw
  obtain ⟨o1, m1, e1, -, -⟩ := hf.list.at entCells_len
  obtain ⟨o2, m2, e2, -, -⟩ := hh.list.at entCells_len
  obtain ⟨o3, m3, e3, -, -⟩ := ListIs.at hw wrBCells_len
  clear hf hh hw
  subst e1 e2 e3
  replace hG := Lib.hid hG
  replace hD := Lib.hid hD
  replace hQ := Lib.hid hQ
  replace hSm := Lib.hid hSm
  replace hH := Lib.hid hH
  replace hWo := Lib.hid hWo
  replace hFr := Lib.hid hFr
  replace hq := Lib.hid hq
  go_enter Tryd.func5, Tryd.ntmps5
  go_wp2_with fail
  have q0 := row_at #[.slice o1 f.length m1, .slice o2 h.length m2, .slice o3 ws.length m3] 25 (rfl : w.heap.size = w.heap.size)
  have hb1 := bal (Below.refl w.heap.size w) (Obj.cells #[.slice o1 f.length m1, .slice o2 h.length m2, .slice o3 ws.length m3] 25)
  generalize w.alloc (Obj.cells #[.slice o1 f.length m1, .slice o2 h.length m2, .slice o3 ws.length m3] 25) = w1 at *
  refine (hG.out _ hb1).mono ?_
  rintro _ w2 ⟨rfl, hb2⟩
  replace q0 := q0.below hb2
  replace hb1 := bch hb1 hb2
  clear hb2
  go_wp2_with fail
  refine (hD.out _ hb1).mono ?_
  rintro _ w3 ⟨rfl, hb2⟩
  replace q0 := q0.below hb2
  replace hb1 := bch hb1 hb2
  clear hb2
  go_wp2_with fail
  refine (hQ.out _).mono ?_
  rintro _ w3 ⟨rfl, hb2⟩
  replace q0 := q0.below hb2
  replace hb1 := bch hb1 hb2
  clear hb2
  go_wp2_with fail
  refine (hSm.out _).mono ?_
  rintro _ w3 ⟨rfl, rfl⟩
  (have c0 := q0.cell 0; have c1 := q0.cell 1; have c2 := q0.cell 2; simp only [List.set_cons_succ, List.set_cons_zero, List.getElem?_cons_zero, List.getElem?_cons_succ] at c0 c1 c2)
  go_wp2_with fail
  refine (hH.out _ hb1).mono ?_
  rintro _ w4 ⟨⟨r, rfl, hr⟩, hb2⟩
  replace q0 := q0.below hb2
  replace hb1 := bch hb1 hb2
  clear hb2 c0 c1 c2
  (have c0 := q0.cell 0; have c1 := q0.cell 1; have c2 := q0.cell 2; simp only [List.set_cons_succ, List.set_cons_zero, List.getElem?_cons_zero, List.getElem?_cons_succ] at c0 c1 c2)
  cases r with
  | false =>
    replace hr := Lib.hid hr
    go_wp2
    go_ret
    exact ⟨rfl, hb1⟩
  | true =>
  have hok := hr rfl
  clear hr
  have hE := hWo.out w4 hb1 hok
  clear hWo
  by_cases hlong : 20000 < (bodyOf f h ws).length
  · rw [if_pos hlong] at hE
    have hno : ∀ s E, FW f h ws s E → s = ⟨#[]⟩ ∧ ∃ t u, E = .iface t u := fun s E hf => by
      rcases hf with ⟨-, h2, h3, -⟩ | ⟨h1, -, h3⟩
      · omega
      · exact ⟨h1, h3⟩
    replace hno := Lib.hid hno
    replace hE := Lib.hid hE
    clear hlong hok
    unfold errV at hE
    go_wp2_with fail
    refine hE.out.mono ?_
    rintro _ w5 ⟨rfl, hb2⟩
    replace q0 := q0.below hb2
    replace hb1 := bch hb1 hb2
    clear hb2 c0 c1 c2
    (have c0 := q0.cell 0; have c1 := q0.cell 1; have c2 := q0.cell 2; simp only [List.set_cons_succ, List.set_cons_zero, List.getElem?_cons_zero, List.getElem?_cons_succ] at c0 c1 c2)
    go_wp2_with fail
    refine (hFr.out _ hb1).mono ?_
    rintro _ w6 ⟨⟨s, E, rfl, hfw⟩, hb2⟩
    obtain ⟨rfl, t2, u2, rfl⟩ := hno.out s E hfw
    replace hfw := Lib.hid hfw
    go_wp2
    go_ret
    exact ⟨rfl, bch hb1 hb2⟩
  rw [if_neg hlong] at hE
  have hS : (bodyOf f h ws).length ≤ 20000 := by omega
  have hyes : ∀ s E, FW f h ws s E → E = .nilIface ∧ s = ⟨(Frame.write f h (ws.map WrB.plain)).toArray⟩ := fun s E hf => by
    rcases hf with ⟨h1, -, -, h4⟩ | ⟨-, h2, -⟩
    · exact ⟨h1, h4⟩
    · exact absurd ⟨hok, hS⟩ h2
  have hT := Frame.write_len f h (ws.map WrB.plain)
  change _ = 8 + (Vary.put (bodyOf f h ws).length).length + (if (Frame.squeeze (bodyOf f h ws)).length < (bodyOf f h ws).length then (Frame.squeeze (bodyOf f h ws)).length else (bodyOf f h ws).length) at hT
  have hOt := fun b hb U hU hs W hW => frame_other f h ws b W hW hok hS hb U hU hs
  have hpl := Vary.put_len (bodyOf f h ws).length (by omega)
  clear hlong hok
  generalize Frame.write f h (ws.map WrB.plain) = FR at *
  generalize bodyOf f h ws = S at *
  have hZl := squeezed_len S hS
  have hSq := fun W => lz_squeeze ⟨S.toArray⟩ W (by rw [ba_size]; exact hS)
  change ∀ W, Calls Tryd.prog 25 #[.string ⟨S.toArray⟩] W fun e w' => e = .returned (.tuple #[.string ⟨(Frame.squeeze S).toArray⟩, .nilIface]) ∧ Below W.heap.size W w' at hSq
  change (Frame.squeeze S).length ≤ _ at hZl
  have hZ : (Frame.squeeze S).length ≤ 420000 := by omega
  have hFl : 8 ≤ FR.length ∧ FR.length ≤ 500000 := by rw [hT]; constructor <;> split <;> omega
  have hFi : ¬ (FR.length : Int) < 8 := by omega
  have hSz := Lib.hid (fun W => keep_size S.length W hS)
  have hU1 : ∀ (fl : UInt8) (K : List UInt8), K.length ≤ 420000 → ((⟨#[80, 84, 3]⟩ : ByteArray) ++ ⟨#[fl]⟩ ++ ⟨(Vary.put S.length).toArray⟩ ++ ⟨K.toArray⟩).size + 4 ≤ maxLen := fun fl K hK => by
    rw [← ba_len, inside_ba]
    simp only [List.length_cons, List.length_append]
    unfold maxLen; omega
  replace hT := Lib.hid hT
  replace hE := Lib.hid hE
  replace hyes := Lib.hid hyes
  by_cases hlt : (Frame.squeeze S).length < S.length
  · have hltI : ((Frame.squeeze S).length : Int) < (S.length : Int) := by omega
    have hU2 := hOt true (by rw [decide_eq_true hlt]) (Frame.around 3 (Frame.packed false S)) rfl (by rw [Frame.around_len]; simp only [Frame.packed, Bool.false_eq_true, if_false, List.length_cons, List.length_append]; omega)
    have hSe := fun W => keep_sealed _ W (hU1 0 S (by omega))
    rw [inside_ba] at hSe
    rw [show Crc.seal_ (80 :: 84 :: 3 :: 0 :: (Vary.put S.length ++ S)) = Frame.around 3 (Frame.packed false S) from rfl] at hSe
    generalize Frame.around 3 (Frame.packed false S) = U at *
    generalize Frame.squeeze S = Z at *
    have hne := list_neq (hU2 w4 (hL.below hb1)).2
    replace hU2 := Lib.hid (fun W hW => (hU2 W hW).1)
    replace hSe := Lib.hid hSe
    replace hSq := Lib.hid hSq
    clear hU1 hOt hlt hFl
    generalize Vary.put S.length = p at *
    go_wp2_with fail
    refine hE.out.mono ?_
    rintro _ w5 ⟨rfl, hb2⟩
    replace q0 := q0.below hb2
    replace hb1 := bch hb1 hb2
    clear hb2 c0 c1 c2
    (have c0 := q0.cell 0; have c1 := q0.cell 1; have c2 := q0.cell 2; simp only [List.set_cons_succ, List.set_cons_zero, List.getElem?_cons_zero, List.getElem?_cons_succ] at c0 c1 c2)
    go_wp2_with fail
    refine (hFr.out _ hb1).mono ?_
    rintro _ w6 ⟨⟨s, E, rfl, hfw⟩, hb2⟩
    obtain ⟨rfl, rfl⟩ := hyes.out s E hfw
    replace hb1 := bch hb1 hb2
    clear hfw hb2 q0 c0 c1 c2
    go_wp2_with fail
    refine (hSq.out _).mono ?_
    rintro _ w7 ⟨rfl, hb2⟩
    replace hb1 := bch hb1 hb2
    clear hb2
    go_wp2_with fail
    refine (hSz.out _).mono ?_
    rintro _ w8 ⟨rfl, hb2⟩
    replace hb1 := bch hb1 hb2
    clear hb2
    go_wp2_with fail
    refine (hSe.out _).mono ?_
    rintro _ w9 ⟨rfl, hb2⟩
    replace hb1 := bch hb1 hb2
    clear hb2
    go_wp2_with fail
    refine (hU2.out _ (hL.below hb1)).mono ?_
    rintro _ w10 ⟨rfl, hb2⟩
    replace hb1 := bal (bch hb1 hb2) (Obj.cells #[.slice none 0 0, .slice none 0 0, .slice none 0 0] 25)
    have hTl := Lib.hid (fun W (hW : Below w.heap.size w W) => tell_errno 13 W (hL.below hW))
    clear hb2
    go_wp2_with fail
    refine (hTl.out _ hb1).mono ?_
    rintro _ w11 ⟨rfl, hb2⟩
    go_wp2
    go_ret
    exact ⟨rfl, bch hb1 hb2⟩
  · have hltI : ¬ ((Frame.squeeze S).length : Int) < (S.length : Int) := by omega
    have hU2 := hOt false (by rw [decide_eq_false hlt]) (Frame.around 3 (Frame.packed true S)) rfl (by rw [Frame.around_len]; simp only [Frame.packed, if_true, List.length_cons, List.length_append]; omega)
    have hSe := fun W => keep_sealed _ W (hU1 1 (Frame.squeeze S) (by omega))
    rw [inside_ba] at hSe
    rw [show Crc.seal_ (80 :: 84 :: 3 :: 1 :: (Vary.put S.length ++ Frame.squeeze S)) = Frame.around 3 (Frame.packed true S) from rfl] at hSe
    generalize Frame.around 3 (Frame.packed true S) = U at *
    generalize Frame.squeeze S = Z at *
    have hne := list_neq (hU2 w4 (hL.below hb1)).2
    replace hU2 := Lib.hid (fun W hW => (hU2 W hW).1)
    replace hSe := Lib.hid hSe
    replace hSq := Lib.hid hSq
    clear hU1 hOt hlt hFl
    generalize Vary.put S.length = p at *
    go_wp2_with fail
    refine hE.out.mono ?_
    rintro _ w5 ⟨rfl, hb2⟩
    replace q0 := q0.below hb2
    replace hb1 := bch hb1 hb2
    clear hb2 c0 c1 c2
    (have c0 := q0.cell 0; have c1 := q0.cell 1; have c2 := q0.cell 2; simp only [List.set_cons_succ, List.set_cons_zero, List.getElem?_cons_zero, List.getElem?_cons_succ] at c0 c1 c2)
    go_wp2_with fail
    refine (hFr.out _ hb1).mono ?_
    rintro _ w6 ⟨⟨s, E, rfl, hfw⟩, hb2⟩
    obtain ⟨rfl, rfl⟩ := hyes.out s E hfw
    replace hb1 := bch hb1 hb2
    clear hfw hb2 q0 c0 c1 c2
    go_wp2_with fail
    refine (hSq.out _).mono ?_
    rintro _ w7 ⟨rfl, hb2⟩
    replace hb1 := bch hb1 hb2
    clear hb2
    go_wp2_with fail
    refine (hSz.out _).mono ?_
    rintro _ w8 ⟨rfl, hb2⟩
    replace hb1 := bch hb1 hb2
    clear hb2
    go_wp2_with fail
    refine (hSe.out _).mono ?_
    rintro _ w9 ⟨rfl, hb2⟩
    replace hb1 := bch hb1 hb2
    clear hb2
    go_wp2_with fail
    refine (hU2.out _ (hL.below hb1)).mono ?_
    rintro _ w10 ⟨rfl, hb2⟩
    replace hb1 := bal (bch hb1 hb2) (Obj.cells #[.slice none 0 0, .slice none 0 0, .slice none 0 0] 25)
    have hTl := Lib.hid (fun W (hW : Below w.heap.size w W) => tell_errno 13 W (hL.below hW))
    clear hb2
    go_wp2_with fail
    refine (hTl.out _ hb1).mono ?_
    rintro _ w11 ⟨rfl, hb2⟩
    go_wp2
    go_ret
    exact ⟨rfl, bch hb1 hb2⟩
theorem FrameStored_walk (vf vh vw : Value) (w : World) (q : BatQ w (vf, vh, vw)) (hL : Laid w) :
    Calls Tryd.prog 5 #[.agg #[vf, vh, vw]] w fun e w' => e = .returned (.bool true) ∧ Below w.heap.size w w' := by
  obtain ⟨⟨f, hf, -, hlf⟩, ⟨h, hh, -, hlh⟩, ⟨ws, hw, hq, hlw⟩⟩ := q
  exact frame_stored vf vh vw f h ws w hL hf hh hw hlf hlh hlw hq
end Go.Proofs.YtdeepahaggkipaaDoor
