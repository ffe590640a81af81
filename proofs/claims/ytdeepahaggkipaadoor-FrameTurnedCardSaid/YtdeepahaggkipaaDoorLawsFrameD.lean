/- The walk of the law FrameTurned. -/
import Derived.Test.YtdeepahaggkipaaDoorWFramed
import Derived.Test.YtdeepahaggkipaaDoorWHeld
import Derived.Test.YtdeepahaggkipaaDoorWPick
import Derived.Test.YtdeepahaggkipaaDoorWOldLen
import Derived.Test.YtdeepahaggkipaaDoorWBurst
namespace Go.Proofs.YtdeepahaggkipaaDoor
open Go.RowKit
set_option linter.unusedVariables false
set_option linter.unusedSimpArgs false
theorem any_turned {T : List UInt8} {f b : Nat} (hb : b < 4294967296) (hf : f < 8 * (Crc.seal_ T).length) (hne : Crc.turns (Crc.seal_ T) f b 32 ≠ Crc.seal_ T) : Fst.anyB (Crc.turns (Crc.seal_ T) f b 32) = none := by
  have hts : Crc.seal_ ((Crc.turns (Crc.seal_ T) f b 32).take ((Crc.turns (Crc.seal_ T) f b 32).length - 4)) = Crc.turns (Crc.seal_ T) f b 32 ↔ Crc.turns (Crc.seal_ T) f b 32 = Crc.seal_ T := Crc.turns_sealed T f b hb hf
  have hl := Crc.turns_len (Crc.seal_ T) f b 32
  have hw : (Crc.seal_ T).length = T.length + 4 := Crc.seal_len' _
  refine Fst.anyB_bad (e := 15) ?_
  unfold Crc.opened
  rw [if_neg (by omega), if_neg (fun h => hne (hts.1 h))]
/-- What the end of FrameTurned needs of the frame that was chosen. -/
structure Turnable (S : List UInt8) (f h : List Vec.Entry) (ws : List Wr) : Prop where
  sealed_ : ∃ T, S = Crc.seal_ T
  len : 8 ≤ S.length ∧ S.length ≤ 50000
  any : Fst.anyB S = some (f, h, ws)
set_option maxHeartbeats 8000000 in
set_option maxRecDepth 20000 in
theorem frame_turned (vf vh vw : Value) (f h : List Vec.Entry) (ws : List WrB) (ve fi : Int) (b : Nat) (w : World) (hL : Laid w) (hf : VecIs w vf f) (hh : VecIs w vh h) (hw : WrsIs w vw ws) (hlf : f.length ≤ 140737488351232) (hlh : h.length ≤ 140737488351232) (hlw : ws.length ≤ 140737488351232) (hq : ∀ x ∈ ws, WrBOk x) (hb : b < 4294967296) :
    Calls Tryd.prog 6 #[.agg #[vf, vh, vw], .int .i64 ve, .int .i64 fi, .int .u32 b] w fun e w' => e = .returned (.bool true) ∧ Below w.heap.size w w' := by
  have hG := fun W (hW : Below w.heap.size w W) => framed W (hL.below hW)
  have hH := fun W (hW : Below w.heap.size w W) => keep_held vf vh vw f h ws W (hL.below hW) (hf.below hW) (hh.below hW) (hw.below hW) hlf hlh hlw hq
  have hFr := fun W (hW : Below w.heap.size w W) => frame_write_all vf vh vw f h ws W (hL.below hW) (hf.below hW) (hh.below hW) (hw.below hW) hlf hlh hlw
  have hF1 := fun W (hW : Below w.heap.size w W) hok => old_first_ok vf vh vw f h ws W (hL.below hW) (hf.below hW) (hh.below hW) (hw.below hW) hlf hlh hlw hok
  have hF2 := fun W (hW : Below w.heap.size w W) hok hl => old_second vf vh vw f h ws W (hL.below hW) (hf.below hW) (hh.below hW) (hw.below hW) hlf hlh hlw hok hl
  have hF3 := fun W (hW : Below w.heap.size w W) hok hl => old_second_long vf vh vw f h ws W (hL.below hW) (hf.below hW) (hh.below hW) (hw.below hW) hlf hlh hlw hok hl
  obtain ⟨o1, m1, e1, -, -⟩ := hf.list.at entCells_len
  obtain ⟨o2, m2, e2, -, -⟩ := hh.list.at entCells_len
  obtain ⟨o3, m3, e3, -, -⟩ := ListIs.at hw wrBCells_len
  clear hf hh hw
  subst e1 e2 e3
  replace hG := Lib.hid hG
  replace hH := Lib.hid hH
  replace hFr := Lib.hid hFr
  replace hF1 := Lib.hid hF1
  replace hF2 := Lib.hid hF2
  replace hF3 := Lib.hid hF3
  replace hq := Lib.hid hq
  go_enter Tryd.func6, Tryd.ntmps6
  go_wp2_with fail
  have q0 := row_at #[.slice o1 f.length m1, .slice o2 h.length m2, .slice o3 ws.length m3] 25 (rfl : w.heap.size = w.heap.size)
  have hb1 := bal (Below.refl w.heap.size w) (Obj.cells #[.slice o1 f.length m1, .slice o2 h.length m2, .slice o3 ws.length m3] 25)
  generalize w.alloc (Obj.cells #[.slice o1 f.length m1, .slice o2 h.length m2, .slice o3 ws.length m3] 25) = w1 at *
  refine (hG.out _ hb1).mono ?_
  rintro _ w2 ⟨rfl, hb2⟩
  replace q0 := q0.below hb2
  replace hb1 := bch hb1 hb2
  clear hb2
  (have c0 := q0.cell 0; have c1 := q0.cell 1; have c2 := q0.cell 2; simp only [List.set_cons_succ, List.set_cons_zero, List.getElem?_cons_zero, List.getElem?_cons_succ] at c0 c1 c2)
  go_wp2_with fail
  refine (hH.out _ hb1).mono ?_
  rintro _ w4 ⟨⟨r, rfl, hr⟩, hb2⟩
  replace q0 := q0.below hb2
  replace hb1 := bch hb1 hb2
  clear hb2 c0 c1 c2
  (have c0 := q0.cell 0; have c1 := q0.cell 1; have c2 := q0.cell 2; simp only [List.set_cons_succ, List.set_cons_zero, List.getElem?_cons_zero, List.getElem?_cons_succ] at c0 c1 c2)
  cases r with
  | false =>
    replace hr := Lib.hid hr
    go_wp2
    go_ret
    exact ⟨rfl, hb1⟩
  | true =>
  have hok := hr rfl
  clear hr
  have hno : 20000 < (bodyOf f h ws).length → ∀ s E, FW f h ws s E → s = ⟨#[]⟩ ∧ ∃ t u, E = .iface t u := fun hl s E hf => by
    rcases hf with ⟨-, h2, h3, -⟩ | ⟨h1, -, h3⟩
    · omega
    · exact ⟨h1, h3⟩
  have hyes : ¬ 20000 < (bodyOf f h ws).length → ∀ s E, FW f h ws s E → E = .nilIface ∧ s = ⟨(Frame.write f h (ws.map WrB.plain)).toArray⟩ := fun hl s E hf => by
    rcases hf with ⟨h1, -, -, h4⟩ | ⟨-, h2, -⟩
    · exact ⟨h1, h4⟩
    · exact absurd ⟨hok, by omega⟩ h2
  replace hF1 := Lib.hid (fun W hW => hF1.out W hW hok)
  have hPv := Lib.hid (fun W => keep_pick ve 3 3 W (by omega) (by omega) (by omega))
  have hPv3 := pickN_lt ve 3 (by omega)
  generalize pickN ve 3 = vv at *
  go_wp2_with fail
  refine (hPv.out _).mono ?_
  rintro _ w5 ⟨rfl, rfl⟩
  clear hPv
  by_cases e0 : vv = 0
  · subst e0
    by_cases hlong : 20000 < (bodyOf f h ws).length
    · replace hno := Lib.hid (hno hlong)
      clear hlong hok hyes
      go_wp2_with fail
      refine (hFr.out _ hb1).mono ?_
      rintro _ w5 ⟨⟨s, E, rfl, hfw⟩, hb2⟩
      obtain ⟨rfl, t, u, rfl⟩ := hno.out s E hfw
      replace q0 := q0.below hb2
      replace hb1 := bch hb1 hb2
      clear hb2 c0 c1 c2
      (have c0 := q0.cell 0; have c1 := q0.cell 1; have c2 := q0.cell 2; simp only [List.set_cons_succ, List.set_cons_zero, List.getElem?_cons_zero, List.getElem?_cons_succ] at c0 c1 c2)
      replace hfw := Lib.hid hfw
      go_wp2
      go_ret
      exact ⟨rfl, hb1⟩
    · have hS : Turnable (Frame.write f h (ws.map WrB.plain)) f h (ws.map WrB.plain) := ⟨⟨_, rfl⟩, ⟨by unfold Frame.write; rw [Frame.around_len]; unfold Frame.inside; simp only [List.length_cons]; omega, by have := Fst.frame_len f h ws (by omega); omega⟩, Fst.anyB_third hok (by show (bodyOf f h ws).length ≤ 20000; omega)⟩
      replace hyes := Lib.hid (hyes hlong)
      generalize Frame.write f h (ws.map WrB.plain) = S at *
      clear hlong hok hno
      go_wp2_with fail
      refine (hFr.out _ hb1).mono ?_
      rintro _ w5 ⟨⟨s, E, rfl, hfw⟩, hb2⟩
      obtain ⟨rfl, rfl⟩ := hyes.out s E hfw
      clear hfw
      replace q0 := q0.below hb2
      replace hb1 := bch hb1 hb2
      clear hb2 c0 c1 c2
      (have c0 := q0.cell 0; have c1 := q0.cell 1; have c2 := q0.cell 2; simp only [List.set_cons_succ, List.set_cons_zero, List.getElem?_cons_zero, List.getElem?_cons_succ] at c0 c1 c2)
      have hpos : 1 ≤ S.length := by have := hS.len; omega
      have hS5 : S.length ≤ 50000 := hS.len.2
      have hSz : (⟨S.toArray⟩ : ByteArray).size = S.length := ba_size S
      have hlt := pickN_lt fi (8 * S.length) (by omega)
      have hpk := fun W => keep_pick fi (8 * (S.length : Int)) (8 * S.length) W (by omega) (by omega) (by omega)
      generalize pickN fi (8 * S.length) = p at *
      have hT := fun W => keep_turned ⟨S.toArray⟩ p b W (by rw [hSz]; omega) (by omega) hb
      rw [show (ByteArray.mk S.toArray).data.toList = S from rfl] at hT
      have htl := Crc.turns_len S p b 32
      have hne : S.isEmpty = false := by rw [List.isEmpty_eq_false_iff]; intro e; rw [e] at hpos; simp at hpos
      have hrt : Crc.turns S p b 32 ≠ S → Fst.anyB (Crc.turns S p b 32) = none := fun hx => by
        obtain ⟨T, hT⟩ := hS.sealed_
        rw [hT] at hx hlt ⊢
        exact any_turned hb hlt hx
      generalize hU : Crc.turns S p b 32 = U at *
      have hRd := fun W (hW : Below w.heap.size w W) => old_any ⟨U.toArray⟩ W (by rw [ba_size]; omega) (hL.below hW)
      rw [show (ByteArray.mk U.toArray).data.toList = U from rfl] at hRd
      replace hU := Lib.hid hU
      replace hpk := Lib.hid hpk
      replace hT := Lib.hid hT
      clear q0 c0 c1 c2
      by_cases hUB : U = S
      · subst hUB
        rw [hS.any] at hRd
        replace hRd := Lib.hid hRd
        clear hrt hS
        go_wp2_with fail
        refine (hpk.out _).mono ?_
        rintro _ w6 ⟨rfl, rfl⟩
        go_wp2_with fail
        refine (hT.out _).mono ?_
        rintro _ w7 ⟨rfl, hb2⟩
        replace hb1 := bch hb1 hb2
        clear hb2
        go_wp2_with fail
        refine (hRd.out _ hb1).mono ?_
        rintro _ w8 ⟨⟨v1, v2, v3, rfl, x1, x2, x3⟩, hb2⟩
        obtain ⟨o4, c4, rfl, -, -⟩ := x1.list.at entCells_len
        obtain ⟨o5, c5, rfl, -, -⟩ := x2.list.at entCells_len
        obtain ⟨o6, c6, rfl, -, -⟩ := ListIs.at x3 wrBCells_len
        replace hb1 := Lib.hid (bch hb1 hb2)
        clear x1 x2 x3
        go_wp2
        go_ret
        exact ⟨rfl, bal hb1.out _⟩
      · rw [hrt hUB] at hRd
        replace hRd := Lib.hid hRd
        have hEq : (S == U) = false := by simp; exact fun h => hUB h.symm
        replace hUB := Lib.hid hUB
        clear hrt hS
        go_wp2_with fail
        refine (hpk.out _).mono ?_
        rintro _ w6 ⟨rfl, rfl⟩
        go_wp2_with fail
        refine (hT.out _).mono ?_
        rintro _ w7 ⟨rfl, hb2⟩
        replace hb1 := bch hb1 hb2
        clear hb2
        go_wp2_with fail
        refine (hRd.out _ hb1).mono ?_
        rintro _ w8 ⟨⟨t, u, rfl⟩, hb2⟩
        go_wp2
        go_ret
        exact ⟨rfl, bal (bch hb1 hb2) _⟩
  · by_cases e1 : vv = 1
    · subst e1
      have hS : Turnable (Fst.write f h (ws.map WrB.plain)) f h (ws.map WrB.plain) := ⟨⟨_, rfl⟩, ⟨by unfold Fst.write; rw [Frame.around_len]; have := Fst.inner_pos f h (ws.map WrB.plain); omega, by have := Fst.first_len hok; omega⟩, Fst.anyB_first hok⟩
      generalize Fst.write f h (ws.map WrB.plain) = S at *
      clear hok hno hyes e0
      go_wp2_with fail
      refine (hF1.out _ hb1).mono ?_
      rintro _ w5 ⟨rfl, hb2⟩
      replace q0 := q0.below hb2
      replace hb1 := bch hb1 hb2
      clear hb2 c0 c1 c2
      (have c0 := q0.cell 0; have c1 := q0.cell 1; have c2 := q0.cell 2; simp only [List.set_cons_succ, List.set_cons_zero, List.getElem?_cons_zero, List.getElem?_cons_succ] at c0 c1 c2)
      have hpos : 1 ≤ S.length := by have := hS.len; omega
      have hS5 : S.length ≤ 50000 := hS.len.2
      have hSz : (⟨S.toArray⟩ : ByteArray).size = S.length := ba_size S
      have hlt := pickN_lt fi (8 * S.length) (by omega)
      have hpk := fun W => keep_pick fi (8 * (S.length : Int)) (8 * S.length) W (by omega) (by omega) (by omega)
      generalize pickN fi (8 * S.length) = p at *
      have hT := fun W => keep_turned ⟨S.toArray⟩ p b W (by rw [hSz]; omega) (by omega) hb
      rw [show (ByteArray.mk S.toArray).data.toList = S from rfl] at hT
      have htl := Crc.turns_len S p b 32
      have hne : S.isEmpty = false := by rw [List.isEmpty_eq_false_iff]; intro e; rw [e] at hpos; simp at hpos
      have hrt : Crc.turns S p b 32 ≠ S → Fst.anyB (Crc.turns S p b 32) = none := fun hx => by
        obtain ⟨T, hT⟩ := hS.sealed_
        rw [hT] at hx hlt ⊢
        exact any_turned hb hlt hx
      generalize hU : Crc.turns S p b 32 = U at *
      have hRd := fun W (hW : Below w.heap.size w W) => old_any ⟨U.toArray⟩ W (by rw [ba_size]; omega) (hL.below hW)
      rw [show (ByteArray.mk U.toArray).data.toList = U from rfl] at hRd
      replace hU := Lib.hid hU
      replace hpk := Lib.hid hpk
      replace hT := Lib.hid hT
      clear q0 c0 c1 c2
      by_cases hUB : U = S
      · subst hUB
        rw [hS.any] at hRd
        replace hRd := Lib.hid hRd
        clear hrt hS
        go_wp2_with fail
        refine (hpk.out _).mono ?_
        rintro _ w6 ⟨rfl, rfl⟩
        go_wp2_with fail
        refine (hT.out _).mono ?_
        rintro _ w7 ⟨rfl, hb2⟩
        replace hb1 := bch hb1 hb2
        clear hb2
        go_wp2_with fail
        refine (hRd.out _ hb1).mono ?_
        rintro _ w8 ⟨⟨v1, v2, v3, rfl, x1, x2, x3⟩, hb2⟩
        obtain ⟨o4, c4, rfl, -, -⟩ := x1.list.at entCells_len
        obtain ⟨o5, c5, rfl, -, -⟩ := x2.list.at entCells_len
        obtain ⟨o6, c6, rfl, -, -⟩ := ListIs.at x3 wrBCells_len
        replace hb1 := Lib.hid (bch hb1 hb2)
        clear x1 x2 x3
        go_wp2
        go_ret
        exact ⟨rfl, bal hb1.out _⟩
      · rw [hrt hUB] at hRd
        replace hRd := Lib.hid hRd
        have hEq : (S == U) = false := by simp; exact fun h => hUB h.symm
        replace hUB := Lib.hid hUB
        clear hrt hS
        go_wp2_with fail
        refine (hpk.out _).mono ?_
        rintro _ w6 ⟨rfl, rfl⟩
        go_wp2_with fail
        refine (hT.out _).mono ?_
        rintro _ w7 ⟨rfl, hb2⟩
        replace hb1 := bch hb1 hb2
        clear hb2
        go_wp2_with fail
        refine (hRd.out _ hb1).mono ?_
        rintro _ w8 ⟨⟨t, u, rfl⟩, hb2⟩
        go_wp2
        go_ret
        exact ⟨rfl, bal (bch hb1 hb2) _⟩
    · obtain rfl : vv = 2 := by omega
      by_cases hlong : 20000 < (bodyOf f h ws).length
      · replace hF3 := Lib.hid (fun W hW => hF3.out W hW hok hlong)
        clear hlong hok hyes hno e0 e1
        go_wp2_with fail
        refine (hF3.out _ hb1).mono ?_
        rintro _ w5 ⟨rfl, hb2⟩
        replace q0 := q0.below hb2
        replace hb1 := bch hb1 hb2
        clear hb2 c0 c1 c2
        (have c0 := q0.cell 0; have c1 := q0.cell 1; have c2 := q0.cell 2; simp only [List.set_cons_succ, List.set_cons_zero, List.getElem?_cons_zero, List.getElem?_cons_succ] at c0 c1 c2)
        go_wp2
        go_ret
        exact ⟨rfl, hb1⟩
      · have hS : Turnable (Frame.around 2 (bodyOf f h ws)) f h (ws.map WrB.plain) := ⟨⟨_, rfl⟩, ⟨by rw [Frame.around_len]; have : 1 ≤ (bodyOf f h ws).length := Fst.body_pos f h (ws.map WrB.plain); omega, by rw [Frame.around_len]; omega⟩, Fst.anyB_second (ws := ws.map WrB.plain) hok (by show (bodyOf f h ws).length ≤ 20000; omega)⟩
        replace hF2 := Lib.hid (fun W hW => hF2.out W hW hok hlong)
        generalize Frame.around 2 (bodyOf f h ws) = S at *
        clear hlong hok hno hyes e0 e1
        go_wp2_with fail
        refine (hF2.out _ hb1).mono ?_
        rintro _ w5 ⟨rfl, hb2⟩
        replace q0 := q0.below hb2
        replace hb1 := bch hb1 hb2
        clear hb2 c0 c1 c2
        (have c0 := q0.cell 0; have c1 := q0.cell 1; have c2 := q0.cell 2; simp only [List.set_cons_succ, List.set_cons_zero, List.getElem?_cons_zero, List.getElem?_cons_succ] at c0 c1 c2)
        have hpos : 1 ≤ S.length := by have := hS.len; omega
        have hS5 : S.length ≤ 50000 := hS.len.2
        have hSz : (⟨S.toArray⟩ : ByteArray).size = S.length := ba_size S
        have hlt := pickN_lt fi (8 * S.length) (by omega)
        have hpk := fun W => keep_pick fi (8 * (S.length : Int)) (8 * S.length) W (by omega) (by omega) (by omega)
        generalize pickN fi (8 * S.length) = p at *
        have hT := fun W => keep_turned ⟨S.toArray⟩ p b W (by rw [hSz]; omega) (by omega) hb
        rw [show (ByteArray.mk S.toArray).data.toList = S from rfl] at hT
        have htl := Crc.turns_len S p b 32
        have hne : S.isEmpty = false := by rw [List.isEmpty_eq_false_iff]; intro e; rw [e] at hpos; simp at hpos
        have hrt : Crc.turns S p b 32 ≠ S → Fst.anyB (Crc.turns S p b 32) = none := fun hx => by
          obtain ⟨T, hT⟩ := hS.sealed_
          rw [hT] at hx hlt ⊢
          exact any_turned hb hlt hx
        generalize hU : Crc.turns S p b 32 = U at *
        have hRd := fun W (hW : Below w.heap.size w W) => old_any ⟨U.toArray⟩ W (by rw [ba_size]; omega) (hL.below hW)
        rw [show (ByteArray.mk U.toArray).data.toList = U from rfl] at hRd
        replace hU := Lib.hid hU
        replace hpk := Lib.hid hpk
        replace hT := Lib.hid hT
        clear q0 c0 c1 c2
        by_cases hUB : U = S
        · subst hUB
          rw [hS.any] at hRd
          replace hRd := Lib.hid hRd
          clear hrt hS
          go_wp2_with fail
          refine (hpk.out _).mono ?_
          rintro _ w6 ⟨rfl, rfl⟩
          go_wp2_with fail
          refine (hT.out _).mono ?_
          rintro _ w7 ⟨rfl, hb2⟩
          replace hb1 := bch hb1 hb2
          clear hb2
          go_wp2_with fail
          refine (hRd.out _ hb1).mono ?_
          rintro _ w8 ⟨⟨v1, v2, v3, rfl, x1, x2, x3⟩, hb2⟩
          obtain ⟨o4, c4, rfl, -, -⟩ := x1.list.at entCells_len
          obtain ⟨o5, c5, rfl, -, -⟩ := x2.list.at entCells_len
          obtain ⟨o6, c6, rfl, -, -⟩ := ListIs.at x3 wrBCells_len
          replace hb1 := Lib.hid (bch hb1 hb2)
          clear x1 x2 x3
          go_wp2
          go_ret
          exact ⟨rfl, bal hb1.out _⟩
        · rw [hrt hUB] at hRd
          replace hRd := Lib.hid hRd
          have hEq : (S == U) = false := by simp; exact fun h => hUB h.symm
          replace hUB := Lib.hid hUB
          clear hrt hS
          go_wp2_with fail
          refine (hpk.out _).mono ?_
          rintro _ w6 ⟨rfl, rfl⟩
          go_wp2_with fail
          refine (hT.out _).mono ?_
          rintro _ w7 ⟨rfl, hb2⟩
          replace hb1 := bch hb1 hb2
          clear hb2
          go_wp2_with fail
          refine (hRd.out _ hb1).mono ?_
          rintro _ w8 ⟨⟨t, u, rfl⟩, hb2⟩
          go_wp2
          go_ret
          exact ⟨rfl, bal (bch hb1 hb2) _⟩
theorem FrameTurned_walk (vf vh vw : Value) (a1 a2 a3 : Int) (w : World) (q : BatQ w (vf, vh, vw)) (w1 : (Lit.int .i64 a1).wf = true) (w2 : (Lit.int .i64 a2).wf = true) (w3 : (Lit.int .u32 a3).wf = true) (hL : Laid w) :
    Calls Tryd.prog 6 #[.agg #[vf, vh, vw], .int .i64 a1, .int .i64 a2, .int .u32 a3] w fun e w' => e = .returned (.bool true) ∧ Below w.heap.size w w' := by
  obtain ⟨a3, rfl, hb⟩ := nat_u32 w3
  obtain ⟨⟨f, hf, -, hlf⟩, ⟨h, hh, -, hlh⟩, ⟨ws, hw, hq, hlw⟩⟩ := q
  exact frame_turned vf vh vw f h ws a1 a2 a3 w hL hf hh hw hlf hlh hlw hq hb
end Go.Proofs.YtdeepahaggkipaaDoor
