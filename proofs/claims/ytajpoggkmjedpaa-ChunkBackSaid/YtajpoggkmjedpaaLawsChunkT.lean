/- Walk of the law ChunkTurned. -/
import Derived.Test.YtajpoggkmjedpaaWPieced
import Derived.Test.YtajpoggkmjedpaaWBurst
namespace Go.Proofs.Ytajpoggkmjedpaa
open Go.RowKit
set_option linter.unusedVariables false
set_option linter.unusedSimpArgs false
/-- A piece in memory, whatever lies in it. -/
structure ChB where
  n : Int
  t : Int
  a : Int
  d : ByteArray
def chBCells (x : ChB) : List Value := [.int .u32 x.n, .int .i64 x.t, .int .i64 x.a, .string x.d]
theorem chBCells_len (x : ChB) : (chBCells x).length = 4 := rfl
abbrev ChBOk (x : ChB) : Prop := (Lit.int .u32 x.n).wf = true ∧ (Lit.int .i64 x.t).wf = true ∧ (Lit.int .i64 x.a).wf = true ∧ x.d.size ≤ 140737488351232
theorem read_turned {c : Chunk.Piece} {f b : Nat} (hb : b < 4294967296) (hf : f < 8 * (Chunk.write c).length) (hne : Crc.turns (Chunk.write c) f b 32 ≠ Chunk.write c) : Chunk.read (Crc.turns (Chunk.write c) f b 32) = .bad 15 := by
  have hts : Crc.seal_ ((Crc.turns (Chunk.write c) f b 32).take ((Crc.turns (Chunk.write c) f b 32).length - 4)) = Crc.turns (Chunk.write c) f b 32 ↔ Crc.turns (Chunk.write c) f b 32 = Chunk.write c := Crc.turns_sealed (Chunk.inner c) f b hb hf
  have hl := Crc.turns_len (Chunk.write c) f b 32
  have hw : (Chunk.write c).length = (Chunk.inner c).length + 4 := Crc.seal_len' _
  have ho : Crc.opened (Crc.turns (Chunk.write c) f b 32) = .inl 15 := by
    unfold Crc.opened
    rw [if_neg (by omega), if_neg (fun h => hne (hts.1 h))]
  exact read_inl ho
set_option maxHeartbeats 4000000 in
set_option maxRecDepth 100000 in
theorem chunk_turned (nm : Nat) (t a : Int) (d : ByteArray) (f : Int) (b : Nat) (w : World) (hn : nm < 4294967296) (hd : d.size ≤ 140737488351232) (hb : b < 4294967296) :
    Calls Try.prog 7 #[.agg #[.int .u32 nm, .int .i64 t, .int .i64 a, .string d], .int .i64 f, .int .u32 b] w fun e w' => e = .returned (.bool true) ∧ Below w.heap.size w w' := by
  have hP := fun W => pieced W
  have hR := fun W => chunk_right nm t a d W
  replace hP := Lib.hid hP
  by_cases h300 : 300 < d.size
  · clear hR
    go_enter Try.func7, Try.ntmps7
    go_wp2_with fail
    have q0 := row_at #[.int .u32 nm, .int .i64 t, .int .i64 a, .string d] 40 (rfl : w.heap.size = w.heap.size)
    have qb : Below w.heap.size w (w.alloc (Obj.cells #[.int .u32 nm, .int .i64 t, .int .i64 a, .string d] 40)) := by (repeat (first | exact Below.refl _ _ | assumption | refine bal ?_ _ | refine bdr ?_ | refine bdn ?_ _ | refine bst ?_ (by first | assumption | exact Nat.le_refl _ | omega) _ | refine bch ?_ (by assumption)))
    generalize w.alloc (Obj.cells #[.int .u32 nm, .int .i64 t, .int .i64 a, .string d] 40) = w1 at *
    refine (hP.out _).mono ?_
    rintro _ W2 ⟨rfl, hb2⟩
    replace q0 := q0.below hb2
    replace qb := bch qb hb2
    clear hb2
    (have c0 := q0.cell 0; have c1 := q0.cell 1; have c2 := q0.cell 2; have c3 := q0.cell 3; simp only [List.set_cons_succ, List.set_cons_zero, List.getElem?_cons_zero, List.getElem?_cons_succ] at c0 c1 c2 c3)
    go_wp2_with fail
    go_ret
    exact ⟨rfl, qb⟩
  · by_cases hw : Chunk.wrong ⟨nm, t, a, d⟩ = 0
    · have hf := (Chunk.fine_iff _).1 hw
      have ht1 := hf.t1
      have ht2 := hf.t2
      have ha1 := hf.a1
      have ha2 := hf.a2
      have hd2 := hf.d2
      simp only at ht1 ht2 ha1 ha2 hd2
      obtain ⟨t, rfl⟩ : ∃ t' : Nat, t = t' := ⟨t.toNat, by omega⟩
      obtain ⟨a, rfl⟩ : ∃ a' : Nat, a = a' := ⟨a.toNat, by omega⟩
      rw [hw] at hR
      replace hR : ∀ W, Calls Try.prog 18 #[.agg #[.int .u32 nm, .int .i64 t, .int .i64 a, .string d]] W fun e w' => e = .returned .nilIface ∧ Below W.heap.size W w' := hR
      have hW := fun W => chunk_write nm t a d W hn hf
      have hrw := Chunk.read_write ⟨nm, t, a, d⟩ hf hn
      have hwl := Chunk.write_len ⟨nm, t, a, d⟩ hf
      have hws := write_size ⟨nm, t, a, d⟩
      have hpos : 1 ≤ (Chunk.write ⟨nm, t, a, d⟩).length := by omega
      have hrt := fun f hfl hne => read_turned (c := ⟨nm, t, a, d⟩) (f := f) hb hfl hne
      have hsz := ba_size (Chunk.write ⟨nm, t, a, d⟩)
      generalize Chunk.write ⟨nm, t, a, d⟩ = B at *
      have hlt := pickN_lt f (8 * B.length) (by omega)
      have hpk := fun W => keep_pick f (8 * (B.length : Int)) (8 * B.length) W (by omega) (by omega) (by omega)
      generalize pickN f (8 * B.length) = p at *
      have hT := fun W => keep_turned ⟨B.toArray⟩ p b W (by rw [hsz]; omega) (by omega) hb
      have hBl : (ByteArray.mk B.toArray).data.toList = B := rfl
      rw [hBl] at hT
      have htl := Crc.turns_len B p b 32
      have hne : B.isEmpty = false := by rw [List.isEmpty_eq_false_iff]; intro e; rw [e] at hpos; simp at hpos
      replace hrt := hrt p hlt
      generalize hU : Crc.turns B p b 32 = U at *
      have hRd := fun W => chunk_read ⟨U.toArray⟩ W (by rw [ba_size]; omega)
      have hUl : (ByteArray.mk U.toArray).data.toList = U := rfl
      rw [hUl] at hRd
      replace hU := Lib.hid hU
      replace hR := Lib.hid hR
      replace hW := Lib.hid hW
      replace hpk := Lib.hid hpk
      replace hT := Lib.hid hT
      replace hw := Lib.hid hw
      clear hf hws
      by_cases hUB : U = B
      · subst hUB
        rw [hrw] at hRd
        replace hRd : ∀ W, Calls Try.prog 19 #[.string ⟨U.toArray⟩] W fun e w' => e = .returned (.tuple #[.agg #[.int .u32 nm, .int .i64 t, .int .i64 a, .string d], .nilIface]) ∧ Below W.heap.size W w' := hRd
        replace hRd := Lib.hid hRd
        clear hrw hrt
        have hEq : (U == U) = true := by simp
        go_enter Try.func7, Try.ntmps7
        go_wp2_with fail
        have q0 := row_at #[.int .u32 nm, .int .i64 t, .int .i64 a, .string d] 40 (rfl : w.heap.size = w.heap.size)
        have qb : Below w.heap.size w (w.alloc (Obj.cells #[.int .u32 nm, .int .i64 t, .int .i64 a, .string d] 40)) := by (repeat (first | exact Below.refl _ _ | assumption | refine bal ?_ _ | refine bdr ?_ | refine bdn ?_ _ | refine bst ?_ (by first | assumption | exact Nat.le_refl _ | omega) _ | refine bch ?_ (by assumption)))
        generalize w.alloc (Obj.cells #[.int .u32 nm, .int .i64 t, .int .i64 a, .string d] 40) = w1 at *
        refine (hP.out _).mono ?_
        rintro _ W2 ⟨rfl, hb2⟩
        replace q0 := q0.below hb2
        replace qb := bch qb hb2
        clear hb2
        (have c0 := q0.cell 0; have c1 := q0.cell 1; have c2 := q0.cell 2; have c3 := q0.cell 3; simp only [List.set_cons_succ, List.set_cons_zero, List.getElem?_cons_zero, List.getElem?_cons_succ] at c0 c1 c2 c3)
        go_wp2_with fail
        refine (hR.out _).mono ?_
        rintro _ w3 ⟨rfl, hb3⟩
        replace q0 := q0.below hb3
        replace qb := bch qb hb3
        clear c0 c1 c2 c3
        (have c0 := q0.cell 0; have c1 := q0.cell 1; have c2 := q0.cell 2; have c3 := q0.cell 3; simp only [List.set_cons_succ, List.set_cons_zero, List.getElem?_cons_zero, List.getElem?_cons_succ] at c0 c1 c2 c3)
        go_wp2_with fail
        refine (hW.out _).mono ?_
        rintro _ w4 ⟨rfl, hb4⟩
        replace qb := bch qb hb4
        clear c0 c1 c2 c3 q0 hb3 hb4
        go_wp2_with fail
        refine (hpk.out _).mono ?_
        rintro _ w5 ⟨rfl, rfl⟩
        go_wp2_with fail
        refine (hT.out _).mono ?_
        rintro _ w6 ⟨rfl, hb6⟩
        go_wp2_with fail
        refine (hRd.out _).mono ?_
        rintro _ w7 ⟨rfl, hb7⟩
        go_wp2
        go_ret
        exact ⟨rfl, by (repeat (first | exact Below.refl _ _ | assumption | refine bal ?_ _ | refine bdr ?_ | refine bdn ?_ _ | refine bst ?_ (by first | assumption | exact Nat.le_refl _ | omega) _ | refine bch ?_ (by assumption)))⟩
      · rw [hrt hUB] at hRd
        replace hRd : ∀ W, Calls Try.prog 19 #[.string ⟨U.toArray⟩] W fun e w' => e = .returned (.tuple #[.agg #[.int .u32 0, .int .i64 0, .int .i64 0, .string ⟨#[]⟩], .iface 56 (.int .i64 15)]) ∧ Below W.heap.size W w' := hRd
        replace hRd := Lib.hid hRd
        clear hrw hrt
        have hEq : (B == U) = false := by simp; exact fun h => hUB h.symm
        replace hUB := Lib.hid hUB
        go_enter Try.func7, Try.ntmps7
        go_wp2_with fail
        have q0 := row_at #[.int .u32 nm, .int .i64 t, .int .i64 a, .string d] 40 (rfl : w.heap.size = w.heap.size)
        have qb : Below w.heap.size w (w.alloc (Obj.cells #[.int .u32 nm, .int .i64 t, .int .i64 a, .string d] 40)) := by (repeat (first | exact Below.refl _ _ | assumption | refine bal ?_ _ | refine bdr ?_ | refine bdn ?_ _ | refine bst ?_ (by first | assumption | exact Nat.le_refl _ | omega) _ | refine bch ?_ (by assumption)))
        generalize w.alloc (Obj.cells #[.int .u32 nm, .int .i64 t, .int .i64 a, .string d] 40) = w1 at *
        refine (hP.out _).mono ?_
        rintro _ W2 ⟨rfl, hb2⟩
        replace q0 := q0.below hb2
        replace qb := bch qb hb2
        clear hb2
        (have c0 := q0.cell 0; have c1 := q0.cell 1; have c2 := q0.cell 2; have c3 := q0.cell 3; simp only [List.set_cons_succ, List.set_cons_zero, List.getElem?_cons_zero, List.getElem?_cons_succ] at c0 c1 c2 c3)
        go_wp2_with fail
        refine (hR.out _).mono ?_
        rintro _ w3 ⟨rfl, hb3⟩
        replace q0 := q0.below hb3
        replace qb := bch qb hb3
        clear c0 c1 c2 c3
        (have c0 := q0.cell 0; have c1 := q0.cell 1; have c2 := q0.cell 2; have c3 := q0.cell 3; simp only [List.set_cons_succ, List.set_cons_zero, List.getElem?_cons_zero, List.getElem?_cons_succ] at c0 c1 c2 c3)
        go_wp2_with fail
        refine (hW.out _).mono ?_
        rintro _ w4 ⟨rfl, hb4⟩
        replace qb := bch qb hb4
        clear c0 c1 c2 c3 q0 hb3 hb4
        go_wp2_with fail
        refine (hpk.out _).mono ?_
        rintro _ w5 ⟨rfl, rfl⟩
        go_wp2_with fail
        refine (hT.out _).mono ?_
        rintro _ w6 ⟨rfl, hb6⟩
        go_wp2_with fail
        refine (hRd.out _).mono ?_
        rintro _ w7 ⟨rfl, hb7⟩
        go_wp2
        go_ret
        exact ⟨rfl, by (repeat (first | exact Below.refl _ _ | assumption | refine bal ?_ _ | refine bdr ?_ | refine bdn ?_ _ | refine bst ?_ (by first | assumption | exact Nat.le_refl _ | omega) _ | refine bch ?_ (by assumption)))⟩
    · have he : errC (Chunk.wrong ⟨nm, t, a, d⟩) = .iface 56 (.int .i64 (Chunk.wrong ⟨nm, t, a, d⟩)) := by unfold errC; rw [if_neg hw]
      rw [he] at hR
      clear he
      generalize Chunk.wrong ⟨nm, t, a, d⟩ = x at *
      replace hR := Lib.hid hR
      go_enter Try.func7, Try.ntmps7
      go_wp2_with fail
      have q0 := row_at #[.int .u32 nm, .int .i64 t, .int .i64 a, .string d] 40 (rfl : w.heap.size = w.heap.size)
      have qb : Below w.heap.size w (w.alloc (Obj.cells #[.int .u32 nm, .int .i64 t, .int .i64 a, .string d] 40)) := by (repeat (first | exact Below.refl _ _ | assumption | refine bal ?_ _ | refine bdr ?_ | refine bdn ?_ _ | refine bst ?_ (by first | assumption | exact Nat.le_refl _ | omega) _ | refine bch ?_ (by assumption)))
      generalize w.alloc (Obj.cells #[.int .u32 nm, .int .i64 t, .int .i64 a, .string d] 40) = w1 at *
      refine (hP.out _).mono ?_
      rintro _ W2 ⟨rfl, hb2⟩
      replace q0 := q0.below hb2
      replace qb := bch qb hb2
      clear hb2
      (have c0 := q0.cell 0; have c1 := q0.cell 1; have c2 := q0.cell 2; have c3 := q0.cell 3; simp only [List.set_cons_succ, List.set_cons_zero, List.getElem?_cons_zero, List.getElem?_cons_succ] at c0 c1 c2 c3)
      go_wp2_with fail
      refine (hR.out _).mono ?_
      rintro _ w3 ⟨rfl, hb3⟩
      go_wp2
      go_ret
      exact ⟨rfl, by (repeat (first | exact Below.refl _ _ | assumption | refine bal ?_ _ | refine bdr ?_ | refine bdn ?_ _ | refine bst ?_ (by first | assumption | exact Nat.le_refl _ | omega) _ | refine bch ?_ (by assumption)))⟩
theorem ChunkTurned_walk (n t a : Int) (d : ByteArray) (f b : Int) (w : World) (q : ChBOk ⟨n, t, a, d⟩) (w1 : (Lit.int .i64 f).wf = true) (w2 : (Lit.int .u32 b).wf = true) :
    Calls Try.prog 7 #[.agg #[.int .u32 n, .int .i64 t, .int .i64 a, .string d], .int .i64 f, .int .u32 b] w fun e w' => e = .returned (.bool true) ∧ Below w.heap.size w w' := by
  obtain ⟨n, rfl, hn⟩ := nat_u32 q.1
  obtain ⟨b, rfl, hb⟩ := nat_u32 w2
  exact chunk_turned n t a d f b w hn q.2.2.2 hb
end Go.Proofs.Ytajpoggkmjedpaa
