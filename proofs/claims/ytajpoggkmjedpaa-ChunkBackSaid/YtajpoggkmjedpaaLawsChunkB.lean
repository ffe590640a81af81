/- Walk of the law ChunkBack. -/
import Derived.Test.YtajpoggkmjedpaaLawsChunkT
namespace Go.Proofs.Ytajpoggkmjedpaa
open Go.RowKit
set_option linter.unusedVariables false
set_option linter.unusedSimpArgs false
set_option maxHeartbeats 8000000 in
set_option maxRecDepth 100000 in
theorem chunk_back (nm : Nat) (t a : Int) (d s : ByteArray) (w : World) (hn : nm < 4294967296) (hd : d.size ≤ 140737488351232) (hsz : s.size ≤ 140737488351232) :
    Calls Try.prog 5 #[.agg #[.int .u32 nm, .int .i64 t, .int .i64 a, .string d], .string s] w fun e w' => e = .returned (.bool true) ∧ Below w.heap.size w w' := by
  have hP := fun W => pieced W
  have hR := fun W => chunk_right nm t a d W
  replace hP := Lib.hid hP
  by_cases h900 : 900 < d.size + s.size
  · clear hR
    have hd9 : decide ((900 : Int) < (d.size : Int) + (s.size : Int)) = true := by simp; omega
    go_enter Try.func5, Try.ntmps5
    go_wp2_with fail
    have q0 := row_at #[.int .u32 nm, .int .i64 t, .int .i64 a, .string d] 40 (rfl : w.heap.size = w.heap.size)
    have qb : Below w.heap.size w (w.alloc (Obj.cells #[.int .u32 nm, .int .i64 t, .int .i64 a, .string d] 40)) := by (repeat (first | exact Below.refl _ _ | assumption | refine bal ?_ _ | refine bdr ?_ | refine bdn ?_ _ | refine bst ?_ (by first | assumption | exact Nat.le_refl _ | omega) _ | refine bch ?_ (by assumption)))
    generalize w.alloc (Obj.cells #[.int .u32 nm, .int .i64 t, .int .i64 a, .string d] 40) = w1 at *
    refine (hP.out _).mono ?_
    rintro _ W2 ⟨rfl, hb2⟩
    replace q0 := q0.below hb2
    replace qb := bch qb hb2
    clear hb2
    (have c0 := q0.cell 0; have c1 := q0.cell 1; have c2 := q0.cell 2; have c3 := q0.cell 3; simp only [List.set_cons_succ, List.set_cons_zero, List.getElem?_cons_zero, List.getElem?_cons_succ] at c0 c1 c2 c3)
    go_wp2
    go_ret
    exact ⟨rfl, qb⟩
  · have hd9 : decide ((900 : Int) < (d.size : Int) + (s.size : Int)) = false := by simp; omega
    by_cases hw : Chunk.wrong ⟨nm, t, a, d⟩ = 0
    · have hf := (Chunk.fine_iff _).1 hw
      have ht1 := hf.t1
      have ht2 := hf.t2
      have ha1 := hf.a1
      have ha2 := hf.a2
      have hd2 := hf.d2
      simp only at ht1 ht2 ha1 ha2 hd2
      obtain ⟨t, rfl⟩ : ∃ t' : Nat, t = t' := ⟨t.toNat, by omega⟩
      obtain ⟨a, rfl⟩ : ∃ a' : Nat, a = a' := ⟨a.toNat, by omega⟩
      rw [hw] at hR
      replace hR : ∀ W, Calls Try.prog 18 #[.agg #[.int .u32 nm, .int .i64 t, .int .i64 a, .string d]] W fun e w' => e = .returned .nilIface ∧ Below W.heap.size W w' := hR
      have hW := fun W => chunk_write nm t a d W hn hf
      have hrw := Chunk.read_write ⟨nm, t, a, d⟩ hf hn
      have hwl := Chunk.write_len ⟨nm, t, a, d⟩ hf
      generalize Chunk.write ⟨nm, t, a, d⟩ = B at *
      have hRd := fun W => chunk_read ⟨B.toArray⟩ W (by rw [ba_size]; omega)
      have hBl : (ByteArray.mk B.toArray).data.toList = B := rfl
      rw [hBl, hrw] at hRd
      replace hRd : ∀ W, Calls Try.prog 19 #[.string ⟨B.toArray⟩] W fun e w' => e = .returned (.tuple #[.agg #[.int .u32 nm, .int .i64 t, .int .i64 a, .string d], .nilIface]) ∧ Below W.heap.size W w' := hRd
      have hdd : (d.toList == d.toList) = true := by simp
      replace hR := Lib.hid hR
      replace hW := Lib.hid hW
      replace hRd := Lib.hid hRd
      replace hw := Lib.hid hw
      clear hf hrw ht1 ht2 ha1 ha2
      cases hx : Chunk.read s.data.toList with
      | bad e =>
        have hRs := fun W => chunk_read s W (by omega)
        rw [hx] at hRs
        replace hRs : ∀ W, Calls Try.prog 19 #[.string s] W fun e' w' => e' = .returned (.tuple #[.agg #[.int .u32 0, .int .i64 0, .int .i64 0, .string ⟨#[]⟩], .iface 56 (.int .i64 e)]) ∧ Below W.heap.size W w' := hRs
        replace hRs := Lib.hid hRs
        clear hx
        go_enter Try.func5, Try.ntmps5
        go_wp2_with fail
        have q0 := row_at #[.int .u32 nm, .int .i64 t, .int .i64 a, .string d] 40 (rfl : w.heap.size = w.heap.size)
        have qb : Below w.heap.size w (w.alloc (Obj.cells #[.int .u32 nm, .int .i64 t, .int .i64 a, .string d] 40)) := by (repeat (first | exact Below.refl _ _ | assumption | refine bal ?_ _ | refine bdr ?_ | refine bdn ?_ _ | refine bst ?_ (by first | assumption | exact Nat.le_refl _ | omega) _ | refine bch ?_ (by assumption)))
        generalize w.alloc (Obj.cells #[.int .u32 nm, .int .i64 t, .int .i64 a, .string d] 40) = w1 at *
        refine (hP.out _).mono ?_
        rintro _ W2 ⟨rfl, hb2⟩
        replace q0 := q0.below hb2
        replace qb := bch qb hb2
        clear hb2
        (have c0 := q0.cell 0; have c1 := q0.cell 1; have c2 := q0.cell 2; have c3 := q0.cell 3; simp only [List.set_cons_succ, List.set_cons_zero, List.getElem?_cons_zero, List.getElem?_cons_succ] at c0 c1 c2 c3)
        go_wp2_with fail
        refine (hW.out _).mono ?_
        rintro _ w3 ⟨rfl, hb3⟩
        replace q0 := q0.below hb3
        replace qb := bch qb hb3
        clear c0 c1 c2 c3
        (have c0 := q0.cell 0; have c1 := q0.cell 1; have c2 := q0.cell 2; have c3 := q0.cell 3; simp only [List.set_cons_succ, List.set_cons_zero, List.getElem?_cons_zero, List.getElem?_cons_succ] at c0 c1 c2 c3)
        go_wp2_with fail
        refine (hR.out _).mono ?_
        rintro _ w4 ⟨rfl, hb4⟩
        replace q0 := q0.below hb4
        replace qb := bch qb hb4
        clear c0 c1 c2 c3
        (have c0 := q0.cell 0; have c1 := q0.cell 1; have c2 := q0.cell 2; have c3 := q0.cell 3; simp only [List.set_cons_succ, List.set_cons_zero, List.getElem?_cons_zero, List.getElem?_cons_succ] at c0 c1 c2 c3)
        go_wp2_with fail
        refine (hRd.out _).mono ?_
        rintro _ w5 ⟨rfl, hb5⟩
        replace q0 := q0.below hb5
        replace qb := bch qb hb5
        clear c0 c1 c2 c3
        (have c0 := q0.cell 0; have c1 := q0.cell 1; have c2 := q0.cell 2; have c3 := q0.cell 3; simp only [List.set_cons_succ, List.set_cons_zero, List.getElem?_cons_zero, List.getElem?_cons_succ] at c0 c1 c2 c3)
        replace c0 := cell_alloc c0 (Obj.cells #[.int .u32 nm, .int .i64 t, .int .i64 a, .string d] 40)
        replace c1 := cell_alloc c1 (Obj.cells #[.int .u32 nm, .int .i64 t, .int .i64 a, .string d] 40)
        replace c2 := cell_alloc c2 (Obj.cells #[.int .u32 nm, .int .i64 t, .int .i64 a, .string d] 40)
        replace c3 := cell_alloc c3 (Obj.cells #[.int .u32 nm, .int .i64 t, .int .i64 a, .string d] 40)
        clear hb3 hb4 hb5
        go_wp2_with fail
        refine (hRs.out _).mono ?_
        rintro _ w7 ⟨rfl, hb7⟩
        go_wp2
        go_ret
        exact ⟨rfl, by (repeat (first | exact Below.refl _ _ | assumption | refine bal ?_ _ | refine bdr ?_ | refine bdn ?_ _ | refine bst ?_ (by first | assumption | exact Nat.le_refl _ | omega) _ | refine bch ?_ (by assumption)))⟩
      | ok c =>
        obtain ⟨hf2, hw2, hn2⟩ := Chunk.write_read _ _ hx
        have hRs := fun W => chunk_read s W (by omega)
        rw [hx] at hRs
        obtain ⟨cn, ct, ca, cd⟩ := c
        have g1 := hf2.t1
        have g2 := hf2.t2
        have g3 := hf2.a1
        have g4 := hf2.a2
        simp only at g1 g2 g3 g4 hn2
        obtain ⟨ct, rfl⟩ : ∃ t' : Nat, ct = t' := ⟨ct.toNat, by omega⟩
        obtain ⟨ca, rfl⟩ : ∃ a' : Nat, ca = a' := ⟨ca.toNat, by omega⟩
        replace hRs : ∀ W, Calls Try.prog 19 #[.string s] W fun e w' => e = .returned (.tuple #[.agg #[.int .u32 cn, .int .i64 ct, .int .i64 ca, .string cd], .nilIface]) ∧ Below W.heap.size W w' := hRs
        have hWs := fun W => chunk_write cn ct ca cd W hn2 hf2
        have hws2 : (⟨(Chunk.write ⟨cn, ct, ca, cd⟩).toArray⟩ : ByteArray) = s := by rw [hw2]
        rw [hws2] at hWs
        replace hRs := Lib.hid hRs
        replace hWs := Lib.hid hWs
        have hss : (s.toList == s.toList) = true := by simp
        clear hx hf2 hw2 hws2 g1 g2 g3 g4 hn2
        go_enter Try.func5, Try.ntmps5
        go_wp2_with fail
        have q0 := row_at #[.int .u32 nm, .int .i64 t, .int .i64 a, .string d] 40 (rfl : w.heap.size = w.heap.size)
        have qb : Below w.heap.size w (w.alloc (Obj.cells #[.int .u32 nm, .int .i64 t, .int .i64 a, .string d] 40)) := by (repeat (first | exact Below.refl _ _ | assumption | refine bal ?_ _ | refine bdr ?_ | refine bdn ?_ _ | refine bst ?_ (by first | assumption | exact Nat.le_refl _ | omega) _ | refine bch ?_ (by assumption)))
        generalize w.alloc (Obj.cells #[.int .u32 nm, .int .i64 t, .int .i64 a, .string d] 40) = w1 at *
        refine (hP.out _).mono ?_
        rintro _ W2 ⟨rfl, hb2⟩
        replace q0 := q0.below hb2
        replace qb := bch qb hb2
        clear hb2
        (have c0 := q0.cell 0; have c1 := q0.cell 1; have c2 := q0.cell 2; have c3 := q0.cell 3; simp only [List.set_cons_succ, List.set_cons_zero, List.getElem?_cons_zero, List.getElem?_cons_succ] at c0 c1 c2 c3)
        go_wp2_with fail
        refine (hW.out _).mono ?_
        rintro _ w3 ⟨rfl, hb3⟩
        replace q0 := q0.below hb3
        replace qb := bch qb hb3
        clear c0 c1 c2 c3
        (have c0 := q0.cell 0; have c1 := q0.cell 1; have c2 := q0.cell 2; have c3 := q0.cell 3; simp only [List.set_cons_succ, List.set_cons_zero, List.getElem?_cons_zero, List.getElem?_cons_succ] at c0 c1 c2 c3)
        go_wp2_with fail
        refine (hR.out _).mono ?_
        rintro _ w4 ⟨rfl, hb4⟩
        replace q0 := q0.below hb4
        replace qb := bch qb hb4
        clear c0 c1 c2 c3
        (have c0 := q0.cell 0; have c1 := q0.cell 1; have c2 := q0.cell 2; have c3 := q0.cell 3; simp only [List.set_cons_succ, List.set_cons_zero, List.getElem?_cons_zero, List.getElem?_cons_succ] at c0 c1 c2 c3)
        go_wp2_with fail
        refine (hRd.out _).mono ?_
        rintro _ w5 ⟨rfl, hb5⟩
        replace q0 := q0.below hb5
        replace qb := bch qb hb5
        clear c0 c1 c2 c3
        (have c0 := q0.cell 0; have c1 := q0.cell 1; have c2 := q0.cell 2; have c3 := q0.cell 3; simp only [List.set_cons_succ, List.set_cons_zero, List.getElem?_cons_zero, List.getElem?_cons_succ] at c0 c1 c2 c3)
        replace c0 := cell_alloc c0 (Obj.cells #[.int .u32 nm, .int .i64 t, .int .i64 a, .string d] 40)
        replace c1 := cell_alloc c1 (Obj.cells #[.int .u32 nm, .int .i64 t, .int .i64 a, .string d] 40)
        replace c2 := cell_alloc c2 (Obj.cells #[.int .u32 nm, .int .i64 t, .int .i64 a, .string d] 40)
        replace c3 := cell_alloc c3 (Obj.cells #[.int .u32 nm, .int .i64 t, .int .i64 a, .string d] 40)
        clear hb3 hb4 hb5
        go_wp2_with fail
        refine (hRs.out _).mono ?_
        rintro _ w7 ⟨rfl, hb7⟩
        go_wp2_with fail
        refine (hWs.out _).mono ?_
        rintro _ w8 ⟨rfl, hb8⟩
        go_wp2
        go_ret
        exact ⟨rfl, by (repeat (first | exact Below.refl _ _ | assumption | refine bal ?_ _ | refine bdr ?_ | refine bdn ?_ _ | refine bst ?_ (by first | assumption | exact Nat.le_refl _ | omega) _ | refine bch ?_ (by assumption)))⟩
    · have hW := fun W => chunk_write_bad nm t a d W hw
      have he : errC (Chunk.wrong ⟨nm, t, a, d⟩) = .iface 56 (.int .i64 (Chunk.wrong ⟨nm, t, a, d⟩)) := by unfold errC; rw [if_neg hw]
      rw [he] at hR
      clear he
      generalize Chunk.wrong ⟨nm, t, a, d⟩ = x at *
      replace hR := Lib.hid hR
      replace hW := Lib.hid hW
      cases hx : Chunk.read s.data.toList with
      | bad e =>
        have hRs := fun W => chunk_read s W (by omega)
        rw [hx] at hRs
        replace hRs : ∀ W, Calls Try.prog 19 #[.string s] W fun e' w' => e' = .returned (.tuple #[.agg #[.int .u32 0, .int .i64 0, .int .i64 0, .string ⟨#[]⟩], .iface 56 (.int .i64 e)]) ∧ Below W.heap.size W w' := hRs
        replace hRs := Lib.hid hRs
        clear hx
        go_enter Try.func5, Try.ntmps5
        go_wp2_with fail
        have q0 := row_at #[.int .u32 nm, .int .i64 t, .int .i64 a, .string d] 40 (rfl : w.heap.size = w.heap.size)
        have qb : Below w.heap.size w (w.alloc (Obj.cells #[.int .u32 nm, .int .i64 t, .int .i64 a, .string d] 40)) := by (repeat (first | exact Below.refl _ _ | assumption | refine bal ?_ _ | refine bdr ?_ | refine bdn ?_ _ | refine bst ?_ (by first | assumption | exact Nat.le_refl _ | omega) _ | refine bch ?_ (by assumption)))
        generalize w.alloc (Obj.cells #[.int .u32 nm, .int .i64 t, .int .i64 a, .string d] 40) = w1 at *
        refine (hP.out _).mono ?_
        rintro _ W2 ⟨rfl, hb2⟩
        replace q0 := q0.below hb2
        replace qb := bch qb hb2
        clear hb2
        (have c0 := q0.cell 0; have c1 := q0.cell 1; have c2 := q0.cell 2; have c3 := q0.cell 3; simp only [List.set_cons_succ, List.set_cons_zero, List.getElem?_cons_zero, List.getElem?_cons_succ] at c0 c1 c2 c3)
        go_wp2_with fail
        refine (hW.out _).mono ?_
        rintro _ w3 ⟨rfl, hb3⟩
        replace q0 := q0.below hb3
        replace qb := bch qb hb3
        clear c0 c1 c2 c3
        (have c0 := q0.cell 0; have c1 := q0.cell 1; have c2 := q0.cell 2; have c3 := q0.cell 3; simp only [List.set_cons_succ, List.set_cons_zero, List.getElem?_cons_zero, List.getElem?_cons_succ] at c0 c1 c2 c3)
        go_wp2_with fail
        refine (hR.out _).mono ?_
        rintro _ w4 ⟨rfl, hb4⟩
        go_wp2_with fail
        refine (hRs.out _).mono ?_
        rintro _ w7 ⟨rfl, hb7⟩
        go_wp2
        go_ret
        exact ⟨rfl, by (repeat (first | exact Below.refl _ _ | assumption | refine bal ?_ _ | refine bdr ?_ | refine bdn ?_ _ | refine bst ?_ (by first | assumption | exact Nat.le_refl _ | omega) _ | refine bch ?_ (by assumption)))⟩
      | ok c =>
        obtain ⟨hf2, hw2, hn2⟩ := Chunk.write_read _ _ hx
        have hRs := fun W => chunk_read s W (by omega)
        rw [hx] at hRs
        obtain ⟨cn, ct, ca, cd⟩ := c
        have g1 := hf2.t1
        have g2 := hf2.t2
        have g3 := hf2.a1
        have g4 := hf2.a2
        simp only at g1 g2 g3 g4 hn2
        obtain ⟨ct, rfl⟩ : ∃ t' : Nat, ct = t' := ⟨ct.toNat, by omega⟩
        obtain ⟨ca, rfl⟩ : ∃ a' : Nat, ca = a' := ⟨ca.toNat, by omega⟩
        replace hRs : ∀ W, Calls Try.prog 19 #[.string s] W fun e w' => e = .returned (.tuple #[.agg #[.int .u32 cn, .int .i64 ct, .int .i64 ca, .string cd], .nilIface]) ∧ Below W.heap.size W w' := hRs
        have hWs := fun W => chunk_write cn ct ca cd W hn2 hf2
        have hws2 : (⟨(Chunk.write ⟨cn, ct, ca, cd⟩).toArray⟩ : ByteArray) = s := by rw [hw2]
        rw [hws2] at hWs
        replace hRs := Lib.hid hRs
        replace hWs := Lib.hid hWs
        have hss : (s.toList == s.toList) = true := by simp
        clear hx hf2 hw2 hws2 g1 g2 g3 g4 hn2
        go_enter Try.func5, Try.ntmps5
        go_wp2_with fail
        have q0 := row_at #[.int .u32 nm, .int .i64 t, .int .i64 a, .string d] 40 (rfl : w.heap.size = w.heap.size)
        have qb : Below w.heap.size w (w.alloc (Obj.cells #[.int .u32 nm, .int .i64 t, .int .i64 a, .string d] 40)) := by (repeat (first | exact Below.refl _ _ | assumption | refine bal ?_ _ | refine bdr ?_ | refine bdn ?_ _ | refine bst ?_ (by first | assumption | exact Nat.le_refl _ | omega) _ | refine bch ?_ (by assumption)))
        generalize w.alloc (Obj.cells #[.int .u32 nm, .int .i64 t, .int .i64 a, .string d] 40) = w1 at *
        refine (hP.out _).mono ?_
        rintro _ W2 ⟨rfl, hb2⟩
        replace q0 := q0.below hb2
        replace qb := bch qb hb2
        clear hb2
        (have c0 := q0.cell 0; have c1 := q0.cell 1; have c2 := q0.cell 2; have c3 := q0.cell 3; simp only [List.set_cons_succ, List.set_cons_zero, List.getElem?_cons_zero, List.getElem?_cons_succ] at c0 c1 c2 c3)
        go_wp2_with fail
        refine (hW.out _).mono ?_
        rintro _ w3 ⟨rfl, hb3⟩
        replace q0 := q0.below hb3
        replace qb := bch qb hb3
        clear c0 c1 c2 c3
        (have c0 := q0.cell 0; have c1 := q0.cell 1; have c2 := q0.cell 2; have c3 := q0.cell 3; simp only [List.set_cons_succ, List.set_cons_zero, List.getElem?_cons_zero, List.getElem?_cons_succ] at c0 c1 c2 c3)
        go_wp2_with fail
        refine (hR.out _).mono ?_
        rintro _ w4 ⟨rfl, hb4⟩
        go_wp2_with fail
        refine (hRs.out _).mono ?_
        rintro _ w7 ⟨rfl, hb7⟩
        go_wp2_with fail
        refine (hWs.out _).mono ?_
        rintro _ w8 ⟨rfl, hb8⟩
        go_wp2
        go_ret
        exact ⟨rfl, by (repeat (first | exact Below.refl _ _ | assumption | refine bal ?_ _ | refine bdr ?_ | refine bdn ?_ _ | refine bst ?_ (by first | assumption | exact Nat.le_refl _ | omega) _ | refine bch ?_ (by assumption)))⟩
theorem ChunkBack_walk (n t a : Int) (d s : ByteArray) (w : World) (q : ChBOk ⟨n, t, a, d⟩) (w1 : s.size ≤ 140737488351232) :
    Calls Try.prog 5 #[.agg #[.int .u32 n, .int .i64 t, .int .i64 a, .string d], .string s] w fun e w' => e = .returned (.bool true) ∧ Below w.heap.size w w' := by
  obtain ⟨n, rfl, hn⟩ := nat_u32 q.1
  exact chunk_back n t a d s w hn q.2.2.2 w1
end Go.Proofs.Ytajpoggkmjedpaa
