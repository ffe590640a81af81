/- Walk of the law ChunkMany. -/
import Derived.Test.YtajpoggkmjedpaaWPieced
import Derived.Test.YtajpoggkmjedpaaShelf
namespace Go.Proofs.Ytajpoggkmjedpaa
open Go.RowKit
set_option linter.unusedVariables false
set_option linter.unusedSimpArgs false
theorem repeat_len (n : Nat) : (Lib.repeatL [120] n).length = n := by
  have := Lib.repeatL_replicate (120 : UInt8) 1 n
  rw [show List.replicate 1 (120 : UInt8) = [120] from rfl] at this
  rw [this]; simp
theorem repeat_ba (n : Nat) (h : 1 ≤ n) : (ByteArray.mk (Lib.repeatL [120] n).toArray).size = n := by rw [ba_size, repeat_len]
set_option maxHeartbeats 2000000 in
theorem ChunkMany_walk (a0 a1 : Int) (w : World) (w0 : (Lit.int .i64 a0).wf = true) (w1 : (Lit.int .i64 a1).wf = true) :
    Calls Try.prog 8 #[.int .i64 a0, .int .i64 a1] w fun e w' => e = .returned (.bool true) ∧ Below w.heap.size w w' := by
  clear w0 w1
  have hP := pieced w
  have hp0 := fun W => keep_pick a0 4096 4096 W rfl (by omega) (by omega)
  have hp1 := fun W => keep_pick a1 256 256 W rfl (by omega) (by omega)
  have hl0 := pickN_lt a0 4096 (by omega)
  have hl1 := pickN_lt a1 256 (by omega)
  generalize pickN a0 4096 = q0 at *
  generalize pickN a1 256 = q1 at *
  obtain ⟨n, hn⟩ : ∃ n, n = 1 + q0 := ⟨_, rfl⟩
  obtain ⟨k, hk⟩ : ∃ k, k = 1 + q1 := ⟨_, rfl⟩
  have hni : 1 + (q0 : Int) = (n : Int) := by omega
  have hki : 1 + (q1 : Int) = (k : Int) := by omega
  have hn1 : 1 ≤ n := by omega
  have hn2 : n ≤ 4096 := by omega
  have hk1 : 1 ≤ k := by omega
  have hk2 : k ≤ 256 := by omega
  have hR := fun W => Try.strings_Repeat ⟨#[120]⟩ n W (by omega) (by show 1 * n ≤ _; omega)
  have hrl : (ByteArray.data ⟨#[120]⟩).toList = [120] := rfl
  rw [hrl] at hR
  have hbs := repeat_ba n hn1
  generalize (ByteArray.mk (Lib.repeatL [120] n).toArray) = S at *
  have hC := fun W => chunk_cut S k W (by omega) (by omega) hk1 hk2
  rw [hbs] at hC
  have hpl := Chunk.pieces_len S k (Chunk.cuts n k)
  have hq : ((n : Int) + (k : Int) - 1) / (k : Int) = ((Chunk.cuts n k : Nat) : Int) := by
    unfold Chunk.cuts
    have e : (n : Int) + (k : Int) - 1 = ((n + k - 1 : Nat) : Int) := by omega
    rw [e]; rfl
  generalize Chunk.cuts n k = K at *
  have hKK : ((K : Int) == (K : Int)) = true := by simp
  replace hn := Lib.hid hn
  replace hk := Lib.hid hk
  replace hP := Lib.hid hP
  replace hp0 := Lib.hid hp0
  replace hp1 := Lib.hid hp1
  replace hR := Lib.hid hR
  replace hC := Lib.hid hC
  clear hbs hl0 hl1 hrl
  go_enter Try.func8, Try.ntmps8
  go_wp2_with fail
  refine hP.out.mono ?_
  rintro _ w1 ⟨rfl, hb1⟩
  go_wp2_with fail
  refine (hp0.out _).mono ?_
  rintro _ w2 ⟨rfl, rfl⟩
  go_wp2_with fail
  refine (hp1.out _).mono ?_
  rintro _ w3 ⟨rfl, rfl⟩
  go_wp2_with fail
  refine (hR.out _).mono ?_
  rintro _ w4 ⟨rfl, hb4⟩
  go_wp2_with fail
  refine (hC.out _).mono ?_
  rintro _ w5 ⟨⟨v, rfl, hv⟩, hb5⟩
  obtain ⟨a, cap, rfl, -, -⟩ := hv.at pieceCells_len
  rw [hpl]
  clear hv hpl
  go_wp2
  go_ret
  exact ⟨rfl, by (repeat (first | exact Below.refl _ _ | assumption | refine bal ?_ _ | refine bdr ?_ | refine bdn ?_ _ | refine bst ?_ (by first | assumption | exact Nat.le_refl _ | omega) _ | refine bch ?_ (by assumption)))⟩
end Go.Proofs.Ytajpoggkmjedpaa
