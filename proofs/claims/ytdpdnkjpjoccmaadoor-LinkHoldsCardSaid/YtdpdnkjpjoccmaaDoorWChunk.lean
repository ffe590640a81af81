/- Walks of chunk.Right, chunk.Cut. -/
import Derived.Test.YtdpdnkjpjoccmaaDoorWCrc1
import Derived.Test.YtdpdnkjpjoccmaaDoorWVary
import Derived.Test.YtdpdnkjpjoccmaaDoorLib4
import Derived.Test.YtdpdnkjpjoccmaaDoorPlainCut
namespace Go.Proofs.YtdpdnkjpjoccmaaDoor
open Go.RowKit
set_option linter.unusedVariables false
set_option linter.unusedSimpArgs false
def pieceCells (c : Chunk.Piece) : List Value := [.int .u32 c.name, .int .i64 c.total, .int .i64 c.at_, .string c.data]
theorem pieceCells_len (c : Chunk.Piece) : (pieceCells c).length = 4 := rfl
def pieceVal (c : Chunk.Piece) : Value := .agg #[.int .u32 c.name, .int .i64 c.total, .int .i64 c.at_, .string c.data]
def errC (n : Nat) : Value := if n = 0 then .nilIface else .iface 58 (.int .i64 n)
theorem ret_errC {d c : Nat} (h : d = c) (hc : c ≠ 0) : Ending.returned (.iface 58 (.int .i64 c)) = .returned (errC d) := by rw [h, errC, if_neg hc]
theorem ret_errC0 {d : Nat} (h : d = 0) : Ending.returned .nilIface = .returned (errC d) := by rw [h]; rfl
theorem empty_size {s : ByteArray} (h : s.size = 0) : s.toList.isEmpty = true := by
  rw [ByteArray.toList_eq, List.isEmpty_iff]
  exact List.eq_nil_of_length_eq_zero (by rw [Array.length_toList]; exact h)
theorem nonempty_size {s : ByteArray} (h : s.size ≠ 0) : s.toList.isEmpty = false := by
  rw [List.isEmpty_eq_false_iff, ByteArray.toList_eq]
  intro e
  apply h
  have : s.data.toList.length = 0 := by rw [e]; rfl
  rw [Array.length_toList] at this; exact this
set_option maxHeartbeats 2000000 in
theorem chunk_right (nm : Nat) (t a : Int) (d : ByteArray) (w : World) :
    Calls Tryd.prog 44 #[.agg #[.int .u32 nm, .int .i64 t, .int .i64 a, .string d]] w fun e w' => e = .returned (errC (Chunk.wrong ⟨nm, t, a, d⟩)) ∧ Below w.heap.size w w' := by
  by_cases h1 : t < 1
  · have hv : Hid (Chunk.wrong ⟨nm, t, a, d⟩ = 2) := Lib.hid (by unfold Chunk.wrong; rw [if_pos (by simp only; omega)])
    go_enter Tryd.func44, Tryd.ntmps44
    go_wp2
    go_ret
    exact ⟨ret_errC (c := 2) hv.out (by omega), by (repeat (first | exact Below.refl _ _ | assumption | refine bal ?_ _ | refine bdr ?_ | refine bdn ?_ _ | refine bst ?_ (by first | assumption | exact Nat.le_refl _ | omega) _ | refine bch ?_ (by assumption)))⟩
  · by_cases h2 : 4096 < t
    · have hv : Hid (Chunk.wrong ⟨nm, t, a, d⟩ = 2) := Lib.hid (by unfold Chunk.wrong; rw [if_pos (by simp only; omega)])
      go_enter Tryd.func44, Tryd.ntmps44
      go_wp2
      go_ret
      exact ⟨ret_errC (c := 2) hv.out (by omega), by (repeat (first | exact Below.refl _ _ | assumption | refine bal ?_ _ | refine bdr ?_ | refine bdn ?_ _ | refine bst ?_ (by first | assumption | exact Nat.le_refl _ | omega) _ | refine bch ?_ (by assumption)))⟩
    · by_cases h3 : a < 0
      · have hv : Hid (Chunk.wrong ⟨nm, t, a, d⟩ = 2) := Lib.hid (by unfold Chunk.wrong; rw [if_pos (by simp only; omega)])
        go_enter Tryd.func44, Tryd.ntmps44
        go_wp2
        go_ret
        exact ⟨ret_errC (c := 2) hv.out (by omega), by (repeat (first | exact Below.refl _ _ | assumption | refine bal ?_ _ | refine bdr ?_ | refine bdn ?_ _ | refine bst ?_ (by first | assumption | exact Nat.le_refl _ | omega) _ | refine bch ?_ (by assumption)))⟩
      · by_cases h4 : t < a
        · have hv : Hid (Chunk.wrong ⟨nm, t, a, d⟩ = 2) := Lib.hid (by unfold Chunk.wrong; rw [if_pos (by simp only; omega)])
          go_enter Tryd.func44, Tryd.ntmps44
          go_wp2
          go_ret
          exact ⟨ret_errC (c := 2) hv.out (by omega), by (repeat (first | exact Below.refl _ _ | assumption | refine bal ?_ _ | refine bdr ?_ | refine bdn ?_ _ | refine bst ?_ (by first | assumption | exact Nat.le_refl _ | omega) _ | refine bch ?_ (by assumption)))⟩
        · by_cases h5 : d.size = 0
          · have hv : Hid (Chunk.wrong ⟨nm, t, a, d⟩ = 4) := Lib.hid (by unfold Chunk.wrong; rw [if_neg (by simp only; omega), if_pos (by simp only; omega)])
            have he := empty_size h5
            go_enter Tryd.func44, Tryd.ntmps44
            go_wp2
            go_ret
            exact ⟨ret_errC (c := 4) hv.out (by omega), by (repeat (first | exact Below.refl _ _ | assumption | refine bal ?_ _ | refine bdr ?_ | refine bdn ?_ _ | refine bst ?_ (by first | assumption | exact Nat.le_refl _ | omega) _ | refine bch ?_ (by assumption)))⟩
          · have he := nonempty_size h5
            by_cases h6 : 256 < d.size
            · have hv : Hid (Chunk.wrong ⟨nm, t, a, d⟩ = 4) := Lib.hid (by unfold Chunk.wrong; rw [if_neg (by simp only; omega), if_pos (by simp only; omega)])
              go_enter Tryd.func44, Tryd.ntmps44
              go_wp2
              go_ret
              exact ⟨ret_errC (c := 4) hv.out (by omega), by (repeat (first | exact Below.refl _ _ | assumption | refine bal ?_ _ | refine bdr ?_ | refine bdn ?_ _ | refine bst ?_ (by first | assumption | exact Nat.le_refl _ | omega) _ | refine bch ?_ (by assumption)))⟩
            · by_cases h7 : t - a < d.size
              · have hv : Hid (Chunk.wrong ⟨nm, t, a, d⟩ = 2) := Lib.hid (by unfold Chunk.wrong; rw [if_neg (by simp only; omega), if_neg (by simp only; omega), if_pos (by simp only; omega)])
                go_enter Tryd.func44, Tryd.ntmps44
                go_wp2
                go_ret
                exact ⟨ret_errC (c := 2) hv.out (by omega), by (repeat (first | exact Below.refl _ _ | assumption | refine bal ?_ _ | refine bdr ?_ | refine bdn ?_ _ | refine bst ?_ (by first | assumption | exact Nat.le_refl _ | omega) _ | refine bch ?_ (by assumption)))⟩
              · have hv : Hid (Chunk.wrong ⟨nm, t, a, d⟩ = 0) := Lib.hid (by unfold Chunk.wrong; rw [if_neg (by simp only; omega), if_neg (by simp only; omega), if_neg (by simp only; omega)])
                go_enter Tryd.func44, Tryd.ntmps44
                go_wp2
                go_ret
                exact ⟨ret_errC0 hv.out, by (repeat (first | exact Below.refl _ _ | assumption | refine bal ?_ _ | refine bdr ?_ | refine bdn ?_ _ | refine bst ?_ (by first | assumption | exact Nat.le_refl _ | omega) _ | refine bch ?_ (by assumption)))⟩
theorem piece_snoc (l : List Chunk.Piece) (c : Chunk.Piece) : l.flatMap pieceCells ++ [.int .u32 c.name, .int .i64 c.total, .int .i64 c.at_, .string c.data] = (l ++ [c]).flatMap pieceCells := by simp [pieceCells]
set_option maxHeartbeats 4000000 in
theorem chunk_cut (s : ByteArray) (size : Nat) (w : World) (h1 : s.size ≠ 0) (h2 : s.size ≤ 4096) (h3 : 1 ≤ size) (h4 : size ≤ 256) :
    Calls Tryd.prog 12 #[.string s, .int .i64 size] w fun e w' => (∃ v, e = .returned (.tuple #[v, .nilIface]) ∧ ListIs pieceCells 4 w' v (Chunk.pieces s size (Chunk.cuts s.size size))) ∧ Below w.heap.size w w' := by
  have he := nonempty_size h1
  have hsum := fun W => crc_sum s W (by unfold maxLen; omega)
  have hd1 : decide ((size : Int) < 1) = false := by simp; omega
  have hd2 : decide ((256 : Int) < (size : Int)) = false := by simp; omega
  replace hsum := Lib.hid hsum
  go_enter Tryd.func12, Tryd.ntmps12
  go_wp2
  go_loopw [6, 7] (fun o p wr => ∃ (k q : Nat), p = .int .i64 q ∧ q = k * size ∧ (k = 0 ∨ (k - 1) * size < s.size) ∧ k ≤ q ∧ q ≤ 5000 ∧ wr.ownsRow w.heap.size 37 4 o k ((Chunk.pieces s size k).flatMap pieceCells) ∧ Below w.heap.size w wr) (fun _ p _ => 5000 - (intOf p).toNat)
  case atStart => exact ⟨0, 0, rfl, by simp, .inl rfl, by omega, by omega, World.ownsRow_nil _ _ _ _, by (repeat (first | exact Below.refl _ _ | assumption | refine bal ?_ _ | refine bdr ?_ | refine bdn ?_ _ | refine bst ?_ (by first | assumption | exact Nat.le_refl _ | omega) _ | refine bch ?_ (by assumption)))⟩
  case round =>
    obtain ⟨k, q, rfl, hq, hk, hkq, hq5, hown, hbel⟩ := hrel
    have hsz := hbel.size
    by_cases hlt : q < s.size
    · have hown' : wr.drew.ownsRow w.heap.size 37 4 u6 k ((Chunk.pieces s size k).flatMap pieceCells) := hown
      obtain ⟨e, hee⟩ : ∃ e, e = min s.size (q + size) := ⟨_, rfl⟩
      have he1 : q ≤ e := by omega
      have he2 : e ≤ s.size := by omega
      have hw : IntKind.i64.wrap ((q : Int) + (size : Int)) = (q : Int) + (size : Int) := (IntWalk.i64_left _).trans (IntWalk.wrap64_in _ ⟨by omega, by omega⟩)
      have hif : (if (q : Int) + (size : Int) < (s.size : Int) then (q : Int) + (size : Int) else (s.size : Int)) = (e : Int) := by split <;> omega
      have hpc : Chunk.pieceAt s size k = ⟨Crc.sum s.data.toList, s.size, q, s.extract q e⟩ := by unfold Chunk.pieceAt; rw [hee, hq]
      have hps := Chunk.pieces_succ s size k
      have hk5 : k + 1 ≤ 5001 := by omega
      have hq2 : q + size = (k + 1) * size := by rw [Nat.add_mul, Nat.one_mul, hq]
      have hlast : k * size < s.size := by omega
      replace hq := Lib.hid hq
      replace hq2 := Lib.hid hq2
      replace hee := Lib.hid hee
      replace hlast := Lib.hid hlast
      replace hpc := Lib.hid hpc
      replace hps := Lib.hid hps
      clear hk
      go_wp2_with fail
      (refine wp_region_held_drew (S := (fun W => Below w.heap.size w W)) (by kernel_rfl) ?_ (fun hHeld => ?_); ((try dsimp only); exact bdr hbel))
      (refine held_take (i := 0) (v := ?_) rfl (by kernel_rfl) (by kernel_rfl) (by kernel_rfl) (fun _ _ _ h => h) (by kernel_rfl) (by assumption) ?_ ?_; rotate_left; (focus (intro w hSw; (try unfold SC at hSw); (try unfold MC at hSw); (try dsimp only at hSw); go_simp; (try with_reducible rfl); done)); (simp only [Act.put, List.setIfInBounds_toArray, List.set_cons_zero, List.set_cons_succ]); refine held_take (i := 1) (v := ?_) rfl (by kernel_rfl) (by kernel_rfl) (by kernel_rfl) (fun _ _ _ h => h) (by kernel_rfl) (by assumption) ?_ ?_; rotate_left; (focus (intro w hSw; (try unfold SC at hSw); (try unfold MC at hSw); (try dsimp only at hSw); go_simp; (try with_reducible rfl); done)); (simp only [Act.put, List.setIfInBounds_toArray, List.set_cons_zero, List.set_cons_succ]); refine held_take (i := 3) (v := ?_) rfl (by kernel_rfl) (by kernel_rfl) (by kernel_rfl) (fun _ _ _ h => h) (by kernel_rfl) (by assumption) ?_ ?_; rotate_left; (focus (intro w hSw; (try unfold SC at hSw); (try unfold MC at hSw); (try dsimp only at hSw); go_simp; (try with_reducible rfl); done)); (simp only [Act.put, List.setIfInBounds_toArray, List.set_cons_zero, List.set_cons_succ]); refine held_take (i := 4) (v := ?_) rfl (by kernel_rfl) (by kernel_rfl) (by kernel_rfl) (fun _ _ _ h => h) (by kernel_rfl) (by assumption) ?_ ?_; rotate_left; (focus (intro w hSw; (try unfold SC at hSw); (try unfold MC at hSw); (try dsimp only at hSw); go_simp; (try with_reducible rfl); done)); (simp only [Act.put, List.setIfInBounds_toArray, List.set_cons_zero, List.set_cons_succ]); refine held_take (i := 5) (v := ?_) rfl (by kernel_rfl) (by kernel_rfl) (by kernel_rfl) (fun _ _ _ h => h) (by kernel_rfl) (by assumption) ?_ ?_; rotate_left; (focus (intro w hSw; (try unfold SC at hSw); (try unfold MC at hSw); (try dsimp only at hSw); go_simp; (try with_reducible rfl); done)); (simp only [Act.put, List.setIfInBounds_toArray, List.set_cons_zero, List.set_cons_succ]); refine held_take (i := 6) (v := ?_) rfl (by kernel_rfl) (by kernel_rfl) (by kernel_rfl) (fun _ _ _ h => h) (by kernel_rfl) (by assumption) ?_ ?_; rotate_left; (focus (intro w hSw; (try unfold SC at hSw); (try unfold MC at hSw); (try dsimp only at hSw); go_simp; (try with_reducible rfl); done)); (simp only [Act.put, List.setIfInBounds_toArray, List.set_cons_zero, List.set_cons_succ]); refine held_take (i := 7) (v := ?_) rfl (by kernel_rfl) (by kernel_rfl) (by kernel_rfl) (fun _ _ _ h => h) (by kernel_rfl) (by assumption) ?_ ?_; rotate_left; (focus (intro w hSw; (try unfold SC at hSw); (try unfold MC at hSw); (try dsimp only at hSw); go_simp; (try with_reducible rfl); done)); (simp only [Act.put, List.setIfInBounds_toArray, List.set_cons_zero, List.set_cons_succ]); refine held_take (i := 8) (v := ?_) rfl (by kernel_rfl) (by kernel_rfl) (by kernel_rfl) (fun _ _ _ h => h) (by kernel_rfl) (by assumption) ?_ ?_; rotate_left; (focus (intro w hSw; (try unfold SC at hSw); (try unfold MC at hSw); (try dsimp only at hSw); go_simp; (try with_reducible rfl); done)); (simp only [Act.put, List.setIfInBounds_toArray, List.set_cons_zero, List.set_cons_succ]); refine held_take (i := 9) (v := ?_) rfl (by kernel_rfl) (by kernel_rfl) (by kernel_rfl) (fun _ _ _ h => h) (by kernel_rfl) (by assumption) ?_ ?_; rotate_left; (focus (intro w hSw; (try unfold SC at hSw); (try unfold MC at hSw); (try dsimp only at hSw); go_simp; (try with_reducible rfl); done)); (simp only [Act.put, List.setIfInBounds_toArray, List.set_cons_zero, List.set_cons_succ]); refine held_take (i := 10) (v := ?_) rfl (by kernel_rfl) (by kernel_rfl) (by kernel_rfl) (fun _ _ _ h => h) (by kernel_rfl) (by assumption) ?_ ?_; rotate_left; (focus (intro w hSw; (try unfold SC at hSw); (try unfold MC at hSw); (try dsimp only at hSw); go_simp; (try with_reducible rfl); done)); (simp only [Act.put, List.setIfInBounds_toArray, List.set_cons_zero, List.set_cons_succ]); refine held_take (i := 11) (v := ?_) rfl (by kernel_rfl) (by kernel_rfl) (by kernel_rfl) (fun _ _ _ h => h) (by kernel_rfl) (by assumption) ?_ ?_; rotate_left; (focus (intro w hSw; (try unfold SC at hSw); (try unfold MC at hSw); (try dsimp only at hSw); go_simp; (try with_reducible rfl); done)); (simp only [Act.put, List.setIfInBounds_toArray, List.set_cons_zero, List.set_cons_succ]); refine held_take (i := 12) (v := ?_) rfl (by kernel_rfl) (by kernel_rfl) (by kernel_rfl) (fun _ _ _ h => h) (by kernel_rfl) (by assumption) ?_ ?_; rotate_left; (focus (intro w hSw; (try unfold SC at hSw); (try unfold MC at hSw); (try dsimp only at hSw); go_simp; (try with_reducible rfl); done)); (simp only [Act.put, List.setIfInBounds_toArray, List.set_cons_zero, List.set_cons_succ]); refine held_take (i := 13) (v := ?_) rfl (by kernel_rfl) (by kernel_rfl) (by kernel_rfl) (fun _ _ _ h => h) (by kernel_rfl) (by assumption) ?_ ?_; rotate_left; (focus (intro w hSw; (try unfold SC at hSw); (try unfold MC at hSw); (try dsimp only at hSw); go_simp; (try with_reducible rfl); done)); (simp only [Act.put, List.setIfInBounds_toArray, List.set_cons_zero, List.set_cons_succ]); refine held_take (i := 14) (v := ?_) rfl (by kernel_rfl) (by kernel_rfl) (by kernel_rfl) (fun _ _ _ h => h) (by kernel_rfl) (by assumption) ?_ ?_; rotate_left; (focus (intro w hSw; (try unfold SC at hSw); (try unfold MC at hSw); (try dsimp only at hSw); go_simp; (try with_reducible rfl); done)); (simp only [Act.put, List.setIfInBounds_toArray, List.set_cons_zero, List.set_cons_succ]))
      (refine wpAnyH_ready (P := Tryd.prog) (md := .any) (rs := [2]) (by kernel_rfl) (by simp) ?_; refine held_cons rfl (by kernel_rfl) (fun K hK => ?_) AllReadyH.nil; ((go_simp; refine (hsum.out _).mono ?_; rintro _ W2 ⟨rfl, rfl⟩); refine hK.out _ _ ?_ (fun hHeld => ?_); ((try dsimp only); exact bdr hbel); clear hK K; (try clear hHeld0); (try rename_i hHeld0)))
      (refine held_take (i := 15) (v := ?_) rfl (by kernel_rfl) (by kernel_rfl) (by kernel_rfl) (fun _ _ _ h => h) (by kernel_rfl) (by assumption) ?_ ?_; rotate_left; (focus (intro w hSw; (try unfold SC at hSw); (try unfold MC at hSw); (try dsimp only at hSw); go_simp; (try with_reducible rfl); done)); (simp only [Act.put, List.setIfInBounds_toArray, List.set_cons_zero, List.set_cons_succ]))
      (refine wpAnyH_ready (P := Tryd.prog) (md := .any) (rs := [16]) (by kernel_rfl) (by simp) ?_; refine held_cons rfl (by kernel_rfl) (fun K hK => ?_) AllReadyH.nil; (go_simp; refine hK.out _ _ ?_ (fun hHeld => ?_); ((try dsimp only); exact bal (bdr hbel) _); clear hK K; (try clear hHeld0); (try rename_i hHeld0)))
      (refine wpAnyH_ready (P := Tryd.prog) (md := .any) (rs := [17]) (by kernel_rfl) (by simp) ?_; refine held_cons_if rfl (fun K hK => ?_) AllReadyH.nil; ((refine step_app_one (w0 := wr.drew) (by rfl) _ _ 25 37 (by rfl) w.heap.size (.agg #[.int .u32 0, .int .i64 0, .int .i64 0, .string ⟨#[]⟩]) 4 40 Tryd.underlying25 (by kernel_rfl) rfl _ _ _ (by rfl) hown' #[.int .u32 (Crc.sum s.data.toList), .int .i64 s.size, .int .i64 q, .string (s.extract q e)] wr.heap.size (by simp) (by rfl) (by rfl) (by simp [Value.oneCell']) (by omega) (by omega) hsz ?_; intro v9 w9 r1 r2 r3 r4 r5); refine hK.out _ _ ?_ (fun hHeld => ?_); ((try dsimp only); exact (bdr hbel).trans r5); clear hK K; (try clear hHeld0); (try rename_i hHeld0)); (try simp only [Act.put, List.setIfInBounds_toArray, List.set_cons_zero, List.set_cons_succ]))
      (refine held_take (i := 18) (v := ?_) rfl (by kernel_rfl) (by kernel_rfl) (by kernel_rfl) (fun _ _ _ h => h) (by kernel_rfl) (by assumption) ?_ ?_; rotate_left; (focus (intro w hSw; (try unfold SC at hSw); (try unfold MC at hSw); (try dsimp only at hSw); go_simp; (try with_reducible rfl); done)); (simp only [Act.put, List.setIfInBounds_toArray, List.set_cons_zero, List.set_cons_succ]))
      (refine wpAnyH_done (by kernel_rfl) ?_ _)
      have hown9 : w9.ownsRow w.heap.size 37 4 v9 (k + 1) ((Chunk.pieces s size (k + 1)).flatMap pieceCells) := by
        rw [hps.out, ← piece_snoc, hpc.out]; exact r1
      have hbel9 : Below w.heap.size w w9 := (bdr hbel).trans r5
      clear r1 r2 r3 r4 r5 hown hown'
      go_wp2
      go_roundw
      case rel => exact ⟨k + 1, q + size, by go_num, hq2.out, .inr (by have := hlast.out; simpa using this), by omega, by omega, hown9, hbel9⟩
      case measure => simp [intOf]; omega
    · have hkk : k = Chunk.cuts s.size size := Chunk.pieces_all h3 (by omega) hk
      have hfin : ListIs pieceCells 4 wr u6 (Chunk.pieces s size (Chunk.cuts s.size size)) := by
        rw [← hkk]
        exact ListIs.of_owns (by rw [Chunk.pieces_len]; exact hown)
      replace hfin := Lib.hid hfin
      replace hq := Lib.hid hq
      clear hown hk hkk
      go_wp2
      go_ret2
      exact ⟨⟨_, rfl, hfin.out⟩, hbel⟩
end Go.Proofs.YtdpdnkjpjoccmaaDoor
