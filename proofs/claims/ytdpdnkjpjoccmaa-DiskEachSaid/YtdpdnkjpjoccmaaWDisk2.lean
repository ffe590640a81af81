/- The walk of disk's Write. -/
import Derived.Test.YtdpdnkjpjoccmaaWDisk
import Derived.Test.YtdpdnkjpjoccmaaMaps2
namespace Go.Proofs.Ytdpdnkjpjoccmaa
open Go.RowKit
set_option linter.unusedVariables false
set_option linter.unusedSimpArgs false
/-- A sector of such bytes. -/
def padB (s : ByteArray) : ByteArray := s ++ ⟨(List.replicate (32 - s.size) 0).toArray⟩
theorem padB_size (s : ByteArray) (h : s.size ≤ 32) : (padB s).size = 32 := by
  have h2 := ba_size (List.replicate (32 - s.size) 0)
  rw [List.length_replicate] at h2
  unfold padB
  rw [ByteArray.size_append, h2]; omega
theorem zero_row (k : Nat) : List.replicate k (Value.int .u8 0) = (List.replicate k (0 : UInt8)).map fun b => Value.int .u8 b.toNat := by simp
set_option maxHeartbeats 4000000 in
set_option maxRecDepth 20000 in
theorem disk_write (w : World) (d gs b m n : Nat) (st : Disk.St ByteArray) (hD : DiskIs w d gs b m n st) (i : Nat) (hi : i < n) (s : ByteArray) (hs : s.size ≤ 32) (hm : m < 1000000) :
    Calls Try.prog 16 #[.pointer (some ⟨d, 0, none⟩), .int .i64 i, .string s] w fun e w' => e = .returned .nilIface ∧ DiskIs w' d gs b (m + 1) n (st.write i (padB s)) ∧ Only (fun k => k = b) w w' := by
  have K := Lib.hid (key_nat (P := Try.prog) (k := 3) Try.underlying3)
  have E := Lib.hid (elem_str (P := Try.prog) (e := 9) Try.underlying9 (fun w => by kernel_rfl))
  have hn := hD.len
  have hle := hD.le
  have c0 : w.cell? ⟨d, 0, none⟩ = some (.slice (some ⟨gs, 0, none⟩) n n) := hD.row.cell 0
  have c1 : w.cell? ⟨d, 1, none⟩ = some (.map (some b)) := hD.row.cell 1
  have hM := Lib.hid hD.next
  have hir : i ≤ maxLen := by unfold maxLen; omega
  have hne2 := hD.ne2
  replace hir := Lib.hid hir
  have hpz := padB_size s hs
  have hpm : (padB s).size ≤ maxLen := by rw [hpz]; decide
  replace hpm := Lib.hid hpm
  obtain ⟨r, hr⟩ : ∃ r : Nat, r = 32 - s.size := ⟨_, rfl⟩
  have hsub : IntKind.i64.wrap (32 - (s.size : Int)) = (r : Int) := by rw [IntKind.wrap_i64]; omega
  have hsub2 : wrap64 (32 - (s.size : Int)) = (r : Int) := by unfold wrap64; omega
  have hr32 : r ≤ 32 := by omega
  have hadd : ¬ 9223372036854775807 < s.size + r := by omega
  have hmk := fun (W : World) => run_make_row' (P := Try.prog) 50 5 (.int .u8 0) 1 Try.underlying50 (by kernel_rfl) rfl .i64 .i64 r (by omega) (by omega) W
  have hcv := fun (W : World) (g : Nat) (hg : g = W.heap.size) => str_of_row (P := Try.prog) (w := (W.alloc (.cells (madeCells #[.int .u8 0] r) 5)).drew) (g := g) (e := 5) (l := List.replicate r 0) (by
    subst hg
    rw [← zero_row, ← madeCells_one]
    exact (row_alloc _ _ _).drew) 50 9 Try.underlying50 Try.underlying5 Try.underlying9 r r (by simp)
  have hpe : Hid (s ++ ⟨(List.replicate r 0).toArray⟩ = padB s) := Lib.hid (by unfold padB; rw [hr])
  have hzr := ba_size (List.replicate r 0)
  rw [List.length_replicate] at hzr
  generalize (ByteArray.mk (List.replicate r 0).toArray) = z at *
  replace hcv := Lib.hid hcv
  replace hr := Lib.hid hr
  replace hD := Lib.hid hD
  have hb0 := Lib.hid (Only.refl (fun k => k = b) w)
  go_enter Try.func16, Try.ntmps16
  go_wp2_with fail
  have hHeld0 : w.drew.cell? ⟨d, 1, none⟩ = some (.map (some b)) := c1
  have hmm : Hid (NatStr w b m st.next) := hM
  clear c0 hM
  (refine wp_region_held_drew (S := (fun W : World => W.cell? ⟨d, 1, none⟩ = some (.map (some b)))) (by kernel_rfl) ?_ (fun hHeld => ?_); ((try dsimp only); exact hHeld0))
  clear hHeld0
  (refine held_take (i := 0) (v := ?_) rfl (by kernel_rfl) (by kernel_rfl) (by kernel_rfl) (fun _ _ _ h => h) (by kernel_rfl) (by assumption) ?_ ?_; rotate_left; (focus (intro w hSw; (try unfold SC at hSw); (try unfold MC at hSw); (try dsimp only at hSw); go_simp; (try with_reducible rfl); done)); (simp only [Act.put, List.setIfInBounds_toArray, List.set_cons_zero, List.set_cons_succ]); refine held_take (i := 1) (v := ?_) rfl (by kernel_rfl) (by kernel_rfl) (by kernel_rfl) (fun _ _ _ h => h) (by kernel_rfl) (by assumption) ?_ ?_; rotate_left; (focus (intro w hSw; (try unfold SC at hSw); (try unfold MC at hSw); (try dsimp only at hSw); go_simp; (try with_reducible rfl); done)); (simp only [Act.put, List.setIfInBounds_toArray, List.set_cons_zero, List.set_cons_succ]); refine held_take (i := 2) (v := ?_) rfl (by kernel_rfl) (by kernel_rfl) (by kernel_rfl) (fun _ _ _ h => h) (by kernel_rfl) (by assumption) ?_ ?_; rotate_left; (focus (intro w hSw; (try unfold SC at hSw); (try unfold MC at hSw); (try dsimp only at hSw); go_simp; (try with_reducible rfl); done)); (simp only [Act.put, List.setIfInBounds_toArray, List.set_cons_zero, List.set_cons_succ]); refine held_take (i := 3) (v := ?_) rfl (by kernel_rfl) (by kernel_rfl) (by kernel_rfl) (fun _ _ _ h => h) (by kernel_rfl) (by assumption) ?_ ?_; rotate_left; (focus (intro w hSw; (try unfold SC at hSw); (try unfold MC at hSw); (try dsimp only at hSw); go_simp; (try with_reducible rfl); done)); (simp only [Act.put, List.setIfInBounds_toArray, List.set_cons_zero, List.set_cons_succ]); refine held_take (i := 4) (v := ?_) rfl (by kernel_rfl) (by kernel_rfl) (by kernel_rfl) (fun _ _ _ h => h) (by kernel_rfl) (by assumption) ?_ ?_; rotate_left; (focus (intro w hSw; (try unfold SC at hSw); (try unfold MC at hSw); (try dsimp only at hSw); go_simp; (try with_reducible rfl); done)); (simp only [Act.put, List.setIfInBounds_toArray, List.set_cons_zero, List.set_cons_succ]); refine held_take (i := 5) (v := ?_) rfl (by kernel_rfl) (by kernel_rfl) (by kernel_rfl) (fun _ _ _ h => h) (by kernel_rfl) (by assumption) ?_ ?_; rotate_left; (focus (intro w hSw; (try unfold SC at hSw); (try unfold MC at hSw); (try dsimp only at hSw); go_simp; (try with_reducible rfl); done)); (simp only [Act.put, List.setIfInBounds_toArray, List.set_cons_zero, List.set_cons_succ]); refine held_take (i := 6) (v := ?_) rfl (by kernel_rfl) (by kernel_rfl) (by kernel_rfl) (fun _ _ _ h => h) (by kernel_rfl) (by assumption) ?_ ?_; rotate_left; (focus (intro w hSw; (try unfold SC at hSw); (try unfold MC at hSw); (try dsimp only at hSw); go_simp; (try with_reducible rfl); done)); (simp only [Act.put, List.setIfInBounds_toArray, List.set_cons_zero, List.set_cons_succ]); refine held_take (i := 7) (v := ?_) rfl (by kernel_rfl) (by kernel_rfl) (by kernel_rfl) (fun _ _ _ h => h) (by kernel_rfl) (by assumption) ?_ ?_; rotate_left; (focus (intro w hSw; (try unfold SC at hSw); (try unfold MC at hSw); (try dsimp only at hSw); go_simp; (try with_reducible rfl); done)); (simp only [Act.put, List.setIfInBounds_toArray, List.set_cons_zero, List.set_cons_succ]); refine held_take (i := 8) (v := ?_) rfl (by kernel_rfl) (by kernel_rfl) (by kernel_rfl) (fun _ _ _ h => h) (by kernel_rfl) (by assumption) ?_ ?_; rotate_left; (focus (intro w hSw; (try unfold SC at hSw); (try unfold MC at hSw); (try dsimp only at hSw); go_simp; (try with_reducible rfl); done)); (simp only [Act.put, List.setIfInBounds_toArray, List.set_cons_zero, List.set_cons_succ]))
  (refine wpAnyH_ready (P := Try.prog) (md := .any) (rs := [9]) (by kernel_rfl) (by simp) ?_; refine held_cons rfl (by kernel_rfl) (fun K hK => ?_) AllReadyH.nil; (go_simp; refine hK.out _ _ ?_ (fun hHeld => ?_); ((try dsimp only); exact cell_alloc hHeld _); clear hK K; (try clear hHeld0); (try rename_i hHeld0)))
  have hcv2 := hcv.out w w.heap.size rfl
  (refine wpAnyH_ready (P := Try.prog) (md := .any) (rs := [10]) (by kernel_rfl) (by simp) ?_; refine held_cons rfl (by kernel_rfl) (fun K hK => ?_) AllReadyH.nil; (go_simp; refine hK.out _ _ ?_ (fun hHeld => ?_); ((try dsimp only); exact hHeld); clear hK K; (try clear hHeld0); (try rename_i hHeld0)))
  clear hcv2
  (refine held_take (i := 11) (v := ?_) rfl (by kernel_rfl) (by kernel_rfl) (by kernel_rfl) (fun _ _ _ h => h) (by kernel_rfl) (by assumption) ?_ ?_; rotate_left; (focus (intro w hSw; (try unfold SC at hSw); (try unfold MC at hSw); (try dsimp only at hSw); go_simp; (try with_reducible rfl); done)); (simp only [Act.put, List.setIfInBounds_toArray, List.set_cons_zero, List.set_cons_succ]))
  refine wpAnyH_ready (P := Try.prog) (md := .any) (rs := [12]) (by kernel_rfl) (by simp) ?_
  refine held_cons rfl (by kernel_rfl) (fun K' hK => ?_) AllReadyH.nil
  have hM2 := (hmm.out.alloc (.cells (madeCells #[.int .u8 0] r) 5)).drew
  have hS0 : (w.alloc (.cells (madeCells #[.int .u8 0] r) 5)).drew.cell? ⟨d, 1, none⟩ = some (.map (some b)) := cell_alloc (w := w) c1 _
  refine step_update (.tmp 28) (.tmp 29) (.tmp 36) 56 rfl hM2 K.out E.out Try.underlying56 (by omega) i hir.out (padB s) hpm.out ?_ ?_ ?_ _ ?_
  · rfl
  · rfl
  · exact (show Value.string (s ++ z) = Value.string (padB s) by rw [hpe.out])
  intro w' hM3 hg3
  refine hK.out _ _ ?_ (fun hHeld => ?_)
  · exact (World.cell?_of_block (hg3.block d (World.block_lt_of_cell? _ _ hS0) (fun e => by injection e with e; exact hne2 e))).trans hS0
  clear hK K'
  (refine wpAnyH_done (by kernel_rfl) ?_ _)
  have hon : Only (fun k => k = b) w w' := ((hb0.out.alloc _).drew).grown hg3 (fun k hk => Or.inl (by injection hk with hk; exact hk.symm))
  go_wp2
  go_ret
  have hD := hD.out
  refine ⟨rfl, { row := hD.row.only hon hne2, safe := hD.safe.only hon hD.ne3, next := hM3, len := hD.len, pos := hD.pos, le := hD.le, ne1 := hD.ne1, ne2 := hD.ne2, ne3 := hD.ne3, sz := hD.sz, szn := fun j x hj => ?_ }, hon⟩
  show j < n ∧ x.size = 32
  have hj : (if j = i then some (padB s) else st.next j) = some x := hj
  by_cases he : j = i
  · rw [if_pos he] at hj
    injection hj with hj
    rw [← hj, he]; exact ⟨hi, hpz⟩
  · rw [if_neg he] at hj
    exact hD.szn j x hj
end Go.Proofs.Ytdpdnkjpjoccmaa
