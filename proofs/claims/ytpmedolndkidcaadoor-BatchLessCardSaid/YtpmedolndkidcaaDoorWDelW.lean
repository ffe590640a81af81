/- The walk of slices.Delete of one element, at writes. -/
import Derived.Test.YtpmedolndkidcaaDoorWCopyK
import Derived.Test.YtpmedolndkidcaaDoorWDel
import Derived.Laws.AppendOwn
namespace Go.Proofs.YtpmedolndkidcaaDoor
open Go.RowKit
set_option linter.unusedVariables false
set_option linter.unusedSimpArgs false
theorem del_list (C : List Value) (n i sz cap : Nat) (hi : i < n) (hC : C.length = cap * sz) (hn : n ≤ cap) :
    ((C.take (i * sz) ++ (C.take (n * sz)).drop ((i + 1) * sz) ++ C.drop (i * sz + ((C.take (n * sz)).drop ((i + 1) * sz)).length)).take (n * sz)).take ((n - 1) * sz) = (C.take (n * sz)).take (i * sz) ++ (C.take (n * sz)).drop ((i + 1) * sz) := by
  have a1 : i * sz ≤ n * sz := Nat.mul_le_mul_right _ (by omega)
  have a2 : (i + 1) * sz ≤ n * sz := Nat.mul_le_mul_right _ (by omega)
  have a3 : (i + 1) * sz = i * sz + sz := by rw [Nat.add_mul, Nat.one_mul]
  have a4 : (n - 1) * sz = n * sz - sz := by rw [Nat.sub_mul, Nat.one_mul]
  have a5 : n * sz ≤ cap * sz := Nat.mul_le_mul_right _ hn
  rw [a3] at a2 ⊢
  rw [a4]
  generalize i * sz = I at *
  generalize n * sz = N at *
  have b1 : ((C.take N).drop (I + sz)).length = N - (I + sz) := by simp only [List.length_drop, List.length_take]; omega
  have b2 : (C.take I).length = I := by rw [List.length_take]; omega
  rw [List.take_take, Nat.min_eq_left (by omega), List.take_left' (by rw [List.length_append, b1, b2]; omega), List.take_take, Nat.min_eq_left a1]
set_option maxHeartbeats 8000000 in
set_option maxRecDepth 20000 in
theorem delete_wr (v : Value) (n i : Nat) (xs : List Value) (base : Nat) (w : World) (hown : w.ownsRow base 36 6 v n xs) (hi : i < n) (hn : n ≤ 1000000) (h1x : ∀ u ∈ xs, u.oneCell' = true) :
    Calls Tryd.prog 41 #[v, .int .i64 i, .int .i64 ((i : Int) + 1)] w fun e w' => ∃ v', e = .returned v' ∧ w'.ownsRow base 36 6 v' (n - 1) (xs.take (i * 6) ++ xs.drop ((i + 1) * 6)) ∧ Below base w w' := by
  rcases hown.2 with ⟨rfl, rfl⟩ | ⟨g, cap, cur, rfl, hgb, hheap, hnc, hcm, hcs, htk⟩
  · omega
  have hxl : xs.length = n * 6 := hown.1
  obtain ⟨CUR, hCUR⟩ : ∃ C : List Value, C = cur.toList := ⟨_, rfl⟩
  have hcurA : cur = CUR.toArray := by rw [hCUR]
  rw [hcurA] at hheap hcs
  rw [← hCUR] at htk
  have hcl : CUR.length = cap * 6 := by simpa using hcs
  clear hcurA hCUR hcs
  have hglt : g < w.heap.size := (Array.getElem?_eq_some_iff.1 hheap).1
  obtain ⟨i0, hi0, hz0, hzs, hzb⟩ := info_parts (P := Tryd.prog) (e := 36) (z := (Value.agg #[.int .i64 0, .int .i64 0, .int .i64 0, .string ⟨#[]⟩, .string ⟨#[]⟩, .int .i64 0])) (size := 6) (bytes := 64) (by kernel_rfl)
  have hdl : (xs.drop ((i + 1) * 6)).length = (n - (i + 1)) * 6 := by rw [List.length_drop, hxl]; omega
  have hone : ∀ u ∈ xs.drop ((i + 1) * 6), u.oneCell' = true := fun u hu => h1x u (List.mem_of_mem_drop hu)
  have hxc : ∀ j u, xs[j]? = some u → w.cell? ⟨g, j, none⟩ = some u := fun j u hu => by
    rw [heap_cell hheap]
    rw [← htk, List.getElem?_take] at hu
    split at hu
    · exact hu
    · cases hu
  obtain ⟨C1, hC1⟩ : ∃ C, C = CUR.take (i * 6) ++ xs.drop ((i + 1) * 6) ++ CUR.drop (i * 6 + (xs.drop ((i + 1) * 6)).length) := ⟨_, rfl⟩
  have hC1l : C1.length = cap * 6 := by rw [hC1]; simp only [List.length_append, List.length_take, List.length_drop, hxl]; omega
  have hres : (C1.take (n * 6)).take ((n - 1) * 6) = xs.take (i * 6) ++ xs.drop ((i + 1) * 6) := by
    have := del_list CUR n i 6 cap hi hcl hnc
    rw [htk, ← hC1] at this
    exact this
  have hrA : ∀ (o : Nat), (i + 1 < n → o = (i + 1) * 6) → ∀ ty, (Builtin.append_ #[22, 22] ty #[.slice (some ⟨g, 0, none⟩) i cap, .slice (some ⟨g, o, none⟩) (n - (i + 1)) (cap - (i + 1))]).run Tryd.prog w.drew = .ok (.slice (some ⟨g, 0, none⟩) (n - 1) cap) (w.drew.setRow g C1.toArray) := fun o ho ty => by
    have h := run_append_room (P := Tryd.prog) (w := w.drew) 22 ty 36 i0 Tryd.underlying22 hi0 g i cap CUR.toArray hheap ⟨g, o, none⟩ (n - (i + 1)) (cap - (i + 1)) (xs.drop ((i + 1) * 6)) (by rw [hzs]; exact hdl) (fun j u hj => by
      rw [Addr.add_lit]
      have hlt : j < (xs.drop ((i + 1) * 6)).length := (List.getElem?_eq_some_iff.1 hj).1
      rw [hdl] at hlt
      rw [ho (by omega)]
      rw [List.getElem?_drop] at hj
      exact hxc _ _ hj) hone (by omega) (by rw [hzs, hdl]; simp only [List.size_toArray, hcl]; omega)
    rw [hzs, show i + (n - (i + 1)) = n - 1 by omega] at h
    rw [h, hC1]
  have hW1h : (w.drew.setRow g C1.toArray).heap[g]? = some (.cells C1.toArray 36 (0, 0)) := setRow_heap _ g _ _ _ _ hheap
  have hO1 : Only (fun j => j = g) w (w.drew.setRow g C1.toArray) := ⟨rfl, rfl, rfl, Nat.le_of_eq (by unfold World.setRow; simp only [Array.size_modify]; rfl), fun k _ hk => setRow_other w.drew g k _ (fun e => hk e)⟩
  generalize w.drew.setRow g C1.toArray = W1 at *
  have hown1 : W1.ownsRow base 36 6 (.slice (some ⟨g, 0, none⟩) n cap) n (C1.take (n * 6)) := ⟨by rw [List.length_take, hC1l]; omega, .inr ⟨g, cap, C1.toArray, rfl, hgb, hW1h, hnc, hcm, by simpa using hC1l, by simp⟩⟩
  obtain ⟨w2, hclr, hown2, hb2⟩ := run_clear_own hown1 22 Tryd.underlying22 (Value.agg #[.int .i64 0, .int .i64 0, .int .i64 0, .string ⟨#[]⟩, .string ⟨#[]⟩, .int .i64 0]) (by intro w; kernel_rfl) rfl (by intro u hu; simp [Value.cells] at hu; rcases hu with rfl | rfl | rfl | rfl | rfl | rfl <;> rfl) (n - 1) (by omega)
  rw [hres] at hown2
  have hclr1 := hclr
  rw [show n - (n - 1) = 1 by omega] at hclr1
  have hin2 : (i : Int) < (n : Int) := by omega
  have hin3 : (i : Int) + 1 ≤ (n : Int) := by omega
  have hnc2 : (n : Int) ≤ (cap : Int) := by omega
  have hn2 : (n : Int) ≤ 1000000 := by omega
  have hcm2 : (cap : Int) ≤ 9223372036854775807 := by unfold maxLen at hcm; omega
  have hie : ((i : Int) == (i : Int) + 1) = false := by simp; omega
  have hc1 : ¬ cap = i := by omega
  replace hres := Lib.hid hres
  clear hown hxc hown1 hC1
  have hw1 : IntKind.i64.wrap ((i : Int) + 1) = (i : Int) + 1 := by rw [IntKind.wrap_i64]; omega
  have htn : ((i : Int) + 1).toNat = i + 1 := by omega
  have hb1 : (0 : Int) ≤ (i : Int) + 1 := by omega
  have hS0 : Only (fun j => j = g) w w.drew := (Only.refl _ w).drew
  have hnn : ((n - 1 : Nat) : Int) ≤ (n : Int) := by omega
  have hnn2 : (n : Int) ≤ (cap : Int) := by omega
  have hcn : ¬ cap = n - 1 := by omega
  have htn2 : (((n - 1 : Nat) : Int)).toNat = n - 1 := by omega
  have hiN : (i : Int) ≤ (n : Int) := by omega
  have hicap : i ≤ cap := by omega
  have hi1n : i + 1 ≤ n := by omega
  have hicI : (i : Int) ≤ (cap : Int) := by omega
  by_cases hlast : cap = i + 1
  · subst hlast
    obtain rfl : n = i + 1 := by omega
    have hA := hrA 0 (fun h => by omega)
    simp only [Nat.sub_self, Nat.add_sub_cancel, Nat.add_sub_cancel_left] at hA hclr hclr1 hown2
    have hii : (i : Int) ≤ (i : Int) + 1 := by omega
    have hii2 : ¬ i + 1 = i := by omega
    clear hrA
    go_enter Tryd.func41, Tryd.ntmps41
    go_wp2_with fail
    (refine wp_region_held_drew (S := (fun W => Only (fun j => j = g) w W)) (by kernel_rfl) ?_ (fun hHeld => ?_); ((try dsimp only); exact hS0))
    clear hS0
    (refine held_take (i := 0) (v := ?_) rfl (by kernel_rfl) (by kernel_rfl) (by kernel_rfl) (fun _ _ _ h => h) (by kernel_rfl) (by assumption) ?_ ?_; rotate_left; (focus (intro w hSw; (try unfold SC at hSw); (try unfold FC at hSw); (try unfold LC at hSw); (try unfold MC at hSw); (try unfold BC at hSw); (try unfold RC at hSw); (try unfold KC at hSw); (try unfold KD at hSw); (try dsimp only at hSw); go_simp; (try with_reducible rfl); done)); (simp only [Act.put, List.setIfInBounds_toArray, List.set_cons_zero, List.set_cons_succ]); refine held_take (i := 1) (v := ?_) rfl (by kernel_rfl) (by kernel_rfl) (by kernel_rfl) (fun _ _ _ h => h) (by kernel_rfl) (by assumption) ?_ ?_; rotate_left; (focus (intro w hSw; (try unfold SC at hSw); (try unfold FC at hSw); (try unfold LC at hSw); (try unfold MC at hSw); (try unfold BC at hSw); (try unfold RC at hSw); (try unfold KC at hSw); (try unfold KD at hSw); (try dsimp only at hSw); go_simp; (try with_reducible rfl); done)); (simp only [Act.put, List.setIfInBounds_toArray, List.set_cons_zero, List.set_cons_succ]); refine held_take (i := 2) (v := ?_) rfl (by kernel_rfl) (by kernel_rfl) (by kernel_rfl) (fun _ _ _ h => h) (by kernel_rfl) (by assumption) ?_ ?_; rotate_left; (focus (intro w hSw; (try unfold SC at hSw); (try unfold FC at hSw); (try unfold LC at hSw); (try unfold MC at hSw); (try unfold BC at hSw); (try unfold RC at hSw); (try unfold KC at hSw); (try unfold KD at hSw); (try dsimp only at hSw); go_simp; (try with_reducible rfl); done)); (simp only [Act.put, List.setIfInBounds_toArray, List.set_cons_zero, List.set_cons_succ]); refine held_take (i := 3) (v := ?_) rfl (by kernel_rfl) (by kernel_rfl) (by kernel_rfl) (fun _ _ _ h => h) (by kernel_rfl) (by assumption) ?_ ?_; rotate_left; (focus (intro w hSw; (try unfold SC at hSw); (try unfold FC at hSw); (try unfold LC at hSw); (try unfold MC at hSw); (try unfold BC at hSw); (try unfold RC at hSw); (try unfold KC at hSw); (try unfold KD at hSw); (try dsimp only at hSw); go_simp; (try with_reducible rfl); done)); (simp only [Act.put, List.setIfInBounds_toArray, List.set_cons_zero, List.set_cons_succ]); refine held_take (i := 4) (v := ?_) rfl (by kernel_rfl) (by kernel_rfl) (by kernel_rfl) (fun _ _ _ h => h) (by kernel_rfl) (by assumption) ?_ ?_; rotate_left; (focus (intro w hSw; (try unfold SC at hSw); (try unfold FC at hSw); (try unfold LC at hSw); (try unfold MC at hSw); (try unfold BC at hSw); (try unfold RC at hSw); (try unfold KC at hSw); (try unfold KD at hSw); (try dsimp only at hSw); go_simp; (try with_reducible rfl); done)); (simp only [Act.put, List.setIfInBounds_toArray, List.set_cons_zero, List.set_cons_succ]); refine held_take (i := 5) (v := ?_) rfl (by kernel_rfl) (by kernel_rfl) (by kernel_rfl) (fun _ _ _ h => h) (by kernel_rfl) (by assumption) ?_ ?_; rotate_left; (focus (intro w hSw; (try unfold SC at hSw); (try unfold FC at hSw); (try unfold LC at hSw); (try unfold MC at hSw); (try unfold BC at hSw); (try unfold RC at hSw); (try unfold KC at hSw); (try unfold KD at hSw); (try dsimp only at hSw); go_simp; (try with_reducible rfl); done)); (simp only [Act.put, List.setIfInBounds_toArray, List.set_cons_zero, List.set_cons_succ]))
    (refine wpAnyH_ready (P := Tryd.prog) (md := .any) (rs := [6]) (by kernel_rfl) (by simp) ?_; refine held_cons rfl (by kernel_rfl) (fun K hK => ?_) AllReadyH.nil; ((refine Lib.wp_append_run _ _ _ 22 22 rfl _ _ rfl rfl _ _ (hA _) ?_); refine hK.out _ _ ?_ (fun hHeld => ?_); ((try dsimp only); exact hO1); clear hK K; (try clear hHeld0); (try rename_i hHeld0)))
    (refine held_take (i := 7) (v := ?_) rfl (by kernel_rfl) (by kernel_rfl) (by kernel_rfl) (fun _ _ _ h => h) (by kernel_rfl) (by assumption) ?_ ?_; rotate_left; (focus (intro w hSw; (try unfold SC at hSw); (try unfold FC at hSw); (try unfold LC at hSw); (try unfold MC at hSw); (try unfold BC at hSw); (try unfold RC at hSw); (try unfold KC at hSw); (try unfold KD at hSw); (try dsimp only at hSw); go_simp; (try with_reducible rfl); done)); (simp only [Act.put, List.setIfInBounds_toArray, List.set_cons_zero, List.set_cons_succ]))
    (refine wpAnyH_done (by kernel_rfl) ?_ _)
    go_wp2_with fail
    go_ret
    exact ⟨_, rfl, hown2, (hO1.below (fun k hk => by omega) (by omega)).trans hb2⟩
  · have hA := hrA ((i + 1) * 6) (fun _ => rfl)
    clear hrA
    go_enter Tryd.func41, Tryd.ntmps41
    go_wp2_with fail
    (refine wp_region_held_drew (S := (fun W => Only (fun j => j = g) w W)) (by kernel_rfl) ?_ (fun hHeld => ?_); ((try dsimp only); exact hS0))
    clear hS0
    (refine held_take (i := 0) (v := ?_) rfl (by kernel_rfl) (by kernel_rfl) (by kernel_rfl) (fun _ _ _ h => h) (by kernel_rfl) (by assumption) ?_ ?_; rotate_left; (focus (intro w hSw; (try unfold SC at hSw); (try unfold FC at hSw); (try unfold LC at hSw); (try unfold MC at hSw); (try unfold BC at hSw); (try unfold RC at hSw); (try unfold KC at hSw); (try unfold KD at hSw); (try dsimp only at hSw); go_simp; (try with_reducible rfl); done)); (simp only [Act.put, List.setIfInBounds_toArray, List.set_cons_zero, List.set_cons_succ]); refine held_take (i := 1) (v := ?_) rfl (by kernel_rfl) (by kernel_rfl) (by kernel_rfl) (fun _ _ _ h => h) (by kernel_rfl) (by assumption) ?_ ?_; rotate_left; (focus (intro w hSw; (try unfold SC at hSw); (try unfold FC at hSw); (try unfold LC at hSw); (try unfold MC at hSw); (try unfold BC at hSw); (try unfold RC at hSw); (try unfold KC at hSw); (try unfold KD at hSw); (try dsimp only at hSw); go_simp; (try with_reducible rfl); done)); (simp only [Act.put, List.setIfInBounds_toArray, List.set_cons_zero, List.set_cons_succ]); refine held_take (i := 2) (v := ?_) rfl (by kernel_rfl) (by kernel_rfl) (by kernel_rfl) (fun _ _ _ h => h) (by kernel_rfl) (by assumption) ?_ ?_; rotate_left; (focus (intro w hSw; (try unfold SC at hSw); (try unfold FC at hSw); (try unfold LC at hSw); (try unfold MC at hSw); (try unfold BC at hSw); (try unfold RC at hSw); (try unfold KC at hSw); (try unfold KD at hSw); (try dsimp only at hSw); go_simp; (try with_reducible rfl); done)); (simp only [Act.put, List.setIfInBounds_toArray, List.set_cons_zero, List.set_cons_succ]); refine held_take (i := 3) (v := ?_) rfl (by kernel_rfl) (by kernel_rfl) (by kernel_rfl) (fun _ _ _ h => h) (by kernel_rfl) (by assumption) ?_ ?_; rotate_left; (focus (intro w hSw; (try unfold SC at hSw); (try unfold FC at hSw); (try unfold LC at hSw); (try unfold MC at hSw); (try unfold BC at hSw); (try unfold RC at hSw); (try unfold KC at hSw); (try unfold KD at hSw); (try dsimp only at hSw); go_simp; (try with_reducible rfl); done)); (simp only [Act.put, List.setIfInBounds_toArray, List.set_cons_zero, List.set_cons_succ]); refine held_take (i := 4) (v := ?_) rfl (by kernel_rfl) (by kernel_rfl) (by kernel_rfl) (fun _ _ _ h => h) (by kernel_rfl) (by assumption) ?_ ?_; rotate_left; (focus (intro w hSw; (try unfold SC at hSw); (try unfold FC at hSw); (try unfold LC at hSw); (try unfold MC at hSw); (try unfold BC at hSw); (try unfold RC at hSw); (try unfold KC at hSw); (try unfold KD at hSw); (try dsimp only at hSw); go_simp; (try with_reducible rfl); done)); (simp only [Act.put, List.setIfInBounds_toArray, List.set_cons_zero, List.set_cons_succ]); refine held_take (i := 5) (v := ?_) rfl (by kernel_rfl) (by kernel_rfl) (by kernel_rfl) (fun _ _ _ h => h) (by kernel_rfl) (by assumption) ?_ ?_; rotate_left; (focus (intro w hSw; (try unfold SC at hSw); (try unfold FC at hSw); (try unfold LC at hSw); (try unfold MC at hSw); (try unfold BC at hSw); (try unfold RC at hSw); (try unfold KC at hSw); (try unfold KD at hSw); (try dsimp only at hSw); go_simp; (try with_reducible rfl); done)); (simp only [Act.put, List.setIfInBounds_toArray, List.set_cons_zero, List.set_cons_succ]))
    (refine wpAnyH_ready (P := Tryd.prog) (md := .any) (rs := [6]) (by kernel_rfl) (by simp) ?_; refine held_cons rfl (by kernel_rfl) (fun K hK => ?_) AllReadyH.nil; ((refine Lib.wp_append_run _ _ _ 22 22 rfl _ _ rfl rfl _ _ (hA _) ?_); refine hK.out _ _ ?_ (fun hHeld => ?_); ((try dsimp only); exact hO1); clear hK K; (try clear hHeld0); (try rename_i hHeld0)))
    (refine held_take (i := 7) (v := ?_) rfl (by kernel_rfl) (by kernel_rfl) (by kernel_rfl) (fun _ _ _ h => h) (by kernel_rfl) (by assumption) ?_ ?_; rotate_left; (focus (intro w hSw; (try unfold SC at hSw); (try unfold FC at hSw); (try unfold LC at hSw); (try unfold MC at hSw); (try unfold BC at hSw); (try unfold RC at hSw); (try unfold KC at hSw); (try unfold KD at hSw); (try dsimp only at hSw); go_simp; (try with_reducible rfl); done)); (simp only [Act.put, List.setIfInBounds_toArray, List.set_cons_zero, List.set_cons_succ]))
    (refine wpAnyH_done (by kernel_rfl) ?_ _)
    go_wp2_with fail
    go_ret
    exact ⟨_, rfl, hown2, (hO1.below (fun k hk => by omega) (by omega)).trans hb2⟩
end Go.Proofs.YtpmedolndkidcaaDoor
