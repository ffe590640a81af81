/- The walk of slices.Insert of one element, at strings. -/
import Derived.Test.YtognjohloobliaaGreatDoorJ10
import Derived.Laws.Externs
namespace Go.Proofs.YtognjohloobliaaGreatDoor
open Go.RowKit
set_option linter.unusedVariables false
set_option linter.unusedSimpArgs false
theorem only_grown {w w' : World} {r : Option Nat} (h : Only (fun j => r = some j) w w') : w.grownBy w' r := ⟨h.os, h.tape, h.output, h.size, fun i hi hn => h.block i hi fun e => hn e.symm⟩
set_option maxHeartbeats 8000000 in
set_option maxRecDepth 20000 in
theorem insert_str (v : Value) (n i : Nat) (xs us : List Value) (gv vc base : Nat) (w : World) (hown : w.ownsRow base 9 1 v n xs) (hi : i ≤ n) (hn : n ≤ 1000000) (hus : us.length = 1)
    (h1x : ∀ u ∈ xs, u.oneCell' = true) (h1u : ∀ u ∈ us, u.oneCell' = true) (hgv : w.heap[gv]? = some (.cells us.toArray 9 (0, 0))) (hne : v.ownBlock ≠ some gv) (hbase : base ≤ w.heap.size) :
    Calls Tryz.prog 78 #[v, .int .i64 i, .slice (some ⟨gv, 0, none⟩) 1 vc] w fun e w' => ∃ v', e = .returned v' ∧ w'.ownsRow base 9 1 v' (n + 1) (xs.take (i) ++ us ++ xs.drop (i)) ∧ w.grownBy w' v.ownBlock ∧ (v'.ownBlock = v.ownBlock ∨ v'.ownBlock = some w.heap.size) ∧ v' ≠ .slice none 0 0 := by
  have hi2 : (i : Int) ≤ (n : Int) := by omega
  have hn2 : (n : Int) ≤ 1000000 := by omega
  by_cases hin : i = n
  · subst hin
    have hxl : xs.length = i := by simpa using hown.1
    have hsrc : Src Tryz.prog 1 145 (.slice (some ⟨gv, 0, none⟩) 1 vc) 1 us w := Src.ofSlice w Tryz.underlying145 ⟨gv, 0, none⟩ 1 vc us (by omega) (fun j u hj => by rw [Addr.add_lit, Nat.zero_add, heap_cell hgv]; exact hj) h1u
    have heq : xs.take (i) ++ us ++ xs.drop (i) = xs ++ us := by rw [List.take_of_length_le (by omega), List.drop_of_length_le (by omega), List.append_nil]
    rw [heq]
    clear heq hgv
    obtain ⟨o, c, rfl⟩ := owns_slice_ hown
    have hc : i ≤ c := owns_cap hown
    by_cases hci : i = c
    all_goals (try subst hci)
    all_goals
     go_enter Tryz.func78, Tryz.ntmps78
     go_wp2_with (at_builtin; go_must (refine app_any rfl _ _ 145 145 9 rfl base (Value.string ⟨#[]⟩) 1 16 Tryz.underlying145 (by kernel_rfl) rfl _ _ _ rfl hown 1 us hsrc (by omega) (by omega) hbase ?_); intro v' w' hown' hg hb hnil hbel)
     go_ret
     refine ⟨_, rfl, hown', hg, hb, fun e => ?_⟩
     have := (hnil.1 e).2
     omega
  · rcases hown.2 with ⟨rfl, rfl⟩ | ⟨g, cap, cur, rfl, hgb, hheap, hnc, hcm, hcs, htk⟩
    · omega
    have hxl : xs.length = n := by simpa using hown.1
    have hng : gv ≠ g := fun e => hne (by rw [e]; rfl)
    obtain ⟨CUR, hCUR⟩ : ∃ C : List Value, C = cur.toList := ⟨_, rfl⟩
    have hcurA : cur = CUR.toArray := by rw [hCUR]
    rw [hcurA] at hheap hcs
    rw [← hCUR] at htk
    (try rw [Nat.mul_one] at htk)
    have hcl : CUR.length = cap := by simpa using hcs
    clear hcurA hCUR hcs
    have hglt : g < w.heap.size := (Array.getElem?_eq_some_iff.1 hheap).1
    have hin1 : ((i : Int) == (n : Int)) = false := by simp; omega
    have hin2 : (i : Int) < (n : Int) := by omega
    have hnc2 : (n : Int) ≤ (cap : Int) := by omega
    have hcm2 : (cap : Int) ≤ 9223372036854775807 := by unfold maxLen at hcm; omega
    have hsz1 : (Tryz.prog.info? 9).map (·.size) = some 1 := by kernel_rfl
    have him : i ≤ n := by omega
    by_cases hroom : n + 1 ≤ cap
    · have hroom2 : ¬ (cap : Int) < (n : Int) + 1 := by omega
      have hroom3 : (n : Int) + 1 ≤ (cap : Int) := by omega
      have hw1 : IntKind.i64.wrap ((i : Int) + 1) = (i : Int) + 1 := by rw [IntKind.wrap_i64]; omega
      have hb1 : (0 : Int) ≤ (i : Int) + 1 := by omega
      have htn : ((i : Int) + 1).toNat = i + 1 := by omega
      have hii2 : (i : Int) ≤ (n : Int) + 1 := by omega
      have hc1 : ¬ cap = i := by omega
      have hc2 : ¬ cap = i + 1 := by omega
      have hii : (i : Int) + 1 ≤ (n : Int) + 1 := by omega
      have hgv0 : w.frozen? ⟨gv, 0, none⟩ = false := by simp [World.frozen?, hgv]
      have hsa : w.shape? gv = some (9, us.length) := by simp [World.shape?, hgv]
      have hsb : w.shape? g = some (9, CUR.length) := by simp [World.shape?, hheap]
      have hov : ∀ lb cb, (callFunc 98 #[.slice (some ⟨gv, 0, none⟩) 1 vc, .slice (some ⟨g, (i + 1), none⟩) lb cb]).run Tryz.prog w = .ok (.value (.bool false)) w := fun lb cb => by
        rw [run_callFunc_extern Tryz.func98 (by kernel_rfl) (by kernel_rfl) (by kernel_rfl) (e := Extern.SlicesOverlaps.overlaps #[145, 145] #[4]) (by kernel_rfl),
          Lib.run_overlaps_apart w 145 4 9 Tryz.underlying145 1 (by intro w; kernel_rfl) ⟨gv, 0, none⟩ ⟨g, (i + 1), none⟩ 1 vc lb cb hng _ _ _ _ hsa hsb (by rw [hcl]; omega) hgv0 (by simp [World.frozen?, hgv])]
        rfl
      go_enter Tryz.func78, Tryz.ntmps78
      go_wp2_with (simp only [hov])
      have hS0 : Only (fun j => j = g) w w.drew := (Only.refl _ w).drew
      have hdl : ((CUR.take (n)).drop (i)).length = (n - i) := by
        rw [List.length_drop, List.length_take, hcl]
        omega
      have hone : ∀ u ∈ (CUR.take (n)).drop (i), u.oneCell' = true := fun u hu => h1x u (by rw [← htk]; exact List.mem_of_mem_drop hu)
      have hsc : ∀ j u, ((CUR.take (n)).drop (i))[j]? = some u → w.cell? ⟨g, i + j, none⟩ = some u := fun j u hu => by
        rw [heap_cell hheap]
        rw [List.getElem?_drop, List.getElem?_take] at hu
        split at hu
        · exact hu
        · cases hu
      (refine wp_region_held_drew (S := (fun W => Only (fun j => j = g) w W)) (by kernel_rfl) ?_ (fun hHeld => ?_); ((try dsimp only); exact hS0))
      clear hS0
      (refine tkO 0 ?_; refine tkO 1 ?_; refine tkO 2 ?_; refine tkO 3 ?_; refine tkO 4 ?_; refine tkO 5 ?_; refine tkO 6 ?_; refine tkO 7 ?_)
      (refine tdoO 8 (fun K hK => ?_); ((refine copy_stepK _ _ 145 145 rfl 9 Tryz.underlying145 1 hsz1 g ((i + 1)) g (i) _ _ _ _ rfl rfl CUR 9 (show w.drew.heap[g]? = _ from hheap) ((CUR.take (n)).drop (i)) (n - i) ?_ (by simpa using hdl) hsc ?_ hone ?_; (focus (first | (show n - i = min (n + 1 - i) (n - i); omega) | (show n - i = min (n + 1 - i) (n + 1 - (i + 1)); omega))); (focus (rw [hdl, hcl]; omega)); intro w1 hh1 hO1); refine hK.out _ _ ?_ (fun hHeld => ?_); ((try dsimp only); exact hO1.drewL); clear hK K; (try clear hHeld0); (try rename_i hHeld0)))
      (refine wpAnyH_done (by kernel_rfl) ?_ _)
      clear hHeld0
      have hO2 := hHeld
      clear hHeld
      have hgv1 := heap_only (g := gv) (S := fun j => j = g) hgv hO2 hng
      obtain ⟨C1, hC1⟩ : ∃ C, C = splice CUR ((i + 1)) ((CUR.take (n)).drop (i)) := ⟨_, rfl⟩
      rw [← hC1] at hh1
      have hC1l : C1.length = cap := by rw [hC1, splice_len _ _ _ (by rw [hdl, hcl]; omega), hcl]
      have hfit2 : i + us.length ≤ C1.length := by rw [hus, hC1l]; omega
      have hres := ins_room CUR us n i 1 cap (by omega) hus (by simpa using hcl) hroom
      (try simp only [Nat.mul_one] at hres)
      rw [← hC1, htk] at hres
      replace hO2 := Lib.hid hO2
      replace hres := Lib.hid hres
      go_wp2_with ((refine wpList_copyK rfl (.tmp 80) (.tmp 81) 145 145 rfl 9 Tryz.underlying145 1 hsz1 g (i) gv 0 _ _ _ _ rfl rfl C1 9 hh1 us 1 ?_ (by rw [hus]) (fun j u hj => by rw [Nat.zero_add, heap_cell hgv1]; exact hj) hfit2 h1u ?_); (focus (first | (show 1 = min 1 (n + 1 - i); omega))); intro w2 hh2 hO3)
      go_ret
      refine ⟨_, rfl, ⟨?_, .inr ⟨g, cap, (splice C1 (i) us).toArray, rfl, hgb, hh2, by omega, hcm, ?_, ?_⟩⟩, only_grown ((hO2.out.trans hO3).mono fun j _ hj => by rw [hj]; rfl), .inl rfl, by simp⟩
      · simp only [List.length_append, List.length_take, List.length_drop, hus]; omega
      · simp [splice_len _ _ _ hfit2, hC1l]
      · simpa using hres.out
    · have hroom2 : (cap : Int) < (n : Int) + 1 := by omega
      obtain ⟨i0, hi0, hz0, hzs, hzb⟩ := info_parts (P := Tryz.prog) (e := 9) (z := (Value.string ⟨#[]⟩)) (size := 1) (bytes := 16) (by kernel_rfl)
      have hkk : (n : Int) + 1 - (i : Int) = ((n + 1 - i : Nat) : Int) := by omega
      have hik : i + (n + 1 - i) = n + 1 := by omega
      have hcapn : n = cap := by omega
      subst hcapn
      have hxc : ∀ j u, xs[j]? = some u → w.cell? ⟨g, j, none⟩ = some u := fun j u hu => by
        rw [heap_cell hheap]
        rw [← htk, List.getElem?_take] at hu
        split at hu
        · exact hu
        · cases hu
      have hold : (Builtin.firstCells i0.size i (.slice (some ⟨g, 0, none⟩) i n)).run Tryz.prog w.drew = .ok (xs.take (i)).toArray w.drew := by
        rw [hzs]
        exact run_firstCells_some w.drew 1 i ⟨g, 0, none⟩ i n (xs.take (i)) (by rw [List.length_take]; omega) (fun j u hj => by
          rw [Addr.add_lit, Nat.zero_add]
          rw [List.getElem?_take] at hj
          split at hj
          · exact hxc j u hj
          · cases hj)
      have hrz : ∀ ty, (Builtin.append_ #[145, 3] ty #[.slice (some ⟨g, 0, none⟩) i n, .int .i64 ((n + 1 - i : Nat) : Int)]).run Tryz.prog w =
          .ok (.slice (some ⟨w.heap.size, 0, none⟩) (n + 1) (grownCap w (n + 1) n 9)) (w.drew.alloc (.cells ((xs.take (i)).toArray ++ Builtin.zeroCells (Value.string ⟨#[]⟩).cells (n + 1 - i) ++ Builtin.zeroCells (Value.string ⟨#[]⟩).cells (grownCap w (n + 1) n 9 - (n + 1))) 9)) := fun ty => by
        have h := Lib.run_append_grow_zeros w 145 3 ty 9 i0 _ .i64 .i64 Tryz.underlying145 Tryz.underlying3 hi0 hz0 (some ⟨g, 0, none⟩) i n (xs.take (i)) hold (n + 1 - i) (by omega) (by omega) (by omega) (by omega) (by rw [hzb]; omega) (by
          rw [hzb, hik]
          have := nextslicecap_le (need := n + 1) (old := n) (by omega)
          omega)
        rw [hik] at h
        exact h
      have hGn : n + 1 ≤ grownCap w (n + 1) n 9 := grownCap_ge w _ _ _
      have hGm : grownCap w (n + 1) n 9 ≤ maxLen := grownCap_le_maxLen w (n + 1) n 9 (by unfold maxLen; omega)
      have hGm2 : (grownCap w (n + 1) n 9 : Int) ≤ 9223372036854775807 := by unfold maxLen at hGm; omega
      generalize grownCap w (n + 1) n 9 = G at *
      obtain ⟨Z, hZ⟩ : ∃ Z, Z = (Builtin.zeroCells (Value.string ⟨#[]⟩).cells (n + 1 - i)).toList := ⟨_, rfl⟩
      obtain ⟨R, hR⟩ : ∃ R, R = (Builtin.zeroCells (Value.string ⟨#[]⟩).cells (G - (n + 1))).toList := ⟨_, rfl⟩
      have hZl : Z.length = (n + 1 - i) := by rw [hZ, Array.length_toList, size_zeroCells]; first | rfl | simp [Value.cells]
      have hRl : R.length = (G - (n + 1)) := by rw [hR, Array.length_toList, size_zeroCells]; first | rfl | simp [Value.cells]
      have hrow : (xs.take (i)).toArray ++ Builtin.zeroCells (Value.string ⟨#[]⟩).cells (n + 1 - i) ++ Builtin.zeroCells (Value.string ⟨#[]⟩).cells (G - (n + 1)) = (xs.take (i) ++ Z ++ R).toArray := by
        rw [hZ, hR]; simp
      rw [hrow] at hrz
      clear hrow hZ hR hold
      have htl : (xs.take (i)).length = i := by rw [List.length_take]; omega
      obtain ⟨ROW, hROW⟩ : ∃ ROW, ROW = xs.take (i) ++ Z ++ R := ⟨_, rfl⟩
      have hROWl : ROW.length = G := by rw [hROW]; simp only [List.length_append, htl, hZl, hRl]; omega
      have hres := ins_grow xs Z us R n i 1 (by omega) hus (by simpa using hxl) (by simpa using hZl)
      (try simp only [Nat.mul_one] at hres)
      rw [← hROW] at hrz hres
      obtain ⟨W1, hW1⟩ : ∃ W, W = w.drew.alloc (.cells ROW.toArray 9) := ⟨_, rfl⟩
      have hW1h : W1.heap[w.heap.size]? = some (.cells ROW.toArray 9 (0, 0)) := by rw [hW1]; exact heap_alloc_new w.drew _
      have hO1 : Only (fun _ => False) w W1 := by rw [hW1]; exact ((Only.refl _ w).drew).alloc _
      rw [← hW1] at hrz
      have hgv1 := heap_only (g := gv) hgv hO1 (fun h => h)
      have hh1 := heap_only (g := g) hheap hO1 (fun h => h)
      have hgvl : gv < w.heap.size := (Array.getElem?_eq_some_iff.1 hgv).1
      have hsz0 : w.heap.size < W1.heap.size := by rw [hW1]; simp
      have hdl : (xs.drop (i)).length = (n - i) := by simp only [List.length_drop, hxl] <;> omega
      have hfit1 : i + us.length ≤ ROW.length := by rw [hus, hROWl]; omega
      obtain ⟨C1, hC1⟩ : ∃ C, C = splice ROW (i) us := ⟨_, rfl⟩
      have hC1l : C1.length = G := by rw [hC1, splice_len _ _ _ hfit1, hROWl]
      rw [← hC1] at hres
      have hw1 : IntKind.i64.wrap ((i : Int) + 1) = (i : Int) + 1 := by rw [IntKind.wrap_i64]; omega
      have hb1 : (0 : Int) ≤ (i : Int) + 1 := by omega
      have htn : ((i : Int) + 1).toNat = i + 1 := by omega
      have hii : (i : Int) + 1 ≤ (n : Int) + 1 := by omega
      have hii2 : (i : Int) ≤ (n : Int) + 1 := by omega
      have hc1 : ¬ G = i := by omega
      have hc2 : ¬ G = i + 1 := by omega
      have hc3 : ¬ n = i := by omega
      have hin3 : (i : Int) ≤ (n : Int) := by omega
      have hone : ∀ u ∈ xs.drop (i), u.oneCell' = true := fun u hu => h1x u (List.mem_of_mem_drop hu)
      replace hres := Lib.hid hres
      replace hROW := Lib.hid hROW
      replace hW1 := Lib.hid hW1
      go_enter Tryz.func78, Tryz.ntmps78
      go_wp2_with (first | (at_builtin; (refine Lib.wpList_append_run w rfl _ _ 145 3 rfl _ _ rfl rfl _ _ (hrz _) ?_)) | (refine wpList_copyK rfl (.tmp 43) (.tmp 44) 145 145 rfl 9 Tryz.underlying145 1 hsz1 w.heap.size (i) gv 0 _ _ _ _ rfl rfl ROW 9 hW1h us 1 ?_ (by rw [hus]) (fun j u hj => by rw [Nat.zero_add, heap_cell hgv1]; exact hj) hfit1 h1u ?_; (focus (first | (show 1 = min 1 (n + 1 - i); omega))); intro w2 hh2 hO2))
      rw [← hC1] at hh2
      have hsrc2 : ∀ j u, (xs.drop (i))[j]? = some u → w2.cell? ⟨g, i + j, none⟩ = some u := fun j u hu => by
        rw [List.getElem?_drop] at hu
        rw [heap_cell (heap_only hh1 hO2 (by omega)), ← heap_cell hheap]
        exact hxc _ _ hu
      have hS0 : Only (fun j => j = w.heap.size) w2 w2.drew := (Only.refl _ w2).drew
      (try simp only [Act.put, List.setIfInBounds_toArray, List.set_cons_zero, List.set_cons_succ, goInt])
      (refine wp_region_held_drew (S := (fun W => Only (fun j => j = w.heap.size) w2 W)) (by kernel_rfl) ?_ (fun hHeld => ?_); ((try dsimp only); exact hS0))
      clear hS0
      (refine tkO 0 ?_; refine tkO 1 ?_; refine tkO 2 ?_; refine tkO 3 ?_; refine tkO 4 ?_; refine tkO 5 ?_; refine tkO 6 ?_; refine tkO 7 ?_)
      (refine tdoO 8 (fun K hK => ?_); ((refine copy_stepK _ _ 145 145 rfl 9 Tryz.underlying145 1 hsz1 w.heap.size ((i + 1)) g (i) _ _ _ _ rfl rfl C1 9 (show w2.drew.heap[w.heap.size]? = _ from hh2) (xs.drop (i)) (n - i) ?_ (by simpa using hdl) hsrc2 ?_ hone ?_; (focus (first | (show n - i = min (n - i) (n - i); omega) | (show n - i = min (n - i) (n + 1 - (i + 1)); omega))); (focus (rw [hdl, hC1l]; omega)); intro w3 hh3 hO3); refine hK.out _ _ ?_ (fun hHeld => ?_); ((try dsimp only); exact hO3.drewL); clear hK K; (try clear hHeld0); (try rename_i hHeld0)))
      (refine wpAnyH_done (by kernel_rfl) ?_ _)
      clear hHeld0
      have hO3 := Lib.hid hHeld
      clear hHeld
      have hfit3 : (i + 1) + (xs.drop (i)).length ≤ C1.length := by rw [hdl, hC1l]; omega
      go_wp2
      go_ret
      refine ⟨_, rfl, ⟨?_, .inr ⟨w.heap.size, G, (splice C1 ((i + 1)) (xs.drop (i))).toArray, rfl, hbase, hh3, by omega, hGm, ?_, ?_⟩⟩, ?_, .inr rfl, by simp⟩
      · simp only [List.length_append, List.length_take, List.length_drop, hus]; omega
      · simp [splice_len _ _ _ hfit3, hC1l]
      · simpa using hres.out
      · exact only_grown ((((hO1.mono (S' := fun j => j = w.heap.size) (fun _ _ h => h.elim)).trans hO2).trans hO3.out).mono fun j hj hj2 => by omega)
end Go.Proofs.YtognjohloobliaaGreatDoor
/- The walk of slices.Insert of one element, at writes. -/
namespace Go.Proofs.YtognjohloobliaaGreatDoor
open Go.RowKit
set_option linter.unusedVariables false
set_option linter.unusedSimpArgs false
set_option maxHeartbeats 8000000 in
set_option maxRecDepth 20000 in
theorem insert_wr (v : Value) (n i : Nat) (xs us : List Value) (gv vc base : Nat) (w : World) (hown : w.ownsRow base 33 6 v n xs) (hi : i ≤ n) (hn : n ≤ 1000000) (hus : us.length = 6)
    (h1x : ∀ u ∈ xs, u.oneCell' = true) (h1u : ∀ u ∈ us, u.oneCell' = true) (hgv : w.heap[gv]? = some (.cells us.toArray 33 (0, 0))) (hne : v.ownBlock ≠ some gv) (hbase : base ≤ w.heap.size) :
    Calls Tryz.prog 40 #[v, .int .i64 i, .slice (some ⟨gv, 0, none⟩) 1 vc] w fun e w' => ∃ v', e = .returned v' ∧ w'.ownsRow base 33 6 v' (n + 1) (xs.take (i * 6) ++ us ++ xs.drop (i * 6)) ∧ w.grownBy w' v.ownBlock ∧ (v'.ownBlock = v.ownBlock ∨ v'.ownBlock = some w.heap.size) ∧ v' ≠ .slice none 0 0 := by
  have hi2 : (i : Int) ≤ (n : Int) := by omega
  have hn2 : (n : Int) ≤ 1000000 := by omega
  by_cases hin : i = n
  · subst hin
    have hxl : xs.length = i * 6 := by simpa using hown.1
    have hsrc : Src Tryz.prog 6 23 (.slice (some ⟨gv, 0, none⟩) 1 vc) 1 us w := Src.ofSlice w Tryz.underlying23 ⟨gv, 0, none⟩ 1 vc us (by omega) (fun j u hj => by rw [Addr.add_lit, Nat.zero_add, heap_cell hgv]; exact hj) h1u
    have heq : xs.take (i * 6) ++ us ++ xs.drop (i * 6) = xs ++ us := by rw [List.take_of_length_le (by omega), List.drop_of_length_le (by omega), List.append_nil]
    rw [heq]
    clear heq hgv
    obtain ⟨o, c, rfl⟩ := owns_slice_ hown
    have hc : i ≤ c := owns_cap hown
    by_cases hci : i = c
    all_goals (try subst hci)
    all_goals
     go_enter Tryz.func40, Tryz.ntmps40
     go_wp2_with (at_builtin; go_must (refine app_any rfl _ _ 23 23 33 rfl base (Value.agg #[.int .i64 0, .int .i64 0, .int .i64 0, .string ⟨#[]⟩, .string ⟨#[]⟩, .int .i64 0]) 6 64 Tryz.underlying23 (by kernel_rfl) rfl _ _ _ rfl hown 1 us hsrc (by omega) (by omega) hbase ?_); intro v' w' hown' hg hb hnil hbel)
     go_ret
     refine ⟨_, rfl, hown', hg, hb, fun e => ?_⟩
     have := (hnil.1 e).2
     omega
  · rcases hown.2 with ⟨rfl, rfl⟩ | ⟨g, cap, cur, rfl, hgb, hheap, hnc, hcm, hcs, htk⟩
    · omega
    have hxl : xs.length = n * 6 := by simpa using hown.1
    have hng : gv ≠ g := fun e => hne (by rw [e]; rfl)
    obtain ⟨CUR, hCUR⟩ : ∃ C : List Value, C = cur.toList := ⟨_, rfl⟩
    have hcurA : cur = CUR.toArray := by rw [hCUR]
    rw [hcurA] at hheap hcs
    rw [← hCUR] at htk
    (try rw [Nat.mul_one] at htk)
    have hcl : CUR.length = cap * 6 := by simpa using hcs
    clear hcurA hCUR hcs
    have hglt : g < w.heap.size := (Array.getElem?_eq_some_iff.1 hheap).1
    have hin1 : ((i : Int) == (n : Int)) = false := by simp; omega
    have hin2 : (i : Int) < (n : Int) := by omega
    have hnc2 : (n : Int) ≤ (cap : Int) := by omega
    have hcm2 : (cap : Int) ≤ 9223372036854775807 := by unfold maxLen at hcm; omega
    have hsz1 : (Tryz.prog.info? 33).map (·.size) = some 6 := by kernel_rfl
    have him : i * 6 ≤ n * 6 := by omega
    by_cases hroom : n + 1 ≤ cap
    · have hroom2 : ¬ (cap : Int) < (n : Int) + 1 := by omega
      have hroom3 : (n : Int) + 1 ≤ (cap : Int) := by omega
      have hw1 : IntKind.i64.wrap ((i : Int) + 1) = (i : Int) + 1 := by rw [IntKind.wrap_i64]; omega
      have hb1 : (0 : Int) ≤ (i : Int) + 1 := by omega
      have htn : ((i : Int) + 1).toNat = i + 1 := by omega
      have hii2 : (i : Int) ≤ (n : Int) + 1 := by omega
      have hc1 : ¬ cap = i := by omega
      have hc2 : ¬ cap = i + 1 := by omega
      have hii : (i : Int) + 1 ≤ (n : Int) + 1 := by omega
      have hgv0 : w.frozen? ⟨gv, 0, none⟩ = false := by simp [World.frozen?, hgv]
      have hsa : w.shape? gv = some (33, us.length) := by simp [World.shape?, hgv]
      have hsb : w.shape? g = some (33, CUR.length) := by simp [World.shape?, hheap]
      have hov : ∀ lb cb, (callFunc 50 #[.slice (some ⟨gv, 0, none⟩) 1 vc, .slice (some ⟨g, (i + 1) * 6, none⟩) lb cb]).run Tryz.prog w = .ok (.value (.bool false)) w := fun lb cb => by
        rw [run_callFunc_extern Tryz.func50 (by kernel_rfl) (by kernel_rfl) (by kernel_rfl) (e := Extern.SlicesOverlaps.overlaps #[23, 23] #[4]) (by kernel_rfl),
          Lib.run_overlaps_apart w 23 4 33 Tryz.underlying23 6 (by intro w; kernel_rfl) ⟨gv, 0, none⟩ ⟨g, (i + 1) * 6, none⟩ 1 vc lb cb hng _ _ _ _ hsa hsb (by rw [hcl]; omega) hgv0 (by simp [World.frozen?, hgv])]
        rfl
      go_enter Tryz.func40, Tryz.ntmps40
      go_wp2_with (simp only [hov])
      have hS0 : Only (fun j => j = g) w w.drew := (Only.refl _ w).drew
      have hdl : ((CUR.take (n * 6)).drop (i * 6)).length = (n - i) * 6 := by
        rw [List.length_drop, List.length_take, hcl]
        omega
      have hone : ∀ u ∈ (CUR.take (n * 6)).drop (i * 6), u.oneCell' = true := fun u hu => h1x u (by rw [← htk]; exact List.mem_of_mem_drop hu)
      have hsc : ∀ j u, ((CUR.take (n * 6)).drop (i * 6))[j]? = some u → w.cell? ⟨g, i * 6 + j, none⟩ = some u := fun j u hu => by
        rw [heap_cell hheap]
        rw [List.getElem?_drop, List.getElem?_take] at hu
        split at hu
        · exact hu
        · cases hu
      (refine wp_region_held_drew (S := (fun W => Only (fun j => j = g) w W)) (by kernel_rfl) ?_ (fun hHeld => ?_); ((try dsimp only); exact hS0))
      clear hS0
      (refine tkO 0 ?_; refine tkO 1 ?_; refine tkO 2 ?_; refine tkO 3 ?_; refine tkO 4 ?_; refine tkO 5 ?_; refine tkO 6 ?_; refine tkO 7 ?_)
      (refine tdoO 8 (fun K hK => ?_); ((refine copy_stepK _ _ 23 23 rfl 33 Tryz.underlying23 6 hsz1 g ((i + 1) * 6) g (i * 6) _ _ _ _ rfl rfl CUR 33 (show w.drew.heap[g]? = _ from hheap) ((CUR.take (n * 6)).drop (i * 6)) (n - i) ?_ (by simpa using hdl) hsc ?_ hone ?_; (focus (first | (show n - i = min (n + 1 - i) (n - i); omega) | (show n - i = min (n + 1 - i) (n + 1 - (i + 1)); omega))); (focus (rw [hdl, hcl]; omega)); intro w1 hh1 hO1); refine hK.out _ _ ?_ (fun hHeld => ?_); ((try dsimp only); exact hO1.drewL); clear hK K; (try clear hHeld0); (try rename_i hHeld0)))
      (refine wpAnyH_done (by kernel_rfl) ?_ _)
      clear hHeld0
      have hO2 := hHeld
      clear hHeld
      have hgv1 := heap_only (g := gv) (S := fun j => j = g) hgv hO2 hng
      obtain ⟨C1, hC1⟩ : ∃ C, C = splice CUR ((i + 1) * 6) ((CUR.take (n * 6)).drop (i * 6)) := ⟨_, rfl⟩
      rw [← hC1] at hh1
      have hC1l : C1.length = cap * 6 := by rw [hC1, splice_len _ _ _ (by rw [hdl, hcl]; omega), hcl]
      have hfit2 : i * 6 + us.length ≤ C1.length := by rw [hus, hC1l]; omega
      have hres := ins_room CUR us n i 6 cap (by omega) hus (by simpa using hcl) hroom
      (try simp only [Nat.mul_one] at hres)
      rw [← hC1, htk] at hres
      replace hO2 := Lib.hid hO2
      replace hres := Lib.hid hres
      go_wp2_with ((refine wpList_copyK rfl (.tmp 80) (.tmp 81) 23 23 rfl 33 Tryz.underlying23 6 hsz1 g (i * 6) gv 0 _ _ _ _ rfl rfl C1 33 hh1 us 1 ?_ (by rw [hus]) (fun j u hj => by rw [Nat.zero_add, heap_cell hgv1]; exact hj) hfit2 h1u ?_); (focus (first | (show 1 = min 1 (n + 1 - i); omega))); intro w2 hh2 hO3)
      go_ret
      refine ⟨_, rfl, ⟨?_, .inr ⟨g, cap, (splice C1 (i * 6) us).toArray, rfl, hgb, hh2, by omega, hcm, ?_, ?_⟩⟩, only_grown ((hO2.out.trans hO3).mono fun j _ hj => by rw [hj]; rfl), .inl rfl, by simp⟩
      · simp only [List.length_append, List.length_take, List.length_drop, hus]; omega
      · simp [splice_len _ _ _ hfit2, hC1l]
      · simpa using hres.out
    · have hroom2 : (cap : Int) < (n : Int) + 1 := by omega
      obtain ⟨i0, hi0, hz0, hzs, hzb⟩ := info_parts (P := Tryz.prog) (e := 33) (z := (Value.agg #[.int .i64 0, .int .i64 0, .int .i64 0, .string ⟨#[]⟩, .string ⟨#[]⟩, .int .i64 0])) (size := 6) (bytes := 64) (by kernel_rfl)
      have hkk : (n : Int) + 1 - (i : Int) = ((n + 1 - i : Nat) : Int) := by omega
      have hik : i + (n + 1 - i) = n + 1 := by omega
      have hcapn : n = cap := by omega
      subst hcapn
      have hxc : ∀ j u, xs[j]? = some u → w.cell? ⟨g, j, none⟩ = some u := fun j u hu => by
        rw [heap_cell hheap]
        rw [← htk, List.getElem?_take] at hu
        split at hu
        · exact hu
        · cases hu
      have hold : (Builtin.firstCells i0.size i (.slice (some ⟨g, 0, none⟩) i n)).run Tryz.prog w.drew = .ok (xs.take (i * 6)).toArray w.drew := by
        rw [hzs]
        exact run_firstCells_some w.drew 6 i ⟨g, 0, none⟩ i n (xs.take (i * 6)) (by rw [List.length_take]; omega) (fun j u hj => by
          rw [Addr.add_lit, Nat.zero_add]
          rw [List.getElem?_take] at hj
          split at hj
          · exact hxc j u hj
          · cases hj)
      have hrz : ∀ ty, (Builtin.append_ #[23, 3] ty #[.slice (some ⟨g, 0, none⟩) i n, .int .i64 ((n + 1 - i : Nat) : Int)]).run Tryz.prog w =
          .ok (.slice (some ⟨w.heap.size, 0, none⟩) (n + 1) (grownCap w (n + 1) n 33)) (w.drew.alloc (.cells ((xs.take (i * 6)).toArray ++ Builtin.zeroCells (Value.agg #[.int .i64 0, .int .i64 0, .int .i64 0, .string ⟨#[]⟩, .string ⟨#[]⟩, .int .i64 0]).cells (n + 1 - i) ++ Builtin.zeroCells (Value.agg #[.int .i64 0, .int .i64 0, .int .i64 0, .string ⟨#[]⟩, .string ⟨#[]⟩, .int .i64 0]).cells (grownCap w (n + 1) n 33 - (n + 1))) 33)) := fun ty => by
        have h := Lib.run_append_grow_zeros w 23 3 ty 33 i0 _ .i64 .i64 Tryz.underlying23 Tryz.underlying3 hi0 hz0 (some ⟨g, 0, none⟩) i n (xs.take (i * 6)) hold (n + 1 - i) (by omega) (by omega) (by omega) (by omega) (by rw [hzb]; omega) (by
          rw [hzb, hik]
          have := nextslicecap_le (need := n + 1) (old := n) (by omega)
          omega)
        rw [hik] at h
        exact h
      have hGn : n + 1 ≤ grownCap w (n + 1) n 33 := grownCap_ge w _ _ _
      have hGm : grownCap w (n + 1) n 33 ≤ maxLen := grownCap_le_maxLen w (n + 1) n 33 (by unfold maxLen; omega)
      have hGm2 : (grownCap w (n + 1) n 33 : Int) ≤ 9223372036854775807 := by unfold maxLen at hGm; omega
      generalize grownCap w (n + 1) n 33 = G at *
      obtain ⟨Z, hZ⟩ : ∃ Z, Z = (Builtin.zeroCells (Value.agg #[.int .i64 0, .int .i64 0, .int .i64 0, .string ⟨#[]⟩, .string ⟨#[]⟩, .int .i64 0]).cells (n + 1 - i)).toList := ⟨_, rfl⟩
      obtain ⟨R, hR⟩ : ∃ R, R = (Builtin.zeroCells (Value.agg #[.int .i64 0, .int .i64 0, .int .i64 0, .string ⟨#[]⟩, .string ⟨#[]⟩, .int .i64 0]).cells (G - (n + 1))).toList := ⟨_, rfl⟩
      have hZl : Z.length = (n + 1 - i) * 6 := by rw [hZ, Array.length_toList, size_zeroCells]; first | rfl | simp [Value.cells]
      have hRl : R.length = (G - (n + 1)) * 6 := by rw [hR, Array.length_toList, size_zeroCells]; first | rfl | simp [Value.cells]
      have hrow : (xs.take (i * 6)).toArray ++ Builtin.zeroCells (Value.agg #[.int .i64 0, .int .i64 0, .int .i64 0, .string ⟨#[]⟩, .string ⟨#[]⟩, .int .i64 0]).cells (n + 1 - i) ++ Builtin.zeroCells (Value.agg #[.int .i64 0, .int .i64 0, .int .i64 0, .string ⟨#[]⟩, .string ⟨#[]⟩, .int .i64 0]).cells (G - (n + 1)) = (xs.take (i * 6) ++ Z ++ R).toArray := by
        rw [hZ, hR]; simp
      rw [hrow] at hrz
      clear hrow hZ hR hold
      have htl : (xs.take (i * 6)).length = i * 6 := by rw [List.length_take]; omega
      obtain ⟨ROW, hROW⟩ : ∃ ROW, ROW = xs.take (i * 6) ++ Z ++ R := ⟨_, rfl⟩
      have hROWl : ROW.length = G * 6 := by rw [hROW]; simp only [List.length_append, htl, hZl, hRl]; omega
      have hres := ins_grow xs Z us R n i 6 (by omega) hus (by simpa using hxl) (by simpa using hZl)
      (try simp only [Nat.mul_one] at hres)
      rw [← hROW] at hrz hres
      obtain ⟨W1, hW1⟩ : ∃ W, W = w.drew.alloc (.cells ROW.toArray 33) := ⟨_, rfl⟩
      have hW1h : W1.heap[w.heap.size]? = some (.cells ROW.toArray 33 (0, 0)) := by rw [hW1]; exact heap_alloc_new w.drew _
      have hO1 : Only (fun _ => False) w W1 := by rw [hW1]; exact ((Only.refl _ w).drew).alloc _
      rw [← hW1] at hrz
      have hgv1 := heap_only (g := gv) hgv hO1 (fun h => h)
      have hh1 := heap_only (g := g) hheap hO1 (fun h => h)
      have hgvl : gv < w.heap.size := (Array.getElem?_eq_some_iff.1 hgv).1
      have hsz0 : w.heap.size < W1.heap.size := by rw [hW1]; simp
      have hdl : (xs.drop (i * 6)).length = (n - i) * 6 := by simp only [List.length_drop, hxl] <;> omega
      have hfit1 : i * 6 + us.length ≤ ROW.length := by rw [hus, hROWl]; omega
      obtain ⟨C1, hC1⟩ : ∃ C, C = splice ROW (i * 6) us := ⟨_, rfl⟩
      have hC1l : C1.length = G * 6 := by rw [hC1, splice_len _ _ _ hfit1, hROWl]
      rw [← hC1] at hres
      have hw1 : IntKind.i64.wrap ((i : Int) + 1) = (i : Int) + 1 := by rw [IntKind.wrap_i64]; omega
      have hb1 : (0 : Int) ≤ (i : Int) + 1 := by omega
      have htn : ((i : Int) + 1).toNat = i + 1 := by omega
      have hii : (i : Int) + 1 ≤ (n : Int) + 1 := by omega
      have hii2 : (i : Int) ≤ (n : Int) + 1 := by omega
      have hc1 : ¬ G = i := by omega
      have hc2 : ¬ G = i + 1 := by omega
      have hc3 : ¬ n = i := by omega
      have hin3 : (i : Int) ≤ (n : Int) := by omega
      have hone : ∀ u ∈ xs.drop (i * 6), u.oneCell' = true := fun u hu => h1x u (List.mem_of_mem_drop hu)
      replace hres := Lib.hid hres
      replace hROW := Lib.hid hROW
      replace hW1 := Lib.hid hW1
      go_enter Tryz.func40, Tryz.ntmps40
      go_wp2_with (first | (at_builtin; (refine Lib.wpList_append_run w rfl _ _ 23 3 rfl _ _ rfl rfl _ _ (hrz _) ?_)) | (refine wpList_copyK rfl (.tmp 43) (.tmp 44) 23 23 rfl 33 Tryz.underlying23 6 hsz1 w.heap.size (i * 6) gv 0 _ _ _ _ rfl rfl ROW 33 hW1h us 1 ?_ (by rw [hus]) (fun j u hj => by rw [Nat.zero_add, heap_cell hgv1]; exact hj) hfit1 h1u ?_; (focus (first | (show 1 = min 1 (n + 1 - i); omega))); intro w2 hh2 hO2))
      rw [← hC1] at hh2
      have hsrc2 : ∀ j u, (xs.drop (i * 6))[j]? = some u → w2.cell? ⟨g, i * 6 + j, none⟩ = some u := fun j u hu => by
        rw [List.getElem?_drop] at hu
        rw [heap_cell (heap_only hh1 hO2 (by omega)), ← heap_cell hheap]
        exact hxc _ _ hu
      have hS0 : Only (fun j => j = w.heap.size) w2 w2.drew := (Only.refl _ w2).drew
      (try simp only [Act.put, List.setIfInBounds_toArray, List.set_cons_zero, List.set_cons_succ, goInt])
      (refine wp_region_held_drew (S := (fun W => Only (fun j => j = w.heap.size) w2 W)) (by kernel_rfl) ?_ (fun hHeld => ?_); ((try dsimp only); exact hS0))
      clear hS0
      (refine tkO 0 ?_; refine tkO 1 ?_; refine tkO 2 ?_; refine tkO 3 ?_; refine tkO 4 ?_; refine tkO 5 ?_; refine tkO 6 ?_; refine tkO 7 ?_)
      (refine tdoO 8 (fun K hK => ?_); ((refine copy_stepK _ _ 23 23 rfl 33 Tryz.underlying23 6 hsz1 w.heap.size ((i + 1) * 6) g (i * 6) _ _ _ _ rfl rfl C1 33 (show w2.drew.heap[w.heap.size]? = _ from hh2) (xs.drop (i * 6)) (n - i) ?_ (by simpa using hdl) hsrc2 ?_ hone ?_; (focus (first | (show n - i = min (n - i) (n - i); omega) | (show n - i = min (n - i) (n + 1 - (i + 1)); omega))); (focus (rw [hdl, hC1l]; omega)); intro w3 hh3 hO3); refine hK.out _ _ ?_ (fun hHeld => ?_); ((try dsimp only); exact hO3.drewL); clear hK K; (try clear hHeld0); (try rename_i hHeld0)))
      (refine wpAnyH_done (by kernel_rfl) ?_ _)
      clear hHeld0
      have hO3 := Lib.hid hHeld
      clear hHeld
      have hfit3 : (i + 1) * 6 + (xs.drop (i * 6)).length ≤ C1.length := by rw [hdl, hC1l]; omega
      go_wp2
      go_ret
      refine ⟨_, rfl, ⟨?_, .inr ⟨w.heap.size, G, (splice C1 ((i + 1) * 6) (xs.drop (i * 6))).toArray, rfl, hbase, hh3, by omega, hGm, ?_, ?_⟩⟩, ?_, .inr rfl, by simp⟩
      · simp only [List.length_append, List.length_take, List.length_drop, hus]; omega
      · simp [splice_len _ _ _ hfit3, hC1l]
      · simpa using hres.out
      · exact only_grown ((((hO1.mono (S' := fun j => j = w.heap.size) (fun _ _ h => h.elim)).trans hO2).trans hO3.out).mono fun j hj hj2 => by omega)
end Go.Proofs.YtognjohloobliaaGreatDoor
