/- The walk of slices.Insert of one element, at writes. -/
import Derived.Test.YtdbpiabcpjgblaaGreatDoorK08
import Derived.Laws.Externs
import Derived.Test.YtdbpiabcpjgblaaGreatDoorK12
import Derived.Test.YtdbpiabcpjgblaaGreatDoorK01
namespace Go.Proofs.YtdbpiabcpjgblaaGreatDoor
open Go.RowKit
set_option linter.unusedVariables false
set_option linter.unusedSimpArgs false
set_option maxHeartbeats 8000000 in
set_option maxRecDepth 20000 in
theorem insert_wr (v : Value) (n i : Nat) (xs us : List Value) (gv vc base : Nat) (w : World) (hown : w.ownsRow base 33 6 v n xs) (hi : i ≤ n) (hn : n ≤ 1000000) (hus : us.length = 6)
    (h1x : ∀ u ∈ xs, u.oneCell' = true) (h1u : ∀ u ∈ us, u.oneCell' = true) (hgv : w.heap[gv]? = some (.cells us.toArray 33 (0, 0))) (hne : v.ownBlock ≠ some gv) (hbase : base ≤ w.heap.size) :
    Calls Tryz.prog 49 #[v, .int .i64 i, .slice (some ⟨gv, 0, none⟩) 1 vc] w fun e w' => ∃ v', e = .returned v' ∧ w'.ownsRow base 33 6 v' (n + 1) (xs.take (i * 6) ++ us ++ xs.drop (i * 6)) ∧ w.grownBy w' v.ownBlock ∧ (v'.ownBlock = v.ownBlock ∨ v'.ownBlock = some w.heap.size) ∧ v' ≠ .slice none 0 0 := by
  have hi2 : (i : Int) ≤ (n : Int) := by omega
  have hn2 : (n : Int) ≤ 1000000 := by omega
  by_cases hin : i = n
  · subst hin
    have hxl : xs.length = i * 6 := by simpa using hown.1
    have hsrc : Src Tryz.prog 6 23 (.slice (some ⟨gv, 0, none⟩) 1 vc) 1 us w := Src.ofSlice w Tryz.underlying23 ⟨gv, 0, none⟩ 1 vc us (by omega) (fun j u hj => by rw [Addr.add_lit, Nat.zero_add, heap_cell hgv]; exact hj) h1u
    have heq : xs.take (i * 6) ++ us ++ xs.drop (i * 6) = xs ++ us := by rw [List.take_of_length_le (by omega), List.drop_of_length_le (by omega), List.append_nil]
    rw [heq]
    clear heq hgv
    obtain ⟨o, c, rfl⟩ := owns_slice_ hown
    have hc : i ≤ c := owns_cap hown
    by_cases hci : i = c
    all_goals (try subst hci)
    all_goals
     go_enter Tryz.func49, Tryz.ntmps49
     go_wp2_with (at_builtin; go_must (refine app_any rfl _ _ 23 23 33 rfl base (Value.agg #[.int .i64 0, .int .i64 0, .int .i64 0, .string ⟨#[]⟩, .string ⟨#[]⟩, .int .i64 0]) 6 64 Tryz.underlying23 (by kernel_rfl) rfl _ _ _ rfl hown 1 us hsrc (by omega) (by omega) hbase ?_); intro v' w' hown' hg hb hnil hbel)
     go_ret
     refine ⟨_, rfl, hown', hg, hb, fun e => ?_⟩
     have := (hnil.1 e).2
     omega
  · rcases hown.2 with ⟨rfl, rfl⟩ | ⟨g, cap, cur, rfl, hgb, hheap, hnc, hcm, hcs, htk⟩
    · omega
    have hxl : xs.length = n * 6 := by simpa using hown.1
    have hng : gv ≠ g := fun e => hne (by rw [e]; rfl)
    obtain ⟨CUR, hCUR⟩ : ∃ C : List Value, C = cur.toList := ⟨_, rfl⟩
    have hcurA : cur = CUR.toArray := by rw [hCUR]
    rw [hcurA] at hheap hcs
    rw [← hCUR] at htk
    (try rw [Nat.mul_one] at htk)
    have hcl : CUR.length = cap * 6 := by simpa using hcs
    clear hcurA hCUR hcs
    have hglt : g < w.heap.size := (Array.getElem?_eq_some_iff.1 hheap).1
    have hin1 : ((i : Int) == (n : Int)) = false := by simp; omega
    have hin2 : (i : Int) < (n : Int) := by omega
    have hnc2 : (n : Int) ≤ (cap : Int) := by omega
    have hcm2 : (cap : Int) ≤ 9223372036854775807 := by unfold maxLen at hcm; omega
    have hsz1 : (Tryz.prog.info? 33).map (·.size) = some 6 := by kernel_rfl
    have him : i * 6 ≤ n * 6 := by omega
    by_cases hroom : n + 1 ≤ cap
    · have hroom2 : ¬ (cap : Int) < (n : Int) + 1 := by omega
      have hroom3 : (n : Int) + 1 ≤ (cap : Int) := by omega
      have hw1 : IntKind.i64.wrap ((i : Int) + 1) = (i : Int) + 1 := by rw [IntKind.wrap_i64]; omega
      have hb1 : (0 : Int) ≤ (i : Int) + 1 := by omega
      have htn : ((i : Int) + 1).toNat = i + 1 := by omega
      have hii2 : (i : Int) ≤ (n : Int) + 1 := by omega
      have hc1 : ¬ cap = i := by omega
      have hc2 : ¬ cap = i + 1 := by omega
      have hii : (i : Int) + 1 ≤ (n : Int) + 1 := by omega
      have hgv0 : w.frozen? ⟨gv, 0, none⟩ = false := by simp [World.frozen?, hgv]
      have hsa : w.shape? gv = some (33, us.length) := by simp [World.shape?, hgv]
      have hsb : w.shape? g = some (33, CUR.length) := by simp [World.shape?, hheap]
      have hov : ∀ lb cb, (callFunc 64 #[.slice (some ⟨gv, 0, none⟩) 1 vc, .slice (some ⟨g, (i + 1) * 6, none⟩) lb cb]).run Tryz.prog w = .ok (.value (.bool false)) w := fun lb cb => by
        rw [run_callFunc_extern Tryz.func64 (by kernel_rfl) (by kernel_rfl) (by kernel_rfl) (e := Extern.SlicesOverlaps.overlaps #[23, 23] #[4]) (by kernel_rfl),
          Lib.run_overlaps_apart w 23 4 33 Tryz.underlying23 6 (by intro w; kernel_rfl) ⟨gv, 0, none⟩ ⟨g, (i + 1) * 6, none⟩ 1 vc lb cb hng _ _ _ _ hsa hsb (by rw [hcl]; omega) hgv0 (by simp [World.frozen?, hgv])]
        rfl
      go_enter Tryz.func49, Tryz.ntmps49
      go_wp2_with (simp only [hov])
      have hS0 : Only (fun j => j = g) w w.drew := (Only.refl _ w).drew
      have hdl : ((CUR.take (n * 6)).drop (i * 6)).length = (n - i) * 6 := by
        rw [List.length_drop, List.length_take, hcl]
        omega
      have hone : ∀ u ∈ (CUR.take (n * 6)).drop (i * 6), u.oneCell' = true := fun u hu => h1x u (by rw [← htk]; exact List.mem_of_mem_drop hu)
      have hsc : ∀ j u, ((CUR.take (n * 6)).drop (i * 6))[j]? = some u → w.cell? ⟨g, i * 6 + j, none⟩ = some u := fun j u hu => by
        rw [heap_cell hheap]
        rw [List.getElem?_drop, List.getElem?_take] at hu
        split at hu
        · exact hu
        · cases hu
      (refine wp_region_held_drew (S := (fun W => Only (fun j => j = g) w W)) (by kernel_rfl) ?_ (fun hHeld => ?_); ((try dsimp only); exact hS0))
      clear hS0
      (refine tkO 0 ?_; refine tkO 1 ?_; refine tkO 2 ?_; refine tkO 3 ?_; refine tkO 4 ?_; refine tkO 5 ?_; refine tkO 6 ?_; refine tkO 7 ?_)
      (refine tdoO 8 (fun K hK => ?_); ((refine copy_stepK _ _ 23 23 rfl 33 Tryz.underlying23 6 hsz1 g ((i + 1) * 6) g (i * 6) _ _ _ _ rfl rfl CUR 33 (show w.drew.heap[g]? = _ from hheap) ((CUR.take (n * 6)).drop (i * 6)) (n - i) ?_ (by simpa using hdl) hsc ?_ hone ?_; (focus (first | (show n - i = min (n + 1 - i) (n - i); omega) | (show n - i = min (n + 1 - i) (n + 1 - (i + 1)); omega))); (focus (rw [hdl, hcl]; omega)); intro w1 hh1 hO1); refine hK.out _ _ ?_ (fun hHeld => ?_); ((try dsimp only); exact hO1.drewL); clear hK K; (try clear hHeld0); (try rename_i hHeld0)))
      (refine wpAnyH_done (by kernel_rfl) ?_ _)
      clear hHeld0
      have hO2 := hHeld
      clear hHeld
      have hgv1 := heap_only (g := gv) (S := fun j => j = g) hgv hO2 hng
      obtain ⟨C1, hC1⟩ : ∃ C, C = splice CUR ((i + 1) * 6) ((CUR.take (n * 6)).drop (i * 6)) := ⟨_, rfl⟩
      rw [← hC1] at hh1
      have hC1l : C1.length = cap * 6 := by rw [hC1, splice_len _ _ _ (by rw [hdl, hcl]; omega), hcl]
      have hfit2 : i * 6 + us.length ≤ C1.length := by rw [hus, hC1l]; omega
      have hres := ins_room CUR us n i 6 cap (by omega) hus (by simpa using hcl) hroom
      (try simp only [Nat.mul_one] at hres)
      rw [← hC1, htk] at hres
      replace hO2 := Lib.hid hO2
      replace hres := Lib.hid hres
      go_wp2_with ((refine wpList_copyK rfl (.tmp 80) (.tmp 81) 23 23 rfl 33 Tryz.underlying23 6 hsz1 g (i * 6) gv 0 _ _ _ _ rfl rfl C1 33 hh1 us 1 ?_ (by rw [hus]) (fun j u hj => by rw [Nat.zero_add, heap_cell hgv1]; exact hj) hfit2 h1u ?_); (focus (first | (show 1 = min 1 (n + 1 - i); omega))); intro w2 hh2 hO3)
      go_ret
      refine ⟨_, rfl, ⟨?_, .inr ⟨g, cap, (splice C1 (i * 6) us).toArray, rfl, hgb, hh2, by omega, hcm, ?_, ?_⟩⟩, only_grown ((hO2.out.trans hO3).mono fun j _ hj => by rw [hj]; rfl), .inl rfl, by simp⟩
      · simp only [List.length_append, List.length_take, List.length_drop, hus]; omega
      · simp [splice_len _ _ _ hfit2, hC1l]
      · simpa using hres.out
    · have hroom2 : (cap : Int) < (n : Int) + 1 := by omega
      obtain ⟨i0, hi0, hz0, hzs, hzb⟩ := info_parts (P := Tryz.prog) (e := 33) (z := (Value.agg #[.int .i64 0, .int .i64 0, .int .i64 0, .string ⟨#[]⟩, .string ⟨#[]⟩, .int .i64 0])) (size := 6) (bytes := 64) (by kernel_rfl)
      have hkk : (n : Int) + 1 - (i : Int) = ((n + 1 - i : Nat) : Int) := by omega
      have hik : i + (n + 1 - i) = n + 1 := by omega
      have hcapn : n = cap := by omega
      subst hcapn
      have hxc : ∀ j u, xs[j]? = some u → w.cell? ⟨g, j, none⟩ = some u := fun j u hu => by
        rw [heap_cell hheap]
        rw [← htk, List.getElem?_take] at hu
        split at hu
        · exact hu
        · cases hu
      have hold : (Builtin.firstCells i0.size i (.slice (some ⟨g, 0, none⟩) i n)).run Tryz.prog w.drew = .ok (xs.take (i * 6)).toArray w.drew := by
        rw [hzs]
        exact run_firstCells_some w.drew 6 i ⟨g, 0, none⟩ i n (xs.take (i * 6)) (by rw [List.length_take]; omega) (fun j u hj => by
          rw [Addr.add_lit, Nat.zero_add]
          rw [List.getElem?_take] at hj
          split at hj
          · exact hxc j u hj
          · cases hj)
      have hrz : ∀ ty, (Builtin.append_ #[23, 3] ty #[.slice (some ⟨g, 0, none⟩) i n, .int .i64 ((n + 1 - i : Nat) : Int)]).run Tryz.prog w =
          .ok (.slice (some ⟨w.heap.size, 0, none⟩) (n + 1) (grownCap w (n + 1) n 33)) (w.drew.alloc (.cells ((xs.take (i * 6)).toArray ++ Builtin.zeroCells (Value.agg #[.int .i64 0, .int .i64 0, .int .i64 0, .string ⟨#[]⟩, .string ⟨#[]⟩, .int .i64 0]).cells (n + 1 - i) ++ Builtin.zeroCells (Value.agg #[.int .i64 0, .int .i64 0, .int .i64 0, .string ⟨#[]⟩, .string ⟨#[]⟩, .int .i64 0]).cells (grownCap w (n + 1) n 33 - (n + 1))) 33)) := fun ty => by
        have h := Lib.run_append_grow_zeros w 23 3 ty 33 i0 _ .i64 .i64 Tryz.underlying23 Tryz.underlying3 hi0 hz0 (some ⟨g, 0, none⟩) i n (xs.take (i * 6)) hold (n + 1 - i) (by omega) (by omega) (by omega) (by omega) (by rw [hzb]; omega) (by
          rw [hzb, hik]
          have := nextslicecap_le (need := n + 1) (old := n) (by omega)
          omega)
        rw [hik] at h
        exact h
      have hGn : n + 1 ≤ grownCap w (n + 1) n 33 := grownCap_ge w _ _ _
      have hGm : grownCap w (n + 1) n 33 ≤ maxLen := grownCap_le_maxLen w (n + 1) n 33 (by unfold maxLen; omega)
      have hGm2 : (grownCap w (n + 1) n 33 : Int) ≤ 9223372036854775807 := by unfold maxLen at hGm; omega
      generalize grownCap w (n + 1) n 33 = G at *
      obtain ⟨Z, hZ⟩ : ∃ Z, Z = (Builtin.zeroCells (Value.agg #[.int .i64 0, .int .i64 0, .int .i64 0, .string ⟨#[]⟩, .string ⟨#[]⟩, .int .i64 0]).cells (n + 1 - i)).toList := ⟨_, rfl⟩
      obtain ⟨R, hR⟩ : ∃ R, R = (Builtin.zeroCells (Value.agg #[.int .i64 0, .int .i64 0, .int .i64 0, .string ⟨#[]⟩, .string ⟨#[]⟩, .int .i64 0]).cells (G - (n + 1))).toList := ⟨_, rfl⟩
      have hZl : Z.length = (n + 1 - i) * 6 := by rw [hZ, Array.length_toList, size_zeroCells]; first | rfl | simp [Value.cells]
      have hRl : R.length = (G - (n + 1)) * 6 := by rw [hR, Array.length_toList, size_zeroCells]; first | rfl | simp [Value.cells]
      have hrow : (xs.take (i * 6)).toArray ++ Builtin.zeroCells (Value.agg #[.int .i64 0, .int .i64 0, .int .i64 0, .string ⟨#[]⟩, .string ⟨#[]⟩, .int .i64 0]).cells (n + 1 - i) ++ Builtin.zeroCells (Value.agg #[.int .i64 0, .int .i64 0, .int .i64 0, .string ⟨#[]⟩, .string ⟨#[]⟩, .int .i64 0]).cells (G - (n + 1)) = (xs.take (i * 6) ++ Z ++ R).toArray := by
        rw [hZ, hR]; simp
      rw [hrow] at hrz
      clear hrow hZ hR hold
      have htl : (xs.take (i * 6)).length = i * 6 := by rw [List.length_take]; omega
      obtain ⟨ROW, hROW⟩ : ∃ ROW, ROW = xs.take (i * 6) ++ Z ++ R := ⟨_, rfl⟩
      have hROWl : ROW.length = G * 6 := by rw [hROW]; simp only [List.length_append, htl, hZl, hRl]; omega
      have hres := ins_grow xs Z us R n i 6 (by omega) hus (by simpa using hxl) (by simpa using hZl)
      (try simp only [Nat.mul_one] at hres)
      rw [← hROW] at hrz hres
      obtain ⟨W1, hW1⟩ : ∃ W, W = w.drew.alloc (.cells ROW.toArray 33) := ⟨_, rfl⟩
      have hW1h : W1.heap[w.heap.size]? = some (.cells ROW.toArray 33 (0, 0)) := by rw [hW1]; exact heap_alloc_new w.drew _
      have hO1 : Only (fun _ => False) w W1 := by rw [hW1]; exact ((Only.refl _ w).drew).alloc _
      rw [← hW1] at hrz
      have hgv1 := heap_only (g := gv) hgv hO1 (fun h => h)
      have hh1 := heap_only (g := g) hheap hO1 (fun h => h)
      have hgvl : gv < w.heap.size := (Array.getElem?_eq_some_iff.1 hgv).1
      have hsz0 : w.heap.size < W1.heap.size := by rw [hW1]; simp
      have hdl : (xs.drop (i * 6)).length = (n - i) * 6 := by simp only [List.length_drop, hxl] <;> omega
      have hfit1 : i * 6 + us.length ≤ ROW.length := by rw [hus, hROWl]; omega
      obtain ⟨C1, hC1⟩ : ∃ C, C = splice ROW (i * 6) us := ⟨_, rfl⟩
      have hC1l : C1.length = G * 6 := by rw [hC1, splice_len _ _ _ hfit1, hROWl]
      rw [← hC1] at hres
      have hw1 : IntKind.i64.wrap ((i : Int) + 1) = (i : Int) + 1 := by rw [IntKind.wrap_i64]; omega
      have hb1 : (0 : Int) ≤ (i : Int) + 1 := by omega
      have htn : ((i : Int) + 1).toNat = i + 1 := by omega
      have hii : (i : Int) + 1 ≤ (n : Int) + 1 := by omega
      have hii2 : (i : Int) ≤ (n : Int) + 1 := by omega
      have hc1 : ¬ G = i := by omega
      have hc2 : ¬ G = i + 1 := by omega
      have hc3 : ¬ n = i := by omega
      have hin3 : (i : Int) ≤ (n : Int) := by omega
      have hone : ∀ u ∈ xs.drop (i * 6), u.oneCell' = true := fun u hu => h1x u (List.mem_of_mem_drop hu)
      replace hres := Lib.hid hres
      replace hROW := Lib.hid hROW
      replace hW1 := Lib.hid hW1
      go_enter Tryz.func49, Tryz.ntmps49
      go_wp2_with (first | (at_builtin; (refine Lib.wpList_append_run w rfl _ _ 23 3 rfl _ _ rfl rfl _ _ (hrz _) ?_)) | (refine wpList_copyK rfl (.tmp 43) (.tmp 44) 23 23 rfl 33 Tryz.underlying23 6 hsz1 w.heap.size (i * 6) gv 0 _ _ _ _ rfl rfl ROW 33 hW1h us 1 ?_ (by rw [hus]) (fun j u hj => by rw [Nat.zero_add, heap_cell hgv1]; exact hj) hfit1 h1u ?_; (focus (first | (show 1 = min 1 (n + 1 - i); omega))); intro w2 hh2 hO2))
      rw [← hC1] at hh2
      have hsrc2 : ∀ j u, (xs.drop (i * 6))[j]? = some u → w2.cell? ⟨g, i * 6 + j, none⟩ = some u := fun j u hu => by
        rw [List.getElem?_drop] at hu
        rw [heap_cell (heap_only hh1 hO2 (by omega)), ← heap_cell hheap]
        exact hxc _ _ hu
      have hS0 : Only (fun j => j = w.heap.size) w2 w2.drew := (Only.refl _ w2).drew
      (try simp only [Act.put, List.setIfInBounds_toArray, List.set_cons_zero, List.set_cons_succ, goInt])
      (refine wp_region_held_drew (S := (fun W => Only (fun j => j = w.heap.size) w2 W)) (by kernel_rfl) ?_ (fun hHeld => ?_); ((try dsimp only); exact hS0))
      clear hS0
      (refine tkO 0 ?_; refine tkO 1 ?_; refine tkO 2 ?_; refine tkO 3 ?_; refine tkO 4 ?_; refine tkO 5 ?_; refine tkO 6 ?_; refine tkO 7 ?_)
      (refine tdoO 8 (fun K hK => ?_); ((refine copy_stepK _ _ 23 23 rfl 33 Tryz.underlying23 6 hsz1 w.heap.size ((i + 1) * 6) g (i * 6) _ _ _ _ rfl rfl C1 33 (show w2.drew.heap[w.heap.size]? = _ from hh2) (xs.drop (i * 6)) (n - i) ?_ (by simpa using hdl) hsrc2 ?_ hone ?_; (focus (first | (show n - i = min (n - i) (n - i); omega) | (show n - i = min (n - i) (n + 1 - (i + 1)); omega))); (focus (rw [hdl, hC1l]; omega)); intro w3 hh3 hO3); refine hK.out _ _ ?_ (fun hHeld => ?_); ((try dsimp only); exact hO3.drewL); clear hK K; (try clear hHeld0); (try rename_i hHeld0)))
      (refine wpAnyH_done (by kernel_rfl) ?_ _)
      clear hHeld0
      have hO3 := Lib.hid hHeld
      clear hHeld
      have hfit3 : (i + 1) * 6 + (xs.drop (i * 6)).length ≤ C1.length := by rw [hdl, hC1l]; omega
      go_wp2
      go_ret
      refine ⟨_, rfl, ⟨?_, .inr ⟨w.heap.size, G, (splice C1 ((i + 1) * 6) (xs.drop (i * 6))).toArray, rfl, hbase, hh3, by omega, hGm, ?_, ?_⟩⟩, ?_, .inr rfl, by simp⟩
      · simp only [List.length_append, List.length_take, List.length_drop, hus]; omega
      · simp [splice_len _ _ _ hfit3, hC1l]
      · simpa using hres.out
      · exact only_grown ((((hO1.mono (S' := fun j => j = w.heap.size) (fun _ _ h => h.elim)).trans hO2).trans hO3.out).mono fun j hj hj2 => by omega)
end Go.Proofs.YtdbpiabcpjgblaaGreatDoor
/- slices.Equal over writes, whatever they are. -/
namespace Go.Proofs.YtdbpiabcpjgblaaGreatDoor
open Go.RowKit
set_option linter.unusedVariables false
set_option linter.unusedSimpArgs false
instance : DecidableEq WrB := fun a b => decidable_of_iff (a.t = b.t ∧ a.r = b.r ∧ a.k = b.k ∧ a.key = b.key ∧ a.val = b.val ∧ a.n = b.n) (by cases a; cases b; simp)
theorem wrb_ext {x y : WrB} (h : x.t = y.t ∧ x.r = y.r ∧ x.k = y.k ∧ x.key = y.key ∧ x.val = y.val ∧ x.n = y.n) : x = y := by
  cases x; cases y; simp only [WrB.mk.injEq] at *; exact h
theorem ba_ne {x y : ByteArray} (h : ¬ x = y) : (x.toList == y.toList) = false := by
  rw [beq_eq_false_iff_ne]
  intro e
  rw [ByteArray.toList_eq, ByteArray.toList_eq] at e
  exact h (ba_ext e)
theorem eqw_drop {a b : List WrB} {k : Nat} (ha : k < a.length) (hb : k < b.length) (he : a[k] = b[k]) : (a.drop k = b.drop k) ↔ (a.drop (k + 1) = b.drop (k + 1)) := by
  rw [List.drop_eq_getElem_cons ha, List.drop_eq_getElem_cons hb, he]; exact List.cons_inj_right _
theorem new_drop {a b : List WrB} {k : Nat} (ha : k < a.length) (hb : k < b.length) (he : a[k] ≠ b[k]) : a.drop k ≠ b.drop k := by
  rw [List.drop_eq_getElem_cons ha, List.drop_eq_getElem_cons hb]; intro h; injection h with h _; exact he h
set_option maxHeartbeats 8000000 in
theorem eq_wrs (va vb : Value) (a b : List WrB) (w : World) (ha : WrsIs w va a) (hb : WrsIs w vb b) (hla : a.length ≤ 140737488351232) (hlb : b.length ≤ 140737488351232) :
    Calls Tryz.prog 22 #[va, vb] w fun e w' => e = .returned (.bool (decide (a = b))) ∧ Below w.heap.size w w' := by
  obtain ⟨oa, ca, rfl, -, hcella⟩ := ListIs.at ha wrBCells_len
  obtain ⟨ob, cb, rfl, -, hcellb⟩ := ListIs.at hb wrBCells_len
  clear ha hb
  replace hcella := Lib.hid hcella
  replace hcellb := Lib.hid hcellb
  by_cases hl : a.length = b.length
  · have hl1 : a.length ≤ b.length := by omega
    have hl2 : b.length ≤ a.length := by omega
    have hle : ((a.length : Int) == (b.length : Int)) = true := by simp; omega
    have hle2 : ((a.length : Int) != (b.length : Int)) = false := by simp; omega
    replace hl := Lib.hid hl
    go_enter Tryz.func22, Tryz.ntmps22
    go_wp2
    go_loopw [13] (fun i wr => ∃ k : Nat, k ≤ a.length ∧ i = .int .i64 k ∧ (a.drop k = b.drop k ↔ a = b) ∧ Below w.heap.size w wr) (fun i _ => a.length - (intOf i).toNat)
    case atStart => exact ⟨0, by omega, rfl, by simp, by exact blw⟩
    case round =>
      obtain ⟨k, hk, rfl, heq, hbel⟩ := hrel
      have hsz := hbel.size
      by_cases hlt : k < a.length
      · have hlt2 : k < b.length := by omega
        obtain ⟨b1, f1, rfl, hb1, hc1⟩ := hcella.out k hlt
        obtain ⟨b2, f2, rfl, hb2, hc2⟩ := hcellb.out k hlt2
        have hb1 := hb1 (by omega)
        have hb2 := hb2 (by omega)
        have c0 : wr.cell? ⟨b1, f1 + k * 6, none⟩ = some (.int .i64 a[k].t) := (hbel.cell (p := ⟨b1, f1 + k * 6, none⟩) hb1).trans (hc1 0 _ rfl)
        have c1 : wr.cell? ⟨b1, f1 + k * 6 + 1, none⟩ = some (.int .i64 a[k].r) := (hbel.cell (p := ⟨b1, f1 + k * 6 + 1, none⟩) hb1).trans (hc1 1 _ rfl)
        have c2 : wr.cell? ⟨b1, f1 + k * 6 + 2, none⟩ = some (.int .i64 a[k].k) := (hbel.cell (p := ⟨b1, f1 + k * 6 + 2, none⟩) hb1).trans (hc1 2 _ rfl)
        have c3 : wr.cell? ⟨b1, f1 + k * 6 + 3, none⟩ = some (.string a[k].key) := (hbel.cell (p := ⟨b1, f1 + k * 6 + 3, none⟩) hb1).trans (hc1 3 _ rfl)
        have c4 : wr.cell? ⟨b1, f1 + k * 6 + 4, none⟩ = some (.string a[k].val) := (hbel.cell (p := ⟨b1, f1 + k * 6 + 4, none⟩) hb1).trans (hc1 4 _ rfl)
        have c5 : wr.cell? ⟨b1, f1 + k * 6 + 5, none⟩ = some (.int .i64 a[k].n) := (hbel.cell (p := ⟨b1, f1 + k * 6 + 5, none⟩) hb1).trans (hc1 5 _ rfl)
        have d0 : wr.cell? ⟨b2, f2 + k * 6, none⟩ = some (.int .i64 b[k].t) := (hbel.cell (p := ⟨b2, f2 + k * 6, none⟩) hb2).trans (hc2 0 _ rfl)
        have d1 : wr.cell? ⟨b2, f2 + k * 6 + 1, none⟩ = some (.int .i64 b[k].r) := (hbel.cell (p := ⟨b2, f2 + k * 6 + 1, none⟩) hb2).trans (hc2 1 _ rfl)
        have d2 : wr.cell? ⟨b2, f2 + k * 6 + 2, none⟩ = some (.int .i64 b[k].k) := (hbel.cell (p := ⟨b2, f2 + k * 6 + 2, none⟩) hb2).trans (hc2 2 _ rfl)
        have d3 : wr.cell? ⟨b2, f2 + k * 6 + 3, none⟩ = some (.string b[k].key) := (hbel.cell (p := ⟨b2, f2 + k * 6 + 3, none⟩) hb2).trans (hc2 3 _ rfl)
        have d4 : wr.cell? ⟨b2, f2 + k * 6 + 4, none⟩ = some (.string b[k].val) := (hbel.cell (p := ⟨b2, f2 + k * 6 + 4, none⟩) hb2).trans (hc2 4 _ rfl)
        have d5 : wr.cell? ⟨b2, f2 + k * 6 + 5, none⟩ = some (.int .i64 b[k].n) := (hbel.cell (p := ⟨b2, f2 + k * 6 + 5, none⟩) hb2).trans (hc2 5 _ rfl)
        clear hc1 hc2
        by_cases hxy : a[k] = b[k]
        · have hnx : Hid (a.drop (k + 1) = b.drop (k + 1) ↔ a = b) := Lib.hid ((eqw_drop hlt hlt2 hxy).symm.trans heq)
          rw [hxy] at c0 c1 c2 c3 c4 c5
          replace hxy := Lib.hid hxy
          clear heq
          generalize b[k] = y at *
          have e0 : (y.t == y.t) = true := by simp
          have e1 : (y.r == y.r) = true := by simp
          have e2 : (y.k == y.k) = true := by simp
          have e3 : (y.key.toList == y.key.toList) = true := by simp
          have e4 : (y.val.toList == y.val.toList) = true := by simp
          have e5 : (y.n == y.n) = true := by simp
          go_wp2
          go_quiet (fail)
          go_wp2
          go_roundw
          case rel => exact ⟨k + 1, by omega, by go_num, hnx.out, by exact blw⟩
          case measure => simp [intOf]; omega
        · have hfin : Hid (decide (a = b) = false) := Lib.hid (decide_eq_false (fun h => new_drop hlt hlt2 hxy (heq.2 h)))
          have hrt : ¬ (a[k].t = b[k].t ∧ a[k].r = b[k].r ∧ a[k].k = b[k].k ∧ a[k].key = b[k].key ∧ a[k].val = b[k].val ∧ a[k].n = b[k].n) := fun h => hxy (wrb_ext h)
          clear heq hxy
          generalize a[k] = x at *
          generalize b[k] = y at *
          by_cases g0 : x.t = y.t
          · skip
            by_cases g1 : x.r = y.r
            · skip
              by_cases g2 : x.k = y.k
              · skip
                by_cases g3 : x.key = y.key
                · skip
                  by_cases g4 : x.val = y.val
                  · skip
                    by_cases g5 : x.n = y.n
                    · skip
                      exact absurd ⟨g0, g1, g2, g3, g4, g5⟩ hrt
                    · skip
                      rw [g0] at c0
                      rw [g1] at c1
                      rw [g2] at c2
                      rw [g3] at c3
                      rw [g4] at c4
                      have e0 : (y.t == y.t) = true := by simp
                      have e1 : (y.r == y.r) = true := by simp
                      have e2 : (y.k == y.k) = true := by simp
                      have e3 : (y.key.toList == y.key.toList) = true := by simp
                      have e4 : (y.val.toList == y.val.toList) = true := by simp
                      have hne : (x.n == y.n) = false := by simp; exact g5
                      clear hrt
                      replace g0 := Lib.hid g0
                      replace g1 := Lib.hid g1
                      replace g2 := Lib.hid g2
                      replace g3 := Lib.hid g3
                      replace g4 := Lib.hid g4
                      replace g5 := Lib.hid g5
                      go_wp2
                      go_quiet (fail)
                      go_wp2
                      go_ret
                      exact ⟨ret_bool hfin.out.symm, by exact blw⟩
                  · skip
                    rw [g0] at c0
                    rw [g1] at c1
                    rw [g2] at c2
                    rw [g3] at c3
                    have e0 : (y.t == y.t) = true := by simp
                    have e1 : (y.r == y.r) = true := by simp
                    have e2 : (y.k == y.k) = true := by simp
                    have e3 : (y.key.toList == y.key.toList) = true := by simp
                    have hne := ba_ne g4
                    clear hrt
                    replace g0 := Lib.hid g0
                    replace g1 := Lib.hid g1
                    replace g2 := Lib.hid g2
                    replace g3 := Lib.hid g3
                    replace g4 := Lib.hid g4
                    go_wp2
                    go_quiet (fail)
                    go_wp2
                    go_ret
                    exact ⟨ret_bool hfin.out.symm, by exact blw⟩
                · skip
                  rw [g0] at c0
                  rw [g1] at c1
                  rw [g2] at c2
                  have e0 : (y.t == y.t) = true := by simp
                  have e1 : (y.r == y.r) = true := by simp
                  have e2 : (y.k == y.k) = true := by simp
                  have hne := ba_ne g3
                  clear hrt
                  replace g0 := Lib.hid g0
                  replace g1 := Lib.hid g1
                  replace g2 := Lib.hid g2
                  replace g3 := Lib.hid g3
                  go_wp2
                  go_quiet (fail)
                  go_wp2
                  go_ret
                  exact ⟨ret_bool hfin.out.symm, by exact blw⟩
              · skip
                rw [g0] at c0
                rw [g1] at c1
                have e0 : (y.t == y.t) = true := by simp
                have e1 : (y.r == y.r) = true := by simp
                have hne : (x.k == y.k) = false := by simp; exact g2
                clear hrt
                replace g0 := Lib.hid g0
                replace g1 := Lib.hid g1
                replace g2 := Lib.hid g2
                go_wp2
                go_quiet (fail)
                go_wp2
                go_ret
                exact ⟨ret_bool hfin.out.symm, by exact blw⟩
            · skip
              rw [g0] at c0
              have e0 : (y.t == y.t) = true := by simp
              have hne : (x.r == y.r) = false := by simp; exact g1
              clear hrt
              replace g0 := Lib.hid g0
              replace g1 := Lib.hid g1
              go_wp2
              go_quiet (fail)
              go_wp2
              go_ret
              exact ⟨ret_bool hfin.out.symm, by exact blw⟩
          · skip
            have hne : (x.t == y.t) = false := by simp; exact g0
            clear hrt
            replace g0 := Lib.hid g0
            go_wp2
            go_quiet (fail)
            go_wp2
            go_ret
            exact ⟨ret_bool hfin.out.symm, by exact blw⟩
      · have hfin : Hid (decide (a = b) = true) := Lib.hid (decide_eq_true (heq.1 (by rw [List.drop_of_length_le (by omega), List.drop_of_length_le (by omega)])))
        clear heq
        go_wp2
        go_ret
        exact ⟨ret_bool hfin.out.symm, by exact blw⟩
  · have hne : Hid (decide (a = b) = false) := Lib.hid (decide_eq_false (fun h => hl (by rw [h])))
    have hle : ((a.length : Int) == (b.length : Int)) = false := by simp; omega
    have hle2 : ((a.length : Int) != (b.length : Int)) = true := by simp; omega
    go_enter Tryz.func22, Tryz.ntmps22
    go_wp2
    go_ret
    exact ⟨ret_bool hne.out.symm, by exact blw⟩
end Go.Proofs.YtdbpiabcpjgblaaGreatDoor
