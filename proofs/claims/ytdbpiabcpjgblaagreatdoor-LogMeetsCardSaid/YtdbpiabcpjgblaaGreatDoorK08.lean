/- copy between rows of elements of any size; what slices.Insert makes of a row. -/
import Derived.Laws.CopyOwn
import Derived.Lib.AppendZeros
import Derived.Lib.AppendZerosOnto
import Derived.Lib.Overlaps
import Derived.Test.YtdbpiabcpjgblaaGreatDoorK01
import Derived.Test.YtdbpiabcpjgblaaGreatDoorK02
import Derived.Laws.Externs
namespace Go.Proofs.YtdbpiabcpjgblaaGreatDoor
open Go.RowKit
set_option linter.unusedVariables false
set_option linter.unusedSimpArgs false
theorem run_copy_rowK {P : Program} (w : World) (dT sT ty elem : TypeId) (g o dLen dCap : Nat) (a : Addr) (sLen sCap : Nat) (cur : Array Value) (t : TypeId) (cs : List Value) (sz k : Nat)
    (hu : P.underlying dT = some (.slice elem)) (hs : (P.info? elem).map (·.size) = some sz)
    (hg : w.heap[g]? = some (.cells cur t (0, 0))) (hk : k = Nat.min sLen dLen) (hn : cs.length = k * sz)
    (hsrc : ∀ j v, cs[j]? = some v → w.cell? (a.add j) = some v) (hfit : o + cs.length ≤ cur.size) (h1 : ∀ v ∈ cs, v.oneCell' = true) :
    (Builtin.copy_ #[dT, sT] ty #[.slice (some ⟨g, o, none⟩) dLen dCap, .slice (some a) sLen sCap]).run P w =
      .ok (goInt k) (w.setRow g (cur.toList.take o ++ cs ++ cur.toList.drop (o + cs.length)).toArray) := by
  have hl := run_loadCells_list (P := P) w a cs hsrc
  have hst := run_storeCells_at P g o t cs 0 cur w hg (by simpa using hfit) h1
  rw [hn] at hl
  cases hq : P.info? elem with
  | none => simp [hq] at hs
  | some i =>
    have hi : i.size = sz := by simpa [hq] using hs
    simp [Builtin.copy_, run_underlying hu, Builtin.lenOf, Builtin.firstCells, sizeOf, typeInfo, hq, hi, ← hk, hl, hst]
theorem copy_stepK {P : Program} {o : Oper} {a : Act} {w : World} {K : Act → World → Prop} {Q : Exit → Act → World → Prop} (d s : Operand) (dT sT : TypeId)
    (ho : o.op = .call { callee := .builtin .copy, args := #[d, s], argTypes := #[dT, sT] }) (elem : TypeId) (hu : P.underlying dT = some (.slice elem)) (sz : Nat) (hsz : (P.info? elem).map (·.size) = some sz)
    (g off gs f dLen dCap sLen sCap : Nat) (hd : a.eval d = .slice (some ⟨g, off, none⟩) dLen dCap) (hs : a.eval s = .slice (some ⟨gs, f, none⟩) sLen sCap)
    (cur : List Value) (t : TypeId) (hg : w.heap[g]? = some (.cells cur.toArray t (0, 0))) (cs : List Value) (k : Nat) (hk : k = Nat.min sLen dLen) (hn : cs.length = k * sz)
    (hsrc : ∀ j v, cs[j]? = some v → w.cell? ⟨gs, f + j, none⟩ = some v)
    (hfit : off + cs.length ≤ cur.length) (h1 : ∀ v ∈ cs, v.oneCell' = true)
    (h : ∀ w', w'.heap[g]? = some (.cells (splice cur off cs).toArray t (0, 0)) → Only (fun k => k = g) w w' → K (a.put o.dst (goInt k)) w') : Oper.wp P o a w K Q := by
  have hrun := run_copy_rowK (P := P) w dT sT o.type elem g off dLen dCap ⟨gs, f, none⟩ sLen sCap cur.toArray t cs sz k hu hsz hg hk hn (fun j v hj => by rw [Addr.add_lit]; exact hsrc j v hj) (by simpa using hfit) h1
  unfold Oper.wp
  simp [execOp, ho, resolve, invoke, builtin, hd, hs, hrun, Result.andThen]
  refine h _ (show _ = _ by simpa [splice] using setRow_heap w g _ _ t _ hg) ⟨rfl, rfl, rfl, by simp [World.setRow], fun k _ hk => setRow_other w g k _ (fun e => hk e)⟩
theorem wpList_copyK {P : Program} {ops : Array Oper} {rest : List Oper} {o : Oper} {a : Act} {w : World} {Q : Exit → Act → World → Prop} (hgd : o.guard = none) (d s : Operand) (dT sT : TypeId)
    (ho : o.op = .call { callee := .builtin .copy, args := #[d, s], argTypes := #[dT, sT] }) (elem : TypeId) (hu : P.underlying dT = some (.slice elem)) (sz : Nat) (hsz : (P.info? elem).map (·.size) = some sz)
    (g off gs f dLen dCap sLen sCap : Nat) (hd : a.eval d = .slice (some ⟨g, off, none⟩) dLen dCap) (hs : a.eval s = .slice (some ⟨gs, f, none⟩) sLen sCap)
    (cur : List Value) (t : TypeId) (hg : w.heap[g]? = some (.cells cur.toArray t (0, 0))) (cs : List Value) (k : Nat) (hk : k = Nat.min sLen dLen) (hn : cs.length = k * sz)
    (hsrc : ∀ j v, cs[j]? = some v → w.cell? ⟨gs, f + j, none⟩ = some v)
    (hfit : off + cs.length ≤ cur.length) (h1 : ∀ v ∈ cs, v.oneCell' = true)
    (h : ∀ w', w'.heap[g]? = some (.cells (splice cur off cs).toArray t (0, 0)) → Only (fun k => k = g) w w' → wpList P ops Q rest (a.put o.dst (goInt k)) w') : wpList P ops Q (o :: rest) a w :=
  wpList_plain hgd fun _ hK => copy_stepK d s dT sT ho elem hu sz hsz g off gs f dLen dCap sLen sCap hd hs cur t hg cs k hk hn hsrc hfit h1 (fun w' h1 h2 => hK _ _ (h w' h1 h2))
/-- Cells of a row, by where it lies. -/
theorem heap_cell {w : World} {g : Nat} {cur : List Value} {t : TypeId} (hg : w.heap[g]? = some (.cells cur.toArray t (0, 0))) (j : Nat) : w.cell? ⟨g, j, none⟩ = cur[j]? := by
  simp [World.cell?, hg]
theorem heap_only {S : Nat → Prop} {w w' : World} {g : Nat} {cur : List Value} {t : TypeId} (hg : w.heap[g]? = some (.cells cur.toArray t (0, 0))) (ho : Only S w w') (hn : ¬ S g) : w'.heap[g]? = some (.cells cur.toArray t (0, 0)) := by
  rw [ho.block g (Array.getElem?_eq_some_iff.1 hg).1 hn]; exact hg
theorem Only.drewL {S : Nat → Prop} {w w' : World} (h : Only S w.drew w') : Only S w w' := (Only.refl S w).drew.trans h
theorem owns_slice_ {w : World} {base : Nat} {e : TypeId} {sz n : Nat} {v : Value} {xs : List Value} (h : w.ownsRow base e sz v n xs) : ∃ o c, v = .slice o n c := by
  rcases h.2 with ⟨rfl, rfl⟩ | ⟨g, cap, cur, rfl, _⟩
  · exact ⟨none, 0, rfl⟩
  · exact ⟨_, cap, rfl⟩
theorem owns_cap {w : World} {base : Nat} {e : TypeId} {sz n c : Nat} {o : Option Addr} {xs : List Value} (h : w.ownsRow base e sz (.slice o n c) n xs) : n ≤ c := by
  rcases h.2 with ⟨h1, h2⟩ | ⟨g, cap, cur, h1, _, _, h2, _⟩
  · omega
  · injection h1 with _ _ h1; omega
theorem splice_len (l : List Value) (o : Nat) (cs : List Value) (h : o + cs.length ≤ l.length) : (splice l o cs).length = l.length := by
  unfold splice
  simp only [List.length_append, List.length_take, List.length_drop]; omega
/-- Both copies of an insertion where there is room. -/
theorem ins_room (cur us : List Value) (n i sz cap : Nat) (hi : i < n) (hus : us.length = sz) (hcur : cur.length = cap * sz) (hr : n + 1 ≤ cap) :
    (splice (splice cur ((i + 1) * sz) ((cur.take (n * sz)).drop (i * sz))) (i * sz) us).take ((n + 1) * sz) = (cur.take (n * sz)).take (i * sz) ++ us ++ (cur.take (n * sz)).drop (i * sz) := by
  have a1 : i * sz ≤ n * sz := Nat.mul_le_mul_right _ (by omega)
  have a2 : (n + 1) * sz ≤ cap * sz := Nat.mul_le_mul_right _ hr
  have a3 : (i + 1) * sz = i * sz + sz := by rw [Nat.add_mul, Nat.one_mul]
  have a4 : (n + 1) * sz = n * sz + sz := by rw [Nat.add_mul, Nat.one_mul]
  rw [a4] at a2
  rw [a3, a4]
  generalize i * sz = I at *
  generalize n * sz = N at *
  have b1 : ((cur.take N).drop I).length = N - I := by simp only [List.length_drop, List.length_take]; omega
  have c1 : (cur.take (I + sz)).length = I + sz := by rw [List.length_take]; omega
  have e1 : splice cur (I + sz) ((cur.take N).drop I) = cur.take (I + sz) ++ ((cur.take N).drop I ++ cur.drop (I + sz + (N - I))) := by
    unfold splice
    rw [b1]
    (try simp only [List.append_assoc])
  rw [e1]
  generalize cur.drop (I + sz + (N - I)) = D
  have e2 : splice (cur.take (I + sz) ++ ((cur.take N).drop I ++ D)) I us = cur.take I ++ us ++ ((cur.take N).drop I ++ D) := by
    unfold splice
    rw [hus, List.drop_left' c1, List.take_append_of_le_length (by omega), List.take_take, Nat.min_eq_left (by omega)]
    (try simp only [List.append_assoc])
  rw [e2, ← List.append_assoc, List.take_left' (by simp only [List.length_append, List.length_take, b1, hus]; omega), List.take_take, Nat.min_eq_left a1]
/-- Both copies of an insertion into a new row. -/
theorem ins_grow (X Z us R : List Value) (n i sz : Nat) (hi : i < n) (hus : us.length = sz) (hX : X.length = n * sz) (hZ : Z.length = (n + 1 - i) * sz) :
    (splice (splice (X.take (i * sz) ++ Z ++ R) (i * sz) us) ((i + 1) * sz) (X.drop (i * sz))).take ((n + 1) * sz) = X.take (i * sz) ++ us ++ X.drop (i * sz) := by
  have a1 : i * sz ≤ n * sz := Nat.mul_le_mul_right _ (by omega)
  have a3 : (i + 1) * sz = i * sz + sz := by rw [Nat.add_mul, Nat.one_mul]
  have a4 : (n + 1) * sz = n * sz + sz := by rw [Nat.add_mul, Nat.one_mul]
  have a5 : (n + 1 - i) * sz = n * sz + sz - i * sz := by rw [Nat.sub_mul, a4]
  rw [a5] at hZ
  rw [a3, a4]
  generalize i * sz = I at *
  generalize n * sz = N at *
  have b0 : (X.take I).length = I := by rw [List.length_take]; omega
  have b1 : (X.drop I).length = N - I := by rw [List.length_drop]; omega
  have e1 : splice (X.take I ++ Z ++ R) I us = (X.take I ++ us) ++ (Z ++ R).drop sz := by
    unfold splice
    rw [List.append_assoc, List.take_left' b0, hus, List.drop_append, b0, List.drop_of_length_le (by omega), List.nil_append, show I + sz - I = sz by omega]
    (try simp only [List.append_assoc])
  rw [e1]
  have c1 : (X.take I ++ us).length = I + sz := by rw [List.length_append, b0, hus]
  have e2 : splice ((X.take I ++ us) ++ (Z ++ R).drop sz) (I + sz) (X.drop I) = (X.take I ++ us) ++ X.drop I ++ ((X.take I ++ us) ++ (Z ++ R).drop sz).drop (I + sz + (N - I)) := by
    unfold splice
    rw [List.take_left' c1, b1]
    (try simp only [List.append_assoc])
  rw [e2, List.take_left' (by rw [List.length_append, c1, b1]; omega)]
end Go.Proofs.YtdbpiabcpjgblaaGreatDoor
/- The walk of slices.Insert of one element, at strings. -/
namespace Go.Proofs.YtdbpiabcpjgblaaGreatDoor
open Go.RowKit
set_option linter.unusedVariables false
set_option linter.unusedSimpArgs false
theorem only_grown {w w' : World} {r : Option Nat} (h : Only (fun j => r = some j) w w') : w.grownBy w' r := ⟨h.os, h.tape, h.output, h.size, fun i hi hn => h.block i hi fun e => hn e.symm⟩
set_option maxHeartbeats 8000000 in
set_option maxRecDepth 20000 in
theorem insert_str (v : Value) (n i : Nat) (xs us : List Value) (gv vc base : Nat) (w : World) (hown : w.ownsRow base 9 1 v n xs) (hi : i ≤ n) (hn : n ≤ 1000000) (hus : us.length = 1)
    (h1x : ∀ u ∈ xs, u.oneCell' = true) (h1u : ∀ u ∈ us, u.oneCell' = true) (hgv : w.heap[gv]? = some (.cells us.toArray 9 (0, 0))) (hne : v.ownBlock ≠ some gv) (hbase : base ≤ w.heap.size) :
    Calls Tryz.prog 76 #[v, .int .i64 i, .slice (some ⟨gv, 0, none⟩) 1 vc] w fun e w' => ∃ v', e = .returned v' ∧ w'.ownsRow base 9 1 v' (n + 1) (xs.take (i) ++ us ++ xs.drop (i)) ∧ w.grownBy w' v.ownBlock ∧ (v'.ownBlock = v.ownBlock ∨ v'.ownBlock = some w.heap.size) ∧ v' ≠ .slice none 0 0 := by
  have hi2 : (i : Int) ≤ (n : Int) := by omega
  have hn2 : (n : Int) ≤ 1000000 := by omega
  by_cases hin : i = n
  · subst hin
    have hxl : xs.length = i := by simpa using hown.1
    have hsrc : Src Tryz.prog 1 103 (.slice (some ⟨gv, 0, none⟩) 1 vc) 1 us w := Src.ofSlice w Tryz.underlying103 ⟨gv, 0, none⟩ 1 vc us (by omega) (fun j u hj => by rw [Addr.add_lit, Nat.zero_add, heap_cell hgv]; exact hj) h1u
    have heq : xs.take (i) ++ us ++ xs.drop (i) = xs ++ us := by rw [List.take_of_length_le (by omega), List.drop_of_length_le (by omega), List.append_nil]
    rw [heq]
    clear heq hgv
    obtain ⟨o, c, rfl⟩ := owns_slice_ hown
    have hc : i ≤ c := owns_cap hown
    by_cases hci : i = c
    all_goals (try subst hci)
    all_goals
     go_enter Tryz.func76, Tryz.ntmps76
     go_wp2_with (at_builtin; go_must (refine app_any rfl _ _ 103 103 9 rfl base (Value.string ⟨#[]⟩) 1 16 Tryz.underlying103 (by kernel_rfl) rfl _ _ _ rfl hown 1 us hsrc (by omega) (by omega) hbase ?_); intro v' w' hown' hg hb hnil hbel)
     go_ret
     refine ⟨_, rfl, hown', hg, hb, fun e => ?_⟩
     have := (hnil.1 e).2
     omega
  · rcases hown.2 with ⟨rfl, rfl⟩ | ⟨g, cap, cur, rfl, hgb, hheap, hnc, hcm, hcs, htk⟩
    · omega
    have hxl : xs.length = n := by simpa using hown.1
    have hng : gv ≠ g := fun e => hne (by rw [e]; rfl)
    obtain ⟨CUR, hCUR⟩ : ∃ C : List Value, C = cur.toList := ⟨_, rfl⟩
    have hcurA : cur = CUR.toArray := by rw [hCUR]
    rw [hcurA] at hheap hcs
    rw [← hCUR] at htk
    (try rw [Nat.mul_one] at htk)
    have hcl : CUR.length = cap := by simpa using hcs
    clear hcurA hCUR hcs
    have hglt : g < w.heap.size := (Array.getElem?_eq_some_iff.1 hheap).1
    have hin1 : ((i : Int) == (n : Int)) = false := by simp; omega
    have hin2 : (i : Int) < (n : Int) := by omega
    have hnc2 : (n : Int) ≤ (cap : Int) := by omega
    have hcm2 : (cap : Int) ≤ 9223372036854775807 := by unfold maxLen at hcm; omega
    have hsz1 : (Tryz.prog.info? 9).map (·.size) = some 1 := by kernel_rfl
    have him : i ≤ n := by omega
    by_cases hroom : n + 1 ≤ cap
    · have hroom2 : ¬ (cap : Int) < (n : Int) + 1 := by omega
      have hroom3 : (n : Int) + 1 ≤ (cap : Int) := by omega
      have hw1 : IntKind.i64.wrap ((i : Int) + 1) = (i : Int) + 1 := by rw [IntKind.wrap_i64]; omega
      have hb1 : (0 : Int) ≤ (i : Int) + 1 := by omega
      have htn : ((i : Int) + 1).toNat = i + 1 := by omega
      have hii2 : (i : Int) ≤ (n : Int) + 1 := by omega
      have hc1 : ¬ cap = i := by omega
      have hc2 : ¬ cap = i + 1 := by omega
      have hii : (i : Int) + 1 ≤ (n : Int) + 1 := by omega
      have hgv0 : w.frozen? ⟨gv, 0, none⟩ = false := by simp [World.frozen?, hgv]
      have hsa : w.shape? gv = some (9, us.length) := by simp [World.shape?, hgv]
      have hsb : w.shape? g = some (9, CUR.length) := by simp [World.shape?, hheap]
      have hov : ∀ lb cb, (callFunc 94 #[.slice (some ⟨gv, 0, none⟩) 1 vc, .slice (some ⟨g, (i + 1), none⟩) lb cb]).run Tryz.prog w = .ok (.value (.bool false)) w := fun lb cb => by
        rw [run_callFunc_extern Tryz.func94 (by kernel_rfl) (by kernel_rfl) (by kernel_rfl) (e := Extern.SlicesOverlaps.overlaps #[103, 103] #[4]) (by kernel_rfl),
          Lib.run_overlaps_apart w 103 4 9 Tryz.underlying103 1 (by intro w; kernel_rfl) ⟨gv, 0, none⟩ ⟨g, (i + 1), none⟩ 1 vc lb cb hng _ _ _ _ hsa hsb (by rw [hcl]; omega) hgv0 (by simp [World.frozen?, hgv])]
        rfl
      go_enter Tryz.func76, Tryz.ntmps76
      go_wp2_with (simp only [hov])
      have hS0 : Only (fun j => j = g) w w.drew := (Only.refl _ w).drew
      have hdl : ((CUR.take (n)).drop (i)).length = (n - i) := by
        rw [List.length_drop, List.length_take, hcl]
        omega
      have hone : ∀ u ∈ (CUR.take (n)).drop (i), u.oneCell' = true := fun u hu => h1x u (by rw [← htk]; exact List.mem_of_mem_drop hu)
      have hsc : ∀ j u, ((CUR.take (n)).drop (i))[j]? = some u → w.cell? ⟨g, i + j, none⟩ = some u := fun j u hu => by
        rw [heap_cell hheap]
        rw [List.getElem?_drop, List.getElem?_take] at hu
        split at hu
        · exact hu
        · cases hu
      (refine wp_region_held_drew (S := (fun W => Only (fun j => j = g) w W)) (by kernel_rfl) ?_ (fun hHeld => ?_); ((try dsimp only); exact hS0))
      clear hS0
      (refine tkO 0 ?_; refine tkO 1 ?_; refine tkO 2 ?_; refine tkO 3 ?_; refine tkO 4 ?_; refine tkO 5 ?_; refine tkO 6 ?_; refine tkO 7 ?_)
      (refine tdoO 8 (fun K hK => ?_); ((refine copy_stepK _ _ 103 103 rfl 9 Tryz.underlying103 1 hsz1 g ((i + 1)) g (i) _ _ _ _ rfl rfl CUR 9 (show w.drew.heap[g]? = _ from hheap) ((CUR.take (n)).drop (i)) (n - i) ?_ (by simpa using hdl) hsc ?_ hone ?_; (focus (first | (show n - i = min (n + 1 - i) (n - i); omega) | (show n - i = min (n + 1 - i) (n + 1 - (i + 1)); omega))); (focus (rw [hdl, hcl]; omega)); intro w1 hh1 hO1); refine hK.out _ _ ?_ (fun hHeld => ?_); ((try dsimp only); exact hO1.drewL); clear hK K; (try clear hHeld0); (try rename_i hHeld0)))
      (refine wpAnyH_done (by kernel_rfl) ?_ _)
      clear hHeld0
      have hO2 := hHeld
      clear hHeld
      have hgv1 := heap_only (g := gv) (S := fun j => j = g) hgv hO2 hng
      obtain ⟨C1, hC1⟩ : ∃ C, C = splice CUR ((i + 1)) ((CUR.take (n)).drop (i)) := ⟨_, rfl⟩
      rw [← hC1] at hh1
      have hC1l : C1.length = cap := by rw [hC1, splice_len _ _ _ (by rw [hdl, hcl]; omega), hcl]
      have hfit2 : i + us.length ≤ C1.length := by rw [hus, hC1l]; omega
      have hres := ins_room CUR us n i 1 cap (by omega) hus (by simpa using hcl) hroom
      (try simp only [Nat.mul_one] at hres)
      rw [← hC1, htk] at hres
      replace hO2 := Lib.hid hO2
      replace hres := Lib.hid hres
      go_wp2_with ((refine wpList_copyK rfl (.tmp 80) (.tmp 81) 103 103 rfl 9 Tryz.underlying103 1 hsz1 g (i) gv 0 _ _ _ _ rfl rfl C1 9 hh1 us 1 ?_ (by rw [hus]) (fun j u hj => by rw [Nat.zero_add, heap_cell hgv1]; exact hj) hfit2 h1u ?_); (focus (first | (show 1 = min 1 (n + 1 - i); omega))); intro w2 hh2 hO3)
      go_ret
      refine ⟨_, rfl, ⟨?_, .inr ⟨g, cap, (splice C1 (i) us).toArray, rfl, hgb, hh2, by omega, hcm, ?_, ?_⟩⟩, only_grown ((hO2.out.trans hO3).mono fun j _ hj => by rw [hj]; rfl), .inl rfl, by simp⟩
      · simp only [List.length_append, List.length_take, List.length_drop, hus]; omega
      · simp [splice_len _ _ _ hfit2, hC1l]
      · simpa using hres.out
    · have hroom2 : (cap : Int) < (n : Int) + 1 := by omega
      obtain ⟨i0, hi0, hz0, hzs, hzb⟩ := info_parts (P := Tryz.prog) (e := 9) (z := (Value.string ⟨#[]⟩)) (size := 1) (bytes := 16) (by kernel_rfl)
      have hkk : (n : Int) + 1 - (i : Int) = ((n + 1 - i : Nat) : Int) := by omega
      have hik : i + (n + 1 - i) = n + 1 := by omega
      have hcapn : n = cap := by omega
      subst hcapn
      have hxc : ∀ j u, xs[j]? = some u → w.cell? ⟨g, j, none⟩ = some u := fun j u hu => by
        rw [heap_cell hheap]
        rw [← htk, List.getElem?_take] at hu
        split at hu
        · exact hu
        · cases hu
      have hold : (Builtin.firstCells i0.size i (.slice (some ⟨g, 0, none⟩) i n)).run Tryz.prog w.drew = .ok (xs.take (i)).toArray w.drew := by
        rw [hzs]
        exact run_firstCells_some w.drew 1 i ⟨g, 0, none⟩ i n (xs.take (i)) (by rw [List.length_take]; omega) (fun j u hj => by
          rw [Addr.add_lit, Nat.zero_add]
          rw [List.getElem?_take] at hj
          split at hj
          · exact hxc j u hj
          · cases hj)
      have hrz : ∀ ty, (Builtin.append_ #[103, 3] ty #[.slice (some ⟨g, 0, none⟩) i n, .int .i64 ((n + 1 - i : Nat) : Int)]).run Tryz.prog w =
          .ok (.slice (some ⟨w.heap.size, 0, none⟩) (n + 1) (grownCap w (n + 1) n 9)) (w.drew.alloc (.cells ((xs.take (i)).toArray ++ Builtin.zeroCells (Value.string ⟨#[]⟩).cells (n + 1 - i) ++ Builtin.zeroCells (Value.string ⟨#[]⟩).cells (grownCap w (n + 1) n 9 - (n + 1))) 9)) := fun ty => by
        have h := Lib.run_append_grow_zeros w 103 3 ty 9 i0 _ .i64 .i64 Tryz.underlying103 Tryz.underlying3 hi0 hz0 (some ⟨g, 0, none⟩) i n (xs.take (i)) hold (n + 1 - i) (by omega) (by omega) (by omega) (by omega) (by rw [hzb]; omega) (by
          rw [hzb, hik]
          have := nextslicecap_le (need := n + 1) (old := n) (by omega)
          omega)
        rw [hik] at h
        exact h
      have hGn : n + 1 ≤ grownCap w (n + 1) n 9 := grownCap_ge w _ _ _
      have hGm : grownCap w (n + 1) n 9 ≤ maxLen := grownCap_le_maxLen w (n + 1) n 9 (by unfold maxLen; omega)
      have hGm2 : (grownCap w (n + 1) n 9 : Int) ≤ 9223372036854775807 := by unfold maxLen at hGm; omega
      generalize grownCap w (n + 1) n 9 = G at *
      obtain ⟨Z, hZ⟩ : ∃ Z, Z = (Builtin.zeroCells (Value.string ⟨#[]⟩).cells (n + 1 - i)).toList := ⟨_, rfl⟩
      obtain ⟨R, hR⟩ : ∃ R, R = (Builtin.zeroCells (Value.string ⟨#[]⟩).cells (G - (n + 1))).toList := ⟨_, rfl⟩
      have hZl : Z.length = (n + 1 - i) := by rw [hZ, Array.length_toList, size_zeroCells]; first | rfl | simp [Value.cells]
      have hRl : R.length = (G - (n + 1)) := by rw [hR, Array.length_toList, size_zeroCells]; first | rfl | simp [Value.cells]
      have hrow : (xs.take (i)).toArray ++ Builtin.zeroCells (Value.string ⟨#[]⟩).cells (n + 1 - i) ++ Builtin.zeroCells (Value.string ⟨#[]⟩).cells (G - (n + 1)) = (xs.take (i) ++ Z ++ R).toArray := by
        rw [hZ, hR]; simp
      rw [hrow] at hrz
      clear hrow hZ hR hold
      have htl : (xs.take (i)).length = i := by rw [List.length_take]; omega
      obtain ⟨ROW, hROW⟩ : ∃ ROW, ROW = xs.take (i) ++ Z ++ R := ⟨_, rfl⟩
      have hROWl : ROW.length = G := by rw [hROW]; simp only [List.length_append, htl, hZl, hRl]; omega
      have hres := ins_grow xs Z us R n i 1 (by omega) hus (by simpa using hxl) (by simpa using hZl)
      (try simp only [Nat.mul_one] at hres)
      rw [← hROW] at hrz hres
      obtain ⟨W1, hW1⟩ : ∃ W, W = w.drew.alloc (.cells ROW.toArray 9) := ⟨_, rfl⟩
      have hW1h : W1.heap[w.heap.size]? = some (.cells ROW.toArray 9 (0, 0)) := by rw [hW1]; exact heap_alloc_new w.drew _
      have hO1 : Only (fun _ => False) w W1 := by rw [hW1]; exact ((Only.refl _ w).drew).alloc _
      rw [← hW1] at hrz
      have hgv1 := heap_only (g := gv) hgv hO1 (fun h => h)
      have hh1 := heap_only (g := g) hheap hO1 (fun h => h)
      have hgvl : gv < w.heap.size := (Array.getElem?_eq_some_iff.1 hgv).1
      have hsz0 : w.heap.size < W1.heap.size := by rw [hW1]; simp
      have hdl : (xs.drop (i)).length = (n - i) := by simp only [List.length_drop, hxl] <;> omega
      have hfit1 : i + us.length ≤ ROW.length := by rw [hus, hROWl]; omega
      obtain ⟨C1, hC1⟩ : ∃ C, C = splice ROW (i) us := ⟨_, rfl⟩
      have hC1l : C1.length = G := by rw [hC1, splice_len _ _ _ hfit1, hROWl]
      rw [← hC1] at hres
      have hw1 : IntKind.i64.wrap ((i : Int) + 1) = (i : Int) + 1 := by rw [IntKind.wrap_i64]; omega
      have hb1 : (0 : Int) ≤ (i : Int) + 1 := by omega
      have htn : ((i : Int) + 1).toNat = i + 1 := by omega
      have hii : (i : Int) + 1 ≤ (n : Int) + 1 := by omega
      have hii2 : (i : Int) ≤ (n : Int) + 1 := by omega
      have hc1 : ¬ G = i := by omega
      have hc2 : ¬ G = i + 1 := by omega
      have hc3 : ¬ n = i := by omega
      have hin3 : (i : Int) ≤ (n : Int) := by omega
      have hone : ∀ u ∈ xs.drop (i), u.oneCell' = true := fun u hu => h1x u (List.mem_of_mem_drop hu)
      replace hres := Lib.hid hres
      replace hROW := Lib.hid hROW
      replace hW1 := Lib.hid hW1
      go_enter Tryz.func76, Tryz.ntmps76
      go_wp2_with (first | (at_builtin; (refine Lib.wpList_append_run w rfl _ _ 103 3 rfl _ _ rfl rfl _ _ (hrz _) ?_)) | (refine wpList_copyK rfl (.tmp 43) (.tmp 44) 103 103 rfl 9 Tryz.underlying103 1 hsz1 w.heap.size (i) gv 0 _ _ _ _ rfl rfl ROW 9 hW1h us 1 ?_ (by rw [hus]) (fun j u hj => by rw [Nat.zero_add, heap_cell hgv1]; exact hj) hfit1 h1u ?_; (focus (first | (show 1 = min 1 (n + 1 - i); omega))); intro w2 hh2 hO2))
      rw [← hC1] at hh2
      have hsrc2 : ∀ j u, (xs.drop (i))[j]? = some u → w2.cell? ⟨g, i + j, none⟩ = some u := fun j u hu => by
        rw [List.getElem?_drop] at hu
        rw [heap_cell (heap_only hh1 hO2 (by omega)), ← heap_cell hheap]
        exact hxc _ _ hu
      have hS0 : Only (fun j => j = w.heap.size) w2 w2.drew := (Only.refl _ w2).drew
      (try simp only [Act.put, List.setIfInBounds_toArray, List.set_cons_zero, List.set_cons_succ, goInt])
      (refine wp_region_held_drew (S := (fun W => Only (fun j => j = w.heap.size) w2 W)) (by kernel_rfl) ?_ (fun hHeld => ?_); ((try dsimp only); exact hS0))
      clear hS0
      (refine tkO 0 ?_; refine tkO 1 ?_; refine tkO 2 ?_; refine tkO 3 ?_; refine tkO 4 ?_; refine tkO 5 ?_; refine tkO 6 ?_; refine tkO 7 ?_)
      (refine tdoO 8 (fun K hK => ?_); ((refine copy_stepK _ _ 103 103 rfl 9 Tryz.underlying103 1 hsz1 w.heap.size ((i + 1)) g (i) _ _ _ _ rfl rfl C1 9 (show w2.drew.heap[w.heap.size]? = _ from hh2) (xs.drop (i)) (n - i) ?_ (by simpa using hdl) hsrc2 ?_ hone ?_; (focus (first | (show n - i = min (n - i) (n - i); omega) | (show n - i = min (n - i) (n + 1 - (i + 1)); omega))); (focus (rw [hdl, hC1l]; omega)); intro w3 hh3 hO3); refine hK.out _ _ ?_ (fun hHeld => ?_); ((try dsimp only); exact hO3.drewL); clear hK K; (try clear hHeld0); (try rename_i hHeld0)))
      (refine wpAnyH_done (by kernel_rfl) ?_ _)
      clear hHeld0
      have hO3 := Lib.hid hHeld
      clear hHeld
      have hfit3 : (i + 1) + (xs.drop (i)).length ≤ C1.length := by rw [hdl, hC1l]; omega
      go_wp2
      go_ret
      refine ⟨_, rfl, ⟨?_, .inr ⟨w.heap.size, G, (splice C1 ((i + 1)) (xs.drop (i))).toArray, rfl, hbase, hh3, by omega, hGm, ?_, ?_⟩⟩, ?_, .inr rfl, by simp⟩
      · simp only [List.length_append, List.length_take, List.length_drop, hus]; omega
      · simp [splice_len _ _ _ hfit3, hC1l]
      · simpa using hres.out
      · exact only_grown ((((hO1.mono (S' := fun j => j = w.heap.size) (fun _ _ h => h.elim)).trans hO2).trans hO3.out).mono fun j hj hj2 => by omega)
end Go.Proofs.YtdbpiabcpjgblaaGreatDoor
/- A region that draws its order and ends with an operation that waits for all others: behind that one nothing need be shown of the world. -/
namespace Go.Proofs.YtdbpiabcpjgblaaGreatDoor
set_option linter.unusedSimpArgs false
open Go.RowKit
set_option linter.unusedVariables false
section
variable {P : Program} {md : Region.Mode} {ops : Array Oper} {Q : Exit → Act → World → Prop} {S : World → Prop} {m : Nat}
/-- In whatever order; S holds behind each operation but number m. -/
def WpLast (P : Program) (md : Region.Mode) (ops : Array Oper) (Q : Exit → Act → World → Prop) (S : World → Prop) (m : Nat) : Nat → Array Bool → Act → World → Prop
  | 0, L, a, w => Region.ready md ops L = [] ∧ Q .normal a w
  | n + 1, L, a, w => (Region.ready md ops L = [] → Q .normal a w) ∧ ∀ i ∈ Region.ready md ops L, wpOp P ops Q i (fun a' w' => (i = m ∨ S w') ∧ WpLast P md ops Q S m n (L.setIfInBounds i true) a' w') a w
theorem wpLast_any : ∀ (n : Nat) (L : Array Bool) (a : Act) (w : World), WpLast P md ops Q S m n L a w → wpAny P md ops Q n L a w
  | 0, _, _, _, h => h
  | n + 1, _, _, _, h => ⟨h.1, fun i hi => wpOp_mono (fun a' w' k => wpLast_any n _ a' w' k.2) (h.2 i hi)⟩
/-- Number m waits for number i. -/
def waits (md : Region.Mode) (ops : Array Oper) (m i : Nat) : Bool := match ops[m]? with
  | some o => o.after.any fun e => Region.binds md e && e.on == i
  | none => true
theorem waits_edge {i : Nat} (h : waits md ops m i = true) {o : Oper} (ho : ops[m]? = some o) : ∃ e ∈ o.after, Region.binds md e = true ∧ e.on = i := by
  unfold waits at h
  rw [ho] at h
  obtain ⟨e, he, hb⟩ := Array.any_eq_true'.1 h
  simp only [Bool.and_eq_true, beq_iff_eq] at hb
  exact ⟨e, he, hb.1, hb.2⟩
theorem wpLast_first {i : Nat} {oi : Oper} {v : Value} (hi : ops[i]? = some oi) (hs : Region.noSelect ops = true) (hne : i ≠ m) (hm : waits md ops m i = true)
    (hQ : ∀ c a w, Q (.panic c) (a.put oi.dst v) w → Q (.panic c) a w) : ∀ (n : Nat) (L : Array Bool) (a : Act) (w : World),
    (∀ j oj, ops[j]? = some oj → j ≠ i → L.getD j true = false → (∀ e ∈ oj.after, Region.binds md e = true → e.on ≠ i) → oi.apart ops oj = true) →
    i ∈ Region.ready md ops L → YieldsIf P ops S oi v a → S w → WpLast P md ops Q S m n (L.setIfInBounds i true) (a.put oi.dst v) w → WpLast P md ops Q S m (n + 1) L a w := by
  intro n
  induction n with
  | zero =>
    intro L a w _ hr hy hS H
    constructor
    · intro h; rw [h] at hr; cases hr
    · intro j hj
      rcases Nat.decEq j i with hji | hji
      · have := ready_mono hj hji
        rw [H.1] at this; cases this
      · subst hji; exact hy.wpOp hi hS ⟨.inr hS, H⟩
  | succ n ih =>
    intro L a w hf hr hy hS H
    constructor
    · intro h; rw [h] at hr; cases hr
    · intro j hj
      rcases Nat.decEq j i with hji | hji
      · obtain ⟨hun, oj, hoj, hall⟩ := mem_ready.1 hj
        have hfalse := (mem_ready.1 hr).1
        have hno : ∀ e ∈ oj.after, Region.binds md e = true → e.on ≠ i := fun e he hb hei => by
          have h1 := hall e he hb
          rw [hei] at h1
          rcases Nat.lt_or_ge i L.size with h' | h'
          · simp [h'] at hfalse h1; rw [hfalse] at h1; cases h1
          · simp [Array.getElem?_eq_none h'] at h1
        have hjm : j ≠ m := fun e => by
          subst e
          obtain ⟨x, hx, hb, hxi⟩ := waits_edge hm hoj
          exact hno x hx hb hxi
        have h1 := wpOp_putIf hoj (hf j oj hoj hji hun hno) (fun cs b => Region.noSelect_spec hs i oi cs b hi) (fun cs b => Region.noSelect_spec hs j oj cs b hoj) hQ hy (H.2 j (ready_mono hj hji))
        refine wpOp_mono (fun a' w' k => ?_) h1
        have hSw := k.2.1.resolve_left hjm
        refine ⟨.inr hSw, ih _ a' w' (fun l ol hol hli hlun hlno => hf l ol hol hli ?_ hlno) (ready_mono hr (Ne.symm hji)) k.1 hSw ?_⟩
        · by_cases hjl : j = l
          · subst hjl; exact hun
          · rw [getD_set_ne true hjl] at hlun; exact hlun
        · rw [Array.setIfInBounds_comm _ _ hji]; exact k.2.2
      · subst hji; exact hy.wpOp hi hS ⟨.inr hS, H⟩
end
section
variable {P : Program} {l : List Oper} {Q : Exit → Act → World → Prop} {S : World → Prop} {m : Nat}
theorem last_take {i : Nat} {oi : Oper} {v : Value} {n : Nat} {L : Array Bool} {a : Act} {w : World} (hi : (l.drop i).head? = some oi)
    (hs : Region.noSelect l.toArray = true) (hf : Region.free .any l.toArray L i = true) (hr : (Region.ready .any l.toArray L).contains i = true) (hne : i ≠ m) (hm : waits .any l.toArray m i = true)
    (hQ : ∀ c a w, Q (.panic c) (a.put oi.dst v) w → Q (.panic c) a w) (hw : Region.wanted oi (yielded l.toArray a.tmps) = true) (hS : S w) (hy : ∀ w, S w → (execOp a.eval oi).run P w = .ok (.value v) w)
    (h : WpLast P .any l.toArray Q S m n (L.setIfInBounds i true) (a.put oi.dst v) w) : WpLast P .any l.toArray Q S m (n + 1) L a w :=
  wpLast_first (drop_get hi) hs hne hm hQ n L a w (Region.free_spec (drop_get hi) hf) (by simpa using hr) (Or.inl ⟨hw, hy⟩) hS h
theorem lkO (i : Nat) {oi : Oper} {v : Value} {n : Nat} {L L' : Array Bool} {a a' : Act} {w : World} (h : WpLast P .any l.toArray Q S m n L' a' w)
    (hi : (l.drop i).head? = some oi := by rfl) (hs : Region.noSelect l.toArray = true := by kernel_rfl) (hf : Region.free .any l.toArray L i = true := by kernel_rfl) (hr : (Region.ready .any l.toArray L).contains i = true := by kernel_rfl) (hne : i ≠ m := by decide) (hm : waits .any l.toArray m i = true := by kernel_rfl)
    (hw : Region.wanted oi (yielded l.toArray a.tmps) = true := by kernel_rfl) (hS : S w := by assumption)
    (hy : ∀ w, S w → (execOp a.eval oi).run P w = .ok (.value v) w := by (intro w hSw; (try unfold SC at hSw); (try unfold FC at hSw); (try unfold LC at hSw); (try unfold TC at hSw); (try unfold MC at hSw); (try unfold BC at hSw); (try unfold RC at hSw); (try unfold KC at hSw); (try unfold KD at hSw); (try dsimp only at hSw); go_simp; (try with_reducible rfl); done))
    (hl : L.setIfInBounds i true = L' := by ((try simp only [List.setIfInBounds_toArray, List.set_cons_zero, List.set_cons_succ]); try rfl))
    (ha : a.put oi.dst v = a' := by ((try simp only [Act.put, List.setIfInBounds_toArray, List.set_cons_zero, List.set_cons_succ]); try rfl))
    (hQ : ∀ c a w, Q (.panic c) (a.put oi.dst v) w → Q (.panic c) a w := by exact fun _ _ _ h => h) : WpLast P .any l.toArray Q S m (n + 1) L a w := by
  subst hl ha
  exact last_take hi hs hf hr hne hm hQ hw hS hy h
def ReadyL (P : Program) (l : List Oper) (Q : Exit → Act → World → Prop) (S : World → Prop) (m n : Nat) (L : Array Bool) (a : Act) (w : World) (rs : List Nat) : Prop :=
  ∀ i ∈ rs, wpOp P l.toArray Q i (fun a' w' => (i = m ∨ S w') ∧ WpLast P .any l.toArray Q S m n (L.setIfInBounds i true) a' w') a w
theorem ReadyL.nil {n : Nat} {L : Array Bool} {a : Act} {w : World} : ReadyL P l Q S m n L a w [] := fun _ h => by cases h
/-- One that isn't the last. -/
theorem last_cons {n : Nat} {L : Array Bool} {a : Act} {w : World} {i : Nat} {o : Oper} {rs : List Nat} (ho : (l.drop i).head? = some o) (hw : Region.wanted o (yielded l.toArray a.tmps) = true)
    (h : ∀ K' : Act → World → Prop, Shut (∀ a w, S w → (S w → WpLast P .any l.toArray Q S m n (L.setIfInBounds i true) a w) → K' a w) → Oper.wp P o a w K' Q)
    (hs : ReadyL P l Q S m n L a w rs) : ReadyL P l Q S m n L a w (i :: rs) := fun j hj => by
  rcases List.mem_cons.1 hj with rfl | hj
  · exact wpOp_step (drop_get ho) fun K' hK => by
      rw [if_pos hw]
      exact h K' fun a w hS k => hK a w ⟨.inr hS, k hS⟩
  · exact hs j hj
/-- The last. -/
theorem last_end {n : Nat} {L : Array Bool} {a : Act} {w : World} {o : Oper} (ho : (l.drop m).head? = some o) (hw : Region.wanted o (yielded l.toArray a.tmps) = true)
    (h : ∀ K' : Act → World → Prop, Shut (∀ a w, WpLast P .any l.toArray Q S m n (L.setIfInBounds m true) a w → K' a w) → Oper.wp P o a w K' Q) : ReadyL P l Q S m n L a w [m] := fun j hj => by
  obtain rfl := List.mem_singleton.1 hj
  exact wpOp_step (drop_get ho) fun K' hK => by
    rw [if_pos hw]
    exact h K' fun a w k => hK a w ⟨.inl rfl, k⟩
theorem last_ready {rs : List Nat} {n : Nat} {L : Array Bool} {a : Act} {w : World} (hr : Region.ready .any l.toArray L = rs) (hne : rs ≠ []) (h : ReadyL P l Q S m n L a w rs) : WpLast P .any l.toArray Q S m (n + 1) L a w :=
  ⟨fun h0 => absurd (hr.symm.trans h0) hne, by rw [hr]; exact h⟩
theorem last_done {L : Array Bool} {a : Act} {w : World} (hr : Region.ready .any l.toArray L = []) (h : Q .normal a w) : ∀ n, WpLast P .any l.toArray Q S m n L a w
  | 0 => ⟨hr, h⟩
  | _ + 1 => ⟨fun _ => h, by rw [hr]; simp⟩
theorem last_start (S : World → Prop) (m : Nat) {id : Nat} {a : Act} {w : World} (hm : P.follows .mixedOrders = true) (hS : S w.drew)
    (h : S w.drew → WpLast P .any l.toArray Q S m l.toArray.size (Array.replicate l.toArray.size false) a w.drew) : (Code.region id l.toArray true).wp P Q a w :=
  wp_region_any hm (wpLast_any _ _ _ _ (h hS))
end
end Go.Proofs.YtdbpiabcpjgblaaGreatDoor
