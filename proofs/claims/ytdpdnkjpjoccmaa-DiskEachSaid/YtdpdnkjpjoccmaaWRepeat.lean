/- The walk of slices.Repeat over one string; of disk's New. -/
import Derived.Laws.CopyOwn
import Derived.Test.YtdpdnkjpjoccmaaShelf
import Derived.Test.YtdpdnkjpjoccmaaWDisk4
import Derived.Test.YtdpdnkjpjoccmaaLib4
namespace Go.Proofs.Ytdpdnkjpjoccmaa
open Go.RowKit
set_option linter.unusedVariables false
set_option linter.unusedSimpArgs false
def fillRow (x : ByteArray) (n k : Nat) : List Value := List.replicate n (.string x) ++ List.replicate (k - n) (.string ⟨#[]⟩)
theorem fillRow_len (x : ByteArray) (n k : Nat) (h : n ≤ k) : (fillRow x n k).length = k := by simp [fillRow]; omega
theorem fillRow_zero (x : ByteArray) (k : Nat) : fillRow x 0 k = List.replicate k (.string ⟨#[]⟩) := by simp [fillRow]
theorem fillRow_all (x : ByteArray) (k : Nat) : fillRow x k k = List.replicate k (.string x) := by simp [fillRow]
theorem fillRow_splice (x : ByteArray) (n m k : Nat) (h : n + m ≤ k) : splice (fillRow x n k) n (List.replicate m (.string x)) = fillRow x (n + m) k := by
  unfold splice fillRow
  rw [List.length_replicate]
  rw [List.take_left' (by simp), List.drop_append, List.length_replicate, List.drop_of_length_le (by simp), List.nil_append, List.drop_replicate, show k - n - (n + m - n) = k - (n + m) by omega, ← List.append_assoc, List.replicate_append_replicate]
theorem fillRow_get (x : ByteArray) (n k j : Nat) (h : j < n) : (fillRow x n k)[j]? = some (.string x) := by
  unfold fillRow
  rw [List.getElem?_append_left (by simpa using h), List.getElem?_replicate, if_pos h]
theorem wrap_sum {n m : Nat} (h1 : n ≤ 1000) (h2 : m ≤ 1000) : IntKind.i64.wrap ((n : Int) + (m : Int)) = ((n + m : Nat) : Int) := by rw [IntKind.wrap_i64]; omega
theorem made_row (W : World) (x : ByteArray) (k : Nat) (g : Nat) (hg : g = W.heap.size) : (W.alloc (.cells (madeCells #[.string ⟨#[]⟩] k) 9)).heap[g]? = some (.cells (fillRow x 0 k).toArray 9 (0, 0)) := by
  subst hg
  have e : (fillRow x 0 k).toArray = madeCells #[.string ⟨#[]⟩] k := by rw [fillRow_zero, ← madeCells_one, Array.toArray_toList]
  rw [heap_alloc_new, e]
theorem copy_step {P : Program} {o : Oper} {a : Act} {w : World} {K : Act → World → Prop} {Q : Exit → Act → World → Prop} (d s : Operand) (dT sT : TypeId)
    (ho : o.op = .call { callee := .builtin .copy, args := #[d, s], argTypes := #[dT, sT] }) (elem : TypeId) (hu : P.underlying dT = some (.slice elem)) (hsz : (P.info? elem).map (·.size) = some 1)
    (g off f dLen dCap sLen sCap : Nat) (hd : a.eval d = .slice (some ⟨g, off, none⟩) dLen dCap) (hs : a.eval s = .slice (some ⟨g, f, none⟩) sLen sCap)
    (cur : List Value) (t : TypeId) (hg : w.heap[g]? = some (.cells cur.toArray t (0, 0))) (cs : List Value) (hn : cs.length = Nat.min sLen dLen)
    (hsrc : ∀ j v, cs[j]? = some v → w.cell? ((⟨g, f, none⟩ : Addr).add j) = some v)
    (hfit : off + cs.length ≤ cur.length) (h1 : ∀ v ∈ cs, v.oneCell' = true)
    (h : ∀ w', w'.heap[g]? = some (.cells (splice cur off cs).toArray t (0, 0)) → Only (fun k => k = g) w w' → K (a.put o.dst (goInt cs.length)) w') : Oper.wp P o a w K Q := by
  have hrun := run_copy_row (P := P) w dT sT o.type elem g off dLen dCap ⟨g, f, none⟩ sLen sCap cur.toArray t cs hu hsz hg hn hsrc (by simpa using hfit) h1
  unfold Oper.wp
  simp [execOp, ho, resolve, invoke, builtin, hd, hs, hrun, Result.andThen]
  refine h _ (show _ = _ by simpa [splice] using setRow_heap w g _ _ t _ hg) ⟨rfl, rfl, rfl, by simp [World.setRow], fun k _ hk => setRow_other w g k _ (fun e => hk e)⟩
set_option maxHeartbeats 4000000 in
set_option maxRecDepth 20000 in
theorem repeat_str (w : World) (g cap : Nat) (x : ByteArray) (k : Nat) (hc : w.cell? ⟨g, 0, none⟩ = some (.string x)) (h1 : 1 ≤ k) (h2 : k ≤ 1000) :
    Calls Try.prog 26 #[.slice (some ⟨g, 0, none⟩) 1 cap, .int .i64 k] w fun e w' => (∃ gs, e = .returned (.slice (some ⟨gs, 0, none⟩) k k) ∧ w.heap.size ≤ gs ∧ Row w' gs 9 (List.replicate k (.string x))) ∧ Below w.heap.size w w' := by
  have hmul := fun W => Try.bits_Mul 1 k (by omega) (by omega) W
  have e1 : 1 * k / 18446744073709551616 = 0 := by omega
  have e2 : 1 * k % 18446744073709551616 = k := by omega
  rw [e1, e2] at hmul
  clear e1 e2
  have hw1 : IntKind.u64.wrap (1 : Int) = 1 := by rw [IntKind.wrap_u64]; omega
  have hwk : IntKind.u64.wrap (k : Int) = (k : Int) := by rw [IntKind.wrap_u64]; omega
  have hwi : wrap64 (k : Int) = (k : Int) := by unfold wrap64; omega
  have hmk := fun (W : World) => run_make_row' (P := Try.prog) 34 9 (.string ⟨#[]⟩) 16 Try.underlying34 (by kernel_rfl) rfl .i64 .i64 k (by omega) (by omega) W
  replace hmul := Lib.hid hmul
  have hglt := World.block_lt_of_cell? _ _ hc
  go_enter Try.func26, Try.ntmps26
  go_wp2_with fail
  refine (hmul.out _).mono ?_
  rintro e w2 ⟨rfl, rfl⟩
  have hc2 := Lib.hid (cell_alloc hc (.cells (madeCells #[.string ⟨#[]⟩] k) 9))
  have hrow0 := Lib.hid (made_row w2 x k _ rfl)
  have hb0 : Below w2.heap.size w2 (w2.alloc (.cells (madeCells #[.string ⟨#[]⟩] k) 9)) := (Below.refl _ _).alloc (Nat.le_refl _) _
  replace hb0 := Lib.hid hb0
  have hmin : 1 = Nat.min 1 k := by show 1 = min 1 k; omega
  replace hmin := Lib.hid hmin
  have hfit : 0 + [Value.string x].length ≤ (fillRow x 0 k).length := by rw [fillRow_len x 0 k (by omega)]; exact h1
  replace hfit := Lib.hid hfit
  go_wp2_with (first
    | (refine wpList_copy_splice rfl (.tmp 31) (.tmp 32) 34 34 rfl 9 Try.underlying34 (by kernel_rfl) _ _ _ _ _ _ rfl rfl w2.heap.size 0 (fillRow x 0 k) 9 hrow0.out [.string x] hmin.out (fun _ => ⟨rfl, _, rfl, fun j v hj => (by cases j with | zero => (injection hj with hj; subst hj; exact hc2.out) | succ j => cases hj)⟩) hfit.out (by intro v hv; rw [List.mem_singleton.1 hv]; rfl) w2.heap.size w2 hb0.out (Nat.le_refl _) ?_; intro w3 hG3 hb3))
  clear hmk
  have e1 : splice (fillRow x 0 k) 0 [.string x] = fillRow x 1 k := fillRow_splice x 0 1 k (by omega)
  have hG3' : Hid (w3.heap[w2.heap.size]? = some (.cells (fillRow x 1 k).toArray 9 (0, 0))) := Lib.hid (e1 ▸ hG3.out)
  clear e1
  clear hG3
  go_loopw [8] (fun i wr => ∃ n : Nat, 1 ≤ n ∧ n ≤ k ∧ i = .int .i64 n ∧ wr.heap[w2.heap.size]? = some (.cells (fillRow x n k).toArray 9 (0, 0)) ∧ Below w2.heap.size w2 wr) (fun i _ => k - (intOf i).toNat)
  case atStart => exact ⟨1, by omega, h1, rfl, hG3'.out, hb3⟩
  case round =>
    obtain ⟨n, hn1, hnk, rfl, hG, hbel⟩ := hrel
    by_cases hlt : n < k
    · replace hG := Lib.hid hG
      have hkn : ¬ k = n := by omega
      obtain ⟨m, hm⟩ : ∃ m : Nat, m = min n (k - n) := ⟨_, rfl⟩
      have hnm : n + m ≤ k := by omega
      have hm1 : 0 < m := by omega
      have hmin2 : (List.replicate m (Value.string x)).length = Nat.min n (k - n) := by rw [List.length_replicate, hm]
      have hfit2 : n + (List.replicate m (Value.string x)).length ≤ (fillRow x n k).length := by rw [fillRow_len x n k hnk, List.length_replicate]; exact hnm
      have hsrc2 : ∀ j v, (List.replicate m (Value.string x))[j]? = some v → wr.cell? ((⟨w2.heap.size, 0, none⟩ : Addr).add j) = some v := fun j v hj => by
        rw [List.getElem?_replicate] at hj
        split at hj
        · injection hj with hj
          subst hj
          have hget := fillRow_get x n k j (by omega)
          have e : (⟨w2.heap.size, 0, none⟩ : Addr).add j = ⟨w2.heap.size, j, none⟩ := by
            have h := (show (⟨w2.heap.size, 0, none⟩ : Addr).add j = ⟨w2.heap.size, 0 + j, none⟩ by unfold Addr.add; split <;> simp_all)
            rw [Nat.zero_add] at h; exact h
          rw [e]
          simp only [World.cell?, hG.out]
          simpa using hget
        · cases hj
      have hone2 : ∀ v ∈ List.replicate m (Value.string x), v.oneCell' = true := fun v hv => by rw [List.eq_of_mem_replicate hv]; rfl
      have hfs := fillRow_splice x n m k hnm
      have hml : (List.replicate m (Value.string x)).length = m := List.length_replicate
      have hwadd : IntKind.i64.wrap ((n : Int) + (m : Int)) = ((n + m : Nat) : Int) := wrap_sum (by omega) (by omega)
      generalize List.replicate m (Value.string x) = cs at *
      replace hmin2 := Lib.hid hmin2
      replace hfit2 := Lib.hid hfit2
      replace hsrc2 := Lib.hid hsrc2
      replace hone2 := Lib.hid hone2
      replace hfs := Lib.hid hfs
      replace hm := Lib.hid hm
      replace hbel := Lib.hid hbel
      go_wp2_with fail
      (refine wp_region_held_drew (S := (fun _ : World => True)) (by kernel_rfl) ?_ (fun hHeld => ?_); ((try dsimp only); skip))
      (refine held_take (i := 0) (v := ?_) rfl (by kernel_rfl) (by kernel_rfl) (by kernel_rfl) (fun _ _ _ h => h) (by kernel_rfl) (by assumption) ?_ ?_; rotate_left; (focus (intro w hSw; (try unfold SC at hSw); (try unfold MC at hSw); (try dsimp only at hSw); go_simp; (try with_reducible rfl); done)); (simp only [Act.put, List.setIfInBounds_toArray, List.set_cons_zero, List.set_cons_succ]); refine held_take (i := 1) (v := ?_) rfl (by kernel_rfl) (by kernel_rfl) (by kernel_rfl) (fun _ _ _ h => h) (by kernel_rfl) (by assumption) ?_ ?_; rotate_left; (focus (intro w hSw; (try unfold SC at hSw); (try unfold MC at hSw); (try dsimp only at hSw); go_simp; (try with_reducible rfl); done)); (simp only [Act.put, List.setIfInBounds_toArray, List.set_cons_zero, List.set_cons_succ]); refine held_take (i := 2) (v := ?_) rfl (by kernel_rfl) (by kernel_rfl) (by kernel_rfl) (fun _ _ _ h => h) (by kernel_rfl) (by assumption) ?_ ?_; rotate_left; (focus (intro w hSw; (try unfold SC at hSw); (try unfold MC at hSw); (try dsimp only at hSw); go_simp; (try with_reducible rfl); done)); (simp only [Act.put, List.setIfInBounds_toArray, List.set_cons_zero, List.set_cons_succ]); refine held_take (i := 3) (v := ?_) rfl (by kernel_rfl) (by kernel_rfl) (by kernel_rfl) (fun _ _ _ h => h) (by kernel_rfl) (by assumption) ?_ ?_; rotate_left; (focus (intro w hSw; (try unfold SC at hSw); (try unfold MC at hSw); (try dsimp only at hSw); go_simp; (try with_reducible rfl); done)); (simp only [Act.put, List.setIfInBounds_toArray, List.set_cons_zero, List.set_cons_succ]); refine held_take (i := 4) (v := ?_) rfl (by kernel_rfl) (by kernel_rfl) (by kernel_rfl) (fun _ _ _ h => h) (by kernel_rfl) (by assumption) ?_ ?_; rotate_left; (focus (intro w hSw; (try unfold SC at hSw); (try unfold MC at hSw); (try dsimp only at hSw); go_simp; (try with_reducible rfl); done)); (simp only [Act.put, List.setIfInBounds_toArray, List.set_cons_zero, List.set_cons_succ]); refine held_take (i := 5) (v := ?_) rfl (by kernel_rfl) (by kernel_rfl) (by kernel_rfl) (fun _ _ _ h => h) (by kernel_rfl) (by assumption) ?_ ?_; rotate_left; (focus (intro w hSw; (try unfold SC at hSw); (try unfold MC at hSw); (try dsimp only at hSw); go_simp; (try with_reducible rfl); done)); (simp only [Act.put, List.setIfInBounds_toArray, List.set_cons_zero, List.set_cons_succ]); refine held_take (i := 6) (v := ?_) rfl (by kernel_rfl) (by kernel_rfl) (by kernel_rfl) (fun _ _ _ h => h) (by kernel_rfl) (by assumption) ?_ ?_; rotate_left; (focus (intro w hSw; (try unfold SC at hSw); (try unfold MC at hSw); (try dsimp only at hSw); go_simp; (try with_reducible rfl); done)); (simp only [Act.put, List.setIfInBounds_toArray, List.set_cons_zero, List.set_cons_succ]))
      (refine wpAnyH_ready (P := Try.prog) (md := .any) (rs := [7]) (by kernel_rfl) (by simp) ?_; refine held_cons rfl (by kernel_rfl) (fun K hK => ?_) AllReadyH.nil; ((refine copy_step (.tmp 41) (.tmp 44) 34 34 rfl 9 Try.underlying34 (by kernel_rfl) w2.heap.size n 0 (k - n) (k - n) n k rfl rfl (fillRow x n k) 9 hG.out cs hmin2.out hsrc2.out hfit2.out hone2.out ?_; intro w4 hG4 ho4); refine hK.out _ _ ?_ (fun hHeld => ?_); ((try dsimp only); skip); clear hK K; (try clear hHeld0); (try rename_i hHeld0)))
      (refine held_take (i := 8) (v := ?_) rfl (by kernel_rfl) (by kernel_rfl) (by kernel_rfl) (fun _ _ _ h => h) (by kernel_rfl) (by assumption) ?_ ?_; rotate_left; (focus (intro w hSw; (try unfold SC at hSw); (try unfold MC at hSw); (try dsimp only at hSw); go_simp; (try with_reducible rfl); done)); (simp only [Act.put, List.setIfInBounds_toArray, List.set_cons_zero, List.set_cons_succ]); refine held_take (i := 9) (v := ?_) rfl (by kernel_rfl) (by kernel_rfl) (by kernel_rfl) (fun _ _ _ h => h) (by kernel_rfl) (by assumption) ?_ ?_; rotate_left; (focus (intro w hSw; (try unfold SC at hSw); (try unfold MC at hSw); (try dsimp only at hSw); go_simp; (try with_reducible rfl); done)); (simp only [Act.put, List.setIfInBounds_toArray, List.set_cons_zero, List.set_cons_succ]))
      (refine wpAnyH_done (by kernel_rfl) ?_ _)
      have hG5 : w4.heap[w2.heap.size]? = some (.cells (fillRow x (n + m) k).toArray 9 (0, 0)) := by rw [← hfs.out]; exact hG4
      go_roundw
      case rel =>
        have h5 := ho4.below (B := w2.heap.size) (fun j hj => Nat.le_of_eq (Eq.symm hj)) hbel.out.size
        exact ⟨_, _, _, _, _, _, _, _, _, _, _, _, _, _, ⟨n + m, by omega, hnm, by go_num, hG5, (Below.drew hbel.out).trans h5⟩, rfl⟩
      case measure => simp [intOf]; omega
    · obtain rfl : n = k := by omega
      replace hG := Lib.hid hG
      go_wp2
      go_ret
      refine ⟨⟨_, rfl, Nat.le_refl _, (0, 0), ?_, .inl rfl⟩, hbel⟩
      rw [← fillRow_all]
      exact hG.out
set_option maxHeartbeats 4000000 in
set_option maxRecDepth 20000 in
theorem disk_new (w : World) (n : Nat) (h1 : 1 ≤ n) (h2 : n ≤ 140) :
    Calls Try.prog 15 #[.int .i64 n] w fun e w' => (∃ d gs b, e = .returned (.tuple #[.pointer (some ⟨d, 0, none⟩), .nilIface]) ∧ w.heap.size ≤ d ∧ w.heap.size ≤ gs ∧ w.heap.size ≤ b ∧ DiskIs w' d gs b 0 n ⟨List.replicate n (padB ⟨#[]⟩), fun _ => none⟩) ∧ Below w.heap.size w w' := by
  have hmm := @run_makeMap Try.prog
  have hmk : ∀ W : World, (Instr.makeSlice 50 (.int .i64 32) (.int .i64 32)).run Try.prog W = .ok (.slice (some ⟨W.heap.size, 0, none⟩) 32 32) (W.alloc (.cells (madeCells #[.int .u8 0] 32) 5)) := fun (W : World) => run_make_row' (P := Try.prog) 50 5 (.int .u8 0) 1 Try.underlying50 (by kernel_rfl) rfl .i64 .i64 32 (by omega) (by omega) W
  have hcv := fun (W : World) (g : Nat) (hg : g = W.heap.size) => str_of_row (P := Try.prog) (w := W.alloc (.cells (madeCells #[.int .u8 0] 32) 5)) (g := g) (e := 5) (l := List.replicate 32 0) (by
    subst hg
    rw [← zero_row, ← madeCells_one]
    exact row_alloc _ _ _) 50 9 Try.underlying50 Try.underlying5 Try.underlying9 32 32 (by simp)
  have hpe : (⟨(List.replicate 32 0).toArray⟩ : ByteArray) = padB ⟨#[]⟩ := by
    unfold padB; rfl
  rw [hpe] at hcv
  have hsz := padB_size ⟨#[]⟩ (by decide)
  generalize padB ⟨#[]⟩ = z at *
  clear hpe
  have hcv1 := hcv w w.heap.size rfl
  replace hcv := Lib.hid hcv
  replace hsz := Lib.hid hsz
  go_enter Try.func15, Try.ntmps15
  go_wp2_with fail
  generalize hA : w.alloc (.cells (madeCells #[.int .u8 0] 32) 5) = wa
  have ha : Below w.heap.size w wa := by rw [← hA]; exact (Below.refl _ _).alloc (Nat.le_refl _) _
  have hg1 : w.heap.size + 1 = wa.heap.size := by rw [← hA]; simp
  rw [hg1]
  have hc : (wa.alloc (.cells #[.string z] 9)).cell? ⟨wa.heap.size, 0, none⟩ = some (.string z) := World.cell?_alloc_at _ _ _ _ rfl
  have hb2 : Below w.heap.size w (wa.alloc (.cells #[.string z] 9)) := bal ha _
  refine (repeat_str _ _ 1 z n hc h1 (by omega)).mono ?_
  rintro e w3 ⟨⟨gs, rfl, hgs, hrow⟩, hb3⟩
  have hB3 := bch hb2 hb3
  clear hb2 hb3 hc ha hA hcv1
  have hs3 := hB3.size
  have hgs2 := hrow.lt
  have hgs3 : w.heap.size ≤ gs := by
    have := hg1
    simp at hgs
    omega
  replace hrow := Lib.hid hrow
  replace hgs := Lib.hid hgs
  clear hmk
  go_wp2
  go_ret2
  refine ⟨⟨w3.heap.size + 1, gs, w3.heap.size, rfl, by omega, hgs3, by omega, { row := row_at (w := w3.alloc (.map #[] 0)) _ _ (by simp), safe := ?_, next := (MapIs.made w3 _ _ _ _ _).alloc _, len := List.length_replicate, pos := h1, le := h2, ne1 := by omega, ne2 := by omega, ne3 := by omega, sz := fun x hx => by rw [List.eq_of_mem_replicate hx]; exact hsz.out, szn := fun i x h => by cases h }⟩, by (repeat (first | exact Below.refl _ _ | assumption | refine bal ?_ _ | refine bdr ?_ | refine bdn ?_ _ | refine bst ?_ (by first | assumption | exact Nat.le_refl _ | omega) _ | refine bch ?_ (by assumption)))⟩
  show Row _ _ _ ((List.replicate n z).map Value.string)
  rw [List.map_replicate]
  exact (hrow.out.alloc _).alloc _
end Go.Proofs.Ytdpdnkjpjoccmaa
