/- The walk of the law StoreSums. -/
import Derived.Test.YtpmedolndkidcaaDoorLawsStoreP
import Derived.Test.YtpmedolndkidcaaDoorWRevW
import Derived.Test.YtpmedolndkidcaaDoorApp
namespace Go.Proofs.YtpmedolndkidcaaDoor
open Go.RowKit
set_option linter.unusedVariables false
set_option linter.unusedSimpArgs false
def Sums (w : World) (b k : Nat) (M : List WrB) : Prop := ∃ f, MapV Tryd.prog 9 w b k f ∧ ∀ s, (f s).getD (.int .i64 0) = .int .i64 (St.sumAt (M.map WrB.sw) s)
theorem Sums.of_block {w w' : World} {b k : Nat} {M : List WrB} (h : Sums w b k M) (hb : w'.heap[b]? = w.heap[b]?) : Sums w' b k M := by
  obtain ⟨f, h1, h2⟩ := h; exact ⟨f, h1.of_block hb, h2⟩
theorem Sums.lt {w : World} {b k : Nat} {M : List WrB} (h : Sums w b k M) : b < w.heap.size := by obtain ⟨f, h1, -⟩ := h; exact h1.lt
theorem Sums.mono {w : World} {b k k' : Nat} {M : List WrB} (h : Sums w b k M) (hk : k ≤ k') : Sums w b k' M := by obtain ⟨f, h1, h2⟩ := h; exact ⟨f, h1.mono hk, h2⟩
theorem Sums.ne_own {w : World} {b k : Nat} {M : List WrB} {base : Nat} {e' : TypeId} {sz m : Nat} {v : Value} {xs : List Value} (h : Sums w b k M) (h' : w.ownsRow base e' sz v m xs) : v.ownBlock ≠ some b := by
  obtain ⟨f, h1, -⟩ := h; exact map_ne_own h1 h'
theorem sum_bound {M : List WrB} (h3 : ∀ x ∈ M, x.k = 3) (hr : ∀ x ∈ M, Right_ x) (hl : M.length ≤ 60) (s : ByteArray) : -67553994410557440 ≤ St.sumAt (M.map WrB.sw) s ∧ St.sumAt (M.map WrB.sw) s ≤ 67553994410557440 := by
  have hf := St.at_fits (M.map WrB.sw) (good_sws hr) s
  have h3' : ∀ x ∈ M.map WrB.sw, x.k = 3 := fun x hx => by
    obtain ⟨y, hy, rfl⟩ := List.mem_map.1 hx
    exact h3 y hy
  rw [St.at_adds _ h3'] at hf
  have h1 := hf.lo
  have h2 := hf.hi
  rw [List.length_map] at h1 h2
  simp only at h1 h2
  omega
def Adds (w3 : World) (b : Nat) (A : List WrB) (k : Nat) (v : Value) (wr : World) : Prop :=
  wr.ownsRow w3.heap.size 36 6 v ((A.take k).filter fun y => decide (y.k = 3)).length (((A.take k).filter fun y => decide (y.k = 3)).flatMap wrBCells) ∧ Sums wr b k ((A.take k).filter fun y => decide (y.k = 3)) ∧ Only (fun j => j = b) w3 wr
set_option maxHeartbeats 20000000 in
set_option maxRecDepth 20000 in
theorem StoreSums_walk (v : Value) (l : List WrB) (w : World) (hl : ListIs wrBCells 6 w v l) (q : ∀ x ∈ l, WrBOk x) (z : l.length ≤ 140737488351232) (hL : Laid w) :
    Calls Tryd.prog 5 #[v] w fun e w' => e = .returned (.bool true) ∧ Below w.heap.size w w' := by
  have hmm := @run_makeMap Tryd.prog
  have hSt := Lib.hid keep_stored
  have hRa := Lib.hid (fun W (hW : Below w.heap.size w W) => keep_right v l W (ListIs.below hl (by omega) hW) z)
  clear hl q hL
  go_enter Tryd.func5, Tryd.ntmps5
  go_wp2_with fail
  refine (hSt.out w).mono ?_
  rintro _ w1 ⟨rfl, hb1⟩
  go_wp2_with fail
  have hM0 : MapV Tryd.prog 9 (w1.alloc (.map #[] 0)) w1.heap.size 0 (fun _ => none) := MapV.made w1 Tryd.prog 9
  have hb1m := bal hb1 (.map #[] 0)
  have hbb : w1.heap.size < (w1.alloc (.map #[] 0)).heap.size := hM0.lt
  have hb1s := hb1.size
  obtain ⟨b, hbe⟩ : ∃ b, b = w1.heap.size := ⟨_, rfl⟩
  rw [← hbe] at hM0 hbb ⊢
  generalize w1.alloc (.map #[] 0) = w1' at *
  refine (hRa.out _ hb1m).mono ?_
  rintro _ w3 ⟨ua, A, rfl, hA, hAr0, hA60, hb3⟩
  have hbw3 := bch hb1m hb3
  have hM3 := hM0.below hb3
  obtain ⟨oa, ca, rfl⟩ := owns_slice_ hA
  have hA3 : WrsIs w3 _ A := ListIs.of_owns hA
  have hAr := Lib.hid (fun x hx => (hAr0 x hx).1)
  have hAlo := fun i hi => (hA.lt i hi).1
  obtain ⟨o1, c1, e1, -, hcA⟩ := ListIs.at hA3 wrBCells_len
  injection e1 with e1 _ e2
  subst e1; subst e2
  have hcb : ∀ k (hk : k < A.length) b1 off, oa = some ⟨b1, off, none⟩ → b1 ≠ b := fun k hk b1 off e1 e2 => by
    have := hAlo b1 (by rw [e1]; rfl)
    omega
  have hS3 : Sums w3 b 0 [] := ⟨_, hM3, fun s => rfl⟩
  have hbw : w.heap.size ≤ b := by omega
  have hb3lt := hM3.lt
  replace hcA := Lib.hid hcA
  replace hcb := Lib.hid hcb
  replace hS3 := Lib.hid hS3
  replace hbe := Lib.hid hbe
  clear hA hA3 hAr0 hb1 hb3 hRa hSt hM0 hM3 hAlo hb1m hmm
  go_wp2
  go_loopw [3, 19] (fun v i wr => ∃ k : Nat, k ≤ A.length ∧ i = .int .i64 k ∧ Adds w3 b A k v wr) (fun _ i _ => A.length - (intOf i).toNat)
  case atStart => exact ⟨0, by omega, rfl, World.ownsRow_nil _ _ _ _, hS3.out, Only.refl _ _⟩
  case round =>
    obtain ⟨k, hk, rfl, hO, hS, hon⟩ := hrel
    have hs := hon.size
    by_cases hlt : k < A.length
    · obtain ⟨b1, f1, rfl, hb1, hc1⟩ := hcA.out k hlt
      have hb1 := hb1 (by omega)
      have hbb1 := hcb.out k hlt b1 f1 rfl
      have hcc : ∀ (j : Nat) (u : Value), (wrBCells A[k])[j]? = some u → wr.cell? ⟨b1, f1 + k * 6 + j, none⟩ = some u := fun j u hu => hon.cell (p := ⟨b1, f1 + k * 6 + j, none⟩) (hc1 j u hu) hbb1
      have hlM := List.length_filter_le (fun y : WrB => decide (y.k = 3)) (A.take k)
      have htk : (A.take k).length ≤ 60 := by rw [List.length_take]; omega
      have hyes : A[k].k = 3 → (A.take (k + 1)).filter (fun y => decide (y.k = 3)) = (A.take k).filter (fun y => decide (y.k = 3)) ++ [A[k]] := fun h => by
        rw [List.take_succ_eq_append_getElem hlt, List.filter_append]; simp [h]
      have hno : A[k].k ≠ 3 → (A.take (k + 1)).filter (fun y => decide (y.k = 3)) = (A.take k).filter (fun y => decide (y.k = 3)) := fun h => by
        rw [List.take_succ_eq_append_getElem hlt, List.filter_append]; simp [h]
      have hMr : ∀ x ∈ (A.take k).filter (fun y => decide (y.k = 3)), Right_ x := fun x hx => hAr.out x (List.mem_of_mem_take (List.mem_filter.1 hx).1)
      have hM3 : ∀ x ∈ (A.take k).filter (fun y => decide (y.k = 3)), x.k = 3 := fun x hx => by simpa using (List.mem_filter.1 hx).2
      have hgd := good_sw (hAr.out _ (List.getElem_mem hlt))
      generalize hMl : (A.take k).filter (fun y => decide (y.k = 3)) = M at *
      generalize hMl2 : (A.take (k + 1)).filter (fun y => decide (y.k = 3)) = M2 at *
      replace hMl := Lib.hid hMl
      replace hMl2 := Lib.hid hMl2
      have hsb := fun s => sum_bound hM3 hMr (by omega) s
      generalize A[k] = x at *
      obtain ⟨yt, yr, yk, ykey, yval, yn⟩ := x
      have c0 : wr.cell? ⟨b1, f1 + k * 6, none⟩ = _ := hcc 0 _ rfl
      have c1 := hcc 1 _ rfl
      have c2 := hcc 2 _ rfl
      have c3 := hcc 3 _ rfl
      have c4 := hcc 4 _ rfl
      have c5 := hcc 5 _ rfl
      (try simp only at c0 c1 c2 c3 c4 c5 hyes hno)
      have hb1w : b1 < wr.heap.size := Nat.lt_of_lt_of_le hb1 hon.size
      have hks : ykey.size ≤ maxLen := by have h40 : ykey.size ≤ 40 := hgd.key; unfold maxLen; omega
      have hna := hgd.add
      (try simp only [WrB.sw] at hna)
      clear hcc hc1 hMr hM3 hgd
      by_cases hk3 : yk = 3
      · subst hk3
        have hy := Lib.hid (hyes rfl)
        have hn3 := hna rfl
        obtain ⟨hn1, hn2⟩ := hn3
        obtain ⟨hs1, hs2⟩ := hsb ykey
        obtain ⟨Z, hZ⟩ : ∃ Z, Z = St.sumAt (M.map WrB.sw) ykey := ⟨_, rfl⟩
        rw [← hZ] at hs1 hs2
        have hOA := hO.alloc (Obj.cells #[.int .i64 yt, .int .i64 yr, .int .i64 3, .string ykey, .string yval, .int .i64 yn] 36)
        have hSA := hS.of_block (Below.heap_alloc wr (Obj.cells #[.int .i64 yt, .int .i64 yr, .int .i64 3, .string ykey, .string yval, .int .i64 yn] 36) b hS.lt)
        have hgs := Lib.hid (show wr.heap.size + 1 = (wr.alloc (Obj.cells #[.int .i64 yt, .int .i64 yr, .int .i64 3, .string ykey, .string yval, .int .i64 yn] 36)).heap.size by simp)
        have q0 := row_at (w := wr) (g := wr.heap.size) #[.int .i64 yt, .int .i64 yr, .int .i64 3, .string ykey, .string yval, .int .i64 yn] 36 rfl
        have hsA : w3.heap.size ≤ (wr.alloc (Obj.cells #[.int .i64 yt, .int .i64 yr, .int .i64 3, .string ykey, .string yval, .int .i64 yn] 36)).heap.size := Nat.le_trans hs (World.grownBy_alloc wr _ none).size
        have honA := hon.alloc (Obj.cells #[.int .i64 yt, .int .i64 yr, .int .i64 3, .string ykey, .string yval, .int .i64 yn] 36)
        have hqne := owns_lt hO wr.heap.size (Nat.le_refl _)
        replace hOA := Lib.hid hOA
        replace hSA := Lib.hid hSA
        replace q0 := Lib.hid q0
        replace honA := Lib.hid honA
        replace hZ := Lib.hid hZ
        clear hO hS hon hyes hno hsb hna
        go_wp2_with (first
          | ((at_builtin; go_must (refine app_one_g rfl _ _ 22 36 rfl (w3.heap.size) (.agg #[.int .i64 0, .int .i64 0, .int .i64 0, .string ⟨#[]⟩, .string ⟨#[]⟩, .int .i64 0]) 6 64 Tryd.underlying22 (by kernel_rfl) rfl _ _ _ rfl hOA.out _ _ hgs.out rfl rfl ?_ (by omega) (by omega) hsA ?_)); (focus (intro u hu; simp only [List.mem_cons, List.not_mem_nil, or_false] at hu; rcases hu with rfl | rfl | rfl | rfl | rfl | rfl <;> rfl)); intro v5 w5 hO5 hg5 hbk5 hne5 hb5
             have hg5' : (wr.alloc (Obj.cells #[.int .i64 yt, .int .i64 yr, .int .i64 3, .string ykey, .string yval, .int .i64 yn] 36)).grownBy w5 (Value.ownBlock u3) := hg5
             have q5 := q0.out.grown hg5' hqne
             have hS5 := hSA.out.of_block (hg5'.block b hSA.out.lt (fun e => hSA.out.ne_own hOA.out e.symm))
             obtain ⟨f5, hM5, hv5⟩ := hS5
             have hr5 : (f5 ykey).getD (.int .i64 0) = .int .i64 Z := by rw [hv5, hZ.out]
             have hM5' := Lib.hid hM5
             have hr5' := Lib.hid hr5
             have hv5' := Lib.hid hv5
             have hO5' := Lib.hid hO5
             have hg5'' := Lib.hid hg5'
             have hbk5' := Lib.hid hbk5
             (have d0 := q5.cell 0; have d1 := q5.cell 1; have d2 := q5.cell 2; have d3 := q5.cell 3; have d4 := q5.cell 4; have d5 := q5.cell 5; simp only [List.set_cons_succ, List.set_cons_zero, List.getElem?_cons_zero, List.getElem?_cons_succ] at d0 d1 d2 d3 d4 d5)
             clear hM5 hr5 hv5 hO5 hg5 hg5' hbk5 q5)
          | (at_lookup; go_must (refine wp_lookv rfl _ _ 40 rfl hM5'.out Tryd.underlying9 Tryd.underlying40 (.int .i64 0) (by kernel_rfl) ykey hks (.int .i64 Z) hr5'.out rfl rfl ?_))
          | (at_mapUpdate; go_must (refine wp_updatev rfl _ _ _ 40 rfl hM5'.out Tryd.underlying9 Tryd.underlying40 (by omega) ykey hks (.int .i64 (Z + yn)) rfl rfl rfl ?_); intro w6 hM6 hg6))
        have hne5 := map_ne_own hM5'.out hO5'.out
        go_roundw
        case rel =>
          refine ⟨k + 1, by omega, by go_num, ?_⟩
          unfold Adds
          rw [hMl2.out, hy.out]
          refine ⟨?_, ⟨_, hM6, fun s => ?_⟩, ?_⟩
          · rw [List.length_append, List.flatMap_append]
            have := hO5'.out.kept hg6 (by
              cases ho : v5.ownBlock with
              | none => exact .inl rfl
              | some g => exact .inr fun e => hne5 (ho.trans e))
            rw [List.flatMap_singleton]
            exact this
          · rw [List.map_append, List.map_singleton, St.sumAt_snoc]
            by_cases hsk : s = ykey
            · subst hsk
              simp only [if_true, Option.getD_some]
              refine congrArg (Value.int .i64) (Eq.trans ?_ (if_pos rfl).symm)
              rw [hZ.out]; rfl
            · have h1 := hv5'.out s
              rw [← if_neg hsk (t := some (Value.int .i64 (Z + yn))) (e := f5 s)] at h1
              exact h1.trans (congrArg (Value.int .i64) (if_neg (fun e => hsk (Eq.symm e))).symm)
          · exact (honA.out.grown hg5''.out fun j hj => .inr (hOA.out.lt j hj).1).grown hg6 fun j hj => .inl (by injection hj with h; exact h.symm)
        case measure => simp [intOf]; omega
      · have hy := Lib.hid (hno hk3)
        have hO' := Lib.hid hO
        have hS' := Lib.hid hS
        have hon' := Lib.hid hon
        clear hO hS hon hyes hno hsb hna
        go_wp2
        go_roundw
        case rel =>
          refine ⟨k + 1, by omega, by go_num, ?_⟩
          unfold Adds
          rw [hMl2.out, hy.out]
          exact ⟨hO'.out.alloc _, (hS'.out.of_block (Below.heap_alloc wr _ b hS'.out.lt)).mono (by omega), hon'.out.alloc _⟩
        case measure => simp [intOf]; omega
    · obtain rfl : k = A.length := by omega
      rw [List.take_length] at hO hS
      have hM3 : ∀ x ∈ A.filter (fun y => decide (y.k = 3)), x.k = 3 := fun x hx => by simpa using (List.mem_filter.1 hx).2
      have hMr : ∀ x ∈ A.filter (fun y => decide (y.k = 3)), Right_ x := fun x hx => hAr.out x (List.mem_filter.1 hx).1
      have hlM := List.length_filter_le (fun y : WrB => decide (y.k = 3)) A
      generalize A.filter (fun y => decide (y.k = 3)) = M at *
      replace hM3 := Lib.hid hM3
      replace hMr := Lib.hid hMr
      have hbr : Below w.heap.size w wr := hbw3.trans (hon.below (fun j hj => by rw [hj]; exact hbw) hbw3.size)
      have hOf := Lib.hid (store_of u3 M wr (ListIs.of_owns hO) hMr.out (by omega))
      have hmw := hS.ne_own hO
      replace hO := Lib.hid hO
      replace hS := Lib.hid hS
      clear hon hcA hcb hS3
      go_wp2_with fail
      refine hOf.out.mono ?_
      rintro _ w5 ⟨v5, L5, rfl, hO5, hS5, hI5, hb5⟩
      have hOw5 := owns_below hO.out hb5
      have hRv := Lib.hid (rev_wr u3 M w3.heap.size w5 hOw5 (by omega))
      have hM5 := hS.out.of_block (hb5.block b hS.out.lt)
      have hwl := fun g hg => (hO.out.lt g hg).2
      have hwl1 := fun g hg => (hO.out.lt g hg).1
      have hs5 := hb5.size
      replace hO5 := Lib.hid hO5
      replace hS5 := Lib.hid hS5
      replace hI5 := Lib.hid hI5
      replace hM5 := Lib.hid hM5
      clear hOw5 hOf
      go_wp2_with fail
      refine hRv.out.mono ?_
      rintro _ w6 ⟨rfl, hO6, ho6⟩
      have hw6 : Below w.heap.size w w6 := (bch hbr hb5).trans (ho6.below (fun j hj => by have := hwl1 j hj; omega) (by omega))
      have hC6 : CelL w6 v5 L5 := celL_of (owns_only hO5.out ho6 fun g e1 e2 => by have := (hO5.out.lt g e1).1; have := hwl g e2; omega) fun x hx => owns_only (hS5.out x hx) ho6 fun g e1 e2 => by have := ((hS5.out x hx).lt g e1).1; have := hwl g e2; omega
      have hM6 := hM5.out.of_block (ho6.block b hM5.out.lt hmw)
      have hOf6 := Lib.hid (store_of u3 M.reverse w6 (ListIs.of_owns (by simpa using hO6)) (fun x hx => hMr.out x (by simpa using hx)) (by simp only [List.length_reverse]; omega))
      have hs6 := ho6.size
      clear hO5 hS5 hM5 hO6 ho6 hRv hmw
      replace hC6 := Lib.hid hC6
      replace hM6 := Lib.hid hM6
      go_wp2_with fail
      refine hOf6.out.mono ?_
      rintro _ w7 ⟨v7, L7, rfl, hO7, hS7, hI7, hb7⟩
      have hw7 := bch hw6 hb7
      have hC7 := Lib.hid (celL_of hO7 hS7)
      have hC57 := Lib.hid (hC6.out.below hb7)
      have hM7 := Lib.hid (hM6.out.of_block (hb7.block b hM6.out.lt))
      have hMr' := good_sws hMr.out
      have hM3' : ∀ x ∈ M.map WrB.sw, x.k = 3 := fun x hx => by
        obtain ⟨y, hy, rfl⟩ := List.mem_map.1 hx
        exact hM3.out y hy
      have hI7' : St.IsCells (L7.map CelB.cel) (St.at_ (M.map WrB.sw)) := hI7.congr fun s => by
        rw [List.map_reverse]; exact St.at_adds_reverse _ hM3' s
      have he : L5.map CelB.cel = L7.map CelB.cel := hI5.out.unique hI7'
      have hn := celB_le hMr.out (by omega) hI5.out
      have hall : ∀ x ∈ L5, x.cel.val.sum = St.sumAt (M.map WrB.sw) x.cel.key := fun x hx => by
        have h1 := ((hI5.out.2 x.cel).1 (List.mem_map.2 ⟨x, hx, rfl⟩)).2
        rw [St.at_adds _ hM3'] at h1
        rw [← h1]
      have hks : ∀ x ∈ L5, x.cel.key.size ≤ maxLen := fun x hx => by
        obtain ⟨h1, h2⟩ := (hI5.out.2 x.cel).1 (List.mem_map.2 ⟨x, hx, rfl⟩)
        rw [← h2] at h1
        obtain ⟨y, hy, e⟩ := St.at_mem h1
        have := (hMr' y hy).key
        rw [← e]; unfold maxLen; omega
      obtain ⟨o5, c5, rfl, -, hcL⟩ := hC57.out.1.at celCells_len
      have hsm := Lib.hid (fun W hA hB => same_cells (.slice o5 L5.length c5) v7 L5 L7 W hA hB he hn.1 hn.2)
      replace hcL := Lib.hid hcL
      replace hall := Lib.hid hall
      replace hks := Lib.hid hks
      replace he := Lib.hid he
      have hl5 := hn.1
      clear hI5 hI7 hO7 hS7 hb7 hC6 hM6 hOf6 hI7' hMr' hM3' hn hO hS hwl hwl1 hb5
      go_wp2
      go_loopw [52] (fun i wr' => ∃ k : Nat, k ≤ L5.length ∧ i = .int .i64 k ∧ Below w7.heap.size w7 wr') (fun i _ => L5.length - (intOf i).toNat)
      case atStart => exact ⟨0, by omega, rfl, Below.refl _ _⟩
      case round =>
        obtain ⟨k, hk, rfl, hb⟩ := hrel
        by_cases hlt : k < L5.length
        · obtain ⟨b1, f1, rfl, hb1, hc1⟩ := hcL.out k hlt
          have hb1 := hb1 (by omega)
          have g1 : ∀ (j : Nat) (u : Value), (celCells L5[k])[j]? = some u → wr.cell? ⟨b1, f1 + k * 5 + j, none⟩ = some u := fun j u hu => (hb.cell (p := ⟨b1, f1 + k * 5 + j, none⟩) hb1).trans (hc1 j u hu)
          have hsum := hall.out _ (List.getElem_mem hlt)
          have hkx := hks.out _ (List.getElem_mem hlt)
          obtain ⟨fm, hM, hvm⟩ := hM7.out.of_block (hb.block b hM7.out.lt)
          generalize L5[k] = x at *
          obtain ⟨⟨xk, xh, xt, xs, xl⟩, xa, xn, xc⟩ := x
          (try simp only at hsum hkx)
          have c0 : wr.cell? ⟨b1, f1 + k * 5, none⟩ = _ := g1 0 _ rfl
          have c1 := g1 1 _ rfl
          have c2 := g1 2 _ rfl
          have c3 := g1 3 _ rfl
          have c4 := g1 4 _ rfl
          (try simp only at c0 c1 c2 c3 c4)
          have hv := hvm xk
          have hb1w : b1 < wr.heap.size := Nat.lt_of_lt_of_le hb1 hb.size
          rw [← hsum] at hv
          have hM' := Lib.hid hM
          have hv' := Lib.hid hv
          have hbw7 := Lib.hid hb
          clear g1 hc1 hsum hM hvm hv
          go_wp2_with (first | (at_lookup; go_must (refine wp_lookv rfl _ _ 40 rfl ((hM'.out.of_block ?_)) Tryd.underlying9 Tryd.underlying40 (.int .i64 0) (by kernel_rfl) xk hkx (.int .i64 xs) hv'.out rfl rfl ?_); (focus (first | rfl | exact Below.heap_alloc _ _ _ hM'.out.lt))))
          go_roundw
          case rel => exact ⟨k + 1, by omega, by go_num, by (repeat (first | exact Below.refl _ _ | assumption | refine bal ?_ _ | refine bdr ?_ | refine bdn ?_ _ | refine bst ?_ (by first | assumption | exact Nat.le_refl _ | omega) _ | refine bch ?_ (by assumption)))⟩
          case measure => simp [intOf]; omega
        · obtain rfl : k = L5.length := by omega
          have hwr := bch hw7 hb
          have hs8 := Lib.hid (hsm.out wr (hC57.out.below hb) (hC7.out.below hb))
          clear hsm hb
          go_wp2_with fail
          refine hs8.out.mono ?_
          rintro _ w8 ⟨rfl, hb8⟩
          go_wp2
          go_ret
          exact ⟨rfl, bch hwr hb8⟩
end Go.Proofs.YtpmedolndkidcaaDoor
