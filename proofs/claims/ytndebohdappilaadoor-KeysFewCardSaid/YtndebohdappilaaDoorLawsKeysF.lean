/- The walk of KeysFew. -/
import Derived.Test.YtndebohdappilaaDoorWHasS
import Derived.Test.YtndebohdappilaaDoorHeld
namespace Go.Proofs.YtndebohdappilaaDoor
open Go.RowKit
set_option linter.unusedVariables false
set_option linter.unusedSimpArgs false
theorem few_nodup {T : List ByteArray} (h : T.Nodup) (k : Nat) (hk : k < T.length) : T[k] ∉ T.take k := fun hm => by
  obtain ⟨i, hi, he⟩ := List.getElem_of_mem hm
  rw [List.length_take] at hi
  rw [List.getElem_take] at he
  have := Keys.nodup_inj h (by omega) hk he
  omega
/-- What the last region reads. -/
def FewS (B : World) (g : Nat) (tv : Value) (W : World) : Prop := W.cell? ⟨g, 0, none⟩ = some tv ∧ Below B.heap.size B W ∧ True
theorem FewS.next {B : World} {g : Nat} {tv : Value} {W W' : World} (h : FewS B g tv W) (hb : Below W.heap.size W W') : FewS B g tv W' := ⟨cell_below hb h.1, bch h.2.1 hb, trivial⟩
set_option maxHeartbeats 8000000 in
set_option maxRecDepth 20000 in
theorem KeysFew_walk (v0 : Value) (l : List ByteArray) (v1 : Value) (more : List ByteArray) (w : World) (L0 : StrsIs w v0 l) (q0 : ∀ x ∈ l, x.size ≤ 140737488351232) (z0 : l.length ≤ 140737488351232) (L1 : StrsIs w v1 more) (q1 : ∀ x ∈ more, x.size ≤ 140737488351232) (z1 : more.length ≤ 140737488351232) (hL : Laid w) :
    Calls Tryd.prog 6 #[v0, v1] w fun e w' => e = .returned (.bool true) ∧ Below w.heap.size w w' := by
  have hK := keys_tabled w hL
  replace hK := Lib.hid hK
  obtain ⟨o, c, rfl, hcap, -⟩ := L0.at strCells_len
  clear hcap
  obtain ⟨o1, c1, rfl, hcap, -⟩ := L1.at strCells_len
  clear hcap
  replace L0 := Lib.hid L0
  replace L1 := Lib.hid L1
  by_cases h100 : 100 < l.length + more.length
  · replace q0 := Lib.hid q0
    replace q1 := Lib.hid q1
    go_enter Tryd.func6, Tryd.ntmps6
    go_wp2_with fail
    refine hK.out.mono ?_
    rintro e w2 ⟨rfl, hb0⟩
    go_wp2
    go_ret
    exact ⟨rfl, hb0⟩
  · have qm : ∀ x ∈ l ++ more, x.size ≤ 140737488351232 := fun x hx => by
      rcases List.mem_append.1 hx with h | h
      · exact q0 x h
      · exact q1 x h
    have hTab := Lib.hid (fun v W hW => keys_table v l W hW q0 (by omega))
    have hTab2 := Lib.hid (fun v W hW => keys_table v (l ++ more) W hW qm (by rw [List.length_append]; omega))
    have hCon := Lib.hid (fun v W hW => concat_str v [.slice o l.length c, .slice o1 more.length c1] [l, more] W hW (by simp) (by simp; omega))
    have hnd := Lib.hid (few_nodup (Keys.is_table l).nodup)
    have hmem := Lib.hid (Keys.mem_table l)
    have hTl := Keys.table_len l
    obtain ⟨r, hpre⟩ := Keys.table_pre l more
    have hA2 : (Keys.ints (Keys.table (l ++ more)).2).length = l.length + more.length := by unfold Keys.ints; rw [List.length_map, (Keys.is_table (l ++ more)).len, List.length_append]
    have hT2l : (Keys.table (l ++ more)).1.length ≤ l.length + more.length := by
      have := Keys.table_len (l ++ more)
      rwa [List.length_append] at this
    generalize hT : (Keys.table l).1 = T at *
    generalize hT2 : (Keys.table (l ++ more)).1 = T2 at *
    generalize hA3 : Keys.ints (Keys.table (l ++ more)).2 = A2 at *
    generalize hA1 : Keys.ints (Keys.table l).2 = A1 at *
    clear hT hT2 hA3 hA1
    replace q0 := Lib.hid q0
    replace q1 := Lib.hid q1
    replace qm := Lib.hid qm
    have hle : T.length ≤ T2.length := by rw [hpre, List.length_append]; omega
    have htk : T2.take T.length = T := by rw [hpre]; exact List.take_left
    replace hpre := Lib.hid hpre
    replace htk := Lib.hid htk
    replace hA2 := Lib.hid hA2
    go_enter Tryd.func6, Tryd.ntmps6
    go_wp2_with fail
    refine hK.out.mono ?_
    rintro e w2 ⟨rfl, hb0⟩
    go_wp2_with fail
    refine (hTab.out _ _ (L0.out.below (by omega) hb0)).mono ?_
    rintro e w3 ⟨⟨t, a, rfl, ht, -⟩, hb3⟩
    have hB3 := bch hb0 hb3
    clear hb0 hb3
    obtain ⟨ot, ct, rfl, hcapt, hcellt⟩ := ht.at strCells_len
    have hct : T.length ≤ ct ∨ T.length = 0 := by
      rcases Nat.eq_zero_or_pos T.length with h | h
      · exact .inr h
      · exact .inl (hcapt h).1
    clear hcapt
    replace ht := Lib.hid ht
    replace hcellt := Lib.hid hcellt
    go_wp2_with fail
    have hpar : Parts_str ((w3.alloc (.cells #[.slice ot T.length ct] 22)).alloc (.cells #[.slice o l.length c, .slice o1 more.length c1] 22)) (.slice (some ⟨w3.heap.size + 1, 0, none⟩) 2 2) [.slice o l.length c, .slice o1 more.length c1] [l, more] := by
      have hb : Below w.heap.size w ((w3.alloc (.cells #[.slice ot T.length ct] 22)).alloc (.cells #[.slice o l.length c, .slice o1 more.length c1] 22)) := bal (bal hB3 _) _
      refine ⟨?_, rfl, fun k h h2 => ?_⟩
      · have h := ListIs.of_alloc (f := fun u : Value => [u]) (sz := 1) (w3.alloc (.cells #[.slice ot T.length ct] 22)) 22 [.slice o l.length c, .slice o1 more.length c1] #[.slice o l.length c, .slice o1 more.length c1] rfl (fun _ => rfl) (show 2 ≤ maxLen by decide) 2 rfl
        rw [show (w3.alloc (.cells #[.slice ot T.length ct] 22)).heap.size = w3.heap.size + 1 from by first | rfl | simp] at h
        exact h
      · match k, h, h2 with
        | 0, _, _ => exact L0.out.below (by omega) hb
        | 1, _, _ => exact L1.out.below (by omega) hb
        | k + 2, h, _ => exact absurd (show k + 2 < 2 from h) (by omega)
    have hbox : ((w3.alloc (.cells #[.slice ot T.length ct] 22)).alloc (.cells #[.slice o l.length c, .slice o1 more.length c1] 22)).cell? ⟨w3.heap.size, 0, none⟩ = some (.slice ot T.length ct) := cell_alloc (World.cell?_alloc_at _ _ _ _ rfl) _
    have hB4 : Below w3.heap.size w3 ((w3.alloc (.cells #[.slice ot T.length ct] 22)).alloc (.cells #[.slice o l.length c, .slice o1 more.length c1] 22)) := bal (bal (Below.refl _ _) _) _
    refine (hCon.out _ _ hpar).mono ?_
    rintro e w5 ⟨⟨u, rfl, hu⟩, hb5⟩
    have hB5 := bch hB4 hb5
    have hbox5 := Lib.hid (cell_below hb5 hbox)
    rw [show [l, more].flatten = l ++ more by simp] at hu
    replace hu := Lib.hid hu
    clear hpar hbox hB4 hb5
    go_wp2_with fail
    refine (hTab2.out _ _ hu.out).mono ?_
    rintro e w6 ⟨⟨t2, a2, rfl, ht2, ha2⟩, hb6⟩
    have hB6 := bch hB5 hb6
    have hbox6 := Lib.hid (cell_below hb6 hbox5.out)
    obtain ⟨ot2, ct2, rfl, hcapt, -⟩ := ht2.at strCells_len
    obtain ⟨oa2, ca2, rfl, -, -⟩ := ha2.at intCells_len
    have hct2 : T.length ≤ ct2 := by
      rcases Nat.eq_zero_or_pos T2.length with h | h
      · omega
      · have := (hcapt h).1; omega
    clear hcapt ha2 hbox5 hB5 hb6
    have ht2' := ListIs.take ht2 strCells_len T.length hle
    rw [htk.out] at ht2'
    have ht6 := Lib.hid (ht.out.below (by omega) hB6)
    have L6 := Lib.hid (L0.out.below (by omega) (bch hB3 hB6))
    have hcell6 := Lib.hid (show ∀ (k : Nat) (hk : k < T.length), ∃ b off, ot = some ⟨b, off, none⟩ ∧ b < w3.heap.size ∧ w6.cell? ⟨b, off + k, none⟩ = some (.string T[k]) from fun k hk => by
      obtain ⟨b1, f1, rfl, hb1, hc1⟩ := hcellt.out k hk
      have hb1 := hb1 (by omega)
      exact ⟨b1, f1, rfl, hb1, (hB6.cell (p := ⟨b1, f1 + k, none⟩) hb1).trans (by have := hc1 0 _ rfl; simpa using this)⟩)
    replace ht2' := Lib.hid ht2'
    have hz6 := hB6.size
    have hB7 := bch hB3 hB6
    rw [hA2.out]
    have hbx6 := hbox6.out
    have hgl6 := World.block_lt_of_cell? _ _ hbx6
    generalize hgb : w3.heap.size = g at *
    clear hcellt ht ht2 hu hB3 hB6
    go_wp2
    go_loopw [34] (fun i wr => ∃ k : Nat, k ≤ T.length ∧ i = .int .i64 k ∧ Below w6.heap.size w6 wr) (fun i _ => T.length - (intOf i).toNat)
    case atStart => exact ⟨0, by omega, rfl, by (repeat (first | exact Below.refl _ _ | assumption | refine bal ?_ _ | refine bdr ?_ | refine bdn ?_ _ | refine bst ?_ (by first | assumption | exact Nat.le_refl _ | omega) _ | refine bch ?_ (by assumption)))⟩
    case round =>
      obtain ⟨k, hk, rfl, hbel⟩ := hrel
      have hbx := cell_below hbel hbx6
      by_cases hlt : k < T.length
      · obtain ⟨b1, f1, rfl, hb1, hc1⟩ := hcell6.out k hlt
        have c0 : wr.cell? ⟨b1, f1 + k, none⟩ = some (.string T[k]) := cell_below hbel hc1
        clear hc1
        have hn := memB_no (hnd.out k hlt)
        have hy := memB_yes ((hmem.out T[k]).1 (List.getElem_mem hlt))
        have htk1 := (ht6.out.below (by omega) hbel).take strCells_len k hk
        have hH1 := fun W (hW : Below wr.heap.size wr W) => has_str _ (T.take k) T[k] W (htk1.below (by omega) hW) (by rw [List.length_take]; omega)
        have hH2 := fun W (hW : Below wr.heap.size wr W) => has_str _ l T[k] W ((L6.out.below (by omega) hbel).below (by omega) hW) (by omega)
        rw [hn] at hH1
        rw [hy] at hH2
        generalize T[k] = x at *
        have hkc : k ≤ ct := by omega
        replace hH1 := Lib.hid hH1
        replace hH2 := Lib.hid hH2
        clear hn hy htk1 hbx6
        go_wp2_with fail
        refine (hH1.out _ (by (repeat (first | exact Below.refl _ _ | assumption | refine bal ?_ _ | refine bdr ?_ | refine bdn ?_ _ | refine bst ?_ (by first | assumption | exact Nat.le_refl _ | omega) _ | refine bch ?_ (by assumption))))).mono ?_
        rintro e w7 ⟨rfl, hb7⟩
        go_wp2_with fail
        refine (hH2.out _ (by (repeat (first | exact Below.refl _ _ | assumption | refine bal ?_ _ | refine bdr ?_ | refine bdn ?_ _ | refine bst ?_ (by first | assumption | exact Nat.le_refl _ | omega) _ | refine bch ?_ (by assumption))))).mono ?_
        rintro e w8 ⟨rfl, hb8⟩
        go_wp2
        go_roundw
        case rel => exact ⟨k + 1, by omega, by go_num, by (repeat (first | exact Below.refl _ _ | assumption | refine bal ?_ _ | refine bdr ?_ | refine bdn ?_ _ | refine bst ?_ (by first | assumption | exact Nat.le_refl _ | omega) _ | refine bch ?_ (by assumption)))⟩
        case measure => simp [intOf]; omega
      · obtain rfl : k = T.length := by omega
        have hNo := Lib.hid (fun W (hW : Below wr.heap.size wr W) (hW2 : W.cell? ⟨g, 0, none⟩ = some (.slice ot T.length ct)) => none_not _ l g _ T W ((L6.out.below (by omega) hbel).below (by omega) hW) (by omega) hW2 ((ht6.out.below (by omega) hbel).below (by omega) hW) (by omega) (fun x hx => (hmem.out x).2 hx))
        have hEq := fun W (hW : Below wr.heap.size wr W) => eq_strs _ _ T T W ((ht2'.out.below (by omega) hbel).below (by omega) hW) ((ht6.out.below (by omega) hbel).below (by omega) hW) (by omega) (by omega)
        rw [decide_eq_true rfl] at hEq
        replace hEq := Lib.hid hEq
        have hd1 : decide ((T.length : Int) ≤ (T2.length : Int)) = true := by simp; omega
        have hwl : IntKind.i64.wrap ((l.length : Int) + (more.length : Int)) = ((l.length + more.length : Nat) : Int) := by rw [IntKind.wrap_i64]; omega
        have hq9 : (((l.length + more.length : Nat) : Int) == ((l.length + more.length : Nat) : Int)) = true := by simp
        have hct2i : (T.length : Int) ≤ (ct2 : Int) := by omega
        go_wp2_with fail
        have hS0 : FewS wr g (.slice ot T.length ct) wr.drew := ⟨hbx, (Below.refl _ _).drew, trivial⟩
        (refine wp_region_held_drew (S := FewS wr g (.slice ot T.length ct)) (by kernel_rfl) ?_ (fun hHeld => ?_); ((try dsimp only); exact hS0))
        (refine held_take (i := 0) (v := ?_) rfl (by kernel_rfl) (by kernel_rfl) (by kernel_rfl) (fun _ _ _ h => h) (by kernel_rfl) (by assumption) ?_ ?_; rotate_left; (focus (intro w hSw; (obtain ⟨hSw1, hSw2, hSw3⟩ := hSw); (try dsimp only at hSw1 hSw2); go_simp; (try with_reducible rfl); done)); (simp only [Act.put, List.setIfInBounds_toArray, List.set_cons_zero, List.set_cons_succ]); refine held_take (i := 1) (v := ?_) rfl (by kernel_rfl) (by kernel_rfl) (by kernel_rfl) (fun _ _ _ h => h) (by kernel_rfl) (by assumption) ?_ ?_; rotate_left; (focus (intro w hSw; (obtain ⟨hSw1, hSw2, hSw3⟩ := hSw); (try dsimp only at hSw1 hSw2); go_simp; (try with_reducible rfl); done)); (simp only [Act.put, List.setIfInBounds_toArray, List.set_cons_zero, List.set_cons_succ]))
        (refine wpAnyH_ready (P := Tryd.prog) (md := .any) (rs := [2]) (by kernel_rfl) (by simp) ?_; refine held_cons rfl (by kernel_rfl) (fun K hK => ?_) AllReadyH.nil; ((go_simp; refine (hNo.out _ hHeld.2.1 hHeld.1).mono ?_; rintro _ wn ⟨rfl, hbn⟩); refine hK.out _ _ ?_ (fun hHeld => ?_); ((try dsimp only); exact hHeld.next hbn); clear hK K; (try clear hHeld0); (try rename_i hHeld0)))
        (refine held_take (i := 3) (v := ?_) rfl (by kernel_rfl) (by kernel_rfl) (by kernel_rfl) (fun _ _ _ h => h) (by kernel_rfl) (by assumption) ?_ ?_; rotate_left; (focus (intro w hSw; (obtain ⟨hSw1, hSw2, hSw3⟩ := hSw); (try dsimp only at hSw1 hSw2); go_simp; (try with_reducible rfl); done)); (simp only [Act.put, List.setIfInBounds_toArray, List.set_cons_zero, List.set_cons_succ]); refine held_take (i := 4) (v := ?_) rfl (by kernel_rfl) (by kernel_rfl) (by kernel_rfl) (fun _ _ _ h => h) (by kernel_rfl) (by assumption) ?_ ?_; rotate_left; (focus (intro w hSw; (obtain ⟨hSw1, hSw2, hSw3⟩ := hSw); (try dsimp only at hSw1 hSw2); go_simp; (try with_reducible rfl); done)); (simp only [Act.put, List.setIfInBounds_toArray, List.set_cons_zero, List.set_cons_succ]); refine held_take (i := 5) (v := ?_) rfl (by kernel_rfl) (by kernel_rfl) (by kernel_rfl) (fun _ _ _ h => h) (by kernel_rfl) (by assumption) ?_ ?_; rotate_left; (focus (intro w hSw; (obtain ⟨hSw1, hSw2, hSw3⟩ := hSw); (try dsimp only at hSw1 hSw2); go_simp; (try with_reducible rfl); done)); (simp only [Act.put, List.setIfInBounds_toArray, List.set_cons_zero, List.set_cons_succ]); refine held_take (i := 6) (v := ?_) rfl (by kernel_rfl) (by kernel_rfl) (by kernel_rfl) (fun _ _ _ h => h) (by kernel_rfl) (by assumption) ?_ ?_; rotate_left; (focus (intro w hSw; (obtain ⟨hSw1, hSw2, hSw3⟩ := hSw); (try dsimp only at hSw1 hSw2); go_simp; (try with_reducible rfl); done)); (simp only [Act.put, List.setIfInBounds_toArray, List.set_cons_zero, List.set_cons_succ]); refine held_take (i := 7) (v := ?_) rfl (by kernel_rfl) (by kernel_rfl) (by kernel_rfl) (fun _ _ _ h => h) (by kernel_rfl) (by assumption) ?_ ?_; rotate_left; (focus (intro w hSw; (obtain ⟨hSw1, hSw2, hSw3⟩ := hSw); (try dsimp only at hSw1 hSw2); go_simp; (try with_reducible rfl); done)); (simp only [Act.put, List.setIfInBounds_toArray, List.set_cons_zero, List.set_cons_succ]); refine held_take (i := 8) (v := ?_) rfl (by kernel_rfl) (by kernel_rfl) (by kernel_rfl) (fun _ _ _ h => h) (by kernel_rfl) (by assumption) ?_ ?_; rotate_left; (focus (intro w hSw; (obtain ⟨hSw1, hSw2, hSw3⟩ := hSw); (try dsimp only at hSw1 hSw2); go_simp; (try with_reducible rfl); done)); (simp only [Act.put, List.setIfInBounds_toArray, List.set_cons_zero, List.set_cons_succ]); refine held_take (i := 9) (v := ?_) rfl (by kernel_rfl) (by kernel_rfl) (by kernel_rfl) (fun _ _ _ h => h) (by kernel_rfl) (by assumption) ?_ ?_; rotate_left; (focus (intro w hSw; (obtain ⟨hSw1, hSw2, hSw3⟩ := hSw); (try dsimp only at hSw1 hSw2); go_simp; (try with_reducible rfl); done)); (simp only [Act.put, List.setIfInBounds_toArray, List.set_cons_zero, List.set_cons_succ]); refine held_take (i := 10) (v := ?_) rfl (by kernel_rfl) (by kernel_rfl) (by kernel_rfl) (fun _ _ _ h => h) (by kernel_rfl) (by assumption) ?_ ?_; rotate_left; (focus (intro w hSw; (obtain ⟨hSw1, hSw2, hSw3⟩ := hSw); (try dsimp only at hSw1 hSw2); go_simp; (try with_reducible rfl); done)); (simp only [Act.put, List.setIfInBounds_toArray, List.set_cons_zero, List.set_cons_succ]); refine held_take (i := 11) (v := ?_) rfl (by kernel_rfl) (by kernel_rfl) (by kernel_rfl) (fun _ _ _ h => h) (by kernel_rfl) (by assumption) ?_ ?_; rotate_left; (focus (intro w hSw; (obtain ⟨hSw1, hSw2, hSw3⟩ := hSw); (try dsimp only at hSw1 hSw2); go_simp; (try with_reducible rfl); done)); (simp only [Act.put, List.setIfInBounds_toArray, List.set_cons_zero, List.set_cons_succ]); refine held_take (i := 12) (v := ?_) rfl (by kernel_rfl) (by kernel_rfl) (by kernel_rfl) (fun _ _ _ h => h) (by kernel_rfl) (by assumption) ?_ ?_; rotate_left; (focus (intro w hSw; (obtain ⟨hSw1, hSw2, hSw3⟩ := hSw); (try dsimp only at hSw1 hSw2); go_simp; (try with_reducible rfl); done)); (simp only [Act.put, List.setIfInBounds_toArray, List.set_cons_zero, List.set_cons_succ]); refine held_take (i := 13) (v := ?_) rfl (by kernel_rfl) (by kernel_rfl) (by kernel_rfl) (fun _ _ _ h => h) (by kernel_rfl) (by assumption) ?_ ?_; rotate_left; (focus (intro w hSw; (obtain ⟨hSw1, hSw2, hSw3⟩ := hSw); (try dsimp only at hSw1 hSw2); go_simp; (try with_reducible rfl); done)); (simp only [Act.put, List.setIfInBounds_toArray, List.set_cons_zero, List.set_cons_succ]); refine held_take (i := 14) (v := ?_) rfl (by kernel_rfl) (by kernel_rfl) (by kernel_rfl) (fun _ _ _ h => h) (by kernel_rfl) (by assumption) ?_ ?_; rotate_left; (focus (intro w hSw; (obtain ⟨hSw1, hSw2, hSw3⟩ := hSw); (try dsimp only at hSw1 hSw2); go_simp; (try with_reducible rfl); done)); (simp only [Act.put, List.setIfInBounds_toArray, List.set_cons_zero, List.set_cons_succ]); refine held_take (i := 15) (v := ?_) rfl (by kernel_rfl) (by kernel_rfl) (by kernel_rfl) (fun _ _ _ h => h) (by kernel_rfl) (by assumption) ?_ ?_; rotate_left; (focus (intro w hSw; (obtain ⟨hSw1, hSw2, hSw3⟩ := hSw); (try dsimp only at hSw1 hSw2); go_simp; (try with_reducible rfl); done)); (simp only [Act.put, List.setIfInBounds_toArray, List.set_cons_zero, List.set_cons_succ]); refine held_take (i := 16) (v := ?_) rfl (by kernel_rfl) (by kernel_rfl) (by kernel_rfl) (fun _ _ _ h => h) (by kernel_rfl) (by assumption) ?_ ?_; rotate_left; (focus (intro w hSw; (obtain ⟨hSw1, hSw2, hSw3⟩ := hSw); (try dsimp only at hSw1 hSw2); go_simp; (try with_reducible rfl); done)); (simp only [Act.put, List.setIfInBounds_toArray, List.set_cons_zero, List.set_cons_succ]))
        (refine wpAnyH_ready (P := Tryd.prog) (md := .any) (rs := [17]) (by kernel_rfl) (by simp) ?_; refine held_cons rfl (by kernel_rfl) (fun K hK => ?_) AllReadyH.nil; ((go_simp; refine (hEq.out _ hHeld.2.1).mono ?_; rintro _ wn ⟨rfl, hbn⟩); refine hK.out _ _ ?_ (fun hHeld => ?_); ((try dsimp only); exact hHeld.next hbn); clear hK K; (try clear hHeld0); (try rename_i hHeld0)))
        (refine held_take (i := 18) (v := ?_) rfl (by kernel_rfl) (by kernel_rfl) (by kernel_rfl) (fun _ _ _ h => h) (by kernel_rfl) (by assumption) ?_ ?_; rotate_left; (focus (intro w hSw; (obtain ⟨hSw1, hSw2, hSw3⟩ := hSw); (try dsimp only at hSw1 hSw2); go_simp; (try with_reducible rfl); done)); (simp only [Act.put, List.setIfInBounds_toArray, List.set_cons_zero, List.set_cons_succ]); refine held_take (i := 19) (v := ?_) rfl (by kernel_rfl) (by kernel_rfl) (by kernel_rfl) (fun _ _ _ h => h) (by kernel_rfl) (by assumption) ?_ ?_; rotate_left; (focus (intro w hSw; (obtain ⟨hSw1, hSw2, hSw3⟩ := hSw); (try dsimp only at hSw1 hSw2); go_simp; (try with_reducible rfl); done)); (simp only [Act.put, List.setIfInBounds_toArray, List.set_cons_zero, List.set_cons_succ]); refine held_take (i := 20) (v := ?_) rfl (by kernel_rfl) (by kernel_rfl) (by kernel_rfl) (fun _ _ _ h => h) (by kernel_rfl) (by assumption) ?_ ?_; rotate_left; (focus (intro w hSw; (obtain ⟨hSw1, hSw2, hSw3⟩ := hSw); (try dsimp only at hSw1 hSw2); go_simp; (try with_reducible rfl); done)); (simp only [Act.put, List.setIfInBounds_toArray, List.set_cons_zero, List.set_cons_succ]); refine held_take (i := 21) (v := ?_) rfl (by kernel_rfl) (by kernel_rfl) (by kernel_rfl) (fun _ _ _ h => h) (by kernel_rfl) (by assumption) ?_ ?_; rotate_left; (focus (intro w hSw; (obtain ⟨hSw1, hSw2, hSw3⟩ := hSw); (try dsimp only at hSw1 hSw2); go_simp; (try with_reducible rfl); done)); (simp only [Act.put, List.setIfInBounds_toArray, List.set_cons_zero, List.set_cons_succ]); refine held_take (i := 22) (v := ?_) rfl (by kernel_rfl) (by kernel_rfl) (by kernel_rfl) (fun _ _ _ h => h) (by kernel_rfl) (by assumption) ?_ ?_; rotate_left; (focus (intro w hSw; (obtain ⟨hSw1, hSw2, hSw3⟩ := hSw); (try dsimp only at hSw1 hSw2); go_simp; (try with_reducible rfl); done)); (simp only [Act.put, List.setIfInBounds_toArray, List.set_cons_zero, List.set_cons_succ]); refine held_take (i := 23) (v := ?_) rfl (by kernel_rfl) (by kernel_rfl) (by kernel_rfl) (fun _ _ _ h => h) (by kernel_rfl) (by assumption) ?_ ?_; rotate_left; (focus (intro w hSw; (obtain ⟨hSw1, hSw2, hSw3⟩ := hSw); (try dsimp only at hSw1 hSw2); go_simp; (try with_reducible rfl); done)); (simp only [Act.put, List.setIfInBounds_toArray, List.set_cons_zero, List.set_cons_succ]); refine held_take (i := 24) (v := ?_) rfl (by kernel_rfl) (by kernel_rfl) (by kernel_rfl) (fun _ _ _ h => h) (by kernel_rfl) (by assumption) ?_ ?_; rotate_left; (focus (intro w hSw; (obtain ⟨hSw1, hSw2, hSw3⟩ := hSw); (try dsimp only at hSw1 hSw2); go_simp; (try with_reducible rfl); done)); (simp only [Act.put, List.setIfInBounds_toArray, List.set_cons_zero, List.set_cons_succ]); refine held_take (i := 25) (v := ?_) rfl (by kernel_rfl) (by kernel_rfl) (by kernel_rfl) (fun _ _ _ h => h) (by kernel_rfl) (by assumption) ?_ ?_; rotate_left; (focus (intro w hSw; (obtain ⟨hSw1, hSw2, hSw3⟩ := hSw); (try dsimp only at hSw1 hSw2); go_simp; (try with_reducible rfl); done)); (simp only [Act.put, List.setIfInBounds_toArray, List.set_cons_zero, List.set_cons_succ]); refine held_take (i := 26) (v := ?_) rfl (by kernel_rfl) (by kernel_rfl) (by kernel_rfl) (fun _ _ _ h => h) (by kernel_rfl) (by assumption) ?_ ?_; rotate_left; (focus (intro w hSw; (obtain ⟨hSw1, hSw2, hSw3⟩ := hSw); (try dsimp only at hSw1 hSw2); go_simp; (try with_reducible rfl); done)); (simp only [Act.put, List.setIfInBounds_toArray, List.set_cons_zero, List.set_cons_succ]); refine held_take (i := 27) (v := ?_) rfl (by kernel_rfl) (by kernel_rfl) (by kernel_rfl) (fun _ _ _ h => h) (by kernel_rfl) (by assumption) ?_ ?_; rotate_left; (focus (intro w hSw; (obtain ⟨hSw1, hSw2, hSw3⟩ := hSw); (try dsimp only at hSw1 hSw2); go_simp; (try with_reducible rfl); done)); (simp only [Act.put, List.setIfInBounds_toArray, List.set_cons_zero, List.set_cons_succ]); refine held_take (i := 28) (v := ?_) rfl (by kernel_rfl) (by kernel_rfl) (by kernel_rfl) (fun _ _ _ h => h) (by kernel_rfl) (by assumption) ?_ ?_; rotate_left; (focus (intro w hSw; (obtain ⟨hSw1, hSw2, hSw3⟩ := hSw); (try dsimp only at hSw1 hSw2); go_simp; (try with_reducible rfl); done)); (simp only [Act.put, List.setIfInBounds_toArray, List.set_cons_zero, List.set_cons_succ]); refine held_take (i := 29) (v := ?_) rfl (by kernel_rfl) (by kernel_rfl) (by kernel_rfl) (fun _ _ _ h => h) (by kernel_rfl) (by assumption) ?_ ?_; rotate_left; (focus (intro w hSw; (obtain ⟨hSw1, hSw2, hSw3⟩ := hSw); (try dsimp only at hSw1 hSw2); go_simp; (try with_reducible rfl); done)); (simp only [Act.put, List.setIfInBounds_toArray, List.set_cons_zero, List.set_cons_succ]))
        (refine wpAnyH_done (by kernel_rfl) ?_ _)
        go_wp2
        go_ret
        exact ⟨rfl, by first | exact bch (bch hB7 hbel) hHeld.2.1 | exact bch (bch hB7 hbel) hHeld0.2.1⟩
end Go.Proofs.YtndebohdappilaaDoor
