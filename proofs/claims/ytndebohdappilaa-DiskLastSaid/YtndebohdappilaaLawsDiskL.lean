/- The walk of DiskLast. -/
import Derived.Test.YtndebohdappilaaLawsDisk
namespace Go.Proofs.Ytndebohdappilaa
open Go.RowKit
set_option linter.unusedVariables false
set_option linter.unusedSimpArgs false
/-- What the sectors were written last. -/
def wantStep (W : List ByteArray) (x : Dab) : List ByteArray := if x.y = false ∧ x.s.size ≤ 32 then W.set (pickN x.at_ 8) x.s else W
def wants (l : List Dab) : List ByteArray := l.foldl wantStep (List.replicate 8 ⟨#[]⟩)
theorem wants_take (l : List Dab) (k : Nat) (h : k < l.length) : wants (l.take (k + 1)) = wantStep (wants (l.take k)) l[k] := by
  unfold wants
  rw [List.take_succ_eq_append_getElem h, List.foldl_append]; rfl
theorem wants_len (l : List Dab) : (wants l).length = 8 := by
  have key : ∀ (l : List Dab) (W : List ByteArray), (l.foldl wantStep W).length = W.length := by
    intro l
    induction l with
    | nil => intro W; rfl
    | cons x l ih =>
      intro W
      rw [List.foldl_cons, ih]
      unfold wantStep
      split
      · exact List.length_set
      · rfl
  rw [wants, key]; simp
theorem spun_safe (l : List Dab) (st : Disk.St ByteArray) : (l.foldl dab st).safe.length = st.safe.length := by
  induction l generalizing st with
  | nil => rfl
  | cons x l ih =>
    rw [List.foldl_cons, ih]
    unfold dab
    split
    · exact Disk.crash_len _ _
    · split <;> rfl
theorem wants_view (l : List Dab) (i : Nat) (x : ByteArray) (h : (wants l)[i]? = some x) : (spunSt l).view i = some (padB x) ∧ x.size ≤ 32 := by
  have key : ∀ (l : List Dab) (W : List ByteArray) (st : Disk.St ByteArray), W.length = 8 → st.safe.length = 8 → (∀ i x, W[i]? = some x → st.view i = some (padB x) ∧ x.size ≤ 32) → ∀ i x, (l.foldl wantStep W)[i]? = some x → (l.foldl dab st).view i = some (padB x) ∧ x.size ≤ 32 := by
    intro l
    induction l with
    | nil => intro W st _ _ h; exact h
    | cons y l ih =>
      intro W st hW hs h
      rw [List.foldl_cons, List.foldl_cons]
      refine ih _ _ ?_ ?_ ?_
      · unfold wantStep
        split
        · rw [List.length_set]; exact hW
        · exact hW
      · unfold dab
        split
        · exact (Disk.crash_len _ _).trans hs
        · split
          · exact hs
          · exact hs
      · intro i x hx
        unfold wantStep at hx
        unfold dab
        by_cases hy : y.y = true
        · rw [if_neg (by simp [hy])] at hx
          rw [if_pos hy, Disk.view_sync]
          exact h i x hx
        · have hy : y.y = false := by simpa using hy
          by_cases h32 : y.s.size ≤ 32
          · rw [if_pos ⟨hy, h32⟩] at hx
            rw [if_neg (by simp [hy]), if_pos h32, Disk.view_write]
            have hp := pickN_lt y.at_ 8 (by omega)
            by_cases hi : i = pickN y.at_ 8
            · subst hi
              rw [List.getElem?_set_self (by omega)] at hx
              injection hx with hx
              subst hx
              rw [if_pos ⟨rfl, by omega⟩]
              exact ⟨rfl, h32⟩
            · rw [List.getElem?_set_ne (fun e => hi e.symm)] at hx
              rw [if_neg (fun e => hi e.1)]
              exact h i x hx
          · rw [if_neg (fun e => h32 e.2)] at hx
            rw [if_neg (by simp [hy]), if_neg h32]
            exact h i x hx
  refine key l _ _ (by simp) (by simp) ?_ i x h
  intro i x hx
  rw [List.getElem?_replicate] at hx
  split at hx
  · rename_i hi
    injection hx with hx
    subst hx
    refine ⟨?_, by decide⟩
    unfold Disk.St.view
    rw [if_pos (by simpa using hi)]
    show (List.replicate 8 (padB ⟨#[]⟩))[i]? = some _
    rw [List.getElem?_replicate, if_pos hi]
  · cases hx
/-- What the last test reads. -/
def TwoS (p q : Addr) (x y : ByteArray) (W : World) : Prop := W.cell? p = some (.string x) ∧ W.cell? q = some (.string y) ∧ True
set_option maxHeartbeats 8000000 in
set_option maxRecDepth 20000 in
theorem DiskLast_walk (v0 : Value) (l : List Dab) (w : World) (L0 : DabsIs w v0 l) (q0 : ∀ x ∈ l, DabOk x) (z0 : l.length ≤ 140737488351232) :
    Calls Try.prog 3 #[v0] w fun e w' => e = .returned (.bool true) ∧ Below w.heap.size w w' := by
  have hsp := Lib.hid (spinning w)
  have hli := fun W hW => keep_light v0 l W hW z0 (fun d hd => (q0 d hd).2)
  obtain ⟨o, c, rfl, hcap, hcell⟩ := L0.at dabCells_len
  clear hcap
  replace L0 := Lib.hid L0
  cases hl : light l with
  | false =>
    rw [hl] at hli
    replace hli := Lib.hid hli
    replace q0 := Lib.hid q0
    clear hcell
    go_enter Try.func3, Try.ntmps3
    go_wp2_with fail
    refine hsp.out.mono ?_
    rintro e w2 ⟨rfl, hb2⟩
    go_wp2_with fail
    refine (hli.out _ (L0.out.below (by omega) hb2)).mono ?_
    rintro e w3 ⟨rfl, hb3⟩
    go_wp2
    go_ret
    exact ⟨rfl, bch hb2 hb3⟩
  | true =>
    rw [hl] at hli
    have h60 : l.length ≤ 60 := by
      unfold light at hl
      simp only [Bool.and_eq_true, decide_eq_true_eq] at hl
      exact hl.1
    have hspun := Lib.hid (fun W hW => keep_spun (.slice o l.length c) l W hW (by omega) q0)
    have hwv := Lib.hid (wants_view l)
    have hwl := Lib.hid (fun k => wants_len (l.take k))
    have hwt := Lib.hid (wants_take l)
    replace hli := Lib.hid hli
    replace q0 := Lib.hid q0
    replace hcell := Lib.hid hcell
    generalize spunSt l = st at *
    go_enter Try.func3, Try.ntmps3
    go_wp2_with fail
    refine hsp.out.mono ?_
    rintro e w2 ⟨rfl, hb2⟩
    go_wp2_with fail
    refine (hli.out _ (L0.out.below (by omega) hb2)).mono ?_
    rintro e w3 ⟨rfl, hb3⟩
    have hB3 := bch hb2 hb3
    clear hb2 hb3
    go_wp2_with fail
    refine (hspun.out _ (L0.out.below (by omega) hB3)).mono ?_
    rintro e w4 ⟨⟨d, gs, b, m, rfl, hm, hd, hg, hb, hD⟩, hb4⟩
    have hB4 := bch hB3 hb4
    have hlt := hD.row.lt
    have hltg := hD.safe.lt
    have hltb := hD.next.lt
    clear hspun hB3 hd hg hb
    replace hD := Lib.hid hD
    go_wp2_with fail
    have hn4 : Below w4.heap.size w4 (w4.alloc (.cells #[.string ⟨#[]⟩] 9)) := (Below.refl _ _).alloc (Nat.le_refl _) _
    refine (repeat_str _ w4.heap.size 1 ⟨#[]⟩ 8 (World.cell?_alloc_at _ _ _ _ rfl) (by omega) (by omega)).mono ?_
    rintro e w5 ⟨⟨gw, rfl, hgw, hrow⟩, hb5⟩
    have hgw2 : w4.heap.size ≤ gw := by simp at hgw; omega
    have hgwl := hrow.lt
    have hb45 := bch hn4 hb5
    have hB5 := bch hB4 hb45
    have hz4 := hB4.size
    have hz5 := hb45.size
    have hD5 := Lib.hid (hD.out.below hb45)
    have hrow5 : Hid (Row w5 gw 9 ((wants (l.take 0)).map Value.string)) := Lib.hid (by
      show Row w5 gw 9 ((List.replicate 8 (⟨#[]⟩ : ByteArray)).map Value.string)
      rw [List.map_replicate]; exact hrow)
    clear hrow hgw hn4 hb5 hD hb4
    go_wp2
    go_loopw [22] (fun i wr => ∃ k : Nat, k ≤ l.length ∧ i = .int .i64 k ∧ Row wr gw 9 ((wants (l.take k)).map Value.string) ∧ Only (fun j => j = gw) w5 wr) (fun i _ => l.length - (intOf i).toNat)
    case atStart => exact ⟨0, by omega, rfl, hrow5.out, Only.refl _ _⟩
    case round =>
      obtain ⟨k, hk, rfl, hR, hon⟩ := hrel
      have hszr := hon.size
      by_cases hlt : k < l.length
      · obtain ⟨b1, f1, rfl, hb1, hc1⟩ := hcell.out k hlt
        have hb1 := hb1 (by omega)
        have cc : ∀ j u, (dabCells l[k])[j]? = some u → wr.cell? ⟨b1, f1 + k * 3 + j, none⟩ = some u := fun j u hu => hon.cell (p := ⟨b1, f1 + k * 3 + j, none⟩) ((hB5.cell (p := ⟨b1, f1 + k * 3 + j, none⟩) hb1).trans (hc1 j u hu)) (by show ¬ b1 = gw; omega)
        have c0 : wr.cell? ⟨b1, f1 + k * 3, none⟩ = some (.int .i64 l[k].at_) := cc 0 _ rfl
        have c1 : wr.cell? ⟨b1, f1 + k * 3 + 1, none⟩ = some (.string l[k].s) := cc 1 _ rfl
        have c2 : wr.cell? ⟨b1, f1 + k * 3 + 2, none⟩ = some (.bool l[k].y) := cc 2 _ rfl
        clear hc1 cc
        have hwk := hwt.out k hlt
        have hok := q0.out l[k] (List.getElem_mem hlt)
        have hWl := hwl.out k
        generalize l[k] = x at *
        generalize wants (l.take k) = V at *
        generalize hV2 : wants (l.take (k + 1)) = V2 at *
        replace hV2 := Lib.hid hV2
        obtain ⟨xa, xs, xy⟩ := x
        dsimp only at c0 c1 c2
        have hx8 : xs.size ≤ 140737488351232 := hok.2
        replace hok := Lib.hid hok
        have hal := Lib.hid (row_alloc wr #[.int .i64 xa, .string xs, .bool xy] 30)
        have hRa := Lib.hid (hR.alloc (.cells #[.int .i64 xa, .string xs, .bool xy] 30))
        have hgr : gw < wr.heap.size := hR.lt
        clear hR
        cases xy with
        | true =>
          have e : Hid (V2 = V) := Lib.hid (by rw [hwk]; unfold wantStep; rw [if_neg (by simp)])
          replace hwk := Lib.hid hwk
          go_wp2
          go_roundw
          case rel => exact ⟨k + 1, by omega, by go_num, by rw [hV2.out, e.out]; exact hRa.out, hon.alloc _⟩
          case measure => simp [intOf]; omega
        | false =>
          by_cases h32 : xs.size ≤ 32
          · have e : Hid (V2 = V.set (pickN xa 8) xs) := Lib.hid (by rw [hwk]; unfold wantStep; rw [if_pos ⟨rfl, h32⟩])
            have hp8 := pickN_lt xa 8 (by omega)
            have hp8i : ((pickN xa 8 : Nat) : Int) < 8 := by omega
            have hpk := Lib.hid (fun W => keep_pick xa 8 8 W rfl (by omega) (by omega))
            replace hwk := Lib.hid hwk
            have hd32 : decide ((xs.size : Int) ≤ 32) = true := by simp; omega
            generalize pickN xa 8 = pk at *
            have hx0 : (wr.alloc (.cells #[.int .i64 xa, .string xs, .bool false] 30)).cell? ⟨wr.heap.size, 0, none⟩ = some (.int .i64 xa) := hal.out.cell 0
            have hx1 : (wr.alloc (.cells #[.int .i64 xa, .string xs, .bool false] 30)).cell? ⟨wr.heap.size, 1, none⟩ = some (.string xs) := hal.out.cell 1
            have hold : ∃ y, (wr.alloc (.cells #[.int .i64 xa, .string xs, .bool false] 30)).cell? ⟨gw, pk, none⟩ = some (.string y) := by
              refine ⟨V[pk]'(by omega), ?_⟩
              rw [hRa.out.cell, List.getElem?_map, List.getElem?_eq_getElem (by omega)]; rfl
            obtain ⟨y, hold⟩ := hold
            have hfz := hRa.out.frozen pk (by rw [List.length_map]; omega)
            have hona := hon.alloc (.cells #[.int .i64 xa, .string xs, .bool false] 30)
            go_wp2_with fail
            generalize hwa : (wr.alloc (.cells #[.int .i64 xa, .string xs, .bool false] 30)) = wa at *
            have hS0 : DabS wr.heap.size ⟨xa, xs, false⟩ wa.drew := ⟨hx0, hx1, trivial⟩
            have hold' : wa.drew.cell? ⟨gw, pk, none⟩ = some (.string y) := hold
            have hfz' : wa.drew.frozen? ⟨gw, pk, none⟩ = false := hfz
            (refine wp_region_held_drew (S := DabS wr.heap.size ⟨xa, xs, false⟩) (by kernel_rfl) ?_ (fun hHeld => ?_); ((try dsimp only); exact hS0))
            (refine held_take (i := 0) (v := ?_) rfl (by kernel_rfl) (by kernel_rfl) (by kernel_rfl) (fun _ _ _ h => h) (by kernel_rfl) (by assumption) ?_ ?_; rotate_left; (focus (intro w hSw; (obtain ⟨hSw1, hSw2, hSw3⟩ := hSw); (try dsimp only at hSw1 hSw2); go_simp; (try with_reducible rfl); done)); (simp only [Act.put, List.setIfInBounds_toArray, List.set_cons_zero, List.set_cons_succ]); refine held_take (i := 1) (v := ?_) rfl (by kernel_rfl) (by kernel_rfl) (by kernel_rfl) (fun _ _ _ h => h) (by kernel_rfl) (by assumption) ?_ ?_; rotate_left; (focus (intro w hSw; (obtain ⟨hSw1, hSw2, hSw3⟩ := hSw); (try dsimp only at hSw1 hSw2); go_simp; (try with_reducible rfl); done)); (simp only [Act.put, List.setIfInBounds_toArray, List.set_cons_zero, List.set_cons_succ]); refine held_take (i := 2) (v := ?_) rfl (by kernel_rfl) (by kernel_rfl) (by kernel_rfl) (fun _ _ _ h => h) (by kernel_rfl) (by assumption) ?_ ?_; rotate_left; (focus (intro w hSw; (obtain ⟨hSw1, hSw2, hSw3⟩ := hSw); (try dsimp only at hSw1 hSw2); go_simp; (try with_reducible rfl); done)); (simp only [Act.put, List.setIfInBounds_toArray, List.set_cons_zero, List.set_cons_succ]); refine held_take (i := 4) (v := ?_) rfl (by kernel_rfl) (by kernel_rfl) (by kernel_rfl) (fun _ _ _ h => h) (by kernel_rfl) (by assumption) ?_ ?_; rotate_left; (focus (intro w hSw; (obtain ⟨hSw1, hSw2, hSw3⟩ := hSw); (try dsimp only at hSw1 hSw2); go_simp; (try with_reducible rfl); done)); (simp only [Act.put, List.setIfInBounds_toArray, List.set_cons_zero, List.set_cons_succ]); refine held_take (i := 5) (v := ?_) rfl (by kernel_rfl) (by kernel_rfl) (by kernel_rfl) (fun _ _ _ h => h) (by kernel_rfl) (by assumption) ?_ ?_; rotate_left; (focus (intro w hSw; (obtain ⟨hSw1, hSw2, hSw3⟩ := hSw); (try dsimp only at hSw1 hSw2); go_simp; (try with_reducible rfl); done)); (simp only [Act.put, List.setIfInBounds_toArray, List.set_cons_zero, List.set_cons_succ]))
            (refine wpAnyH_ready (P := Try.prog) (md := .any) (rs := [3]) (by kernel_rfl) (by simp) ?_; refine held_cons rfl (by kernel_rfl) (fun K hK => ?_) AllReadyH.nil; ((go_simp; refine (hpk.out _).mono ?_; rintro _ wn ⟨rfl, rfl⟩); refine hK.out _ _ ?_ (fun hHeld => ?_); ((try dsimp only); exact hHeld); clear hK K; (try clear hHeld0); (try rename_i hHeld0)))
            (refine held_take (i := 6) (v := ?_) rfl (by kernel_rfl) (by kernel_rfl) (by kernel_rfl) (fun _ _ _ h => h) (by kernel_rfl) (by assumption) ?_ ?_; rotate_left; (focus (intro w hSw; (obtain ⟨hSw1, hSw2, hSw3⟩ := hSw); (try dsimp only at hSw1 hSw2); go_simp; (try with_reducible rfl); done)); (simp only [Act.put, List.setIfInBounds_toArray, List.set_cons_zero, List.set_cons_succ]))
            (refine wpAnyH_ready (P := Try.prog) (md := .any) (rs := [7]) (by kernel_rfl) (by simp) ?_; refine held_cons rfl (by kernel_rfl) (fun K hK => ?_) AllReadyH.nil; (go_simp; refine hK.out _ _ ?_ (fun hHeld => ?_); ((try dsimp only); exact ⟨(World.cell?_of_block (Below.heap_setCell _ _ _ _ (by show wr.heap.size ≠ gw; omega))).trans hHeld.1, (World.cell?_of_block (Below.heap_setCell _ _ _ _ (by show wr.heap.size ≠ gw; omega))).trans hHeld.2.1, trivial⟩); clear hK K; (try clear hHeld0); (try rename_i hHeld0)))
            (refine wpAnyH_done (by kernel_rfl) ?_ _)
            go_wp2
            go_roundw
            case rel =>
              refine ⟨k + 1, by omega, by go_num, ?_, (hona.set (Or.inl rfl) _).drew⟩
              rw [hV2.out, e.out, List.map_set]
              exact (hRa.out.set _ _).drew
            case measure => simp [intOf]; omega
          · have e : Hid (V2 = V) := Lib.hid (by rw [hwk]; unfold wantStep; rw [if_neg (fun h => h32 h.2)])
            replace hwk := Lib.hid hwk
            have hd32 : decide ((xs.size : Int) ≤ 32) = false := by simp; omega
            go_wp2
            go_roundw
            case rel => exact ⟨k + 1, by omega, by go_num, by rw [hV2.out, e.out]; exact hRa.out, hon.alloc _⟩
            case measure => simp [intOf]; omega
      · obtain rfl : k = l.length := by omega
        rw [List.take_length] at hR
        have hWl := hwl.out l.length
        rw [List.take_length] at hWl
        generalize hWW : wants l = V at *
        replace hWW := Lib.hid hWW
        have hR1 := Lib.hid hR
        clear hR hwl hwt hrow5
        have hD6 := Lib.hid (hD5.out.only hon (by omega) (by omega) (by omega))
        have h8 := hD6.out.len
        have hX8 := Lib.hid (viewsOf_len st)
        have hXg := Lib.hid (viewsOf_get st h8)
        generalize viewsOf st = X at *
        have hBr : Below w.heap.size w wr := hB5.trans (hon.below (B := w.heap.size) (fun j hj => by have hj : j = gw := hj; omega) hB5.size)
        go_wp2_with fail
        refine (keep_all _ d gs b m st hD6.out X hX8.out hXg.out).mono ?_
        rintro e w7 ⟨⟨v, rfl, hO⟩, hb7⟩
        obtain ⟨o7, c7, rfl, -, hcx⟩ := (ListIs.of_owns hO : StrsIs w7 v X).at strCells_len
        replace hcx := Lib.hid hcx
        have hR7 := Lib.hid (hR1.out.below hb7)
        have hB7 := bch hBr hb7
        have hz7 := hB7.size
        rw [hX8.out]
        clear hO hR1 hb7 hBr hD6
        go_wp2
        go_loopw [47] (fun i wr => ∃ k : Nat, k ≤ 8 ∧ i = .int .i64 k ∧ Below w7.heap.size w7 wr) (fun i _ => 8 - (intOf i).toNat)
        case atStart => exact ⟨0, by omega, rfl, by (repeat (first | exact Below.refl _ _ | assumption | refine bal ?_ _ | refine bdr ?_ | refine bdn ?_ _ | refine bst ?_ (by first | assumption | exact Nat.le_refl _ | omega) _ | refine bch ?_ (by assumption)))⟩
        case round =>
          obtain ⟨k, hk, rfl, hbel⟩ := hrel
          by_cases hlt : k < 8
          · obtain ⟨b7, f7, rfl, hb7', hc7⟩ := hcx.out k (by rw [hX8.out]; exact hlt)
            have hb7' := hb7' (by omega)
            have hy : V[k]? = some (V[k]'(by omega)) := List.getElem?_eq_getElem (by omega)
            have p0 : wr.cell? ⟨b7, f7 + k, none⟩ = some (.string (X[k]'(by rw [hX8.out]; exact hlt))) := (hbel.cell (p := ⟨b7, f7 + k, none⟩) hb7').trans (by have := hc7 0 _ rfl; simpa using this)
            have p1 : wr.cell? ⟨gw, k, none⟩ = some (.string (V[k]'(by omega))) := (hbel.cell (p := ⟨gw, k, none⟩) hR7.out.lt).trans (by rw [hR7.out.cell, List.getElem?_map, hy]; rfl)
            obtain ⟨hv1, hy32⟩ := hwv.out k _ hy
            have hv2 := hXg.out k (by rw [hX8.out]; exact hlt)
            rw [hv1] at hv2
            injection hv2 with hv2
            clear hc7 hy hv1
            have hx32 := padB_size (V[k]'(by omega)) hy32
            rw [hv2] at hx32
            generalize X[k]'(by rw [hX8.out]; exact hlt) = x at *
            generalize V[k]'(by omega) = y at *
            obtain ⟨r, hr⟩ : ∃ r : Nat, r = 32 - y.size := ⟨_, rfl⟩
            have hsub : IntKind.i64.wrap (32 - (y.size : Int)) = (r : Int) := by rw [IntKind.wrap_i64]; omega
            have hsub2 : wrap64 (32 - (y.size : Int)) = (r : Int) := by unfold wrap64; omega
            have hr32 : r ≤ 32 := by omega
            have hadd : ¬ 9223372036854775807 < y.size + r := by omega
            have hmk := fun (W : World) => run_make_row' (P := Try.prog) 33 5 (.int .u8 0) 1 Try.underlying33 (by kernel_rfl) rfl .i64 .i64 r (by omega) (by omega) W
            have hcv := str_of_row (P := Try.prog) (w := (wr.alloc (.cells (madeCells #[.int .u8 0] r) 5)).drew) (g := wr.heap.size) (e := 5) (l := List.replicate r 0) (by
              rw [← zero_row, ← madeCells_one]
              exact (row_alloc _ _ _).drew) 33 9 Try.underlying33 Try.underlying5 Try.underlying9 r r (by simp)
            have hpe : y ++ ⟨(List.replicate r 0).toArray⟩ = x := by rw [← hv2]; unfold padB; rw [hr]
            have hzr := ba_size (List.replicate r 0)
            rw [List.length_replicate] at hzr
            generalize (ByteArray.mk (List.replicate r 0).toArray) = z at *
            have hne : (x.toList == (y ++ z).toList) = true := by rw [hpe]; simp
            have hx32i : ((x.size : Int) != 32) = false := by rw [hx32]; rfl
            have hk8 : decide ((8 : Int) ≤ (k : Int)) = false := by simp; omega
            have hk8i : (k : Int) < 8 := by omega
            have hk8' : ¬ (8 : Int) ≤ (k : Int) := by omega
            replace hv2 := Lib.hid hv2
            replace hr := Lib.hid hr
            replace hpe := Lib.hid hpe
            go_wp2_with fail
            have hS0 : TwoS ⟨b7, f7 + k, none⟩ ⟨gw, k, none⟩ x y wr.drew := ⟨p0, p1, trivial⟩
            (refine wp_region_held_drew (S := TwoS ⟨b7, f7 + k, none⟩ ⟨gw, k, none⟩ x y) (by kernel_rfl) ?_ (fun hHeld => ?_); ((try dsimp only); exact hS0))
            (refine held_take (i := 0) (v := ?_) rfl (by kernel_rfl) (by kernel_rfl) (by kernel_rfl) (fun _ _ _ h => h) (by kernel_rfl) (by assumption) ?_ ?_; rotate_left; (focus (intro w hSw; (obtain ⟨hSw1, hSw2, hSw3⟩ := hSw); (try dsimp only at hSw1 hSw2); go_simp; (try with_reducible rfl); done)); (simp only [Act.put, List.setIfInBounds_toArray, List.set_cons_zero, List.set_cons_succ]); refine held_take (i := 1) (v := ?_) rfl (by kernel_rfl) (by kernel_rfl) (by kernel_rfl) (fun _ _ _ h => h) (by kernel_rfl) (by assumption) ?_ ?_; rotate_left; (focus (intro w hSw; (obtain ⟨hSw1, hSw2, hSw3⟩ := hSw); (try dsimp only at hSw1 hSw2); go_simp; (try with_reducible rfl); done)); (simp only [Act.put, List.setIfInBounds_toArray, List.set_cons_zero, List.set_cons_succ]); refine held_take (i := 2) (v := ?_) rfl (by kernel_rfl) (by kernel_rfl) (by kernel_rfl) (fun _ _ _ h => h) (by kernel_rfl) (by assumption) ?_ ?_; rotate_left; (focus (intro w hSw; (obtain ⟨hSw1, hSw2, hSw3⟩ := hSw); (try dsimp only at hSw1 hSw2); go_simp; (try with_reducible rfl); done)); (simp only [Act.put, List.setIfInBounds_toArray, List.set_cons_zero, List.set_cons_succ]); refine held_take (i := 3) (v := ?_) rfl (by kernel_rfl) (by kernel_rfl) (by kernel_rfl) (fun _ _ _ h => h) (by kernel_rfl) (by assumption) ?_ ?_; rotate_left; (focus (intro w hSw; (obtain ⟨hSw1, hSw2, hSw3⟩ := hSw); (try dsimp only at hSw1 hSw2); go_simp; (try with_reducible rfl); done)); (simp only [Act.put, List.setIfInBounds_toArray, List.set_cons_zero, List.set_cons_succ]); refine held_take (i := 4) (v := ?_) rfl (by kernel_rfl) (by kernel_rfl) (by kernel_rfl) (fun _ _ _ h => h) (by kernel_rfl) (by assumption) ?_ ?_; rotate_left; (focus (intro w hSw; (obtain ⟨hSw1, hSw2, hSw3⟩ := hSw); (try dsimp only at hSw1 hSw2); go_simp; (try with_reducible rfl); done)); (simp only [Act.put, List.setIfInBounds_toArray, List.set_cons_zero, List.set_cons_succ]); refine held_take (i := 5) (v := ?_) rfl (by kernel_rfl) (by kernel_rfl) (by kernel_rfl) (fun _ _ _ h => h) (by kernel_rfl) (by assumption) ?_ ?_; rotate_left; (focus (intro w hSw; (obtain ⟨hSw1, hSw2, hSw3⟩ := hSw); (try dsimp only at hSw1 hSw2); go_simp; (try with_reducible rfl); done)); (simp only [Act.put, List.setIfInBounds_toArray, List.set_cons_zero, List.set_cons_succ]); refine held_take (i := 6) (v := ?_) rfl (by kernel_rfl) (by kernel_rfl) (by kernel_rfl) (fun _ _ _ h => h) (by kernel_rfl) (by assumption) ?_ ?_; rotate_left; (focus (intro w hSw; (obtain ⟨hSw1, hSw2, hSw3⟩ := hSw); (try dsimp only at hSw1 hSw2); go_simp; (try with_reducible rfl); done)); (simp only [Act.put, List.setIfInBounds_toArray, List.set_cons_zero, List.set_cons_succ]); refine held_take (i := 7) (v := ?_) rfl (by kernel_rfl) (by kernel_rfl) (by kernel_rfl) (fun _ _ _ h => h) (by kernel_rfl) (by assumption) ?_ ?_; rotate_left; (focus (intro w hSw; (obtain ⟨hSw1, hSw2, hSw3⟩ := hSw); (try dsimp only at hSw1 hSw2); go_simp; (try with_reducible rfl); done)); (simp only [Act.put, List.setIfInBounds_toArray, List.set_cons_zero, List.set_cons_succ]); refine held_take (i := 8) (v := ?_) rfl (by kernel_rfl) (by kernel_rfl) (by kernel_rfl) (fun _ _ _ h => h) (by kernel_rfl) (by assumption) ?_ ?_; rotate_left; (focus (intro w hSw; (obtain ⟨hSw1, hSw2, hSw3⟩ := hSw); (try dsimp only at hSw1 hSw2); go_simp; (try with_reducible rfl); done)); (simp only [Act.put, List.setIfInBounds_toArray, List.set_cons_zero, List.set_cons_succ]); refine held_take (i := 9) (v := ?_) rfl (by kernel_rfl) (by kernel_rfl) (by kernel_rfl) (fun _ _ _ h => h) (by kernel_rfl) (by assumption) ?_ ?_; rotate_left; (focus (intro w hSw; (obtain ⟨hSw1, hSw2, hSw3⟩ := hSw); (try dsimp only at hSw1 hSw2); go_simp; (try with_reducible rfl); done)); (simp only [Act.put, List.setIfInBounds_toArray, List.set_cons_zero, List.set_cons_succ]); refine held_take (i := 10) (v := ?_) rfl (by kernel_rfl) (by kernel_rfl) (by kernel_rfl) (fun _ _ _ h => h) (by kernel_rfl) (by assumption) ?_ ?_; rotate_left; (focus (intro w hSw; (obtain ⟨hSw1, hSw2, hSw3⟩ := hSw); (try dsimp only at hSw1 hSw2); go_simp; (try with_reducible rfl); done)); (simp only [Act.put, List.setIfInBounds_toArray, List.set_cons_zero, List.set_cons_succ]); refine held_take (i := 11) (v := ?_) rfl (by kernel_rfl) (by kernel_rfl) (by kernel_rfl) (fun _ _ _ h => h) (by kernel_rfl) (by assumption) ?_ ?_; rotate_left; (focus (intro w hSw; (obtain ⟨hSw1, hSw2, hSw3⟩ := hSw); (try dsimp only at hSw1 hSw2); go_simp; (try with_reducible rfl); done)); (simp only [Act.put, List.setIfInBounds_toArray, List.set_cons_zero, List.set_cons_succ]); refine held_take (i := 12) (v := ?_) rfl (by kernel_rfl) (by kernel_rfl) (by kernel_rfl) (fun _ _ _ h => h) (by kernel_rfl) (by assumption) ?_ ?_; rotate_left; (focus (intro w hSw; (obtain ⟨hSw1, hSw2, hSw3⟩ := hSw); (try dsimp only at hSw1 hSw2); go_simp; (try with_reducible rfl); done)); (simp only [Act.put, List.setIfInBounds_toArray, List.set_cons_zero, List.set_cons_succ]); refine held_take (i := 13) (v := ?_) rfl (by kernel_rfl) (by kernel_rfl) (by kernel_rfl) (fun _ _ _ h => h) (by kernel_rfl) (by assumption) ?_ ?_; rotate_left; (focus (intro w hSw; (obtain ⟨hSw1, hSw2, hSw3⟩ := hSw); (try dsimp only at hSw1 hSw2); go_simp; (try with_reducible rfl); done)); (simp only [Act.put, List.setIfInBounds_toArray, List.set_cons_zero, List.set_cons_succ]); refine held_take (i := 14) (v := ?_) rfl (by kernel_rfl) (by kernel_rfl) (by kernel_rfl) (fun _ _ _ h => h) (by kernel_rfl) (by assumption) ?_ ?_; rotate_left; (focus (intro w hSw; (obtain ⟨hSw1, hSw2, hSw3⟩ := hSw); (try dsimp only at hSw1 hSw2); go_simp; (try with_reducible rfl); done)); (simp only [Act.put, List.setIfInBounds_toArray, List.set_cons_zero, List.set_cons_succ]); refine held_take (i := 15) (v := ?_) rfl (by kernel_rfl) (by kernel_rfl) (by kernel_rfl) (fun _ _ _ h => h) (by kernel_rfl) (by assumption) ?_ ?_; rotate_left; (focus (intro w hSw; (obtain ⟨hSw1, hSw2, hSw3⟩ := hSw); (try dsimp only at hSw1 hSw2); go_simp; (try with_reducible rfl); done)); (simp only [Act.put, List.setIfInBounds_toArray, List.set_cons_zero, List.set_cons_succ]); refine held_take (i := 16) (v := ?_) rfl (by kernel_rfl) (by kernel_rfl) (by kernel_rfl) (fun _ _ _ h => h) (by kernel_rfl) (by assumption) ?_ ?_; rotate_left; (focus (intro w hSw; (obtain ⟨hSw1, hSw2, hSw3⟩ := hSw); (try dsimp only at hSw1 hSw2); go_simp; (try with_reducible rfl); done)); (simp only [Act.put, List.setIfInBounds_toArray, List.set_cons_zero, List.set_cons_succ]); refine held_take (i := 17) (v := ?_) rfl (by kernel_rfl) (by kernel_rfl) (by kernel_rfl) (fun _ _ _ h => h) (by kernel_rfl) (by assumption) ?_ ?_; rotate_left; (focus (intro w hSw; (obtain ⟨hSw1, hSw2, hSw3⟩ := hSw); (try dsimp only at hSw1 hSw2); go_simp; (try with_reducible rfl); done)); (simp only [Act.put, List.setIfInBounds_toArray, List.set_cons_zero, List.set_cons_succ]); refine held_take (i := 18) (v := ?_) rfl (by kernel_rfl) (by kernel_rfl) (by kernel_rfl) (fun _ _ _ h => h) (by kernel_rfl) (by assumption) ?_ ?_; rotate_left; (focus (intro w hSw; (obtain ⟨hSw1, hSw2, hSw3⟩ := hSw); (try dsimp only at hSw1 hSw2); go_simp; (try with_reducible rfl); done)); (simp only [Act.put, List.setIfInBounds_toArray, List.set_cons_zero, List.set_cons_succ]); refine held_take (i := 19) (v := ?_) rfl (by kernel_rfl) (by kernel_rfl) (by kernel_rfl) (fun _ _ _ h => h) (by kernel_rfl) (by assumption) ?_ ?_; rotate_left; (focus (intro w hSw; (obtain ⟨hSw1, hSw2, hSw3⟩ := hSw); (try dsimp only at hSw1 hSw2); go_simp; (try with_reducible rfl); done)); (simp only [Act.put, List.setIfInBounds_toArray, List.set_cons_zero, List.set_cons_succ]); refine held_take (i := 20) (v := ?_) rfl (by kernel_rfl) (by kernel_rfl) (by kernel_rfl) (fun _ _ _ h => h) (by kernel_rfl) (by assumption) ?_ ?_; rotate_left; (focus (intro w hSw; (obtain ⟨hSw1, hSw2, hSw3⟩ := hSw); (try dsimp only at hSw1 hSw2); go_simp; (try with_reducible rfl); done)); (simp only [Act.put, List.setIfInBounds_toArray, List.set_cons_zero, List.set_cons_succ]); refine held_take (i := 21) (v := ?_) rfl (by kernel_rfl) (by kernel_rfl) (by kernel_rfl) (fun _ _ _ h => h) (by kernel_rfl) (by assumption) ?_ ?_; rotate_left; (focus (intro w hSw; (obtain ⟨hSw1, hSw2, hSw3⟩ := hSw); (try dsimp only at hSw1 hSw2); go_simp; (try with_reducible rfl); done)); (simp only [Act.put, List.setIfInBounds_toArray, List.set_cons_zero, List.set_cons_succ]); refine held_take (i := 22) (v := ?_) rfl (by kernel_rfl) (by kernel_rfl) (by kernel_rfl) (fun _ _ _ h => h) (by kernel_rfl) (by assumption) ?_ ?_; rotate_left; (focus (intro w hSw; (obtain ⟨hSw1, hSw2, hSw3⟩ := hSw); (try dsimp only at hSw1 hSw2); go_simp; (try with_reducible rfl); done)); (simp only [Act.put, List.setIfInBounds_toArray, List.set_cons_zero, List.set_cons_succ]); refine held_take (i := 23) (v := ?_) rfl (by kernel_rfl) (by kernel_rfl) (by kernel_rfl) (fun _ _ _ h => h) (by kernel_rfl) (by assumption) ?_ ?_; rotate_left; (focus (intro w hSw; (obtain ⟨hSw1, hSw2, hSw3⟩ := hSw); (try dsimp only at hSw1 hSw2); go_simp; (try with_reducible rfl); done)); (simp only [Act.put, List.setIfInBounds_toArray, List.set_cons_zero, List.set_cons_succ]); refine held_take (i := 24) (v := ?_) rfl (by kernel_rfl) (by kernel_rfl) (by kernel_rfl) (fun _ _ _ h => h) (by kernel_rfl) (by assumption) ?_ ?_; rotate_left; (focus (intro w hSw; (obtain ⟨hSw1, hSw2, hSw3⟩ := hSw); (try dsimp only at hSw1 hSw2); go_simp; (try with_reducible rfl); done)); (simp only [Act.put, List.setIfInBounds_toArray, List.set_cons_zero, List.set_cons_succ]); refine held_take (i := 25) (v := ?_) rfl (by kernel_rfl) (by kernel_rfl) (by kernel_rfl) (fun _ _ _ h => h) (by kernel_rfl) (by assumption) ?_ ?_; rotate_left; (focus (intro w hSw; (obtain ⟨hSw1, hSw2, hSw3⟩ := hSw); (try dsimp only at hSw1 hSw2); go_simp; (try with_reducible rfl); done)); (simp only [Act.put, List.setIfInBounds_toArray, List.set_cons_zero, List.set_cons_succ]); refine held_take (i := 26) (v := ?_) rfl (by kernel_rfl) (by kernel_rfl) (by kernel_rfl) (fun _ _ _ h => h) (by kernel_rfl) (by assumption) ?_ ?_; rotate_left; (focus (intro w hSw; (obtain ⟨hSw1, hSw2, hSw3⟩ := hSw); (try dsimp only at hSw1 hSw2); go_simp; (try with_reducible rfl); done)); (simp only [Act.put, List.setIfInBounds_toArray, List.set_cons_zero, List.set_cons_succ]))
            (refine wpAnyH_ready (P := Try.prog) (md := .any) (rs := [27]) (by kernel_rfl) (by simp) ?_; refine held_cons rfl (by kernel_rfl) (fun K hK => ?_) AllReadyH.nil; (go_simp; refine hK.out _ _ ?_ (fun hHeld => ?_); ((try dsimp only); exact ⟨cell_alloc hHeld.1 _, cell_alloc hHeld.2.1 _, trivial⟩); clear hK K; (try clear hHeld0); (try rename_i hHeld0)))
            (refine wpAnyH_ready (P := Try.prog) (md := .any) (rs := [28]) (by kernel_rfl) (by simp) ?_; refine held_cons rfl (by kernel_rfl) (fun K hK => ?_) AllReadyH.nil; (go_simp; refine hK.out _ _ ?_ (fun hHeld => ?_); ((try dsimp only); exact hHeld); clear hK K; (try clear hHeld0); (try rename_i hHeld0)))
            (refine held_take (i := 29) (v := ?_) rfl (by kernel_rfl) (by kernel_rfl) (by kernel_rfl) (fun _ _ _ h => h) (by kernel_rfl) (by assumption) ?_ ?_; rotate_left; (focus (intro w hSw; (obtain ⟨hSw1, hSw2, hSw3⟩ := hSw); (try dsimp only at hSw1 hSw2); go_simp; (try with_reducible rfl); done)); (simp only [Act.put, List.setIfInBounds_toArray, List.set_cons_zero, List.set_cons_succ]); refine held_take (i := 30) (v := ?_) rfl (by kernel_rfl) (by kernel_rfl) (by kernel_rfl) (fun _ _ _ h => h) (by kernel_rfl) (by assumption) ?_ ?_; rotate_left; (focus (intro w hSw; (obtain ⟨hSw1, hSw2, hSw3⟩ := hSw); (try dsimp only at hSw1 hSw2); go_simp; (try with_reducible rfl); done)); (simp only [Act.put, List.setIfInBounds_toArray, List.set_cons_zero, List.set_cons_succ]); refine held_take (i := 31) (v := ?_) rfl (by kernel_rfl) (by kernel_rfl) (by kernel_rfl) (fun _ _ _ h => h) (by kernel_rfl) (by assumption) ?_ ?_; rotate_left; (focus (intro w hSw; (obtain ⟨hSw1, hSw2, hSw3⟩ := hSw); (try dsimp only at hSw1 hSw2); go_simp; (try with_reducible rfl); done)); (simp only [Act.put, List.setIfInBounds_toArray, List.set_cons_zero, List.set_cons_succ]))
            (refine wpAnyH_done (by kernel_rfl) ?_ _)
            go_wp2
            go_roundw
            case rel => exact ⟨k + 1, by omega, by go_num, by (repeat (first | exact Below.refl _ _ | assumption | refine bal ?_ _ | refine bdr ?_ | refine bdn ?_ _ | refine bst ?_ (by first | assumption | exact Nat.le_refl _ | omega) _ | refine bch ?_ (by assumption)))⟩
            case measure => simp [intOf]; omega
          · obtain rfl : k = 8 := by omega
            go_wp2
            go_ret
            exact ⟨rfl, bch hB7 hbel⟩
end Go.Proofs.Ytndebohdappilaa
