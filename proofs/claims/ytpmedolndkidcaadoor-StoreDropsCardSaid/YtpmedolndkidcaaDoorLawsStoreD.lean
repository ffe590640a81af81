/- The walk of the law StoreDrops. -/
import Derived.Test.YtpmedolndkidcaaDoorLawsStoreP
import Derived.Test.YtpmedolndkidcaaDoorWFuncW
import Derived.Test.YtpmedolndkidcaaDoorWCloneWr
namespace Go.Proofs.YtpmedolndkidcaaDoor
open Go.RowKit
set_option linter.unusedVariables false
set_option linter.unusedSimpArgs false
set_option maxHeartbeats 1000000 in
theorem drops_pred (g : Nat) (key : ByteArray) (base : Nat) (w : World) (hc : w.cell? ⟨g, 0, none⟩ = some (.string key)) (hg : g < base) : PredW 35 g (fun y => decide (y.key = key)) base w := by
  refine ⟨enters_of Tryd.func35 (by kernel_rfl) rfl, fun y W hW => ?_⟩
  have hc2 : W.cell? ⟨g, 0, none⟩ = some (.string key) := (hW.cell (p := ⟨g, 0, none⟩) hg).trans hc
  have hgw : g < W.heap.size := World.block_lt_of_cell? W _ hc2
  obtain ⟨yt, yr, yk, ykey, yval, yn⟩ := y
  clear hc hW
  by_cases h : ykey = key
  · subst h
    go_enter Tryd.func35, Tryd.ntmps35
    go_wp2
    go_ret
    exact ⟨by simp, by (repeat (first | exact Below.refl _ _ | assumption | refine bal ?_ _ | refine bdr ?_ | refine bdn ?_ _ | refine bst ?_ (by first | assumption | exact Nat.le_refl _ | omega) _ | refine bch ?_ (by assumption)))⟩
  · have hk := ba_list_ne h
    have hd : Hid (decide (ykey = key) = false) := Lib.hid (by simp [h])
    clear h
    go_enter Tryd.func35, Tryd.ntmps35
    go_wp2
    go_ret
    exact ⟨ret_bool hd.out.symm, by (repeat (first | exact Below.refl _ _ | assumption | refine bal ?_ _ | refine bdr ?_ | refine bdn ?_ _ | refine bst ?_ (by first | assumption | exact Nat.le_refl _ | omega) _ | refine bch ?_ (by assumption)))⟩
/-- Three lists of writes in a slice of slices. -/
theorem parts3 {w : World} {va vb vc : Value} {a b c : List WrB} (ha : WrsIs w va a) (hb : WrsIs w vb b) (hc : WrsIs w vc c) (t : TypeId) (g : Nat) (hg : g = w.heap.size) : Parts_wr (w.alloc (.cells #[va, vb, vc] t)) (.slice (some ⟨g, 0, none⟩) 3 3) [va, vb, vc] [a, b, c] where
  at_ := hg ▸ ListIs.of_alloc (f := fun u : Value => [u]) w t [va, vb, vc] #[va, vb, vc] rfl (fun _ => rfl) (by simp [maxLen]) 3 rfl
  len := rfl
  each := fun k h h2 => by
    match k, h, h2 with
    | 0, _, _ => exact ListIs.below ha (by omega) (bal (Below.refl _ _) _)
    | 1, _, _ => exact ListIs.below hb (by omega) (bal (Below.refl _ _) _)
    | 2, _, _ => exact ListIs.below hc (by omega) (bal (Below.refl _ _) _)
theorem drop_at (A B : List WrB) (key : ByteArray) (d : WrB) (hd : d.k = 2) (hk : d.key = key) (s : ByteArray) : St.at_ ((A ++ [d] ++ B).map WrB.sw) s = St.at_ ((A.filter (fun y => !decide (y.key = key)) ++ B).map WrB.sw) s := by
  have h := St.at_drop (A.map WrB.sw) (B.map WrB.sw) d.sw hd s
  rw [List.map_append, List.map_append, List.map_singleton, h, List.map_append]
  congr 2
  rw [List.filter_map]
  subst hk
  rfl
set_option maxHeartbeats 20000000 in
set_option maxRecDepth 20000 in
theorem StoreDrops_walk (va : Value) (a : List WrB) (vb : Value) (b : List WrB) (key : ByteArray) (w : World) (ha : ListIs wrBCells 6 w va a) (qa : ∀ x ∈ a, WrBOk x) (za : a.length ≤ 140737488351232) (hb : ListIs wrBCells 6 w vb b) (qb : ∀ x ∈ b, WrBOk x) (zb : b.length ≤ 140737488351232) (hks : key.size ≤ 140737488351232) (hL : Laid w) :
    Calls Tryd.prog 9 #[va, vb, .string key] w fun e w' => e = .returned (.bool true) ∧ Below w.heap.size w w' := by
  have hSt := Lib.hid keep_stored
  have hRa := Lib.hid (fun W (hW : Below w.heap.size w W) => keep_right va a W (ListIs.below ha (by omega) hW) za)
  have hRb := Lib.hid (fun W (hW : Below w.heap.size w W) => keep_right vb b W (ListIs.below hb (by omega) hW) zb)
  clear ha hb qa qb hL
  go_enter Tryd.func9, Tryd.ntmps9
  go_wp2_with fail
  have q0 := row_at (w := w) (g := w.heap.size) #[.string key] 9 rfl
  have hb0 : Below w.heap.size w (w.alloc (Obj.cells #[.string key] 9)) := by (repeat (first | exact Below.refl _ _ | assumption | refine bal ?_ _ | refine bdr ?_ | refine bdn ?_ _ | refine bst ?_ (by first | assumption | exact Nat.le_refl _ | omega) _ | refine bch ?_ (by assumption)))
  have hs0 := q0.lt
  generalize w.alloc (Obj.cells #[.string key] 9) = w0 at *
  refine (hSt.out w0).mono ?_
  rintro _ w1 ⟨rfl, hb1'⟩
  have hb1 := bch hb0 hb1'
  go_wp2_with fail
  refine (hRa.out _ hb1).mono ?_
  rintro _ w2 ⟨ua, A, rfl, hA, hAr, hA60, hb2⟩
  have hbw2 := bch hb1 hb2
  go_wp2_with fail
  refine (hRb.out _ hbw2).mono ?_
  rintro _ w3 ⟨ub, B, rfl, hB, hBr, hB60, hb3⟩
  have hbw3 := bch hbw2 hb3
  obtain ⟨oa, ca, rfl⟩ := owns_slice_ hA
  obtain ⟨ob, cb, rfl⟩ := owns_slice_ hB
  have hA3 : WrsIs w3 _ A := ListIs.of_owns (owns_below hA hb3)
  have hB3 : WrsIs w3 _ B := ListIs.of_owns hB
  have hAr1 := Lib.hid (fun x hx => (hAr x hx).1)
  have hBr1 := Lib.hid (fun x hx => (hBr x hx).1)
  have h03 : Below w0.heap.size w0 w3 := bch (bch hb1' hb2) hb3
  have q3 := Lib.hid (q0.below h03)
  have hR := Lib.hid (fun W => write_right 1 0 2 key ⟨#[]⟩ 0 W)
  have k3 := q3.out.cell 0
  simp only [List.getElem?_cons_zero] at k3
  have hs3 := q3.out.lt
  clear hA hB hAr hBr hb1 hb2 hb3 hbw2 hRa hRb hSt q0 h03 hb1'
  go_wp2_with fail
  have q4 := row_at (w := w3) (g := w3.heap.size) #[.int .i64 1, .int .i64 0, .int .i64 2, .string key, .string ⟨#[]⟩, .int .i64 0] 36 rfl
  have hb34 : Below w3.heap.size w3 (w3.alloc (Obj.cells #[.int .i64 1, .int .i64 0, .int .i64 2, .string key, .string ⟨#[]⟩, .int .i64 0] 36)) := bal (Below.refl _ _) _
  generalize w3.alloc (Obj.cells #[.int .i64 1, .int .i64 0, .int .i64 2, .string key, .string ⟨#[]⟩, .int .i64 0] 36) = w4 at *
  refine (hR.out _).mono ?_
  rintro _ w5 ⟨rfl, hb45⟩
  have hb35 := bch hb34 hb45
  replace q4 := q4.below hb45
  have hbw5 := bch hbw3 hb35
  clear hR k3 hb34 hb45
  by_cases hr : Right_ ⟨1, 0, 2, key, ⟨#[]⟩, 0⟩
  · unfold Right_ at hr
    (try simp only at hr)
    rw [hr, show errW 0 = .nilIface from rfl]
    have hr' : Hid (Right_ ⟨1, 0, 2, key, ⟨#[]⟩, 0⟩) := Lib.hid hr
    clear hr
    have hA5 := hA3.below hb35
    have hB5 := hB3.below hb35
    have q5 := q3.out.below hb35
    have hs5 := hb35.size
    have hCl := Lib.hid (clone_wrs _ A w5 hA5 (by omega))
    clear hA3 hB3 hb35 q3
    replace hA5 := Lib.hid hA5
    replace hB5 := Lib.hid hB5
    go_wp2_with fail
    refine hCl.out.mono ?_
    rintro _ w6 ⟨⟨u6, rfl, hO6⟩, hb6⟩
    have hk6 := (q5.below hb6).cell 0
    have hDe := Lib.hid (del_wr 35 w.heap.size (fun y => decide (y.key = key)) u6 A w6 w5.heap.size (drops_pred w.heap.size key w5.heap.size w6 hk6 (by omega)) hO6 (by omega) hb6.size)
    clear hCl hO6 hk6
    go_wp2_with fail
    refine hDe.out.mono ?_
    rintro _ w7 ⟨⟨u7, rfl, hO7⟩, hb7⟩
    have hb57 : Below w5.heap.size w5 w7 := hb6.trans hb7
    obtain ⟨o7, c7, rfl⟩ := owns_slice_ hO7
    have hA7 := hA5.out.below hb57
    have hB7 := hB5.out.below hb57
    have hL7 : WrsIs w7 _ _ := ListIs.of_owns hO7
    have q7 := q4.below hb57
    have hfl := List.length_filter_le (fun d : WrB => !decide (d.key = key)) A
    have hfr : ∀ x ∈ A.filter (fun d => !decide (d.key = key)), Right_ x := fun x hx => hAr1.out x (List.mem_filter.1 hx).1
    have hda := Lib.hid (drop_at A B key ⟨1, 0, 2, key, ⟨#[]⟩, 0⟩ rfl rfl)
    generalize A.filter (fun d => !decide (d.key = key)) = M at *
    replace hfr := Lib.hid hfr
    have hbw7 := bch hbw5 hb57
    clear hO7 hDe hb6 hb7 hA5 hB5 q5 q4 hb57
    have hb8 : Below w7.heap.size w7 (w7.alloc (Obj.cells #[.int .i64 1, .int .i64 0, .int .i64 2, .string key, .string ⟨#[]⟩, .int .i64 0] 36)) := bal (Below.refl _ _) _
    have hs8 : (w7.alloc (Obj.cells #[.int .i64 1, .int .i64 0, .int .i64 2, .string key, .string ⟨#[]⟩, .int .i64 0] 36)).heap.size = w7.heap.size + 1 := by simp
    have hD8 : WrsIs (w7.alloc (Obj.cells #[.int .i64 1, .int .i64 0, .int .i64 2, .string key, .string ⟨#[]⟩, .int .i64 0] 36)) (.slice (some ⟨w7.heap.size, 0, none⟩) 1 1) [⟨1, 0, 2, key, ⟨#[]⟩, 0⟩] := ListIs.of_alloc (f := wrBCells) w7 36 [⟨1, 0, 2, key, ⟨#[]⟩, 0⟩] _ rfl wrBCells_len (by simp [maxLen]) 1 rfl
    have hCo3 := Lib.hid (concat_wr _ _ [A, [⟨1, 0, 2, key, ⟨#[]⟩, 0⟩], B] _ (parts3 (hA7.below hb8) hD8 (hB7.below hb8) 22 (w7.heap.size + 1) hs8.symm) (by simp) (by simp only [List.flatten_cons, List.flatten_nil, List.append_nil, List.length_append, List.length_singleton]; omega))
    have hs8' := Lib.hid hs8
    replace hD8 := Lib.hid hD8
    replace hb8 := Lib.hid hb8
    replace hA7 := Lib.hid hA7
    replace hB7 := Lib.hid hB7
    replace hL7 := Lib.hid hL7
    have hq7 := q7.lt
    (have c0 := q7.cell 0; have c1 := q7.cell 1; have c2 := q7.cell 2; have c3 := q7.cell 3; have c4 := q7.cell 4; have c5 := q7.cell 5; simp only [List.set_cons_succ, List.set_cons_zero, List.getElem?_cons_zero, List.getElem?_cons_succ] at c0 c1 c2 c3 c4 c5)
    clear hs8
    go_wp2_with fail
    refine hCo3.out.mono ?_
    rintro _ w9 ⟨⟨v9, rfl, hO9⟩, hb9⟩
    have e9 : [A, [⟨1, 0, 2, key, ⟨#[]⟩, 0⟩], B].flatten = A ++ [⟨1, 0, 2, key, ⟨#[]⟩, 0⟩] ++ B := by simp
    rw [e9] at hO9
    have hb79 : Below w7.heap.size w7 w9 := bch (bal hb8.out _) hb9
    have hrr : ∀ x ∈ A ++ [⟨1, 0, 2, key, ⟨#[]⟩, 0⟩] ++ B, Right_ x := fun x hx => by
      simp only [List.mem_append, List.mem_singleton] at hx
      rcases hx with (hx | hx) | hx
      · exact hAr1.out x hx
      · rw [hx]; exact hr'.out
      · exact hBr1.out x hx
    have hOf9 := Lib.hid (store_of v9 _ w9 (ListIs.of_owns hO9) hrr (by simp only [List.length_append, List.length_singleton]; omega))
    replace hrr := Lib.hid hrr
    clear e9 hO9 hb9 hCo3 hD8 c0 c1 c2 c3 c4 c5
    go_wp2_with fail
    refine hOf9.out.mono ?_
    rintro _ w10 ⟨v10, L10, rfl, hO10, hS10, hI10, hb10⟩
    have hb710 := bch hb79 hb10
    have hCo2 := Lib.hid (concat_wr _ _ [M, B] _ (parts2 (hL7.out.below hb710) (hB7.out.below hb710) 22) (by simp) (by simp only [List.flatten_cons, List.flatten_nil, List.append_nil, List.length_append]; omega))
    have hC10 := Lib.hid (celL_of hO10 hS10)
    replace hI10 := Lib.hid hI10
    clear hO10 hS10 hb10 hOf9
    go_wp2_with fail
    refine hCo2.out.mono ?_
    rintro _ w11 ⟨⟨v11, rfl, hO11⟩, hb11⟩
    have e11 : [M, B].flatten = M ++ B := by simp
    rw [e11] at hO11
    have hb1011 : Below w10.heap.size w10 w11 := bch (bal (Below.refl _ _) _) hb11
    have hrr2 : ∀ x ∈ M ++ B, Right_ x := fun x hx => by
      rcases List.mem_append.1 hx with hx | hx
      · exact hfr.out x hx
      · exact hBr1.out x hx
    have hOf11 := Lib.hid (store_of v11 _ w11 (ListIs.of_owns hO11) hrr2 (by simp only [List.length_append]; omega))
    clear e11 hO11 hb11 hCo2 hrr2
    go_wp2_with fail
    refine hOf11.out.mono ?_
    rintro _ w12 ⟨v12, L12, rfl, hO12, hS12, hI12, hb12⟩
    have hb1012 := bch hb1011 hb12
    have hn := celB_le hrr.out (by simp only [List.length_append, List.length_singleton]; omega) hI10.out
    have hsc := Lib.hid (same_cells v10 v12 L10 L12 w12 (hC10.out.below hb1012) (celL_of hO12 hS12) ((hI10.out.congr hda.out).unique hI12) hn.1 hn.2)
    have hbf := bch hbw7 (bch hb710 hb1012)
    clear hO12 hS12 hI12 hb12 hn hOf11
    go_wp2_with fail
    refine hsc.out.mono ?_
    rintro _ w13 ⟨rfl, hb13⟩
    go_wp2
    go_ret
    exact ⟨rfl, bch hbf hb13⟩
  · unfold Right_ at hr
    (try simp only at hr)
    rw [errW_no hr]
    have hr' := Lib.hid hr
    clear hr
    go_wp2
    go_ret
    exact ⟨rfl, hbw5⟩
end Go.Proofs.YtpmedolndkidcaaDoor
