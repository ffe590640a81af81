/- The walk of the law StoreSorted. -/
import Derived.Test.YtpmedolndkidcaaDoorLawsStoreP
import Derived.Test.YtpmedolndkidcaaDoorWFuncW
namespace Go.Proofs.YtpmedolndkidcaaDoor
open Go.RowKit
set_option linter.unusedVariables false
set_option linter.unusedSimpArgs false
theorem bytesLess_cmp : ∀ a b : List UInt8, Op.bytesLess a b = decide (Lib.compareBytes a b < 0)
  | [], [] => by simp [Op.bytesLess, Lib.compareBytes]
  | _ :: _, [] => by simp [Op.bytesLess, Lib.compareBytes]
  | [], _ :: _ => by simp [Op.bytesLess, Lib.compareBytes]
  | a :: x, b :: y => by
    rw [Op.bytesLess, Lib.compareBytes, bytesLess_cmp x y]
    by_cases h1 : a < b
    · simp [h1]
    · by_cases h2 : b < a
      · have h3 : ¬ a = b := fun e => by subst e; exact h1 h2
        simp [h1, h2, h3]
      · have h3 : a = b := by
          rw [UInt8.lt_iff_toNat_lt] at h1 h2
          exact UInt8.toNat_inj.1 (by omega)
        simp [h1, h2, h3]
theorem less_lt {a b : ByteArray} (h : St.lt a b = true) : Op.bytesLess a.toList b.toList = true := by
  rw [ByteArray.toList_eq, ByteArray.toList_eq, bytesLess_cmp]; exact h
set_option maxHeartbeats 1000000 in
theorem sorted_pred (g : Nat) (key : ByteArray) (base : Nat) (w : World) (hc : w.cell? ⟨g, 0, none⟩ = some (.string key)) (hg : g < base) : PredW 19 g (fun y => decide (y.key = key)) base w := by
  refine ⟨enters_of Tryd.func19 (by kernel_rfl) rfl, fun y W hW => ?_⟩
  have hc2 : W.cell? ⟨g, 0, none⟩ = some (.string key) := (hW.cell (p := ⟨g, 0, none⟩) hg).trans hc
  have hgw : g < W.heap.size := World.block_lt_of_cell? W _ hc2
  obtain ⟨yt, yr, yk, ykey, yval, yn⟩ := y
  clear hc hW
  by_cases h : ykey = key
  · subst h
    go_enter Tryd.func19, Tryd.ntmps19
    go_wp2
    go_ret
    exact ⟨by simp, by (repeat (first | exact Below.refl _ _ | assumption | refine bal ?_ _ | refine bdr ?_ | refine bdn ?_ _ | refine bst ?_ (by first | assumption | exact Nat.le_refl _ | omega) _ | refine bch ?_ (by assumption)))⟩
  · have hk := ba_list_ne h
    have hd : Hid (decide (ykey = key) = false) := Lib.hid (by simp [h])
    clear h
    go_enter Tryd.func19, Tryd.ntmps19
    go_wp2
    go_ret
    exact ⟨ret_bool hd.out.symm, by (repeat (first | exact Below.refl _ _ | assumption | refine bal ?_ _ | refine bdr ?_ | refine bdn ?_ _ | refine bst ?_ (by first | assumption | exact Nat.le_refl _ | omega) _ | refine bch ?_ (by assumption)))⟩
set_option maxHeartbeats 8000000 in
set_option maxRecDepth 20000 in
theorem StoreSorted_walk (v : Value) (l : List WrB) (w : World) (hl : ListIs wrBCells 6 w v l) (q : ∀ x ∈ l, WrBOk x) (z : l.length ≤ 140737488351232) (hL : Laid w) :
    Calls Tryd.prog 4 #[v] w fun e w' => e = .returned (.bool true) ∧ Below w.heap.size w w' := by
  have hSt := Lib.hid keep_stored
  have hRa := Lib.hid (fun W (hW : Below w.heap.size w W) => keep_right v l W (ListIs.below hl (by omega) hW) z)
  clear hl q hL
  go_enter Tryd.func4, Tryd.ntmps4
  go_wp2_with fail
  refine (hSt.out w).mono ?_
  rintro _ w1 ⟨rfl, hb1⟩
  go_wp2_with fail
  refine (hRa.out _ hb1).mono ?_
  rintro _ w2 ⟨ua, A, rfl, hA, hAr, hA60, hb2⟩
  have hbw2 := bch hb1 hb2
  obtain ⟨oa, ca, rfl⟩ := owns_slice_ hA
  have hA2 : WrsIs w2 _ A := ListIs.of_owns hA
  clear hA hb1 hb2 hRa hSt
  go_wp2_with fail
  refine (store_of _ A w2 hA2 (fun x hx => (hAr x hx).1) (by omega)).mono ?_
  rintro _ w3 ⟨v3, L, rfl, hO, hS, hI, hb3⟩
  have hbw3 := bch hbw2 hb3
  have hA3 := Lib.hid (hA2.below hb3)
  obtain ⟨oc, cc, rfl⟩ := owns_slice_ hO
  obtain ⟨hn1, hn2⟩ := celB_le (fun x hx => (hAr x hx).1) (by omega) hI
  obtain ⟨o2, c2, e1, -, hcL⟩ := (ListIs.of_owns hO).at celCells_len
  injection e1 with e1 _ e2
  subst e1; subst e2
  replace hcL := Lib.hid hcL
  have hat : ∀ k (hk : k < L.length), L[k].cel.val.some_ = true ∧ St.at_ (A.map WrB.sw) L[k].cel.key = L[k].cel.val := fun k hk => (hI.2 _).1 (List.mem_map.2 ⟨_, List.getElem_mem hk, rfl⟩)
  have hbare : ∀ k (hk : k < L.length), L[k].cel.val.has = false → L[k].cel.val.text = ⟨#[]⟩ := fun k hk h => by
    have := St.at_bare (A.map WrB.sw) L[k].cel.key
    rw [(hat k hk).2] at this
    exact this h
  have hin : ∀ k (hk : k < L.length), ∃ x ∈ A, decide (x.key = L[k].cel.key) = true := fun k hk => by
    obtain ⟨h1, h2⟩ := hat k hk
    rw [← h2] at h1
    obtain ⟨y, hy, e⟩ := St.at_mem h1
    obtain ⟨x, hx, rfl⟩ := List.mem_map.1 hy
    exact ⟨x, hx, decide_eq_true e⟩
  have hrise : ∀ k (hk : k + 1 < L.length), St.lt L[k].cel.key L[k + 1].cel.key = true := fun k hk => by
    have := List.pairwise_iff_getElem.1 hI.1 k (k + 1) (by simp; omega) (by simpa using hk) (by omega)
    simpa using this
  have hln : ∀ k (hk : k < L.length), L[k].ln = L[k].cel.val.list.length := fun k hk => by
    obtain ⟨o, c, e⟩ := owns_slice_ (hS _ (List.getElem_mem hk))
    injection e
  have hsome := Lib.hid (fun k hk => (hat k hk).1)
  replace hbare := Lib.hid hbare
  replace hin := Lib.hid hin
  replace hrise := Lib.hid hrise
  replace hln := Lib.hid hln
  clear hO hS hI hA2 hb3 hbw2 hAr hn2 hat
  go_wp2
  go_loopw [18] (fun i wr => ∃ k : Nat, k ≤ L.length ∧ i = .int .i64 k ∧ Below w3.heap.size w3 wr) (fun i _ => L.length - (intOf i).toNat)
  case atStart => exact ⟨0, by omega, rfl, Below.refl _ _⟩
  case round =>
    obtain ⟨k, hk, rfl, hb⟩ := hrel
    by_cases hlt : k < L.length
    · obtain ⟨b1, f1, rfl, hb1', hc1⟩ := hcL.out k hlt
      have hb1' := hb1' (by omega)
      have hcc : ∀ (j : Nat) (u : Value), (celCells L[k])[j]? = some u → wr.cell? ⟨b1, f1 + k * 5 + j, none⟩ = some u := fun j u hu => (hb.cell (p := ⟨b1, f1 + k * 5 + j, none⟩) hb1').trans (hc1 j u hu)
      have hp := hsome.out k hlt
      have hq := hbare.out k hlt
      have hi := hin.out k hlt
      have hm := hln.out k hlt
      have hprev : 0 < k → ∃ kp, wr.cell? ⟨b1, f1 + (k - 1) * 5, none⟩ = some (.string kp) ∧ St.lt kp L[k].cel.key = true := fun h0 => by
        obtain ⟨b2, f2, e, hb2', hc2⟩ := hcL.out (k - 1) (by omega)
        injection e with e
        injection e with e1 e2
        subst e1; subst e2
        have hr := hrise.out (k - 1) (by omega)
        simp only [show k - 1 + 1 = k by omega] at hr
        exact ⟨_, (hb.cell (p := ⟨b1, f1 + (k - 1) * 5, none⟩) hb1').trans (hc2 0 _ rfl), hr⟩
      generalize L[k] = x at *
      obtain ⟨⟨xk, xh, xt, xs, xl⟩, xa, xn, xc⟩ := x
      (try simp only at hp hq hi hm hprev)
      subst hm
      have c0 : wr.cell? ⟨b1, f1 + k * 5, none⟩ = _ := hcc 0 _ rfl
      have c1 := hcc 1 _ rfl
      have c2 := hcc 2 _ rfl
      have c3 := hcc 3 _ rfl
      have c4 := hcc 4 _ rfl
      (try simp only at c0 c1 c2 c3 c4)
      have hb1w : b1 < wr.heap.size := Nat.lt_of_lt_of_le hb1' hb.size
      clear hcc hc1
      replace hp := Lib.hid hp
      replace hq := Lib.hid hq
      replace hi := Lib.hid hi
      replace hprev := Lib.hid hprev
      go_wp2_with fail
      have q0 := row_at (w := wr) (g := wr.heap.size) #[.string xk, .bool xh, .string xt, .int .i64 xs, .slice xa xl.length xc] 32 rfl
      have hb0 := bal hb (Obj.cells #[.string xk, .bool xh, .string xt, .int .i64 xs, .slice xa xl.length xc] 32)
      have hbx : Below wr.heap.size wr (wr.alloc (Obj.cells #[.string xk, .bool xh, .string xt, .int .i64 xs, .slice xa xl.length xc] 32)) := bal (Below.refl _ _) _
      clear c0 c1 c2 c3 c4
      generalize wr.alloc (Obj.cells #[.string xk, .bool xh, .string xt, .int .i64 xs, .slice xa xl.length xc] 32) = w5 at *
      have q0' := Lib.hid q0
      (have c0 := q0.cell 0; have c1 := q0.cell 1; have c2 := q0.cell 2; have c3 := q0.cell 3; have c4 := q0.cell 4; simp only [List.set_cons_succ, List.set_cons_zero, List.getElem?_cons_zero, List.getElem?_cons_succ] at c0 c1 c2 c3 c4)
      have hs5 := hbx.size
      have hb5w := bch hb hbx
      have hCn := Lib.hid (fun W (hW : Below w5.heap.size w5 W) => contains_wr 19 wr.heap.size (fun y => decide (y.key = xk)) (.slice oa A.length ca) A W (sorted_pred wr.heap.size xk W.heap.size W ((q0'.out.below hW).cell 0) (q0'.out.below hW).lt) (hA3.out.below (bch hb5w hW)) (by omega) hi.out)
      clear hb0
      cases xh with
      | true =>
        rcases Nat.eq_zero_or_pos k with h0 | h0
        · subst h0
          go_quiet (fail)
          go_wp2_with fail
          refine (hCn.out _ (by (repeat (first | exact Below.refl _ _ | assumption | refine bal ?_ _ | refine bdr ?_ | refine bdn ?_ _ | refine bst ?_ (by first | assumption | exact Nat.le_refl _ | omega) _ | refine bch ?_ (by assumption))))).mono ?_
          rintro _ w7 ⟨rfl, hb7⟩
          go_wp2
          go_roundw
          case rel => exact ⟨0 + 1, by omega, by go_num, by (repeat (first | exact Below.refl _ _ | assumption | refine bal ?_ _ | refine bdr ?_ | refine bdn ?_ _ | refine bst ?_ (by first | assumption | exact Nat.le_refl _ | omega) _ | refine bch ?_ (by assumption)))⟩
          case measure => simp [intOf]; omega
        · obtain ⟨kp, d0, hlt'⟩ := hprev.out h0
          have hbl := less_lt hlt'
          replace d0 := cell_below hbx d0
          have hlt'' := Lib.hid hlt'
          clear hlt'
          obtain ⟨m, rfl⟩ : ∃ m, k = m + 1 := ⟨k - 1, by omega⟩
          simp only [Nat.add_sub_cancel] at d0
          go_quiet (fail)
          go_wp2_with fail
          refine (hCn.out _ (by (repeat (first | exact Below.refl _ _ | assumption | refine bal ?_ _ | refine bdr ?_ | refine bdn ?_ _ | refine bst ?_ (by first | assumption | exact Nat.le_refl _ | omega) _ | refine bch ?_ (by assumption))))).mono ?_
          rintro _ w7 ⟨rfl, hb7⟩
          go_wp2
          go_roundw
          case rel => exact ⟨m + 1 + 1, by omega, by go_num, by (repeat (first | exact Below.refl _ _ | assumption | refine bal ?_ _ | refine bdr ?_ | refine bdn ?_ _ | refine bst ?_ (by first | assumption | exact Nat.le_refl _ | omega) _ | refine bch ?_ (by assumption)))⟩
          case measure => simp [intOf]; omega
      | false =>
        obtain rfl := hq.out rfl
        by_cases hsum : xs = 0
        · subst hsum
          have hlen : 0 < xl.length := by
            have := hp.out
            unfold St.Val.some_ at this
            simpa using this
          have hl0 : ((xl.length : Int) == 0) = false := by rw [beq_eq_false_iff_ne]; omega
          have hl1 : (xl.length == 0) = false := by rw [beq_eq_false_iff_ne]; omega
          rcases Nat.eq_zero_or_pos k with h0 | h0
          · subst h0
            go_quiet (fail)
            go_wp2_with fail
            refine (hCn.out _ (by (repeat (first | exact Below.refl _ _ | assumption | refine bal ?_ _ | refine bdr ?_ | refine bdn ?_ _ | refine bst ?_ (by first | assumption | exact Nat.le_refl _ | omega) _ | refine bch ?_ (by assumption))))).mono ?_
            rintro _ w7 ⟨rfl, hb7⟩
            go_wp2
            go_roundw
            case rel => exact ⟨0 + 1, by omega, by go_num, by (repeat (first | exact Below.refl _ _ | assumption | refine bal ?_ _ | refine bdr ?_ | refine bdn ?_ _ | refine bst ?_ (by first | assumption | exact Nat.le_refl _ | omega) _ | refine bch ?_ (by assumption)))⟩
            case measure => simp [intOf]; omega
          · obtain ⟨kp, d0, hlt'⟩ := hprev.out h0
            have hbl := less_lt hlt'
            replace d0 := cell_below hbx d0
            have hlt'' := Lib.hid hlt'
            clear hlt'
            obtain ⟨m, rfl⟩ : ∃ m, k = m + 1 := ⟨k - 1, by omega⟩
            simp only [Nat.add_sub_cancel] at d0
            go_quiet (fail)
            go_wp2_with fail
            refine (hCn.out _ (by (repeat (first | exact Below.refl _ _ | assumption | refine bal ?_ _ | refine bdr ?_ | refine bdn ?_ _ | refine bst ?_ (by first | assumption | exact Nat.le_refl _ | omega) _ | refine bch ?_ (by assumption))))).mono ?_
            rintro _ w7 ⟨rfl, hb7⟩
            go_wp2
            go_roundw
            case rel => exact ⟨m + 1 + 1, by omega, by go_num, by (repeat (first | exact Below.refl _ _ | assumption | refine bal ?_ _ | refine bdr ?_ | refine bdn ?_ _ | refine bst ?_ (by first | assumption | exact Nat.le_refl _ | omega) _ | refine bch ?_ (by assumption)))⟩
            case measure => simp [intOf]; omega
        · have f1' : (xs == 0) = false := by simpa using hsum
          have hsum' := Lib.hid hsum
          clear hsum
          rcases Nat.eq_zero_or_pos k with h0 | h0
          · subst h0
            go_quiet (fail)
            go_wp2_with fail
            refine (hCn.out _ (by (repeat (first | exact Below.refl _ _ | assumption | refine bal ?_ _ | refine bdr ?_ | refine bdn ?_ _ | refine bst ?_ (by first | assumption | exact Nat.le_refl _ | omega) _ | refine bch ?_ (by assumption))))).mono ?_
            rintro _ w7 ⟨rfl, hb7⟩
            go_wp2
            go_roundw
            case rel => exact ⟨0 + 1, by omega, by go_num, by (repeat (first | exact Below.refl _ _ | assumption | refine bal ?_ _ | refine bdr ?_ | refine bdn ?_ _ | refine bst ?_ (by first | assumption | exact Nat.le_refl _ | omega) _ | refine bch ?_ (by assumption)))⟩
            case measure => simp [intOf]; omega
          · obtain ⟨kp, d0, hlt'⟩ := hprev.out h0
            have hbl := less_lt hlt'
            replace d0 := cell_below hbx d0
            have hlt'' := Lib.hid hlt'
            clear hlt'
            obtain ⟨m, rfl⟩ : ∃ m, k = m + 1 := ⟨k - 1, by omega⟩
            simp only [Nat.add_sub_cancel] at d0
            go_quiet (fail)
            go_wp2_with fail
            refine (hCn.out _ (by (repeat (first | exact Below.refl _ _ | assumption | refine bal ?_ _ | refine bdr ?_ | refine bdn ?_ _ | refine bst ?_ (by first | assumption | exact Nat.le_refl _ | omega) _ | refine bch ?_ (by assumption))))).mono ?_
            rintro _ w7 ⟨rfl, hb7⟩
            go_wp2
            go_roundw
            case rel => exact ⟨m + 1 + 1, by omega, by go_num, by (repeat (first | exact Below.refl _ _ | assumption | refine bal ?_ _ | refine bdr ?_ | refine bdn ?_ _ | refine bst ?_ (by first | assumption | exact Nat.le_refl _ | omega) _ | refine bch ?_ (by assumption)))⟩
            case measure => simp [intOf]; omega
    · obtain rfl : k = L.length := by omega
      go_wp2
      go_ret
      exact ⟨rfl, bch hbw3 hb⟩
end Go.Proofs.YtpmedolndkidcaaDoor
