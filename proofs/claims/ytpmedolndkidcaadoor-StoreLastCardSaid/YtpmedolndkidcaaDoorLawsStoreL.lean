/- The walk of the law StoreLast. -/
import Derived.Test.YtpmedolndkidcaaDoorLawsStoreP
namespace Go.Proofs.YtpmedolndkidcaaDoor
open Go.RowKit
set_option linter.unusedVariables false
set_option linter.unusedSimpArgs false
set_option maxHeartbeats 8000000 in
set_option maxRecDepth 20000 in
theorem StoreLast_walk (v : Value) (l : List WrB) (w : World) (hl : ListIs wrBCells 6 w v l) (q : ∀ x ∈ l, WrBOk x) (z : l.length ≤ 140737488351232) (hL : Laid w) :
    Calls Tryd.prog 3 #[v] w fun e w' => e = .returned (.bool true) ∧ Below w.heap.size w w' := by
  have hSt := Lib.hid keep_stored
  have hRa := Lib.hid (fun W (hW : Below w.heap.size w W) => keep_right v l W (ListIs.below hl (by omega) hW) z)
  clear hl q hL
  go_enter Tryd.func3, Tryd.ntmps3
  go_wp2_with fail
  refine (hSt.out w).mono ?_
  rintro _ w1 ⟨rfl, hb1⟩
  go_wp2_with fail
  refine (hRa.out _ hb1).mono ?_
  rintro _ w2 ⟨ua, A, rfl, hA, hAr, hA60, hb2⟩
  have hbw2 := bch hb1 hb2
  obtain ⟨oa, ca, rfl⟩ := owns_slice_ hA
  have hA2 : WrsIs w2 _ A := ListIs.of_owns hA
  clear hA hb1 hb2 hRa hSt
  go_wp2_with fail
  refine (store_of _ A w2 hA2 (fun x hx => (hAr x hx).1) (by omega)).mono ?_
  rintro _ w3 ⟨v3, L, rfl, hO, hS, hI, hb3⟩
  have hbw3 := bch hbw2 hb3
  have hA3 := hA2.below hb3
  obtain ⟨oc, cc, rfl⟩ := owns_slice_ hO
  obtain ⟨hn1, hn2⟩ := celB_le (fun x hx => (hAr x hx).1) (by omega) hI
  obtain ⟨o1, c1, e1, -, hcA⟩ := ListIs.at hA3 wrBCells_len
  injection e1 with e1 _ e2
  subst e1; subst e2
  obtain ⟨o2, c2, e1, -, hcL⟩ := (ListIs.of_owns hO).at celCells_len
  injection e1 with e1 _ e2
  subst e1; subst e2
  replace hcA := Lib.hid hcA
  replace hcL := Lib.hid hcL
  have hAok := Lib.hid (fun x hx => (hAr x hx).1)
  have hlast : ∀ k (hk : k < L.length), St.last (A.map WrB.sw) L[k].cel.key = (L[k].cel.val.has, L[k].cel.val.text) := fun k hk => by
    rw [St.last_at, ((hI.2 _).1 (List.mem_map.2 ⟨_, List.getElem_mem hk, rfl⟩)).2]
  replace hlast := Lib.hid hlast
  clear hO hS hI hA2 hA3 hb3 hbw2 hAr hn2
  go_wp2
  go_loopw [22] (fun i wr => ∃ k : Nat, k ≤ L.length ∧ i = .int .i64 k ∧ Below w3.heap.size w3 wr) (fun i _ => L.length - (intOf i).toNat)
  case atStart => exact ⟨0, by omega, rfl, Below.refl _ _⟩
  case round =>
    obtain ⟨k, hk, rfl, hb⟩ := hrel
    by_cases hlt : k < L.length
    · obtain ⟨wo, hwo⟩ : ∃ wo : World, wo = wr := ⟨_, rfl⟩
      subst hwo
      obtain ⟨b1, f1, rfl, hb1', hc1⟩ := hcL.out k hlt
      have hb1' := hb1' (by omega)
      have hcc : ∀ (j : Nat) (u : Value), (celCells L[k])[j]? = some u → wo.cell? ⟨b1, f1 + k * 5 + j, none⟩ = some u := fun j u hu => (hb.cell (p := ⟨b1, f1 + k * 5 + j, none⟩) hb1').trans (hc1 j u hu)
      have hla := hlast.out k hlt
      generalize L[k] = x at *
      obtain ⟨⟨xk, xh, xt, xs, xl⟩, xa, xn, xc⟩ := x
      have c0 : wo.cell? ⟨b1, f1 + k * 5, none⟩ = _ := hcc 0 _ rfl
      have c1 := hcc 1 _ rfl
      have c2 := hcc 2 _ rfl
      have c3 := hcc 3 _ rfl
      have c4 := hcc 4 _ rfl
      (try simp only at c0 c1 c2 c3 c4 hla)
      clear hcc hc1
      replace hla := Lib.hid hla
      go_wp2
      have q0 := row_at (w := wo) (g := wo.heap.size) #[.string xk, .bool xh, .string xt, .int .i64 xs, .slice xa xn xc] 32 rfl
      have hb0 := bal hb (Obj.cells #[.string xk, .bool xh, .string xt, .int .i64 xs, .slice xa xn xc] 32)
      clear c0 c1 c2 c3 c4
      generalize wo.alloc (Obj.cells #[.string xk, .bool xh, .string xt, .int .i64 xs, .slice xa xn xc] 32) = w5 at *
      replace q0 := Lib.hid q0
      go_loopw [7, 8, 28] (fun h t i wr => ∃ j : Nat, j ≤ A.length ∧ i = .int .i64 j ∧ h = .bool (St.last ((A.take j).map WrB.sw) xk).1 ∧ t = .string (St.last ((A.take j).map WrB.sw) xk).2 ∧ Below w5.heap.size w5 wr) (fun _ _ i _ => A.length - (intOf i).toNat)
      case atStart => exact ⟨0, by omega, rfl, rfl, rfl, Below.refl _ _⟩
      case round =>
        obtain ⟨j, hj, rfl, rfl, rfl, hbi⟩ := hrel
        by_cases hltj : j < A.length
        · obtain ⟨b2, f2, rfl, hb2', hd1⟩ := hcA.out j hltj
          have hb2' := hb2' (by omega)
          have hbi0 := bch hb0 hbi
          have hdd : ∀ (i : Nat) (u : Value), (wrBCells A[j])[i]? = some u → wr.cell? ⟨b2, f2 + j * 6 + i, none⟩ = some u := fun i u hu => (hbi0.cell (p := ⟨b2, f2 + j * 6 + i, none⟩) hb2').trans (hd1 i u hu)
          have hst : St.last ((A.take (j + 1)).map WrB.sw) xk = if A[j].key = xk ∧ A[j].k = 1 then (true, A[j].val) else if A[j].key = xk ∧ A[j].k = 2 then (false, ⟨#[]⟩) else St.last ((A.take j).map WrB.sw) xk := by
            rw [List.take_succ_eq_append_getElem hltj, List.map_append, List.map_singleton]
            exact St.last_snoc _ _ _
          generalize St.last ((A.take j).map WrB.sw) xk = pr at *
          generalize hpr2 : St.last ((A.take (j + 1)).map WrB.sw) xk = pr2 at *
          obtain ⟨ph, pt⟩ := pr
          generalize A[j] = y at *
          obtain ⟨yt, yr, yk, ykey, yval, yn⟩ := y
          have d0 : wr.cell? ⟨b2, f2 + j * 6, none⟩ = _ := hdd 0 _ rfl
          have d1 := hdd 1 _ rfl
          have d2 := hdd 2 _ rfl
          have d3 := hdd 3 _ rfl
          have d4 := hdd 4 _ rfl
          have d5 := hdd 5 _ rfl
          (try simp only at d0 d1 d2 d3 d4 d5)
          have q5 := q0.out.below hbi
          (have e0 := q5.cell 0; have e1 := q5.cell 1; have e2 := q5.cell 2; have e3 := q5.cell 3; have e4 := q5.cell 4; simp only [List.set_cons_succ, List.set_cons_zero, List.getElem?_cons_zero, List.getElem?_cons_succ] at e0 e1 e2 e3 e4)
          have hq5 := q5.lt
          have hb2w : b2 < wr.heap.size := Nat.lt_of_lt_of_le hb2' hbi0.size
          have hst' : pr2 = if ykey = xk ∧ yk = 1 then (true, yval) else if ykey = xk ∧ yk = 2 then (false, ⟨#[]⟩) else (ph, pt) := hst
          replace hpr2 := Lib.hid hpr2
          clear hdd hd1 hst
          by_cases hkey : ykey = xk
          · subst hkey
            by_cases hk1 : yk = 1
            · subst hk1
              have hst2 := Lib.hid (hst'.trans (if_pos ⟨rfl, rfl⟩))
              clear hst'
              go_wp2
              go_region
              go_wp2
              go_roundw
              case rel => exact ⟨j + 1, by omega, by go_num, by rw [hpr2.out, hst2.out], by rw [hpr2.out, hst2.out], by (repeat (first | exact Below.refl _ _ | assumption | refine bal ?_ _ | refine bdr ?_ | refine bdn ?_ _ | refine bst ?_ (by first | assumption | exact Nat.le_refl _ | omega) _ | refine bch ?_ (by assumption)))⟩
              case measure => simp [intOf]; omega
            · by_cases hk2 : yk = 2
              · subst hk2
                have hst2 := Lib.hid (hst'.trans ((if_neg (fun h => hk1 h.2)).trans (if_pos ⟨rfl, rfl⟩)))
                clear hst'
                go_wp2
                go_roundw
                case rel => exact ⟨j + 1, by omega, by go_num, by rw [hpr2.out, hst2.out], by rw [hpr2.out, hst2.out], by (repeat (first | exact Below.refl _ _ | assumption | refine bal ?_ _ | refine bdr ?_ | refine bdn ?_ _ | refine bst ?_ (by first | assumption | exact Nat.le_refl _ | omega) _ | refine bch ?_ (by assumption)))⟩
                case measure => simp [intOf]; omega
              · have hst2 := Lib.hid (hst'.trans ((if_neg (fun h => hk1 h.2)).trans (if_neg (fun h => hk2 h.2))))
                have f1' : (yk == 1) = false := by simpa using hk1
                have f2' : (yk == 2) = false := by simpa using hk2
                clear hst' hk1 hk2
                go_wp2
                go_roundw
                case rel => exact ⟨j + 1, by omega, by go_num, by rw [hpr2.out, hst2.out], by rw [hpr2.out, hst2.out], by (repeat (first | exact Below.refl _ _ | assumption | refine bal ?_ _ | refine bdr ?_ | refine bdn ?_ _ | refine bst ?_ (by first | assumption | exact Nat.le_refl _ | omega) _ | refine bch ?_ (by assumption)))⟩
                case measure => simp [intOf]; omega
          · have hst2 := Lib.hid (hst'.trans ((if_neg (fun h => hkey h.1)).trans (if_neg (fun h => hkey h.1))))
            have hkk := ba_list_ne hkey
            clear hst' hkey
            go_wp2
            go_roundw
            case rel => exact ⟨j + 1, by omega, by go_num, by rw [hpr2.out, hst2.out], by rw [hpr2.out, hst2.out], by (repeat (first | exact Below.refl _ _ | assumption | refine bal ?_ _ | refine bdr ?_ | refine bdn ?_ _ | refine bst ?_ (by first | assumption | exact Nat.le_refl _ | omega) _ | refine bch ?_ (by assumption)))⟩
            case measure => simp [intOf]; omega
        · obtain rfl : j = A.length := by omega
          rw [List.take_length, hla.out]
          have q5 := q0.out.below hbi
          (have e0 := q5.cell 0; have e1 := q5.cell 1; have e2 := q5.cell 2; have e3 := q5.cell 3; have e4 := q5.cell 4; simp only [List.set_cons_succ, List.set_cons_zero, List.getElem?_cons_zero, List.getElem?_cons_succ] at e0 e1 e2 e3 e4)
          clear q5
          go_wp2
          go_roundw
          case rel => exact ⟨k + 1, by omega, by go_num, bch hb0 hbi⟩
          case measure => simp [intOf]; omega
    · obtain rfl : k = L.length := by omega
      go_wp2
      go_ret
      exact ⟨rfl, bch hbw3 hb⟩
end Go.Proofs.YtpmedolndkidcaaDoor
