/- Walk of the law LzLong. -/
import Derived.Test.YtajpoggkmjedpabDoorWLzBad
import Derived.Test.YtajpoggkmjedpabDoorWFound
namespace Go.Proofs.YtajpoggkmjedpabDoor
open Go.RowKit
set_option linter.unusedVariables false
set_option linter.unusedSimpArgs false
set_option maxHeartbeats 2000000 in
theorem lz_swell_bad (s : ByteArray) (w : World) (hs : s.size ≤ 700000) (hbad : Lz.read s.data.toList = none) (hL : Laid w) :
    Calls Tryd.prog 7 #[.string s] w fun e w' => (∃ g, e = .returned (.tuple #[.string ⟨#[]⟩, .iface 40 (.pointer (some ⟨g, 0, none⟩))])) ∧ Below w.heap.size w w' := by
  have hR := lz_read_bad s w hs hbad hL
  replace hR := Lib.hid hR
  clear hbad
  go_enter Tryd.func7, Tryd.ntmps7
  go_wp2_with fail
  refine hR.out.mono ?_
  rintro _ w1 ⟨⟨g, rfl⟩, hb1⟩
  go_wp2
  go_ret2
  exact ⟨⟨g, rfl⟩, hb1⟩
def tot (l : List Match.Tok) : Nat := (l.map fun t => t.own.size + t.size.toNat).sum
theorem tot_take (l : List Match.Tok) (k : Nat) (h : k < l.length) : tot (l.take (k + 1)) = tot (l.take k) + (l[k].own.size + l[k].size.toNat) := by
  unfold tot; rw [List.take_succ_eq_append_getElem h, List.map_append, List.sum_append, List.map_singleton, List.sum_singleton]
theorem tot_le (l : List Match.Tok) (k : Nat) : tot (l.take k) ≤ tot l := by
  unfold tot
  conv => rhs; rw [← List.take_append_drop k l, List.map_append, List.sum_append]
  omega
theorem tot_adv (l : List Match.Tok) (h : ∀ t ∈ l, Lz.Good t) : tot l = (l.map Match.adv).sum := by
  induction l with
  | nil => rfl
  | cons t l ih =>
    have h1 := ih fun y hy => h y (List.mem_cons_of_mem _ hy)
    have h2 : t.own.size + t.size.toNat = Match.adv t := by
      rcases h t (List.mem_cons_self ..) with ⟨g1, g2, g3, g4⟩ | ⟨g1, g2, g3, g4, g5⟩
      · rw [Match.adv_own g1, g2]; rfl
      · have hz : t.own.size = 0 := by rw [g1]; rfl
        rw [Match.adv_rep hz, hz]; omega
    unfold tot at *
    rw [List.map_cons, List.sum_cons, List.map_cons, List.sum_cons, h1, h2]
set_option maxHeartbeats 8000000 in
set_option maxRecDepth 20000 in
theorem LzLong_walk (s : ByteArray) (w : World) (w0 : s.size ≤ 140737488351232) (hL : Laid w) :
    Calls Tryd.prog 3 #[.string s] w fun e w' => e = .returned (.bool true) ∧ Below w.heap.size w w' := by
  have hQ := squeezed w
  have hF := fun W => found W
  replace hQ := Lib.hid hQ
  replace hF := Lib.hid hF
  by_cases h600 : 600 < s.size
  · go_enter Tryd.func3, Tryd.ntmps3
    go_wp2_with fail
    refine hQ.out.mono ?_
    rintro _ w2 ⟨rfl, hb2⟩
    go_wp2_with fail
    refine (hF.out _).mono ?_
    rintro _ w3 ⟨rfl, hb3⟩
    go_wp2
    go_ret
    exact ⟨rfl, by (repeat (first | exact Below.refl _ _ | assumption | refine bal ?_ _ | refine bdr ?_ | refine bdn ?_ _ | refine bst ?_ (by first | assumption | exact Nat.le_refl _ | omega) _ | refine bch ?_ (by assumption)))⟩
  · cases hs : Lz.read s.data.toList with
    | none =>
      have hB := fun W hW => lz_read_bad s W (by omega) hs hW
      have hS := fun W hW => lz_swell_bad s W (by omega) hs hW
      replace hB := Lib.hid hB
      replace hS := Lib.hid hS
      clear hs
      go_enter Tryd.func3, Tryd.ntmps3
      go_wp2_with fail
      refine hQ.out.mono ?_
      rintro _ w2 ⟨rfl, hb2⟩
      go_wp2_with fail
      refine (hF.out _).mono ?_
      rintro _ w3 ⟨rfl, hb3⟩
      go_wp2_with fail
      refine (hB.out _ (hL.below (by (repeat (first | exact Below.refl _ _ | assumption | refine bal ?_ _ | refine bdr ?_ | refine bdn ?_ _ | refine bst ?_ (by first | assumption | exact Nat.le_refl _ | omega) _ | refine bch ?_ (by assumption)))))).mono ?_
      rintro _ w4 ⟨⟨g, rfl⟩, hb4⟩
      go_wp2_with fail
      refine (hS.out _ (hL.below (by (repeat (first | exact Below.refl _ _ | assumption | refine bal ?_ _ | refine bdr ?_ | refine bdn ?_ _ | refine bst ?_ (by first | assumption | exact Nat.le_refl _ | omega) _ | refine bch ?_ (by assumption)))))).mono ?_
      rintro _ w5 ⟨⟨g2, rfl⟩, hb5⟩
      go_wp2
      go_ret
      exact ⟨rfl, by (repeat (first | exact Below.refl _ _ | assumption | refine bal ?_ _ | refine bdr ?_ | refine bdn ?_ _ | refine bst ?_ (by first | assumption | exact Nat.le_refl _ | omega) _ | refine bch ?_ (by assumption)))⟩
    | some ts =>
      obtain ⟨hr2, hw2⟩ := Lz.read_ok _ _ hs
      have hal : Lz.all s.data.toList = some ts := by
        unfold Lz.read at hs
        cases ha : Lz.all s.data.toList with
        | none => rw [ha] at hs; cases hs
        | some us =>
          rw [ha] at hs
          simp only at hs
          split at hs
          · exact hs
          · cases hs
      have hgood := Lz.right_good ts 0 0 hr2 (by omega)
      have hR2 := fun W => lz_read s ts W (by omega) hal hr2
      have hlen : ts.length ≤ s.size := by
        have h1 : ∀ l : List Match.Tok, l.length ≤ (Lz.write l).length := fun l => by
          induction l with
          | nil => simp [Lz.write]
          | cons t l ih =>
            have := List.length_pos_iff.2 (Lz.put_ne t)
            unfold Lz.write at *
            rw [List.flatMap_cons, List.length_append, List.length_cons]; omega
        have h2 := h1 ts
        rw [hw2] at h2
        have hsl : s.data.toList.length = s.size := Array.length_toList
        omega
      have hSw := fun W => lz_swell s ts W (by omega) hal hr2 (by omega)
      have hRt := fun v W hW => match_right v ts W hW (fun t ht => by
        rcases hgood t ht with ⟨h1, h2, h3, h4⟩ | ⟨h1, h2, h3, h4, h5⟩
        · omega
        · rw [h1]; exact Nat.zero_le _) (by omega)
      rw [hr2] at hRt
      have htl := Match.text_len ts [] 0 hr2 (by simp)
      rw [← tot_adv ts hgood] at htl
      simp only [List.length_nil, Nat.zero_add] at htl
      obtain ⟨ht1, ht2⟩ := htl
      have htk := fun k (h : k < ts.length) => tot_take ts k h
      have htle := fun k => tot_le ts k
      have hbz := ba_size (Match.text [] ts)
      rw [ht1] at ht2 hbz
      generalize Match.text [] ts = B at *
      replace hR2 := Lib.hid hR2
      replace hSw := Lib.hid hSw
      replace hRt := Lib.hid hRt
      replace hgood := Lib.hid hgood
      replace htk := Lib.hid htk
      replace htle := Lib.hid htle
      clear hs hr2 hw2 hal
      go_enter Tryd.func3, Tryd.ntmps3
      go_wp2_with fail
      refine hQ.out.mono ?_
      rintro _ w2 ⟨rfl, hb2⟩
      go_wp2_with fail
      refine (hF.out _).mono ?_
      rintro _ w3 ⟨rfl, hb3⟩
      go_wp2_with fail
      refine (hR2.out _).mono ?_
      rintro _ w4 ⟨⟨v, rfl, hv⟩, hb4⟩
      have hb5 := bch (bch hb2 hb3) hb4
      have hv0 := Lib.hid hv
      obtain ⟨o, c, rfl, -, hcell⟩ := hv.at tokCells_len
      replace hcell := Lib.hid hcell
      clear hv hb2 hb3 hb4
      go_wp2
      go_loopw [7, 41] (fun x i wr => ∃ k : Nat, k ≤ ts.length ∧ i = .int .i64 k ∧ x = .int .i64 (tot (ts.take k) : Nat) ∧ Below w4.heap.size w4 wr) (fun _ i _ => ts.length - (intOf i).toNat)
      case atStart => exact ⟨0, by omega, rfl, by simp [tot], Below.refl _ _⟩
      case round =>
        obtain ⟨k, hk, rfl, rfl, hbel⟩ := hrel
        by_cases hlt : k < ts.length
        · obtain ⟨b1, f1, rfl, hb1, hc1⟩ := hcell.out k hlt
          have hb1 := hb1 (by omega)
          have c0 : wr.cell? ⟨b1, f1 + k * 3, none⟩ = some (.string ts[k].own) := (hbel.cell (p := ⟨b1, f1 + k * 3, none⟩) hb1).trans (hc1 0 _ rfl)
          have c1 : wr.cell? ⟨b1, f1 + k * 3 + 1, none⟩ = some (.int .i64 ts[k].back) := (hbel.cell (p := ⟨b1, f1 + k * 3 + 1, none⟩) hb1).trans (hc1 1 _ rfl)
          have c2 : wr.cell? ⟨b1, f1 + k * 3 + 2, none⟩ = some (.int .i64 ts[k].size) := (hbel.cell (p := ⟨b1, f1 + k * 3 + 2, none⟩) hb1).trans (hc1 2 _ rfl)
          have hg := hgood.out ts[k] (List.getElem_mem hlt)
          have h1 := htk.out k hlt
          have h2 := htle.out (k + 1)
          have hm : ∃ m : Nat, ts[k].size = (m : Int) ∧ ts[k].size.toNat = m := by
            rcases hg with ⟨g1, g2, g3, g4⟩ | ⟨g1, g2, g3, g4, g5⟩
            · exact ⟨0, g2, by rw [g2]; rfl⟩
            · exact ⟨ts[k].size.toNat, by omega, rfl⟩
          obtain ⟨m, hm1, hm2⟩ := hm
          rw [hm1] at c2
          rw [hm2] at h1
          clear hc1 hg hm1 hm2
          generalize hx : tot (ts.take k) = x at *
          generalize hy : tot (ts.take (k + 1)) = x2 at *
          generalize ts[k] = y at *
          replace hx := Lib.hid hx
          replace hy := Lib.hid hy
          go_wp2
          go_roundw
          case rel => exact ⟨k + 1, by omega, by go_num, by rw [hy.out]; go_num, by (repeat (first | exact Below.refl _ _ | assumption | refine bal ?_ _ | refine bdr ?_ | refine bdn ?_ _ | refine bst ?_ (by first | assumption | exact Nat.le_refl _ | omega) _ | refine bch ?_ (by assumption)))⟩
          case measure => simp [intOf]; omega
        · obtain rfl : k = ts.length := by omega
          rw [List.take_length] at *
          clear ht1
          generalize tot ts = N at *
          have hNN : ((N : Int) == (N : Int)) = true := by simp
          have hb6 := bch hb5 hbel
          go_wp2_with fail
          refine (hSw.out _).mono ?_
          rintro _ w6 ⟨rfl, hb7⟩
          go_wp2_with fail
          refine (hRt.out _ _ (hv0.out.below (by omega) (bch hbel hb7))).mono ?_
          rintro _ w7 ⟨v7, rfl, hv7, hb8⟩
          have hv7 : v7 = .nilIface := hv7
          subst hv7
          go_wp2
          go_ret
          exact ⟨rfl, by (repeat (first | exact Below.refl _ _ | assumption | refine bal ?_ _ | refine bdr ?_ | refine bdn ?_ _ | refine bst ?_ (by first | assumption | exact Nat.le_refl _ | omega) _ | refine bch ?_ (by assumption)))⟩
end Go.Proofs.YtajpoggkmjedpabDoor
