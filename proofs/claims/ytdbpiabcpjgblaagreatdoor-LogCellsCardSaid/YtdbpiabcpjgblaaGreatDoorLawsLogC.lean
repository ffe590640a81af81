/- The walk of the law LogCells. -/
import Derived.Test.YtdbpiabcpjgblaaGreatDoorK45
import Derived.Test.YtdbpiabcpjgblaaGreatDoorK28
import Derived.Test.YtdbpiabcpjgblaaGreatDoorK26
namespace Go.Proofs.YtdbpiabcpjgblaaGreatDoor
open Go.RowKit
set_option linter.unusedVariables false
set_option linter.unusedSimpArgs false
set_option maxHeartbeats 8000000 in
set_option maxRecDepth 20000 in
theorem LogCells_walk (a : Int) (v : Value) (l : List ActB) (w : World) (w0 : (Lit.int .i64 a).wf = true) (hv : ListIs actCells 9 w v l) (q : ∀ x ∈ l, ActOk x) (z : l.length ≤ 140737488351232) (hL : Laid w) :
    Calls Tryz.prog 9 #[.int .i64 a, v] w fun e w' => e = .returned (.bool true) ∧ Below w.heap.size w w' := by
  have hLg := Lib.hid (keep_logged w hL)
  have hX0 := Lib.hid (fun W (hW : Below w.heap.size w W) => keep_stored W)
  have hSm := Lib.hid (fun W (hW : Below w.heap.size w W) => keep_small v l W (hv.below (by omega) hW) z (fun x hx => ⟨(q x hx).2.2.1, (q x hx).2.2.2.1⟩))
  have hPk := Lib.hid (fun W => keep_pick a 5 5 W rfl (by omega) (by omega))
  obtain ⟨N, hN⟩ : ∃ N, N = 1 + pickN a 5 := ⟨_, rfl⟩
  have hplt := pickN_lt a 5 (by omega)
  have wN : IntKind.i64.wrap (1 + (pickN a 5 : Int)) = (N : Int) := by rw [IntWalk.i64_in _ (by omega)]; omega
  have hN1 : 1 ≤ N := by omega
  have hN5 : N ≤ 5 := by omega
  have hPa := Lib.hid (fun W (hW : Below w.heap.size w W) (hs : smallB l = true) => keep_party N v l W (hL.below hW) hN1 hN5 (hv.below (by omega) hW) (by unfold smallB at hs; simp only [Bool.and_eq_true, decide_eq_true_eq] at hs; exact hs.2))
  generalize pickN a 5 = pk at *
  obtain ⟨ov, cv, rfl, -, -⟩ := ListIs.at hv actCells_len
  have hl60 : smallB l = true → l.length ≤ 60 := fun hs => by unfold smallB at hs; simp only [Bool.and_eq_true, decide_eq_true_eq] at hs; exact hs.2
  clear hN hplt w0 hv q
  generalize smallB l = sm at *
  go_enter Tryz.func9, Tryz.ntmps9
  go_wp2_with fail
  refine hLg.out.mono ?_
  rintro _ w1 ⟨rfl, hb1⟩
  clear hLg
  go_wp2_with fail
  refine (hX0.out _ hb1).mono ?_
  rintro _ wx0 ⟨rfl, hx0⟩
  replace hb1 := bch hb1 hx0
  clear hx0 hX0
  go_wp2_with fail
  refine (hSm.out _ hb1).mono ?_
  rintro _ w2 ⟨rfl, hb2⟩
  have hbw2 := bch hb1 hb2
  clear hSm hb1 hb2
  cases sm with
  | false =>
    go_wp2
    go_ret
    exact ⟨rfl, by exact blw⟩
  | true =>
  have hPa1 := Lib.hid (hPa.out w2 hbw2 rfl)
  replace hl60 := hl60 rfl
  clear hPa
  go_wp2_with fail
  refine (hPk.out _).mono ?_
  rintro _ _ ⟨rfl, rfl⟩
  clear hPk
  go_wp2_with fail
  refine hPa1.out.mono ?_
  rintro _ w3 ⟨⟨u, rfl, ls, G, hV, hln, hPt, hGl⟩, hb23⟩
  have hbase := hbw2.size
  have hbw3 := hbw2.trans (hb23.mono hbase)
  have hG : G.length ≤ 60 := by omega
  obtain ⟨B, hB⟩ : ∃ B, B = w2.heap.size := ⟨_, rfl⟩
  have hB3 : B ≤ w3.heap.size := hB ▸ hb23.size
  rw [← hB] at hV hbase
  obtain ⟨ou, cu, rfl⟩ := owns_slice_ hV.at_
  obtain ⟨g, rfl, -⟩ := owns_pos hV.at_ (by omega)
  rw [hln] at hV ⊢
  clear hPa1 hb23 hbw2 hB hGl
  have hO := hV.at_
  rw [hln] at hO
  have hgg := (hO.lt g rfl).2
  have hcell : ∀ k (hk : k < ls.length), w3.cell? ⟨g, k, none⟩ = some (.pointer (some ⟨ls[k].p, 0, none⟩)) := fun k hk => by
    rw [hO.cellAt k (by omega), List.getElem?_map, List.getElem?_eq_getElem hk]; rfl
  have hlog := fun k (hk : k < ls.length) W (hW : Below w3.heap.size w3 W) => (hV.logs.each k hk).below hW
  have hok := fun k (hk : k < ls.length) => show ls[k].m.Ok by
    have := (hPt.ok k (by simpa using hk)).1
    rwa [List.getElem_map] at this
  replace hbw3 := Lib.hid hbw3
  replace hcell := Lib.hid hcell
  replace hlog := Lib.hid hlog
  replace hok := Lib.hid hok
  clear hO hV hPt
  go_wp2
  go_loopw [33] (fun i wr => ∃ k : Nat, k ≤ N ∧ i = .int .i64 k ∧ Below w3.heap.size w3 wr) (fun i _ => N - (intOf i).toNat)
  case atStart => exact ⟨0, by omega, rfl, Below.refl _ _⟩
  case round =>
    obtain ⟨k, hk, rfl, hb⟩ := hrel
    by_cases hlt : k < N
    · have hkl : k < ls.length := by omega
      have e1 := cell_below hb (hcell.out k hkl)
      have hgl : g < wr.heap.size := Nat.lt_of_lt_of_le hgg hb.size
      have hli : (k : Int) < (N : Int) := by omega
      have okk := hok.out k hkl
      have hlg := fun W (hW : Below wr.heap.size wr W) => hlog.out k hkl W (bch hb hW)
      generalize ls[k] = X at *
      obtain ⟨px, mx, hvx, wvx⟩ := X
      (try simp only at e1 okk hlg)
      have hR := okk.right_
      have hWl := okk.len
      have hA := Lib.hid (fun W (hW : Below wr.heap.size wr W) => log_writes B px mx hvx wvx W (hlg W hW) (by omega))
      have hS := Lib.hid (fun u W (hu : WrsIs W u mx.W) => store_of u mx.W W hu hR (by omega))
      have hC := Lib.hid (fun W (hW : Below wr.heap.size wr W) => log_cells B px mx hvx wvx W (hlg W hW) hR (by omega))
      replace hR := Lib.hid hR
      clear hlg okk
      go_wp2_with fail
      refine (hA.out _ (Below.refl _ _)).mono ?_
      rintro _ w4 ⟨⟨u4, rfl, hO4⟩, hb4⟩
      have hS4 := Lib.hid (hS.out u4 w4 (ListIs.of_owns hO4))
      clear hA hS hO4
      go_wp2_with fail
      refine hS4.out.mono ?_
      rintro _ w5 ⟨v5, L5, rfl, hO5, hS5, hI5, hb5⟩
      have hC5 := celL_of hO5 hS5
      have hb45 := bch hb4 hb5
      clear hS4 hO5 hS5 hb4 hb5
      go_wp2_with fail
      refine (hC.out _ hb45).mono ?_
      rintro _ w6 ⟨v6, L6, rfl, hO6, hS6, hI6, hb6⟩
      have hC6 := celL_of hO6 hS6
      obtain ⟨hn1, hn2⟩ := celB_le hR.out (by omega) hI5
      have hsc := Lib.hid (same_cells v5 v6 L5 L6 w6 (hC5.below hb6) hC6 (hI5.unique hI6) hn1 hn2)
      have hb46 := bch hb45 hb6
      clear hC hO6 hS6 hI5 hI6 hn1 hn2 hC5 hC6 hb6 hb45
      go_wp2_with fail
      refine hsc.out.mono ?_
      rintro _ w7 ⟨rfl, hb7⟩
      have hb47 := Lib.hid (bch hb (bch hb46 hb7))
      clear hsc hb46 hb7 hb e1 hgl
      go_wp2
      go_roundw
      case rel => exact ⟨k + 1, by omega, by go_num, hb47.out⟩
      case measure => simp [intOf]; omega
    · obtain rfl : k = N := by omega
      have hfin := Lib.hid (hbw3.out.trans (hb.mono hbw3.out.size))
      clear hb
      go_wp2
      go_ret
      exact ⟨rfl, hfin.out⟩
end Go.Proofs.YtdbpiabcpjgblaaGreatDoor
