/- The walks of keep.spun and keep.all. -/
import Derived.Test.YtdpdnkjpjoccmaaWDab
namespace Go.Proofs.Ytdpdnkjpjoccmaa
open Go.RowKit
set_option linter.unusedVariables false
set_option linter.unusedSimpArgs false
set_option maxHeartbeats 2000000 in
set_option maxRecDepth 20000 in
theorem disk_write_no (w : World) (d gs b m n : Nat) (st : Disk.St ByteArray) (hD : DiskIs w d gs b m n st) (i : Nat) (hi : i < n) (s : ByteArray) (hs : 32 < s.size) :
    Calls Try.prog 16 #[.pointer (some ⟨d, 0, none⟩), .int .i64 i, .string s] w fun e w' => e = .returned (.iface 60 (.int .i64 4)) ∧ Below w.heap.size w w' := by
  have hn := hD.len
  have hle := hD.le
  have c0 : w.cell? ⟨d, 0, none⟩ = some (.slice (some ⟨gs, 0, none⟩) n n) := hD.row.cell 0
  clear hD
  go_enter Try.func16, Try.ntmps16
  go_wp2
  go_ret
  exact ⟨rfl, by (repeat (first | exact Below.refl _ _ | assumption | refine bal ?_ _ | refine bdr ?_ | refine bdn ?_ _ | refine bst ?_ (by first | assumption | exact Nat.le_refl _ | omega) _ | refine bch ?_ (by assumption)))⟩
/-- What a step of a script does. -/
def dab (st : Disk.St ByteArray) (x : Dab) : Disk.St ByteArray := if x.y then st.sync else if x.s.size ≤ 32 then st.write (pickN x.at_ 8) (padB x.s) else st
def spunSt (l : List Dab) : Disk.St ByteArray := l.foldl dab ⟨List.replicate 8 (padB ⟨#[]⟩), fun _ => none⟩
theorem spunSt_take (l : List Dab) (k : Nat) (h : k < l.length) : spunSt (l.take (k + 1)) = dab (spunSt (l.take k)) l[k] := by
  unfold spunSt
  rw [List.take_succ_eq_append_getElem h, List.foldl_append]; rfl
/-- What a drawn region reads of a Dab. -/
def DabS (g : Nat) (d : Dab) (W : World) : Prop := W.cell? ⟨g, 0, none⟩ = some (.int .i64 d.at_) ∧ W.cell? ⟨g, 1, none⟩ = some (.string d.s) ∧ True
set_option maxHeartbeats 4000000 in
set_option maxRecDepth 20000 in
theorem keep_spun (v : Value) (l : List Dab) (w : World) (hv : DabsIs w v l) (hl : l.length ≤ 1000) (hr : ∀ d ∈ l, DabOk d) :
    Calls Try.prog 9 #[v] w fun e w' => (∃ d gs b m, e = .returned (.pointer (some ⟨d, 0, none⟩)) ∧ m ≤ l.length ∧ w.heap.size ≤ d ∧ w.heap.size ≤ gs ∧ w.heap.size ≤ b ∧ DiskIs w' d gs b m 8 (spunSt l)) ∧ Below w.heap.size w w' := by
  obtain ⟨o, c, rfl, hcap, hcell⟩ := hv.at dabCells_len
  clear hcap hv
  replace hcell := Lib.hid hcell
  replace hr := Lib.hid hr
  have hnew := Lib.hid (disk_new w 8 (by omega) (by omega))
  go_enter Try.func9, Try.ntmps9
  go_wp2_with fail
  refine hnew.out.mono ?_
  rintro e w2 ⟨⟨d, gs, b, rfl, hd, hg, hb, hD⟩, hb2⟩
  clear hnew
  replace hD := Lib.hid hD
  go_wp2
  go_loopw [19] (fun i wr => ∃ k m : Nat, k ≤ l.length ∧ m ≤ k ∧ i = .int .i64 k ∧ DiskIs wr d gs b m 8 (spunSt (l.take k)) ∧ Below w.heap.size w wr) (fun i _ => l.length - (intOf i).toNat)
  case atStart => exact ⟨0, 0, by omega, by omega, rfl, hD.out, by (repeat (first | exact Below.refl _ _ | assumption | refine bal ?_ _ | refine bdr ?_ | refine bdn ?_ _ | refine bst ?_ (by first | assumption | exact Nat.le_refl _ | omega) _ | refine bch ?_ (by assumption)))⟩
  case round =>
    obtain ⟨k, m, hk, hm, rfl, hD, hbel⟩ := hrel
    have hsz := hbel.size
    clear hb2
    by_cases hlt : k < l.length
    · obtain ⟨b1, f1, rfl, hb1, hc1⟩ := hcell.out k hlt
      have hb1 := hb1 (by omega)
      have c0 : wr.cell? ⟨b1, f1 + k * 3, none⟩ = some (.int .i64 l[k].at_) := (hbel.cell (p := ⟨b1, f1 + k * 3, none⟩) hb1).trans (hc1 0 _ rfl)
      have c1 : wr.cell? ⟨b1, f1 + k * 3 + 1, none⟩ = some (.string l[k].s) := (hbel.cell (p := ⟨b1, f1 + k * 3 + 1, none⟩) hb1).trans (hc1 1 _ rfl)
      have c2 : wr.cell? ⟨b1, f1 + k * 3 + 2, none⟩ = some (.bool l[k].y) := (hbel.cell (p := ⟨b1, f1 + k * 3 + 2, none⟩) hb1).trans (hc1 2 _ rfl)
      clear hc1
      have hst := spunSt_take l k hlt
      have hok := hr.out l[k] (List.getElem_mem hlt)
      generalize l[k] = x at *
      generalize spunSt (l.take k) = st at *
      generalize hst2 : spunSt (l.take (k + 1)) = st2 at *
      replace hst2 := Lib.hid hst2
      replace hst := Lib.hid hst
      replace hok := Lib.hid hok
      obtain ⟨xa, xs, xy⟩ := x
      dsimp only at c0 c1 c2
      have hgd : d < wr.heap.size := hD.row.lt
      have hgg : gs < wr.heap.size := hD.safe.lt
      have hgb : b < wr.heap.size := hD.next.lt
      replace hD := Lib.hid hD
      have hal := Lib.hid (row_alloc wr #[.int .i64 xa, .string xs, .bool xy] 28)
      cases xy with
      | true =>
        have e : Hid (st2 = st.sync) := Lib.hid (by rw [hst.out]; unfold dab; rw [if_pos rfl])
        go_wp2_with fail
        refine (disk_sync _ d gs b m 8 st (hD.out.below (by (repeat (first | exact Below.refl _ _ | assumption | refine bal ?_ _ | refine bdr ?_ | refine bdn ?_ _ | refine bst ?_ (by first | assumption | exact Nat.le_refl _ | omega) _ | refine bch ?_ (by assumption)))))).mono ?_
        rintro e' w3 ⟨rfl, hD3, ho3⟩
        have hb3 := ho3.below (B := w.heap.size) (fun j hj => by rcases hj with hj | hj <;> omega) (by simp; omega)
        replace hD3 := Lib.hid hD3
        go_wp2
        go_roundw
        case rel => exact ⟨k + 1, 0, by omega, by omega, by go_num, by rw [hst2.out, e.out]; exact hD3.out, (bal hbel _).trans hb3⟩
        case measure => simp [intOf]; omega
      | false =>
        have hb0 : Below w.heap.size w (wr.alloc (.cells #[.int .i64 xa, .string xs, .bool false] 28)) := bal hbel _
        have hDa : Hid (DiskIs (wr.alloc (.cells #[.int .i64 xa, .string xs, .bool false] 28)) d gs b m 8 st) := Lib.hid (hD.out.below ((Below.refl _ _).alloc (Nat.le_refl _) _))
        have hx0 : (wr.alloc (.cells #[.int .i64 xa, .string xs, .bool false] 28)).cell? ⟨wr.heap.size, 0, none⟩ = some (.int .i64 xa) := hal.out.cell 0
        have hx1 : (wr.alloc (.cells #[.int .i64 xa, .string xs, .bool false] 28)).cell? ⟨wr.heap.size, 1, none⟩ = some (.string xs) := hal.out.cell 1
        have hpk := Lib.hid (fun W => keep_pick xa 8 8 W rfl (by omega) (by omega))
        have hp8 := pickN_lt xa 8 (by omega)
        have hwsz : (wr.alloc (.cells #[.int .i64 xa, .string xs, .bool false] 28)).heap.size = wr.heap.size + 1 := by simp
        by_cases h32 : xs.size ≤ 32
        · have e : Hid (st2 = st.write (pickN xa 8) (padB xs)) := Lib.hid (by rw [hst.out]; unfold dab; rw [if_neg (by simp), if_pos h32])
          generalize pickN xa 8 = pk at *
          go_wp2_with fail
          generalize hwa : (wr.alloc (.cells #[.int .i64 xa, .string xs, .bool false] 28)) = wa at *
          have hS0 : DabS wr.heap.size ⟨xa, xs, false⟩ wa.drew := ⟨hx0, hx1, trivial⟩
          have hwd := Lib.hid (disk_write wa.drew d gs b m 8 st (hDa.out.below (Below.refl _ _).drew) pk hp8 xs h32 (by omega))
          (refine wp_region_held_drew (S := DabS wr.heap.size ⟨xa, xs, false⟩) (by kernel_rfl) ?_ (fun hHeld => ?_); ((try dsimp only); exact hS0))
          (refine held_take (i := 0) (v := ?_) rfl (by kernel_rfl) (by kernel_rfl) (by kernel_rfl) (fun _ _ _ h => h) (by kernel_rfl) (by assumption) ?_ ?_; rotate_left; (focus (intro w hSw; (obtain ⟨hSw1, hSw2, hSw3⟩ := hSw); (try dsimp only at hSw1 hSw2); go_simp; (try with_reducible rfl); done)); (simp only [Act.put, List.setIfInBounds_toArray, List.set_cons_zero, List.set_cons_succ]); refine held_take (i := 1) (v := ?_) rfl (by kernel_rfl) (by kernel_rfl) (by kernel_rfl) (fun _ _ _ h => h) (by kernel_rfl) (by assumption) ?_ ?_; rotate_left; (focus (intro w hSw; (obtain ⟨hSw1, hSw2, hSw3⟩ := hSw); (try dsimp only at hSw1 hSw2); go_simp; (try with_reducible rfl); done)); (simp only [Act.put, List.setIfInBounds_toArray, List.set_cons_zero, List.set_cons_succ]); refine held_take (i := 2) (v := ?_) rfl (by kernel_rfl) (by kernel_rfl) (by kernel_rfl) (fun _ _ _ h => h) (by kernel_rfl) (by assumption) ?_ ?_; rotate_left; (focus (intro w hSw; (obtain ⟨hSw1, hSw2, hSw3⟩ := hSw); (try dsimp only at hSw1 hSw2); go_simp; (try with_reducible rfl); done)); (simp only [Act.put, List.setIfInBounds_toArray, List.set_cons_zero, List.set_cons_succ]); refine held_take (i := 4) (v := ?_) rfl (by kernel_rfl) (by kernel_rfl) (by kernel_rfl) (fun _ _ _ h => h) (by kernel_rfl) (by assumption) ?_ ?_; rotate_left; (focus (intro w hSw; (obtain ⟨hSw1, hSw2, hSw3⟩ := hSw); (try dsimp only at hSw1 hSw2); go_simp; (try with_reducible rfl); done)); (simp only [Act.put, List.setIfInBounds_toArray, List.set_cons_zero, List.set_cons_succ]); refine held_take (i := 5) (v := ?_) rfl (by kernel_rfl) (by kernel_rfl) (by kernel_rfl) (fun _ _ _ h => h) (by kernel_rfl) (by assumption) ?_ ?_; rotate_left; (focus (intro w hSw; (obtain ⟨hSw1, hSw2, hSw3⟩ := hSw); (try dsimp only at hSw1 hSw2); go_simp; (try with_reducible rfl); done)); (simp only [Act.put, List.setIfInBounds_toArray, List.set_cons_zero, List.set_cons_succ]))
          (refine wpAnyH_ready (P := Try.prog) (md := .any) (rs := [3]) (by kernel_rfl) (by simp) ?_; refine held_cons rfl (by kernel_rfl) (fun K hK => ?_) AllReadyH.nil; ((go_simp; refine (hpk.out _).mono ?_; rintro _ wn ⟨rfl, rfl⟩); refine hK.out _ _ ?_ (fun hHeld => ?_); ((try dsimp only); exact hHeld); clear hK K; (try clear hHeld0); (try rename_i hHeld0)))
          (refine wpAnyH_ready (P := Try.prog) (md := .any) (rs := [6]) (by kernel_rfl) (by simp) ?_; refine held_cons rfl (by kernel_rfl) (fun K hK => ?_) AllReadyH.nil; ((go_simp; refine hwd.out.mono ?_; rintro _ w3 ⟨rfl, hD3, ho3⟩); refine hK.out _ _ ?_ (fun hHeld => ?_); ((try dsimp only); exact ⟨ho3.cell (p := ⟨wr.heap.size, 0, none⟩) hx0 (by show ¬ wr.heap.size = b; omega), ho3.cell (p := ⟨wr.heap.size, 1, none⟩) hx1 (by show ¬ wr.heap.size = b; omega), trivial⟩); clear hK K; (try clear hHeld0); (try rename_i hHeld0)))
          (refine wpAnyH_done (by kernel_rfl) ?_ _)
          have hb3 := ho3.below (B := w.heap.size) (fun j hj => by have hj : j = b := hj; omega) (by have := hwsz; show _ ≤ wa.heap.size; omega)
          replace hD3 := Lib.hid hD3
          go_wp2
          go_roundw
          case rel => exact ⟨k + 1, m + 1, by omega, by omega, by go_num, by rw [hst2.out, e.out]; exact hD3.out, (Below.drew hb0).trans hb3⟩
          case measure => simp [intOf]; omega
        · have e : Hid (st2 = st) := Lib.hid (by rw [hst.out]; unfold dab; rw [if_neg (by simp), if_neg h32])
          generalize pickN xa 8 = pk at *
          go_wp2_with fail
          generalize hwa : (wr.alloc (.cells #[.int .i64 xa, .string xs, .bool false] 28)) = wa at *
          have hS0 : DabS wr.heap.size ⟨xa, xs, false⟩ wa.drew := ⟨hx0, hx1, trivial⟩
          have hwd := Lib.hid (disk_write_no wa.drew d gs b m 8 st (hDa.out.below (Below.refl _ _).drew) pk hp8 xs (by omega))
          (refine wp_region_held_drew (S := DabS wr.heap.size ⟨xa, xs, false⟩) (by kernel_rfl) ?_ (fun hHeld => ?_); ((try dsimp only); exact hS0))
          (refine held_take (i := 0) (v := ?_) rfl (by kernel_rfl) (by kernel_rfl) (by kernel_rfl) (fun _ _ _ h => h) (by kernel_rfl) (by assumption) ?_ ?_; rotate_left; (focus (intro w hSw; (obtain ⟨hSw1, hSw2, hSw3⟩ := hSw); (try dsimp only at hSw1 hSw2); go_simp; (try with_reducible rfl); done)); (simp only [Act.put, List.setIfInBounds_toArray, List.set_cons_zero, List.set_cons_succ]); refine held_take (i := 1) (v := ?_) rfl (by kernel_rfl) (by kernel_rfl) (by kernel_rfl) (fun _ _ _ h => h) (by kernel_rfl) (by assumption) ?_ ?_; rotate_left; (focus (intro w hSw; (obtain ⟨hSw1, hSw2, hSw3⟩ := hSw); (try dsimp only at hSw1 hSw2); go_simp; (try with_reducible rfl); done)); (simp only [Act.put, List.setIfInBounds_toArray, List.set_cons_zero, List.set_cons_succ]); refine held_take (i := 2) (v := ?_) rfl (by kernel_rfl) (by kernel_rfl) (by kernel_rfl) (fun _ _ _ h => h) (by kernel_rfl) (by assumption) ?_ ?_; rotate_left; (focus (intro w hSw; (obtain ⟨hSw1, hSw2, hSw3⟩ := hSw); (try dsimp only at hSw1 hSw2); go_simp; (try with_reducible rfl); done)); (simp only [Act.put, List.setIfInBounds_toArray, List.set_cons_zero, List.set_cons_succ]); refine held_take (i := 4) (v := ?_) rfl (by kernel_rfl) (by kernel_rfl) (by kernel_rfl) (fun _ _ _ h => h) (by kernel_rfl) (by assumption) ?_ ?_; rotate_left; (focus (intro w hSw; (obtain ⟨hSw1, hSw2, hSw3⟩ := hSw); (try dsimp only at hSw1 hSw2); go_simp; (try with_reducible rfl); done)); (simp only [Act.put, List.setIfInBounds_toArray, List.set_cons_zero, List.set_cons_succ]); refine held_take (i := 5) (v := ?_) rfl (by kernel_rfl) (by kernel_rfl) (by kernel_rfl) (fun _ _ _ h => h) (by kernel_rfl) (by assumption) ?_ ?_; rotate_left; (focus (intro w hSw; (obtain ⟨hSw1, hSw2, hSw3⟩ := hSw); (try dsimp only at hSw1 hSw2); go_simp; (try with_reducible rfl); done)); (simp only [Act.put, List.setIfInBounds_toArray, List.set_cons_zero, List.set_cons_succ]))
          (refine wpAnyH_ready (P := Try.prog) (md := .any) (rs := [3]) (by kernel_rfl) (by simp) ?_; refine held_cons rfl (by kernel_rfl) (fun K hK => ?_) AllReadyH.nil; ((go_simp; refine (hpk.out _).mono ?_; rintro _ wn ⟨rfl, rfl⟩); refine hK.out _ _ ?_ (fun hHeld => ?_); ((try dsimp only); exact hHeld); clear hK K; (try clear hHeld0); (try rename_i hHeld0)))
          (refine wpAnyH_ready (P := Try.prog) (md := .any) (rs := [6]) (by kernel_rfl) (by simp) ?_; refine held_cons rfl (by kernel_rfl) (fun K hK => ?_) AllReadyH.nil; ((go_simp; refine hwd.out.mono ?_; rintro _ w3 ⟨rfl, hb3⟩); refine hK.out _ _ ?_ (fun hHeld => ?_); ((try dsimp only); exact ⟨cell_below hb3 hx0, cell_below hb3 hx1, trivial⟩); clear hK K; (try clear hHeld0); (try rename_i hHeld0)))
          (refine wpAnyH_done (by kernel_rfl) ?_ _)
          have hD3 := Lib.hid ((hDa.out.below (Below.refl _ _).drew).below hb3)
          go_wp2
          go_roundw
          case rel => exact ⟨k + 1, m, by omega, by omega, by go_num, by rw [hst2.out, e.out]; exact hD3.out, bch (Below.drew hb0) hb3⟩
          case measure => simp [intOf]; omega
    · obtain rfl : k = l.length := by omega
      rw [List.take_length] at hD
      replace hD := Lib.hid hD
      go_wp2
      go_ret
      exact ⟨⟨d, gs, b, m, rfl, hm, hd, hg, hb, hD.out⟩, hbel⟩
set_option maxHeartbeats 4000000 in
set_option maxRecDepth 20000 in
theorem keep_all (w : World) (d gs b m : Nat) (st : Disk.St ByteArray) (hD : DiskIs w d gs b m 8 st) (X : List ByteArray) (hX : X.length = 8) (hv : ∀ i (h : i < X.length), st.view i = some X[i]) :
    Calls Try.prog 11 #[.pointer (some ⟨d, 0, none⟩)] w fun e w' => (∃ v, e = .returned v ∧ w'.ownsRow w.heap.size 9 1 v X.length (X.flatMap strCells)) ∧ Below w.heap.size w w' := by
  have hrd := Lib.hid (fun W (hW : Below w.heap.size w W) i x hx => disk_read W d gs b m 8 st (hD.below hW) i x hx)
  replace hv := Lib.hid hv
  replace hD := Lib.hid hD
  go_enter Try.func11, Try.ntmps11
  go_wp2
  go_loopw [3, 7] (fun o i wr => ∃ k : Nat, k ≤ 8 ∧ i = .int .i64 k ∧ wr.ownsRow w.heap.size 9 1 o (X.take k).length ((X.take k).flatMap strCells) ∧ Below w.heap.size w wr) (fun _ i _ => 8 - (intOf i).toNat)
  case atStart => exact ⟨0, by omega, rfl, World.ownsRow_nil _ _ _ _, by (repeat (first | exact Below.refl _ _ | assumption | refine bal ?_ _ | refine bdr ?_ | refine bdn ?_ _ | refine bst ?_ (by first | assumption | exact Nat.le_refl _ | omega) _ | refine bch ?_ (by assumption)))⟩
  case round =>
    obtain ⟨k, hk, rfl, hO, hbel⟩ := hrel
    have hsz := hbel.size
    by_cases hlt : k < 8
    · have hkX : k < X.length := by omega
      have hview := hv.out k hkX
      have htk : X.take (k + 1) = X.take k ++ [X[k]] := List.take_succ_eq_append_getElem hkX
      have hlen : (X.take k).length = k := by rw [List.length_take]; omega
      generalize X[k] = x at *
      generalize X.take k = L at *
      generalize hL2 : X.take (k + 1) = L2 at *
      replace hL2 := Lib.hid hL2
      replace htk := Lib.hid htk
      replace hview := Lib.hid hview
      replace hO := Lib.hid hO
      go_wp2_with fail
      refine (hrd.out _ (by (repeat (first | exact Below.refl _ _ | assumption | refine bal ?_ _ | refine bdr ?_ | refine bdn ?_ _ | refine bst ?_ (by first | assumption | exact Nat.le_refl _ | omega) _ | refine bch ?_ (by assumption)))) k x hview.out).mono ?_
      rintro e w2 ⟨rfl, hb2⟩
      have hb2' : Below wr.heap.size wr w2 := by (repeat (first | exact Below.refl _ _ | assumption | refine bal ?_ _ | refine bdr ?_ | refine bdn ?_ _ | refine bst ?_ (by first | assumption | exact Nat.le_refl _ | omega) _ | refine bch ?_ (by assumption)))
      have hO2 := Lib.hid (owns_below hO.out hb2')
      have hbel2 := bch hbel hb2'
      have hw0 := hbel2.size
      clear hb2 hb2'
      go_wp2_with (first
        | ((at_builtin; go_must (refine app_one rfl _ _ 34 9 rfl (w.heap.size) (.string ⟨#[]⟩) 1 16 Try.underlying34 (by kernel_rfl) rfl _ _ _ rfl hO2.out _ rfl rfl ?_ (by omega) (by omega) hw0 ?_)); (focus (first | exact ⟨rfl, rfl⟩ | rfl | simp [Value.oneCell'])); intro a3 w3 hA3 hg3 hbk3 _ hb3))
      go_roundw
      case rel =>
        refine ⟨k + 1, by omega, by go_num, ?_, hbel2.trans (hb3.mono (by omega))⟩
        rw [hL2.out, htk.out, List.length_append, List.flatMap_append]
        exact hA3
      case measure => simp [intOf]; omega
    · obtain rfl : k = 8 := by omega
      rw [List.take_of_length_le (by omega)] at hO
      replace hO := Lib.hid hO
      go_wp2
      go_ret
      exact ⟨⟨_, rfl, hO.out⟩, hbel⟩
end Go.Proofs.Ytdpdnkjpjoccmaa
