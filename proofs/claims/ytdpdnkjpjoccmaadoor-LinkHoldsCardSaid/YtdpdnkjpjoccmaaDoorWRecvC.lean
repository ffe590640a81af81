/- The walk of recv's Save. -/
import Derived.Test.YtdpdnkjpjoccmaaDoorWRecvB
namespace Go.Proofs.YtdpdnkjpjoccmaaDoor
open Go.RowKit
set_option linter.unusedVariables false
set_option linter.unusedSimpArgs false
def TwoV (q1 : Addr) (u1 : Value) (q2 : Addr) (u2 : Value) (W : World) : Prop := W.cell? q1 = some u1 ∧ W.cell? q2 = some u2 ∧ True
theorem saveTo_step {D : List UInt8} {n f i : Nat} {K : Disk.St ByteArray} (hi : i < n) (hf : n ≤ i + 32 * f) : ∃ f', n ≤ i + 32 + 32 * f' ∧ Recv.saveTo D n f i K = Recv.saveTo D n f' (i + 32) (K.write (2 + i / 32) (Recv.pad ((D.drop i).take (min n (i + 32) - i)))) := by
  cases f with
  | zero => omega
  | succ f => exact ⟨f, by omega, by rw [Recv.saveTo, if_pos hi]⟩
theorem saveTo_end {D : List UInt8} {n f i : Nat} {K : Disk.St ByteArray} (hi : ¬ i < n) : Recv.saveTo D n f i K = K := by
  cases f with
  | zero => rfl
  | succ f => rw [Recv.saveTo, if_neg hi]
set_option maxHeartbeats 1000000 in
set_option maxRecDepth 20000 in
theorem recv_save (w : World) (p m : Nat) (O : Nat → Prop) (R : Recv.Rec) (hR : RecvIs w p O m R) (hl : R.came.length ≤ 4096) (hsv : R.saved ≤ 4096) (hm : m ≤ 900000) :
    Calls Tryd.prog 20 #[.pointer (some ⟨p, 0, none⟩)] w fun e w' => e = .returned (.tuple #[]) ∧ (∃ m', m' ≤ m + 130 ∧ RecvIs w' p O m' R.save) ∧ Only O w w' := by
  have hof := Lib.hid (recv_offer w p m O R hR hl)
  obtain ⟨d, gs, b, g3, g4, v3, v4, hR⟩ := hR
  have hle : R.offer ≤ R.came.length := Recv.offer_le _
  have hlen := hR.len
  have hbl : (byteVals R.data).length = R.came.length := by simp [byteVals, hlen]
  obtain ⟨a, c, rfl, hcell⟩ := hR.dat.slice R.came.length hbl
  have hn1 := hR.n1
  have hn2 := hR.n2
  have hn3 := hR.n3
  have hn4 := Lib.hid hR.n4
  have hpl := hR.row.lt
  have hbl2 := hR.disk.next.lt
  have hsave : Hid (R.save = { R with saved := R.offer, disk := Recv.saveTo R.data R.offer R.offer (R.saved / 32 * 32) R.disk }) := Lib.hid rfl
  replace hcell := Lib.hid hcell
  replace hlen := Lib.hid hlen
  replace hR := Lib.hid hR
  generalize hn : R.offer = n at *
  replace hn := Lib.hid hn
  obtain ⟨i0, hi0⟩ : ∃ i0, i0 = R.saved / 32 * 32 := ⟨_, rfl⟩
  rw [← hi0] at hsave
  have hi0q : (R.saved : Int) / 32 * 32 = (i0 : Int) := by omega
  have hi0q2 : wrap64 ((R.saved : Int) / 32 * 32) = (i0 : Int) := by unfold wrap64; omega
  have hi0b : i0 ≤ 4096 := by omega
  replace hi0 := Lib.hid hi0
  have c5 : w.cell? ⟨p, 5, none⟩ = some (.int .i64 R.saved) := hR.out.row.cell 5
  have hofn : Hid (Calls Tryd.prog 18 #[.pointer (some ⟨p, 0, none⟩)] w fun e w' => e = .returned (.int .i64 n) ∧ Below w.heap.size w w') := hof
  clear hof
  go_enter Tryd.func20, Tryd.ntmps20
  go_wp2_with fail
  refine hofn.out.mono ?_
  rintro e w2 ⟨rfl, hb2⟩
  have c5' : w2.cell? ⟨p, 5, none⟩ = some (.int .i64 R.saved) := cell_below hb2 c5
  have hs2 := hb2.size
  clear c5 hofn
  go_wp2
  go_loopw [3] (fun at_ wr => ∃ (i f j : Nat) (K : Disk.St ByteArray), at_ = .int .i64 i ∧ i = i0 + 32 * j ∧ j ≤ 129 ∧ n ≤ i + 32 * f ∧ Recv.saveTo R.data n f i K = Recv.saveTo R.data n n i0 R.disk ∧ DiskIs wr d gs b (m + j) 140 K ∧ Only (fun k => k = b) w2 wr) (fun at_ _ => n - (intOf at_).toNat)
  case atStart => exact ⟨i0, n, 0, R.disk, by go_num, by omega, by omega, by omega, rfl, hR.out.disk.below hb2, by first | exact Only.refl _ _ | exact (Only.refl _ _).drew⟩
  case round =>
    obtain ⟨i, f, j, K, rfl, hij, hj, hf, hst, hD, hon⟩ := hrel
    have hszr := hon.size
    by_cases hlt : i < n
    · obtain ⟨f', hf', hst'⟩ := saveTo_step (D := R.data) (K := K) hlt hf
      rw [hst'] at hst
      obtain ⟨rfl, rfl, hrow⟩ := hcell.out i (by omega)
      have hg := hn4.out (fun e => by rw [e] at hle; simp at hle; omega)
      have e0 : wr.cell? ⟨p, 0, none⟩ = some (.pointer (some ⟨d, 0, none⟩)) := hon.cell (p := ⟨p, 0, none⟩) (cell_below hb2 (hR.out.row.cell 0)) (by show ¬ p = b; omega)
      have e3 : wr.cell? ⟨p, 3, none⟩ = some (.slice (some ⟨g3, 0, none⟩) R.came.length R.came.length) := hon.cell (p := ⟨p, 3, none⟩) (cell_below hb2 (hR.out.row.cell 3)) (by show ¬ p = b; omega)
      have hrowr : Row wr g3 5 (byteVals R.data) := (hrow.below hb2).only hon (by omega)
      obtain ⟨r, hr⟩ : ∃ r, r = i + 32 := ⟨_, rfl⟩
      obtain ⟨q, hq⟩ : ∃ q, q = min n r := ⟨_, rfl⟩
      obtain ⟨u, hu⟩ : ∃ u, u = i / 32 := ⟨_, rfl⟩
      obtain ⟨t, ht⟩ : ∃ t, t = 2 + u := ⟨_, rfl⟩
      have hq1 : i < q := by omega
      have hq2 : q ≤ R.came.length := by omega
      have hq3 : q ≤ i + 32 := by omega
      have hib : i ≤ 8224 := by omega
      have ht2 : t < 140 := by omega
      rw [← hr, ← hq, ← hu, ← ht] at hst
      have hcv := str_of_mid (P := Tryd.prog) hrowr.drew 86 9 Tryd.underlying86 Tryd.underlying5 Tryd.underlying9 i (q - i) (R.came.length - i) (by rw [hlen.out]; omega)
      have hzs : (⟨((R.data.drop i).take (q - i)).toArray⟩ : ByteArray).size ≤ 32 := by
        rw [ba_size, List.length_take]; omega
      have hwd := disk_write wr.drew d gs b (m + j) 140 K (hD.below (Below.refl _ _).drew) t ht2 ⟨((R.data.drop i).take (q - i)).toArray⟩ hzs (by omega)
      rw [pad_padB] at hwd
      have hcne : ¬ R.came.length = i := by omega
      have hiq : i ≤ q := by omega
      have hnb : p ≠ b := hn3
      have hw1 : IntKind.i64.wrap ((i : Int) / 32) = (u : Int) := by rw [IntKind.wrap_i64]; omega
      have hw2 : IntKind.i64.wrap (2 + (u : Int)) = (t : Int) := by rw [IntKind.wrap_i64]; omega
      have hw3 : IntKind.i64.wrap ((i : Int) + 32) = (r : Int) := by rw [IntKind.wrap_i64]; omega
      have hw4 : min (n : Int) (r : Int) = (q : Int) := by omega
      have hw5 : (if r < n then (r : Int) else (n : Int)) = (q : Int) := by split <;> omega
      have hst0 : Hid (Recv.saveTo R.data n f' r (K.write t (Recv.pad ((R.data.drop i).take (q - i)))) = Recv.saveTo R.data n n i0 R.disk) := Lib.hid hst
      generalize (⟨((R.data.drop i).take (q - i)).toArray⟩ : ByteArray) = S at *
      replace hwd := Lib.hid hwd
      replace hst' := Lib.hid hst'
      replace hij := Lib.hid hij
      replace hq := Lib.hid hq
      replace hr := Lib.hid hr
      replace hu := Lib.hid hu
      replace ht := Lib.hid ht
      clear hrow hrowr hD hst
      go_wp2_with fail
      have hS0 : TwoV ⟨p, 0, none⟩ (.pointer (some ⟨d, 0, none⟩)) ⟨p, 3, none⟩ (.slice (some ⟨g3, 0, none⟩) R.came.length R.came.length) wr.drew := ⟨e0, e3, trivial⟩
      (refine wp_region_held_drew (S := TwoV ⟨p, 0, none⟩ (.pointer (some ⟨d, 0, none⟩)) ⟨p, 3, none⟩ (.slice (some ⟨g3, 0, none⟩) R.came.length R.came.length)) (by kernel_rfl) ?_ (fun hHeld => ?_); ((try dsimp only); exact hS0))
      (refine held_take (i := 0) (v := ?_) rfl (by kernel_rfl) (by kernel_rfl) (by kernel_rfl) (fun _ _ _ h => h) (by kernel_rfl) (by assumption) ?_ ?_; rotate_left; (focus (intro w hSw; (obtain ⟨hSw1, hSw2, hSw3⟩ := hSw); (try dsimp only at hSw1 hSw2); go_simp; (try with_reducible rfl); done)); (simp only [Act.put, List.setIfInBounds_toArray, List.set_cons_zero, List.set_cons_succ]); refine held_take (i := 1) (v := ?_) rfl (by kernel_rfl) (by kernel_rfl) (by kernel_rfl) (fun _ _ _ h => h) (by kernel_rfl) (by assumption) ?_ ?_; rotate_left; (focus (intro w hSw; (obtain ⟨hSw1, hSw2, hSw3⟩ := hSw); (try dsimp only at hSw1 hSw2); go_simp; (try with_reducible rfl); done)); (simp only [Act.put, List.setIfInBounds_toArray, List.set_cons_zero, List.set_cons_succ]); refine held_take (i := 2) (v := ?_) rfl (by kernel_rfl) (by kernel_rfl) (by kernel_rfl) (fun _ _ _ h => h) (by kernel_rfl) (by assumption) ?_ ?_; rotate_left; (focus (intro w hSw; (obtain ⟨hSw1, hSw2, hSw3⟩ := hSw); (try dsimp only at hSw1 hSw2); go_simp; (try with_reducible rfl); done)); (simp only [Act.put, List.setIfInBounds_toArray, List.set_cons_zero, List.set_cons_succ]); refine held_take (i := 3) (v := ?_) rfl (by kernel_rfl) (by kernel_rfl) (by kernel_rfl) (fun _ _ _ h => h) (by kernel_rfl) (by assumption) ?_ ?_; rotate_left; (focus (intro w hSw; (obtain ⟨hSw1, hSw2, hSw3⟩ := hSw); (try dsimp only at hSw1 hSw2); go_simp; (try with_reducible rfl); done)); (simp only [Act.put, List.setIfInBounds_toArray, List.set_cons_zero, List.set_cons_succ]); refine held_take (i := 4) (v := ?_) rfl (by kernel_rfl) (by kernel_rfl) (by kernel_rfl) (fun _ _ _ h => h) (by kernel_rfl) (by assumption) ?_ ?_; rotate_left; (focus (intro w hSw; (obtain ⟨hSw1, hSw2, hSw3⟩ := hSw); (try dsimp only at hSw1 hSw2); go_simp; (try with_reducible rfl); done)); (simp only [Act.put, List.setIfInBounds_toArray, List.set_cons_zero, List.set_cons_succ]); refine held_take (i := 5) (v := ?_) rfl (by kernel_rfl) (by kernel_rfl) (by kernel_rfl) (fun _ _ _ h => h) (by kernel_rfl) (by assumption) ?_ ?_; rotate_left; (focus (intro w hSw; (obtain ⟨hSw1, hSw2, hSw3⟩ := hSw); (try dsimp only at hSw1 hSw2); go_simp; (try with_reducible rfl); done)); (simp only [Act.put, List.setIfInBounds_toArray, List.set_cons_zero, List.set_cons_succ]); refine held_take (i := 6) (v := ?_) rfl (by kernel_rfl) (by kernel_rfl) (by kernel_rfl) (fun _ _ _ h => h) (by kernel_rfl) (by assumption) ?_ ?_; rotate_left; (focus (intro w hSw; (obtain ⟨hSw1, hSw2, hSw3⟩ := hSw); (try dsimp only at hSw1 hSw2); go_simp; (try with_reducible rfl); done)); (simp only [Act.put, List.setIfInBounds_toArray, List.set_cons_zero, List.set_cons_succ]); refine held_take (i := 7) (v := ?_) rfl (by kernel_rfl) (by kernel_rfl) (by kernel_rfl) (fun _ _ _ h => h) (by kernel_rfl) (by assumption) ?_ ?_; rotate_left; (focus (intro w hSw; (obtain ⟨hSw1, hSw2, hSw3⟩ := hSw); (try dsimp only at hSw1 hSw2); go_simp; (try with_reducible rfl); done)); (simp only [Act.put, List.setIfInBounds_toArray, List.set_cons_zero, List.set_cons_succ]); refine held_take (i := 8) (v := ?_) rfl (by kernel_rfl) (by kernel_rfl) (by kernel_rfl) (fun _ _ _ h => h) (by kernel_rfl) (by assumption) ?_ ?_; rotate_left; (focus (intro w hSw; (obtain ⟨hSw1, hSw2, hSw3⟩ := hSw); (try dsimp only at hSw1 hSw2); go_simp; (try with_reducible rfl); done)); (simp only [Act.put, List.setIfInBounds_toArray, List.set_cons_zero, List.set_cons_succ]); refine held_take (i := 9) (v := ?_) rfl (by kernel_rfl) (by kernel_rfl) (by kernel_rfl) (fun _ _ _ h => h) (by kernel_rfl) (by assumption) ?_ ?_; rotate_left; (focus (intro w hSw; (obtain ⟨hSw1, hSw2, hSw3⟩ := hSw); (try dsimp only at hSw1 hSw2); go_simp; (try with_reducible rfl); done)); (simp only [Act.put, List.setIfInBounds_toArray, List.set_cons_zero, List.set_cons_succ]); refine held_take (i := 10) (v := ?_) rfl (by kernel_rfl) (by kernel_rfl) (by kernel_rfl) (fun _ _ _ h => h) (by kernel_rfl) (by assumption) ?_ ?_; rotate_left; (focus (intro w hSw; (obtain ⟨hSw1, hSw2, hSw3⟩ := hSw); (try dsimp only at hSw1 hSw2); go_simp; (try with_reducible rfl); done)); (simp only [Act.put, List.setIfInBounds_toArray, List.set_cons_zero, List.set_cons_succ]); refine held_take (i := 11) (v := ?_) rfl (by kernel_rfl) (by kernel_rfl) (by kernel_rfl) (fun _ _ _ h => h) (by kernel_rfl) (by assumption) ?_ ?_; rotate_left; (focus (intro w hSw; (obtain ⟨hSw1, hSw2, hSw3⟩ := hSw); (try dsimp only at hSw1 hSw2); go_simp; (try with_reducible rfl); done)); (simp only [Act.put, List.setIfInBounds_toArray, List.set_cons_zero, List.set_cons_succ]); refine held_take (i := 12) (v := ?_) rfl (by kernel_rfl) (by kernel_rfl) (by kernel_rfl) (fun _ _ _ h => h) (by kernel_rfl) (by assumption) ?_ ?_; rotate_left; (focus (intro w hSw; (obtain ⟨hSw1, hSw2, hSw3⟩ := hSw); (try dsimp only at hSw1 hSw2); go_simp; (try with_reducible rfl); done)); (simp only [Act.put, List.setIfInBounds_toArray, List.set_cons_zero, List.set_cons_succ]); refine held_take (i := 13) (v := ?_) rfl (by kernel_rfl) (by kernel_rfl) (by kernel_rfl) (fun _ _ _ h => h) (by kernel_rfl) (by assumption) ?_ ?_; rotate_left; (focus (intro w hSw; (obtain ⟨hSw1, hSw2, hSw3⟩ := hSw); (try dsimp only at hSw1 hSw2); go_simp; (try with_reducible rfl); done)); (simp only [Act.put, List.setIfInBounds_toArray, List.set_cons_zero, List.set_cons_succ]); refine held_take (i := 14) (v := ?_) rfl (by kernel_rfl) (by kernel_rfl) (by kernel_rfl) (fun _ _ _ h => h) (by kernel_rfl) (by assumption) ?_ ?_; rotate_left; (focus (intro w hSw; (obtain ⟨hSw1, hSw2, hSw3⟩ := hSw); (try dsimp only at hSw1 hSw2); go_simp; (try with_reducible rfl); done)); (simp only [Act.put, List.setIfInBounds_toArray, List.set_cons_zero, List.set_cons_succ]); refine held_take (i := 15) (v := ?_) rfl (by kernel_rfl) (by kernel_rfl) (by kernel_rfl) (fun _ _ _ h => h) (by kernel_rfl) (by assumption) ?_ ?_; rotate_left; (focus (intro w hSw; (obtain ⟨hSw1, hSw2, hSw3⟩ := hSw); (try dsimp only at hSw1 hSw2); go_simp; (try with_reducible rfl); done)); (simp only [Act.put, List.setIfInBounds_toArray, List.set_cons_zero, List.set_cons_succ]); refine held_take (i := 16) (v := ?_) rfl (by kernel_rfl) (by kernel_rfl) (by kernel_rfl) (fun _ _ _ h => h) (by kernel_rfl) (by assumption) ?_ ?_; rotate_left; (focus (intro w hSw; (obtain ⟨hSw1, hSw2, hSw3⟩ := hSw); (try dsimp only at hSw1 hSw2); go_simp; (try with_reducible rfl); done)); (simp only [Act.put, List.setIfInBounds_toArray, List.set_cons_zero, List.set_cons_succ]))
      (refine wpAnyH_ready (P := Tryd.prog) (md := .any) (rs := [17]) (by kernel_rfl) (by simp) ?_; refine held_cons rfl (by kernel_rfl) (fun K hK => ?_) AllReadyH.nil; (go_simp; refine hK.out _ _ ?_ (fun hHeld => ?_); ((try dsimp only); exact hHeld); clear hK K; (try clear hHeld0); (try rename_i hHeld0)))
      (refine wpAnyH_ready (P := Tryd.prog) (md := .any) (rs := [18]) (by kernel_rfl) (by simp) ?_; refine held_cons rfl (by kernel_rfl) (fun K hK => ?_) AllReadyH.nil; ((go_simp; refine hwd.out.mono ?_; rintro _ w4 ⟨rfl, hD4, ho4⟩); refine hK.out _ _ ?_ (fun hHeld => ?_); ((try dsimp only); exact ⟨ho4.cell hHeld.1 (by show ¬ p = b; omega), ho4.cell hHeld.2.1 (by show ¬ p = b; omega), trivial⟩); clear hK K; (try clear hHeld0); (try rename_i hHeld0)))
      (refine wpAnyH_done (by kernel_rfl) ?_ _)
      have hon4 : Only (fun k => k = b) w2 w4 := hon.drew.trans ho4
      replace hD4 := Lib.hid hD4
      go_wp2
      go_roundw
      case rel => exact ⟨r, f', j + 1, _, by have := hr.out; rw [this], by have := hr.out; have := hij.out; omega, by have := hij.out; omega, by have := hr.out; omega, hst0.out, by rw [← Nat.add_assoc]; exact hD4.out, hon4⟩
      case measure => simp [intOf]; omega
    · rw [saveTo_end hlt] at hst
      have hd1 : decide ((i : Int) < (n : Int)) = false := by simp; omega
      replace hij := Lib.hid hij
      have hrow := ((hR.out.row.below hb2).only hon (by omega))
      have f5 := hrow.frozen 5 (by simp)
      have e5 : wr.cell? ⟨p, 5, none⟩ = some (.int .i64 R.saved) := hrow.cell 5
      replace hrow := Lib.hid hrow
      replace hst := Lib.hid hst
      replace hD := Lib.hid hD
      go_wp2
      go_end0
      have hR := hR.out
      have ho3 : Only (fun k => k = p ∨ k = gs ∨ k = b) w (wr.setCell ⟨p, 5, none⟩ (.int .i64 n)) := (((Only.of_below _ hb2).trans hon).mono (S' := fun k => k = p ∨ k = gs ∨ k = b) (fun k _ h => Or.inr (Or.inr h))).set (p := ⟨p, 5, none⟩) (Or.inl (Or.inl rfl)) _
      have hdS : DiskIs (wr.setCell ⟨p, 5, none⟩ (.int .i64 n)) d gs b (m + j) 140 R.save.disk := by
        rw [hsave.out]
        show DiskIs _ d gs b (m + j) 140 (Recv.saveTo R.data n n i0 R.disk)
        rw [← hst.out]
        exact hD.out.only ((Only.refl (fun k => k = p) wr).set (Or.inl rfl) _) (by omega) (by omega) (by omega)
      have hrw : Row (wr.setCell ⟨p, 5, none⟩ (.int .i64 n)) p 88 [.pointer (some ⟨d, 0, none⟩), .int .u32 R.save.name, .int .i64 R.save.came.length, .slice a R.came.length c, v4, .int .i64 R.save.saved, .int .i64 R.save.safe, .int .i64 R.save.mark] := by
        have h := hrow.out.set 5 (.int .i64 n)
        rw [hsave.out]
        exact h
      obtain ⟨h1, h2⟩ := hR.change ho3 R.save rfl rfl hrw hdS
      exact ⟨rfl, ⟨m + j, by omega, ⟨d, gs, b, g3, g4, _, v4, h1⟩⟩, h2⟩
end Go.Proofs.YtdpdnkjpjoccmaaDoor
