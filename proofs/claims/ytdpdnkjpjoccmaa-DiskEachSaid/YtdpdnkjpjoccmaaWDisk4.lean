/- The walks of disk's Crash and Sync. -/
import Derived.Test.YtdpdnkjpjoccmaaWDisk3
namespace Go.Proofs.Ytdpdnkjpjoccmaa
open Go.RowKit
set_option linter.unusedVariables false
set_option linter.unusedSimpArgs false
theorem u64_bit' (b k : Nat) (hb : b < 18446744073709551616) : bits .and .u64 ((b : Int) / 2 ^ k) 1 = ((b / 2 ^ k % 2 : Nat) : Int) := by
  have h : b / 2 ^ k < 18446744073709551616 := Nat.lt_of_le_of_lt (Nat.div_le_self _ _) hb
  have h1 := u64_and_nat (b / 2 ^ k) 1 h (by omega)
  rw [Nat.and_one_is_mod] at h1
  rw [← h1]
  rw [Int.natCast_ediv, Int.natCast_pow]; rfl
theorem sink_snoc {α : Type} (keep : Nat → Bool) (next : Nat → Option α) (c : List α) (a : List Nat) (i j : Nat) (x : α) (hx : next i = some x) : Disk.sink keep next c (a ++ [i]) j = if keep (j + a.length) then (Disk.sink keep next c a j).set i x else Disk.sink keep next c a j := by
  induction a generalizing c j with
  | nil => simp [Disk.sink, hx]
  | cons y a ih =>
    rw [List.cons_append, Disk.sink, ih, Disk.sink, List.length_cons, show j + 1 + a.length = j + (a.length + 1) by omega]
theorem sink_size (keep : Nat → Bool) (next : Nat → Option ByteArray) (c : List ByteArray) (l : List Nat) (j : Nat) (hc : ∀ x ∈ c, x.size = 32) (hn : ∀ i x, next i = some x → x.size = 32) : ∀ x ∈ Disk.sink keep next c l j, x.size = 32 := by
  induction l generalizing c j with
  | nil => exact hc
  | cons i l ih =>
    rw [Disk.sink]
    refine ih _ _ ?_
    cases hi : next i with
    | none => exact hc
    | some x =>
      simp only
      split
      · intro y hy
        rcases List.mem_or_eq_of_mem_set hy with hy | rfl
        · exact hc y hy
        · exact hn i _ hi
      · exact hc
theorem owns_block {w : World} {base : Nat} {e : TypeId} {sz n n' cap g f : Nat} {xs : List Value} (h : w.ownsRow base e sz (.slice (some ⟨g, f, none⟩) n' cap) n xs) : base ≤ g := by
  rcases h.2 with ⟨h, -⟩ | ⟨g', cap', cur, h, hb, -⟩
  · cases h
  · injection h with h1
    injection h1 with h1
    injection h1 with h1
    omega
/-- What a drawn region of disk reads. -/
def DiskS (d gs b m n : Nat) (st : Disk.St ByteArray) (W : World) : Prop := W.cell? ⟨d, 0, none⟩ = some (.slice (some ⟨gs, 0, none⟩) n n) ∧ W.cell? ⟨d, 1, none⟩ = some (.map (some b)) ∧ NatStr W b m st.next
theorem DiskS.set {d gs b m n : Nat} {st : Disk.St ByteArray} {W : World} (h : DiskS d gs b m n st W) (hd : d ≠ gs) (hb : b ≠ gs) (i : Nat) (v : Value) : DiskS d gs b m n st (W.setCell ⟨gs, i, none⟩ v) :=
  ⟨(World.cell?_of_block (Below.heap_setCell W ⟨gs, i, none⟩ v d hd)).trans h.1, (World.cell?_of_block (Below.heap_setCell W ⟨gs, i, none⟩ v d hd)).trans h.2.1, h.2.2.of_block (Below.heap_setCell W ⟨gs, i, none⟩ v b hb)⟩
set_option maxHeartbeats 4000000 in
set_option maxRecDepth 20000 in
theorem disk_crash (w : World) (d gs b m n : Nat) (st : Disk.St ByteArray) (hD : DiskIs w d gs b m n st) (mask : Nat) (hmask : mask < 18446744073709551616) :
    Calls Try.prog 13 #[.pointer (some ⟨d, 0, none⟩), .int .u64 mask] w fun e w' => e = .returned (.tuple #[]) ∧ DiskIs w' d gs b 0 n (st.crash (keepM mask)) ∧ Only (fun k => k = gs ∨ k = b) w w' := by
  have K := Lib.hid (key_nat (P := Try.prog) (k := 3) Try.underlying3)
  have E := Lib.hid (elem_str (P := Try.prog) (e := 9) Try.underlying9 (fun w => by kernel_rfl))
  have hDi := Lib.hid (disk_dirty w d gs b m n st hD)
  have hbit := Lib.hid (fun k => u64_bit' mask k hmask)
  have hle := hD.le
  have hdg := hD.ne1
  have hdb := hD.ne2
  have hgb := hD.ne3
  have hdw := hD.row.lt
  have hgw := hD.safe.lt
  have hbw := hD.next.lt
  have hdm : ∀ k (hk : k < st.dirty.length), st.dirty[k] < n ∧ ∃ x, st.next st.dirty[k] = some x := fun k hk => by
    have := (Disk.dirty_mem st _).1 (List.getElem_mem hk)
    rw [hD.len] at this
    exact ⟨this.1, Option.isSome_iff_exists.1 this.2⟩
  replace hdm := Lib.hid hdm
  have hDl : st.dirty.length ≤ n := by
    have := dirtI_len st n
    rw [dirtI_all st n hD.len, List.length_map] at this
    exact this
  replace hmask := Lib.hid hmask
  replace hD := Lib.hid hD
  have hcr : Hid (st.crash (keepM mask) = ⟨Disk.sink (keepM mask) st.next st.safe st.dirty 0, fun _ => none⟩) := Lib.hid rfl
  go_enter Try.func13, Try.ntmps13
  go_wp2_with fail
  refine hDi.out.mono ?_
  rintro e w2 ⟨⟨v, rfl, hO⟩, hb2⟩
  obtain ⟨o, c, rfl, hcap, hcell⟩ := (ListIs.of_owns hO : IntsIs w2 v (st.dirty.map Int.ofNat)).at intCells_len
  clear hcap
  rw [List.length_map] at *
  replace hcell := Lib.hid hcell
  replace hO := Lib.hid hO
  have hsz2 := hb2.size
  go_wp2
  go_loopw [9] (fun i wr => ∃ k : Nat, k ≤ st.dirty.length ∧ i = .int .i64 k ∧ Row wr gs 9 ((Disk.sink (keepM mask) st.next st.safe (st.dirty.take k) 0).map Value.string) ∧ Only (fun j => j = gs) w2 wr) (fun i _ => st.dirty.length - (intOf i).toNat)
  case atStart => exact ⟨0, by omega, rfl, by show Row _ _ _ (st.safe.map Value.string); exact hD.out.safe.below (by (repeat (first | exact Below.refl _ _ | assumption | refine bal ?_ _ | refine bdr ?_ | refine bdn ?_ _ | refine bst ?_ (by first | assumption | exact Nat.le_refl _ | omega) _ | refine bch ?_ (by assumption)))), by first | exact Only.refl _ _ | exact (Only.refl _ _).drew⟩
  case round =>
    obtain ⟨k, hk, rfl, hrow, hon⟩ := hrel
    have hsz3 := hon.size
    by_cases hlt : k < st.dirty.length
    · obtain ⟨b1, f1, rfl, hb1, hc1⟩ := hcell.out k (by rw [List.length_map]; exact hlt)
      have hb1g := owns_block hO.out
      obtain ⟨hin, x, hx⟩ := hdm.out k hlt
      have c0 : wr.cell? ⟨b1, f1 + k, none⟩ = some (.int .i64 (st.dirty[k] : Nat)) := hon.cell (p := ⟨b1, f1 + k, none⟩) (by have := hc1 0 _ rfl; simpa using this) (by show ¬ b1 = gs; omega)
      clear hc1
      have htk : st.dirty.take (k + 1) = st.dirty.take k ++ [st.dirty[k]] := List.take_succ_eq_append_getElem hlt
      have hsk := sink_snoc (keepM mask) st.next st.safe (st.dirty.take k) st.dirty[k] 0 x hx
      rw [← htk, Nat.zero_add, List.length_take, Nat.min_eq_left hk] at hsk
      have d0 : wr.cell? ⟨d, 0, none⟩ = some (.slice (some ⟨gs, 0, none⟩) n n) := hon.cell (p := ⟨d, 0, none⟩) ((hb2.cell (p := ⟨d, 0, none⟩) hdw).trans (hD.out.row.cell 0)) hdg
      have d1 : wr.cell? ⟨d, 1, none⟩ = some (.map (some b)) := hon.cell (p := ⟨d, 1, none⟩) ((hb2.cell (p := ⟨d, 1, none⟩) hdw).trans (hD.out.row.cell 1)) hdg
      have hM := Lib.hid ((hD.out.next.below hb2).only hon (fun e => hgb e.symm))
      have hsl := Disk.sink_len (keepM mask) st.next st.safe (st.dirty.take k) 0
      rw [hD.out.len] at hsl
      have hfz := hrow.frozen st.dirty[k] (by rw [List.length_map, hsl]; exact hin)
      have hold : ∃ y, wr.cell? ⟨gs, st.dirty[k], none⟩ = some (.string y) := by
        refine ⟨(Disk.sink (keepM mask) st.next st.safe (st.dirty.take k) 0)[st.dirty[k]]'(by rw [hsl]; exact hin), ?_⟩
        rw [hrow.cell, List.getElem?_map, List.getElem?_eq_getElem (by rw [hsl]; exact hin)]; rfl
      obtain ⟨y, hold⟩ := hold
      replace hrow := Lib.hid hrow
      clear htk hsl
      generalize Disk.sink (keepM mask) st.next st.safe (st.dirty.take k) 0 = L at *
      generalize hL2 : Disk.sink (keepM mask) st.next st.safe (st.dirty.take (k + 1)) 0 = L2 at *
      replace hL2 := Lib.hid hL2
      generalize hat : st.dirty[k] = at_ at *
      have hir : at_ ≤ maxLen := by unfold maxLen; omega
      replace hir := Lib.hid hir
      replace hx := Lib.hid hx
      replace hsk := Lib.hid hsk
      rcases Nat.lt_or_ge 63 k with h63 | h63
      · have hmin : Hid (min k 63 = 63) := Lib.hid (Nat.min_eq_right (by omega))
        by_cases hb' : mask / 2 ^ 63 % 2 = 1
        · have hand : bits .and .u64 ((mask : Int) / 9223372036854775808) 1 = 1 := by have h := hbit.out 63; rw [hb'] at h; exact h
          go_wp2_with fail
          have hS : DiskS d gs b m n st wr.drew := ⟨d0, d1, hM.out⟩
          have hold' : wr.drew.cell? ⟨gs, at_, none⟩ = some (.string y) := hold
          have hfz' : wr.drew.frozen? ⟨gs, at_, none⟩ = false := hfz
          (refine wp_region_held_drew (S := DiskS d gs b m n st) (by kernel_rfl) ?_ (fun hHeld => ?_); ((try dsimp only); exact hS))
          (refine held_take (i := 0) (v := ?_) rfl (by kernel_rfl) (by kernel_rfl) (by kernel_rfl) (fun _ _ _ h => h) (by kernel_rfl) (by assumption) ?_ ?_; rotate_left; (focus (intro w hSw; (obtain ⟨hSw1, hSw2, hSw3⟩ := hSw); (try dsimp only at hSw1 hSw2); go_simp; (try with_reducible rfl); done)); (simp only [Act.put, List.setIfInBounds_toArray, List.set_cons_zero, List.set_cons_succ]); refine held_take (i := 1) (v := ?_) rfl (by kernel_rfl) (by kernel_rfl) (by kernel_rfl) (fun _ _ _ h => h) (by kernel_rfl) (by assumption) ?_ ?_; rotate_left; (focus (intro w hSw; (obtain ⟨hSw1, hSw2, hSw3⟩ := hSw); (try dsimp only at hSw1 hSw2); go_simp; (try with_reducible rfl); done)); (simp only [Act.put, List.setIfInBounds_toArray, List.set_cons_zero, List.set_cons_succ]); refine held_take (i := 2) (v := ?_) rfl (by kernel_rfl) (by kernel_rfl) (by kernel_rfl) (fun _ _ _ h => h) (by kernel_rfl) (by assumption) ?_ ?_; rotate_left; (focus (intro w hSw; (obtain ⟨hSw1, hSw2, hSw3⟩ := hSw); (try dsimp only at hSw1 hSw2); go_simp; (try with_reducible rfl); done)); (simp only [Act.put, List.setIfInBounds_toArray, List.set_cons_zero, List.set_cons_succ]); refine held_take (i := 3) (v := ?_) rfl (by kernel_rfl) (by kernel_rfl) (by kernel_rfl) (fun _ _ _ h => h) (by kernel_rfl) (by assumption) ?_ ?_; rotate_left; (focus (intro w hSw; (obtain ⟨hSw1, hSw2, hSw3⟩ := hSw); (try dsimp only at hSw1 hSw2); go_simp; (try with_reducible rfl); done)); (simp only [Act.put, List.setIfInBounds_toArray, List.set_cons_zero, List.set_cons_succ]); refine held_take (i := 4) (v := ?_) rfl (by kernel_rfl) (by kernel_rfl) (by kernel_rfl) (fun _ _ _ h => h) (by kernel_rfl) (by assumption) ?_ ?_; rotate_left; (focus (intro w hSw; (obtain ⟨hSw1, hSw2, hSw3⟩ := hSw); (try dsimp only at hSw1 hSw2); go_simp; (try with_reducible rfl); done)); (simp only [Act.put, List.setIfInBounds_toArray, List.set_cons_zero, List.set_cons_succ]); refine held_take (i := 5) (v := ?_) rfl (by kernel_rfl) (by kernel_rfl) (by kernel_rfl) (fun _ _ _ h => h) (by kernel_rfl) (by assumption) ?_ ?_; rotate_left; (focus (intro w hSw; (obtain ⟨hSw1, hSw2, hSw3⟩ := hSw); (try dsimp only at hSw1 hSw2); go_simp; (try with_reducible rfl); done)); (simp only [Act.put, List.setIfInBounds_toArray, List.set_cons_zero, List.set_cons_succ]); refine held_take (i := 6) (v := ?_) rfl (by kernel_rfl) (by kernel_rfl) (by kernel_rfl) (fun _ _ _ h => h) (by kernel_rfl) (by assumption) ?_ ?_; rotate_left; (focus (intro w hSw; (obtain ⟨hSw1, hSw2, hSw3⟩ := hSw); (try dsimp only at hSw1 hSw2); go_simp; (try with_reducible rfl); done)); (simp only [Act.put, List.setIfInBounds_toArray, List.set_cons_zero, List.set_cons_succ]); refine held_take (i := 7) (v := ?_) rfl (by kernel_rfl) (by kernel_rfl) (by kernel_rfl) (fun _ _ _ h => h) (by kernel_rfl) (by assumption) ?_ ?_; rotate_left; (focus (intro w hSw; (obtain ⟨hSw1, hSw2, hSw3⟩ := hSw); (try dsimp only at hSw1 hSw2); go_simp; (try with_reducible rfl); done)); (simp only [Act.put, List.setIfInBounds_toArray, List.set_cons_zero, List.set_cons_succ]); refine held_take (i := 8) (v := ?_) rfl (by kernel_rfl) (by kernel_rfl) (by kernel_rfl) (fun _ _ _ h => h) (by kernel_rfl) (by assumption) ?_ ?_; rotate_left; (focus (intro w hSw; (obtain ⟨hSw1, hSw2, hSw3⟩ := hSw); (try dsimp only at hSw1 hSw2); go_simp; (try with_reducible rfl); done)); (simp only [Act.put, List.setIfInBounds_toArray, List.set_cons_zero, List.set_cons_succ]); refine held_take (i := 9) (v := ?_) rfl (by kernel_rfl) (by kernel_rfl) (by kernel_rfl) (fun _ _ _ h => h) (by kernel_rfl) (by assumption) ?_ ?_; rotate_left; (focus (intro w hSw; (obtain ⟨hSw1, hSw2, hSw3⟩ := hSw); (try dsimp only at hSw1 hSw2); go_simp; (try with_reducible rfl); done)); (simp only [Act.put, List.setIfInBounds_toArray, List.set_cons_zero, List.set_cons_succ]))
          refine held_take (i := 10) (v := .string x) rfl (by kernel_rfl) (by kernel_rfl) (by kernel_rfl) (fun _ _ _ h => h) (by kernel_rfl) (by assumption) ?_ ?_
          · intro W hSW
            exact exec_look (.tmp 28) (.tmp 29) 56 rfl hSW.2.2 K.out E.out Try.underlying56 at_ hir.out x (by rw [hx.out]; rfl) rfl rfl
          simp only [Act.put, List.setIfInBounds_toArray, List.set_cons_zero, List.set_cons_succ]
          (refine held_take (i := 11) (v := ?_) rfl (by kernel_rfl) (by kernel_rfl) (by kernel_rfl) (fun _ _ _ h => h) (by kernel_rfl) (by assumption) ?_ ?_; rotate_left; (focus (intro w hSw; (obtain ⟨hSw1, hSw2, hSw3⟩ := hSw); (try dsimp only at hSw1 hSw2); go_simp; (try with_reducible rfl); done)); (simp only [Act.put, List.setIfInBounds_toArray, List.set_cons_zero, List.set_cons_succ]))
          (refine wpAnyH_ready (P := Try.prog) (md := .any) (rs := [12]) (by kernel_rfl) (by simp) ?_; refine held_cons rfl (by kernel_rfl) (fun K hK => ?_) AllReadyH.nil; (go_simp; refine hK.out _ _ ?_ (fun hHeld => ?_); ((try dsimp only); exact hHeld.set hdg (fun e => hgb e.symm) _ _); clear hK K; (try clear hHeld0); (try rename_i hHeld0)))
          (refine wpAnyH_done (by kernel_rfl) ?_ _)
          go_wp2
          go_roundw
          case rel =>
            refine ⟨k + 1, by omega, by go_num, ?_, (hon.set (Or.inl rfl) _).drew⟩
            rw [hL2.out, hsk.out, if_pos (show keepM mask k = true by unfold keepM; rw [hmin.out]; simp [hb']), List.map_set]
            exact (hrow.out.set _ _).drew
          case measure => simp [intOf]; omega
        · have hand : bits .and .u64 ((mask : Int) / 9223372036854775808) 1 = 0 := by have h := hbit.out 63; rw [show mask / 2 ^ 63 % 2 = 0 by omega] at h; exact h
          go_wp2
          go_roundw
          case rel =>
            refine ⟨k + 1, by omega, by go_num, ?_, hon⟩
            rw [hL2.out, hsk.out, if_neg (show ¬ keepM mask k = true by unfold keepM; rw [hmin.out]; simp [hb'])]
            exact hrow.out
          case measure => simp [intOf]; omega
      · have hmin : Hid (min k 63 = k) := Lib.hid (Nat.min_eq_left (by omega))
        by_cases hb' : mask / 2 ^ k % 2 = 1
        · have hand : bits .and .u64 ((mask : Int) / 2 ^ k) 1 = 1 := by rw [hbit.out, hb']; rfl
          go_wp2_with fail
          have hS : DiskS d gs b m n st wr.drew := ⟨d0, d1, hM.out⟩
          have hold' : wr.drew.cell? ⟨gs, at_, none⟩ = some (.string y) := hold
          have hfz' : wr.drew.frozen? ⟨gs, at_, none⟩ = false := hfz
          (refine wp_region_held_drew (S := DiskS d gs b m n st) (by kernel_rfl) ?_ (fun hHeld => ?_); ((try dsimp only); exact hS))
          (refine held_take (i := 0) (v := ?_) rfl (by kernel_rfl) (by kernel_rfl) (by kernel_rfl) (fun _ _ _ h => h) (by kernel_rfl) (by assumption) ?_ ?_; rotate_left; (focus (intro w hSw; (obtain ⟨hSw1, hSw2, hSw3⟩ := hSw); (try dsimp only at hSw1 hSw2); go_simp; (try with_reducible rfl); done)); (simp only [Act.put, List.setIfInBounds_toArray, List.set_cons_zero, List.set_cons_succ]); refine held_take (i := 1) (v := ?_) rfl (by kernel_rfl) (by kernel_rfl) (by kernel_rfl) (fun _ _ _ h => h) (by kernel_rfl) (by assumption) ?_ ?_; rotate_left; (focus (intro w hSw; (obtain ⟨hSw1, hSw2, hSw3⟩ := hSw); (try dsimp only at hSw1 hSw2); go_simp; (try with_reducible rfl); done)); (simp only [Act.put, List.setIfInBounds_toArray, List.set_cons_zero, List.set_cons_succ]); refine held_take (i := 2) (v := ?_) rfl (by kernel_rfl) (by kernel_rfl) (by kernel_rfl) (fun _ _ _ h => h) (by kernel_rfl) (by assumption) ?_ ?_; rotate_left; (focus (intro w hSw; (obtain ⟨hSw1, hSw2, hSw3⟩ := hSw); (try dsimp only at hSw1 hSw2); go_simp; (try with_reducible rfl); done)); (simp only [Act.put, List.setIfInBounds_toArray, List.set_cons_zero, List.set_cons_succ]); refine held_take (i := 3) (v := ?_) rfl (by kernel_rfl) (by kernel_rfl) (by kernel_rfl) (fun _ _ _ h => h) (by kernel_rfl) (by assumption) ?_ ?_; rotate_left; (focus (intro w hSw; (obtain ⟨hSw1, hSw2, hSw3⟩ := hSw); (try dsimp only at hSw1 hSw2); go_simp; (try with_reducible rfl); done)); (simp only [Act.put, List.setIfInBounds_toArray, List.set_cons_zero, List.set_cons_succ]); refine held_take (i := 4) (v := ?_) rfl (by kernel_rfl) (by kernel_rfl) (by kernel_rfl) (fun _ _ _ h => h) (by kernel_rfl) (by assumption) ?_ ?_; rotate_left; (focus (intro w hSw; (obtain ⟨hSw1, hSw2, hSw3⟩ := hSw); (try dsimp only at hSw1 hSw2); go_simp; (try with_reducible rfl); done)); (simp only [Act.put, List.setIfInBounds_toArray, List.set_cons_zero, List.set_cons_succ]); refine held_take (i := 5) (v := ?_) rfl (by kernel_rfl) (by kernel_rfl) (by kernel_rfl) (fun _ _ _ h => h) (by kernel_rfl) (by assumption) ?_ ?_; rotate_left; (focus (intro w hSw; (obtain ⟨hSw1, hSw2, hSw3⟩ := hSw); (try dsimp only at hSw1 hSw2); go_simp; (try with_reducible rfl); done)); (simp only [Act.put, List.setIfInBounds_toArray, List.set_cons_zero, List.set_cons_succ]); refine held_take (i := 6) (v := ?_) rfl (by kernel_rfl) (by kernel_rfl) (by kernel_rfl) (fun _ _ _ h => h) (by kernel_rfl) (by assumption) ?_ ?_; rotate_left; (focus (intro w hSw; (obtain ⟨hSw1, hSw2, hSw3⟩ := hSw); (try dsimp only at hSw1 hSw2); go_simp; (try with_reducible rfl); done)); (simp only [Act.put, List.setIfInBounds_toArray, List.set_cons_zero, List.set_cons_succ]); refine held_take (i := 7) (v := ?_) rfl (by kernel_rfl) (by kernel_rfl) (by kernel_rfl) (fun _ _ _ h => h) (by kernel_rfl) (by assumption) ?_ ?_; rotate_left; (focus (intro w hSw; (obtain ⟨hSw1, hSw2, hSw3⟩ := hSw); (try dsimp only at hSw1 hSw2); go_simp; (try with_reducible rfl); done)); (simp only [Act.put, List.setIfInBounds_toArray, List.set_cons_zero, List.set_cons_succ]); refine held_take (i := 8) (v := ?_) rfl (by kernel_rfl) (by kernel_rfl) (by kernel_rfl) (fun _ _ _ h => h) (by kernel_rfl) (by assumption) ?_ ?_; rotate_left; (focus (intro w hSw; (obtain ⟨hSw1, hSw2, hSw3⟩ := hSw); (try dsimp only at hSw1 hSw2); go_simp; (try with_reducible rfl); done)); (simp only [Act.put, List.setIfInBounds_toArray, List.set_cons_zero, List.set_cons_succ]); refine held_take (i := 9) (v := ?_) rfl (by kernel_rfl) (by kernel_rfl) (by kernel_rfl) (fun _ _ _ h => h) (by kernel_rfl) (by assumption) ?_ ?_; rotate_left; (focus (intro w hSw; (obtain ⟨hSw1, hSw2, hSw3⟩ := hSw); (try dsimp only at hSw1 hSw2); go_simp; (try with_reducible rfl); done)); (simp only [Act.put, List.setIfInBounds_toArray, List.set_cons_zero, List.set_cons_succ]))
          refine held_take (i := 10) (v := .string x) rfl (by kernel_rfl) (by kernel_rfl) (by kernel_rfl) (fun _ _ _ h => h) (by kernel_rfl) (by assumption) ?_ ?_
          · intro W hSW
            exact exec_look (.tmp 28) (.tmp 29) 56 rfl hSW.2.2 K.out E.out Try.underlying56 at_ hir.out x (by rw [hx.out]; rfl) rfl rfl
          simp only [Act.put, List.setIfInBounds_toArray, List.set_cons_zero, List.set_cons_succ]
          (refine held_take (i := 11) (v := ?_) rfl (by kernel_rfl) (by kernel_rfl) (by kernel_rfl) (fun _ _ _ h => h) (by kernel_rfl) (by assumption) ?_ ?_; rotate_left; (focus (intro w hSw; (obtain ⟨hSw1, hSw2, hSw3⟩ := hSw); (try dsimp only at hSw1 hSw2); go_simp; (try with_reducible rfl); done)); (simp only [Act.put, List.setIfInBounds_toArray, List.set_cons_zero, List.set_cons_succ]))
          (refine wpAnyH_ready (P := Try.prog) (md := .any) (rs := [12]) (by kernel_rfl) (by simp) ?_; refine held_cons rfl (by kernel_rfl) (fun K hK => ?_) AllReadyH.nil; (go_simp; refine hK.out _ _ ?_ (fun hHeld => ?_); ((try dsimp only); exact hHeld.set hdg (fun e => hgb e.symm) _ _); clear hK K; (try clear hHeld0); (try rename_i hHeld0)))
          (refine wpAnyH_done (by kernel_rfl) ?_ _)
          go_wp2
          go_roundw
          case rel =>
            refine ⟨k + 1, by omega, by go_num, ?_, (hon.set (Or.inl rfl) _).drew⟩
            rw [hL2.out, hsk.out, if_pos (show keepM mask k = true by unfold keepM; rw [hmin.out]; simp [hb']), List.map_set]
            exact (hrow.out.set _ _).drew
          case measure => simp [intOf]; omega
        · have hand : bits .and .u64 ((mask : Int) / 2 ^ k) 1 = 0 := by rw [hbit.out, show mask / 2 ^ k % 2 = 0 by omega]; rfl
          go_wp2
          go_roundw
          case rel =>
            refine ⟨k + 1, by omega, by go_num, ?_, hon⟩
            rw [hL2.out, hsk.out, if_neg (show ¬ keepM mask k = true by unfold keepM; rw [hmin.out]; simp [hb'])]
            exact hrow.out
          case measure => simp [intOf]; omega
    · obtain rfl : k = st.dirty.length := by omega
      rw [List.take_length] at hrow
      have d1 : wr.cell? ⟨d, 1, none⟩ = some (.map (some b)) := hon.cell (p := ⟨d, 1, none⟩) ((hb2.cell (p := ⟨d, 1, none⟩) hdw).trans (hD.out.row.cell 1)) hdg
      have hM := Lib.hid ((hD.out.next.below hb2).only hon (fun e => hgb e.symm))
      replace hrow := Lib.hid hrow
      obtain ⟨w4, hcl, hM4, hg4⟩ := hM.out.clear (t := 56) Try.underlying56 0
      replace hM4 := Lib.hid hM4
      replace hg4 := Lib.hid hg4
      go_wp2
      replace hM4 := hM4.out
      replace hg4 := hg4.out
      go_end0
      have hD := hD.out
      have ho2 : Only (fun j => j = gs) w wr := (Only.of_below _ hb2).trans hon
      have ho4 : Only (fun k => k = gs ∨ k = b) w w4 := (ho2.mono (fun j _ h => Or.inl h)).grown hg4 (fun k hk => Or.inl (Or.inr (by injection hk with hk; exact hk.symm)))
      have hok : Only (fun j => j = gs ∨ j = b) wr w4 := (Only.refl _ _).grown hg4 (fun k hk => Or.inl (Or.inr (by injection hk with hk; exact hk.symm)))
      refine ⟨rfl, { row := hD.row.only ho4 (fun h => h.elim hdg hdb), safe := ?_, next := ?_, len := ?_, pos := hD.pos, le := hD.le, ne1 := hdg, ne2 := hdb, ne3 := hgb, sz := ?_, szn := ?_ }, ho4⟩
      · rw [hcr.out]; exact hrow.out.grown hg4 (fun e => by injection e with e; exact hgb e.symm)
      · rw [hcr.out]; exact hM4
      · rw [Disk.crash_len]; exact hD.len
      · rw [hcr.out]; exact sink_size _ _ _ _ _ hD.sz (fun i x h => (hD.szn i x h).2)
      · intro i x h
        rw [hcr.out] at h
        cases h
theorem disk_sync (w : World) (d gs b m n : Nat) (st : Disk.St ByteArray) (hD : DiskIs w d gs b m n st) :
    Calls Try.prog 23 #[.pointer (some ⟨d, 0, none⟩)] w fun e w' => e = .returned (.tuple #[]) ∧ DiskIs w' d gs b 0 n st.sync ∧ Only (fun k => k = gs ∨ k = b) w w' := by
  have hC := Lib.hid (disk_crash w d gs b m n st hD 18446744073709551615 (by omega))
  have hs : Hid (st.crash (keepM 18446744073709551615) = st.sync) := Lib.hid (by
    unfold Disk.St.sync
    congr 1
    funext k
    have h : ∀ j : Fin 64, decide (18446744073709551615 / 2 ^ j.val % 2 = 1) = true := by decide
    exact h ⟨min k 63, by omega⟩)
  clear hD
  go_enter Try.func23, Try.ntmps23
  go_wp2_with fail
  refine hC.out.mono ?_
  rintro e w2 ⟨rfl, hD2, ho2⟩
  rw [hs.out] at hD2
  replace hD2 := Lib.hid hD2
  go_wp2
  go_end0
  exact ⟨rfl, hD2.out, ho2⟩
end Go.Proofs.Ytdpdnkjpjoccmaa
