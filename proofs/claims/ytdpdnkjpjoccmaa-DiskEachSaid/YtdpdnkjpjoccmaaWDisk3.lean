/- The walks of disk's Dirty, Crash and Sync. -/
import Derived.Test.YtdpdnkjpjoccmaaWDisk2
namespace Go.Proofs.Ytdpdnkjpjoccmaa
open Go.RowKit
set_option linter.unusedVariables false
set_option linter.unusedSimpArgs false
def dirtI (st : Disk.St ByteArray) (k : Nat) : List Int := ((List.range k).filter fun i => (st.next i).isSome).map Int.ofNat
theorem dirtI_len (st : Disk.St ByteArray) (k : Nat) : (dirtI st k).length ≤ k := by
  unfold dirtI
  rw [List.length_map]
  exact Nat.le_trans (List.length_filter_le _ _) (by simp)
theorem dirtI_yes (st : Disk.St ByteArray) (k : Nat) (x : ByteArray) (h : st.next k = some x) : dirtI st (k + 1) = dirtI st k ++ [(k : Int)] := by
  unfold dirtI
  rw [List.range_succ, List.filter_append, List.map_append]
  simp [h]
theorem dirtI_no (st : Disk.St ByteArray) (k : Nat) (h : st.next k = none) : dirtI st (k + 1) = dirtI st k := by
  unfold dirtI
  rw [List.range_succ, List.filter_append, List.map_append]
  simp [h]
theorem dirtI_all (st : Disk.St ByteArray) (n : Nat) (h : st.safe.length = n) : dirtI st n = st.dirty.map Int.ofNat := by unfold dirtI Disk.St.dirty; rw [h]
theorem int_snoc2 (T : List Int) (x : Int) : (T ++ [x]).flatMap intCells = T.flatMap intCells ++ [.int .i64 x] := by rw [List.flatMap_append]; rfl
set_option maxHeartbeats 4000000 in
set_option maxRecDepth 20000 in
theorem disk_dirty (w : World) (d gs b m n : Nat) (st : Disk.St ByteArray) (hD : DiskIs w d gs b m n st) :
    Calls Try.prog 12 #[.pointer (some ⟨d, 0, none⟩)] w fun e w' => (∃ v, e = .returned v ∧ w'.ownsRow w.heap.size 3 1 v (st.dirty.map Int.ofNat).length ((st.dirty.map Int.ofNat).flatMap intCells)) ∧ Below w.heap.size w w' := by
  have K := Lib.hid (key_nat (P := Try.prog) (k := 3) Try.underlying3)
  have E := Lib.hid (elem_str (P := Try.prog) (e := 9) Try.underlying9 (fun w => by kernel_rfl))
  have hle := hD.le
  have hfin := Lib.hid (dirtI_all st n hD.len)
  have c0 : w.cell? ⟨d, 0, none⟩ = some (.slice (some ⟨gs, 0, none⟩) n n) := hD.row.cell 0
  have c1 : w.cell? ⟨d, 1, none⟩ = some (.map (some b)) := hD.row.cell 1
  have hdl := hD.row.lt
  have hM := Lib.hid hD.next
  clear hD
  go_enter Try.func12, Try.ntmps12
  go_wp2
  go_loopw [3, 12] (fun o i wr => ∃ k : Nat, k ≤ n ∧ i = .int .i64 k ∧ wr.ownsRow w.heap.size 3 1 o (dirtI st k).length ((dirtI st k).flatMap intCells) ∧ Below w.heap.size w wr) (fun _ i _ => n - (intOf i).toNat)
  case atStart => exact ⟨0, by omega, rfl, World.ownsRow_nil _ _ _ _, by (repeat (first | exact Below.refl _ _ | assumption | refine bal ?_ _ | refine bdr ?_ | refine bdn ?_ _ | refine bst ?_ (by first | assumption | exact Nat.le_refl _ | omega) _ | refine bch ?_ (by assumption)))⟩
  case round =>
    obtain ⟨k, hk, rfl, hO, hbel⟩ := hrel
    have hsz := hbel.size
    by_cases hlt : k < n
    · have c1' : wr.cell? ⟨d, 1, none⟩ = some (.map (some b)) := (hbel.cell (p := ⟨d, 1, none⟩) hdl).trans c1
      have hMr := Lib.hid (hM.out.below hbel)
      have hkr : k ≤ maxLen := by unfold maxLen; omega
      replace hkr := Lib.hid hkr
      have hll := dirtI_len st k
      cases hx : st.next k with
      | none =>
        have hst := Lib.hid (dirtI_no st k hx)
        have hO' := Lib.hid hO
        replace hx := Lib.hid hx
        clear hO
        go_wp2_with (first
          | (at_lookup; go_must (refine wp_look_no rfl _ _ _ rfl hMr.out K.out E.out Try.underlying56 k hkr.out hx.out rfl rfl ?_)))
        go_roundw
        case rel => exact ⟨k + 1, by omega, by go_num, by rw [hst.out]; exact hO'.out, by (repeat (first | exact Below.refl _ _ | assumption | refine bal ?_ _ | refine bdr ?_ | refine bdn ?_ _ | refine bst ?_ (by first | assumption | exact Nat.le_refl _ | omega) _ | refine bch ?_ (by assumption)))⟩
        case measure => simp [intOf]; omega
      | some x =>
        have hst := Lib.hid (dirtI_yes st k x hx)
        have hO' := Lib.hid hO
        replace hx := Lib.hid hx
        clear hO
        generalize hL0 : dirtI st k = L at *
        replace hL0 := Lib.hid hL0
        have hw0 := hsz
        go_wp2_with (first
          | (at_lookup; go_must (refine wp_look_yes rfl _ _ _ rfl hMr.out K.out E.out Try.underlying56 k hkr.out x hx.out rfl rfl ?_))
          | ((at_builtin; go_must (refine app_one rfl _ _ 36 3 rfl (w.heap.size) (.int .i64 0) 1 8 Try.underlying36 (by kernel_rfl) rfl _ _ _ rfl hO'.out _ rfl rfl ?_ (by omega) (by omega) hw0 ?_)); (focus (first | exact ⟨rfl, rfl⟩ | rfl | simp [Value.oneCell'])); intro a3 w3 hA3 hg3 hbk3 _ hb3))
        go_roundw
        case rel =>
          refine ⟨k + 1, by omega, by go_num, ?_, hbel.trans (hb3.mono (by omega))⟩
          rw [hst.out, List.length_append, int_snoc2]
          exact hA3
        case measure => simp [intOf]; omega
    · obtain rfl : k = n := by omega
      have hO' := Lib.hid hO
      clear hO
      go_wp2
      go_ret
      rw [← hfin.out]
      exact ⟨⟨_, rfl, hO'.out⟩, hbel⟩
end Go.Proofs.Ytdpdnkjpjoccmaa
