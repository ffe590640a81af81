/- The walk of recv's Crash. -/
import Derived.Test.YtdpdnkjpjoccmaaDoorWRecord
import Derived.Test.YtdpdnkjpjoccmaaDoorWRecvC
namespace Go.Proofs.YtdpdnkjpjoccmaaDoor
open Go.RowKit
set_option linter.unusedVariables false
set_option linter.unusedSimpArgs false
namespace Recv
def bestK (d : Disk.St ByteArray) : Nat → Nat × Nat × Nat × Nat
  | 0 => (0, 0, 0, 0)
  | i + 1 => better (bestK d i) (seen d i)
theorem bestK_two (d : Disk.St ByteArray) : bestK d 2 = best d := rfl
theorem backs_succ (d : Disk.St ByteArray) (n : Nat) : backs d (n + 1) = backs d n ++ [((d.view (2 + n / 32)).bind fun x => x.data.toList[n % 32]?).getD 0] := by
  unfold backs
  rw [List.range_succ, List.map_append]; rfl
theorem backs_len (d : Disk.St ByteArray) (n : Nat) : (backs d n).length = n := by simp [backs]
theorem backs_step (d : Disk.St ByteArray) (n t : Nat) (h : n < t) (v : UInt8) (hv : ((d.view (2 + n / 32)).bind fun x => x.data.toList[n % 32]?).getD 0 = v) : (backs d n ++ List.replicate (t - n) 0).set n v = backs d (n + 1) ++ List.replicate (t - (n + 1)) 0 := by
  rw [backs_succ, hv, List.set_append_right _ _ (by rw [backs_len]; exact Nat.le_refl _), backs_len, Nat.sub_self, show t - n = (t - (n + 1)) + 1 by omega, List.replicate_succ, List.set_cons_zero, List.append_assoc]
  rfl
theorem trues_step (n t : Nat) (h : n < t) : (List.replicate n true ++ List.replicate (t - n) false).set n true = List.replicate (n + 1) true ++ List.replicate (t - (n + 1)) false := by
  rw [List.set_append_right _ _ (by simp), List.length_replicate, Nat.sub_self, show t - n = (t - (n + 1)) + 1 by omega, List.replicate_succ, List.set_cons_zero, List.replicate_succ', List.append_assoc]
  rfl
/-- A record's numbers are no greater than they may be. -/
def Okay (b : Nat × Nat × Nat × Nat) : Prop := b.1 ≤ 1125899906842625 ∧ b.2.1 < 4294967296 ∧ b.2.2.1 ≤ 4096 ∧ b.2.2.2 ≤ b.2.2.1
end Recv
theorem record_le {s : List UInt8} {m nm t c : Nat} (h : Recv.record s = some (m, nm, t, c)) : 0 < t ∧ c ≤ t := by
  unfold Recv.record at h
  repeat' split at h
  all_goals first | (exfalso; cases h; done) | (injection h with h; simp only [Prod.mk.injEq] at h; omega)
theorem DiskIs.view {w : World} {d gs b m n : Nat} {st : Disk.St ByteArray} (h : DiskIs w d gs b m n st) (i : Nat) (hi : i < n) : ∃ x, st.view i = some x ∧ x.size = 32 := by
  have hl : i < st.safe.length := by rw [h.len]; exact hi
  unfold Disk.St.view
  rw [if_pos hl]
  cases hn : st.next i with
  | some x => exact ⟨x, rfl, (h.szn i x hn).2⟩
  | none => exact ⟨_, List.getElem?_eq_getElem hl, h.sz _ (List.getElem_mem hl)⟩
set_option maxHeartbeats 4000000 in
set_option maxRecDepth 20000 in
theorem recv_crash (w : World) (p m : Nat) (O : Nat → Prop) (R : Recv.Rec) (hR : RecvIs w p O m R) (mask : Nat) (hmask : mask < 18446744073709551616) :
    Calls Tryd.prog 23 #[.pointer (some ⟨p, 0, none⟩), .int .u64 mask] w fun e w' => e = .returned (.int .i64 (R.crash (keepM mask)).safe) ∧ (∃ O', RecvIs w' p O' 0 (R.crash (keepM mask)) ∧ ∀ k, O' k → O k ∨ w.heap.size ≤ k) ∧ Only O w w' := by
  obtain ⟨d, gs, b, g3, g4, v3, v4, hR⟩ := hR
  have c0 : w.cell? ⟨p, 0, none⟩ = some (.pointer (some ⟨d, 0, none⟩)) := hR.row.cell 0
  have hdc := Lib.hid (disk_crash w d gs b m 140 R.disk hR.disk mask hmask)
  have hn1 := hR.n1
  have hn2 := hR.n2
  have hn3 := hR.n3
  replace hR := Lib.hid hR
  replace hmask := Lib.hid hmask
  go_enter Tryd.func23, Tryd.ntmps23
  go_wp2_with fail
  refine hdc.out.mono ?_
  rintro e w1 ⟨rfl, hD1, ho1⟩
  have hrow := hR.out.row.only ho1 (by omega)
  have d0 : w1.cell? ⟨p, 0, none⟩ = some (.pointer (some ⟨d, 0, none⟩)) := hrow.cell 0
  (have q0 := hrow.cell 0; have q1 := hrow.cell 1; have q2 := hrow.cell 2; have q3 := hrow.cell 3; have q4 := hrow.cell 4; have q5 := hrow.cell 5; have q6 := hrow.cell 6; have q7 := hrow.cell 7; simp only [List.set_cons_succ, List.set_cons_zero, List.getElem?_cons_zero, List.getElem?_cons_succ] at q0 q1 q2 q3 q4 q5 q6 q7)
  (have f0 := hrow.frozen 0 (by simp); have f1 := hrow.frozen 1 (by simp); have f2 := hrow.frozen 2 (by simp); have f3 := hrow.frozen 3 (by simp); have f4 := hrow.frozen 4 (by simp); have f5 := hrow.frozen 5 (by simp); have f6 := hrow.frozen 6 (by simp); have f7 := hrow.frozen 7 (by simp))
  replace hD1 := Lib.hid hD1
  replace hrow := Lib.hid hrow
  clear hdc c0
  go_wp2_with fail
  have hrow2 := (((((((hrow.out.set 0 (.pointer (some ⟨d, 0, none⟩))).set 1 (.int .u32 0)).set 2 (.int .i64 0)).set 3 (.slice none 0 0)).set 4 (.slice none 0 0)).set 5 (.int .i64 0)).set 6 (.int .i64 0)).set 7 (.int .i64 0)
  have ho2 := ((((((((ho1.mono (S' := fun k => k = p ∨ k = gs ∨ k = b) (fun k _ h => by rcases h with h | h <;> simp [h])).set (p := ⟨p, 0, none⟩) (Or.inl (Or.inl rfl)) (.pointer (some ⟨d, 0, none⟩))).set (p := ⟨p, 1, none⟩) (Or.inl (Or.inl rfl)) (.int .u32 0)).set (p := ⟨p, 2, none⟩) (Or.inl (Or.inl rfl)) (.int .i64 0)).set (p := ⟨p, 3, none⟩) (Or.inl (Or.inl rfl)) (.slice none 0 0)).set (p := ⟨p, 4, none⟩) (Or.inl (Or.inl rfl)) (.slice none 0 0)).set (p := ⟨p, 5, none⟩) (Or.inl (Or.inl rfl)) (.int .i64 0)).set (p := ⟨p, 6, none⟩) (Or.inl (Or.inl rfl)) (.int .i64 0)).set (p := ⟨p, 7, none⟩) (Or.inl (Or.inl rfl)) (.int .i64 0)
  have ho3 := ((((((((Only.refl (fun k => k = p) w1).set (p := ⟨p, 0, none⟩) (Or.inl rfl) (.pointer (some ⟨d, 0, none⟩))).set (p := ⟨p, 1, none⟩) (Or.inl rfl) (.int .u32 0)).set (p := ⟨p, 2, none⟩) (Or.inl rfl) (.int .i64 0)).set (p := ⟨p, 3, none⟩) (Or.inl rfl) (.slice none 0 0)).set (p := ⟨p, 4, none⟩) (Or.inl rfl) (.slice none 0 0)).set (p := ⟨p, 5, none⟩) (Or.inl rfl) (.int .i64 0)).set (p := ⟨p, 6, none⟩) (Or.inl rfl) (.int .i64 0)).set (p := ⟨p, 7, none⟩) (Or.inl rfl) (.int .i64 0)
  simp only [List.set_cons_succ, List.set_cons_zero] at hrow2
  have hD2 := Lib.hid (hD1.out.only ho3 (fun e => hn1 e.symm) (fun e => hn2 e.symm) (fun e => hn3 e.symm))
  clear ho3 q0 q1 q2 q3 q4 q5 q6 q7 f0 f1 f2 f3 f4 f5 f6 f7 d0
  replace hrow2 := Lib.hid hrow2
  replace ho2 := Lib.hid ho2
  generalize (((((((w1.setCell ⟨p, 0, none⟩ (.pointer (some ⟨d, 0, none⟩))).setCell ⟨p, 1, none⟩ (.int .u32 0)).setCell ⟨p, 2, none⟩ (.int .i64 0)).setCell ⟨p, 3, none⟩ (.slice none 0 0)).setCell ⟨p, 4, none⟩ (.slice none 0 0)).setCell ⟨p, 5, none⟩ (.int .i64 0)).setCell ⟨p, 6, none⟩ (.int .i64 0)).setCell ⟨p, 7, none⟩ (.int .i64 0) = w2 at *
  clear hrow hD1 ho1
  obtain ⟨D, hDe⟩ : ∃ D, D = R.disk.crash (keepM mask) := ⟨_, rfl⟩
  rw [← hDe] at hD2
  replace hDe := Lib.hid hDe
  as_aux_lemma =>
  go_loopw [31] (fun i wr => ∃ k : Nat, k ≤ 2 ∧ i = .int .i64 k ∧ Recv.Okay (Recv.bestK D k) ∧ Row wr p 88 [.pointer (some ⟨d, 0, none⟩), .int .u32 (Recv.bestK D k).2.1, .int .i64 (Recv.bestK D k).2.2.1, .slice none 0 0, .slice none 0 0, .int .i64 0, .int .i64 (Recv.bestK D k).2.2.2, .int .i64 (Recv.bestK D k).1] ∧ Only (fun k => k = p) w2 wr) (fun i _ => 2 - (intOf i).toNat)
  case atStart => exact ⟨0, by omega, rfl, by unfold Recv.Okay Recv.bestK; simp, hrow2.out, by first | exact Only.refl _ _ | exact (Only.refl _ _).drew⟩
  case round =>
    obtain ⟨k, hk, rfl, hok, hr, hon⟩ := hrel
    have hDr := hD2.out.only hon (fun e => hn1 e.symm) (fun e => hn2 e.symm) (fun e => hn3 e.symm)
    by_cases hlt : k < 2
    · obtain ⟨x, hx, hxs⟩ := hDr.view k (by omega)
      have hse : Hid (Recv.bestK D (k + 1) = Recv.better (Recv.bestK D k) (Recv.record x.data.toList)) := Lib.hid (by
        show Recv.better (Recv.bestK D k) (Recv.seen D k) = _
        unfold Recv.seen; rw [hx]; rfl)
      have hRd := Lib.hid (disk_read wr d gs b 0 140 D hDr k x hx)
      have hRc := Lib.hid (fun W => recv_record x W hxs)
      generalize Recv.bestK D k = B at *
      obtain ⟨mk, nm0, t0, c0⟩ := B
      simp only at hr hok
      obtain ⟨ok1, ok2, ok3, ok4⟩ := hok
      simp only at ok1 ok2 ok3 ok4
      replace hDr := Lib.hid hDr
      replace hxs := Lib.hid hxs
      replace hx := Lib.hid hx
      replace hr := Lib.hid hr
      go_wp2_with fail
      refine hRd.out.mono ?_
      rintro e wa ⟨rfl, hba⟩
      go_wp2_with fail
      refine (hRc.out _).mono ?_
      rintro e wb ⟨⟨m1, nm1, t1, c1, ok, rfl, hrec, l1, l2, l3, l4⟩, hbb⟩
      have hrb := (hr.out.below hba).below hbb
      have hob := (hon.chain hba).chain hbb
      have e7 : wb.cell? ⟨p, 7, none⟩ = some (.int .i64 mk) := hrb.cell 7
      cases ok with
      | false =>
        have hse2 : Hid (Recv.bestK D (k + 1) = (mk, nm0, t0, c0)) := Lib.hid (by rw [hse.out, hrec]; rfl)
        clear hrec
        replace hrb := Lib.hid hrb
        go_wp2
        go_roundw
        case rel => exact ⟨k + 1, by omega, by go_num, by rw [hse2.out]; exact ⟨ok1, ok2, ok3, ok4⟩, by rw [hse2.out]; exact hrb.out, hob⟩
        case measure => simp [intOf]; omega
      | true =>
        rw [if_pos rfl] at hrec
        obtain ⟨z1, z2⟩ := record_le hrec
        by_cases hlt2 : mk < m1 + 1
        · have hse2 : Hid (Recv.bestK D (k + 1) = (m1 + 1, nm1, t1, c1)) := Lib.hid (by rw [hse.out, hrec]; show (if mk < m1 + 1 then _ else _) = _; rw [if_pos hlt2])
          have dd1 : decide ((mk : Int) < (m1 : Int) + 1) = true := by simp; omega
          have dd2 : decide (mk < m1 + 1) = true := by simp; omega
          have e1 : wb.cell? ⟨p, 1, none⟩ = some (.int .u32 nm0) := hrb.cell 1
          have e2 : wb.cell? ⟨p, 2, none⟩ = some (.int .i64 t0) := hrb.cell 2
          have e6 : wb.cell? ⟨p, 6, none⟩ = some (.int .i64 c0) := hrb.cell 6
          have f7 := hrb.frozen 7 (by simp)
          have f1 := hrb.frozen 1 (by simp)
          have f2 := hrb.frozen 2 (by simp)
          have f6 := hrb.frozen 6 (by simp)
          have hrb' := (((hrb.set 7 (.int .i64 ((m1 : Int) + 1))).set 1 (.int .u32 nm1)).set 2 (.int .i64 t1)).set 6 (.int .i64 c1)
          have hob' := (((hob.set (p := ⟨p, 7, none⟩) (Or.inl rfl) (.int .i64 ((m1 : Int) + 1))).set (p := ⟨p, 1, none⟩) (Or.inl rfl) (.int .u32 nm1)).set (p := ⟨p, 2, none⟩) (Or.inl rfl) (.int .i64 t1)).set (p := ⟨p, 6, none⟩) (Or.inl rfl) (.int .i64 c1)
          clear hrec
          replace hrb := Lib.hid hrb
          replace hrb' := Lib.hid hrb'
          go_wp2
          go_roundw
          case rel => exact ⟨k + 1, by omega, by go_num, by rw [hse2.out]; exact ⟨by simp only; omega, l2, l3, z2⟩, by rw [hse2.out]; exact hrb'.out, hob'⟩
          case measure => simp [intOf]; omega
        · have hse2 : Hid (Recv.bestK D (k + 1) = (mk, nm0, t0, c0)) := Lib.hid (by rw [hse.out, hrec]; show (if mk < m1 + 1 then _ else _) = _; rw [if_neg hlt2])
          have dd1 : decide ((mk : Int) < (m1 : Int) + 1) = false := by simp; omega
          have dd2 : decide (mk < m1 + 1) = false := by simp; omega
          clear hrec
          replace hrb := Lib.hid hrb
          go_wp2
          go_roundw
          case rel => exact ⟨k + 1, by omega, by go_num, by rw [hse2.out]; exact ⟨ok1, ok2, ok3, ok4⟩, by rw [hse2.out]; exact hrb.out, hob⟩
          case measure => simp [intOf]; omega
    · obtain rfl : k = 2 := by omega
      rw [show ((2 : Nat) : Int) = (2 : Int) from rfl]
      rw [Recv.bestK_two] at hok hr
      have hcr : Hid (R.crash (keepM mask) = { name := (Recv.best D).2.1, data := Recv.backs D (Recv.best D).2.2.2 ++ List.replicate ((Recv.best D).2.2.1 - (Recv.best D).2.2.2) 0, came := List.replicate (Recv.best D).2.2.2 true ++ List.replicate ((Recv.best D).2.2.1 - (Recv.best D).2.2.2) false, saved := (Recv.best D).2.2.2, safe := (Recv.best D).2.2.2, mark := (Recv.best D).1, disk := D }) := Lib.hid (by rw [hDe.out]; rfl)
      generalize Recv.best D = B at *
      obtain ⟨mk, nm, t, c⟩ := B
      simp only at hr hok hcr
      obtain ⟨ok1, ok2, ok3, ok4⟩ := hok
      simp only at ok1 ok2 ok3 ok4
      have ho4 := ho2.out.trans (hon.mono (S' := fun k => k = p ∨ k = gs ∨ k = b) (fun k _ h => Or.inl h))
      (have q0 := hr.cell 0; have q1 := hr.cell 1; have q2 := hr.cell 2; have q3 := hr.cell 3; have q4 := hr.cell 4; have q5 := hr.cell 5; have q6 := hr.cell 6; have q7 := hr.cell 7; simp only [List.set_cons_succ, List.set_cons_zero, List.getElem?_cons_zero, List.getElem?_cons_succ] at q0 q1 q2 q3 q4 q5 q6 q7)
      (have f3 := hr.frozen 3 (by simp); have f4 := hr.frozen 4 (by simp); have f5 := hr.frozen 5 (by simp))
      replace hDr := Lib.hid hDr
      replace hr := Lib.hid hr
      replace ho4 := Lib.hid ho4
      clear hon hD2 ho2 hrow2
      have hrow5 := Lib.hid (hr.out.set 5 (.int .i64 c))
      have ho5 := Lib.hid (ho4.out.set (p := ⟨p, 5, none⟩) (Or.inl (Or.inl rfl)) (.int .i64 c))
      have hD5 := Lib.hid (hDr.out.only ((Only.refl (fun k => k = p) wr).set (p := ⟨p, 5, none⟩) (Or.inl rfl) (.int .i64 c)) (fun e => hn1 e.symm) (fun e => hn2 e.symm) (fun e => hn3 e.symm))
      go_wp2_with fail
      clear q0 q1 q2 q3 q4 q5 q6 q7 f3 f4 f5
      generalize wr.setCell ⟨p, 5, none⟩ (.int .i64 c) = w5 at *
      clear hr hDr ho4
      as_aux_lemma =>
      have hmk := fun (W : World) => run_make_row' (P := Tryd.prog) 86 5 (.int .u8 0) 1 Tryd.underlying86 (by kernel_rfl) rfl .i64 .i64 t (by omega) (by omega) W
      have hmk2 := fun (W : World) => run_make_row' (P := Tryd.prog) 32 4 (.bool false) 1 Tryd.underlying32 (by kernel_rfl) rfl .i64 .i64 t (by omega) (by omega) W
      have q2 : w5.cell? ⟨p, 2, none⟩ = some (.int .i64 t) := hrow5.out.cell 2
      have q3 : w5.cell? ⟨p, 3, none⟩ = some (.slice none 0 0) := hrow5.out.cell 3
      have q4 : w5.cell? ⟨p, 4, none⟩ = some (.slice none 0 0) := hrow5.out.cell 4
      have hp5 := hrow5.out.lt
      have f3 := hrow5.out.frozen 3 (by simp)
      have f4 := hrow5.out.frozen 4 (by simp)
      go_region
      have hrow6 := ((((hrow5.out.set 3 (.slice (some ⟨w5.heap.size, 0, none⟩) t t)).set 4 (.slice (some ⟨w5.heap.size + 1, 0, none⟩) t t)).alloc (.cells (madeCells #[.int .u8 0] t) 5)).alloc (.cells (madeCells #[.bool false] t) 4)).drew
      have hsz6 : ((w5.setCell ⟨p, 3, none⟩ (.slice (some ⟨w5.heap.size, 0, none⟩) t t)).setCell ⟨p, 4, none⟩ (.slice (some ⟨w5.heap.size + 1, 0, none⟩) t t)).heap.size = w5.heap.size := by simp [World.setCell]
      have hra := ((row_alloc ((w5.setCell ⟨p, 3, none⟩ (.slice (some ⟨w5.heap.size, 0, none⟩) t t)).setCell ⟨p, 4, none⟩ (.slice (some ⟨w5.heap.size + 1, 0, none⟩) t t)) (madeCells #[.int .u8 0] t) 5).alloc (.cells (madeCells #[.bool false] t) 4)).drew
      have hrb := (row_alloc (((w5.setCell ⟨p, 3, none⟩ (.slice (some ⟨w5.heap.size, 0, none⟩) t t)).setCell ⟨p, 4, none⟩ (.slice (some ⟨w5.heap.size + 1, 0, none⟩) t t)).alloc (.cells (madeCells #[.int .u8 0] t) 5)) (madeCells #[.bool false] t) 4).drew
      rw [show (((w5.setCell ⟨p, 3, none⟩ (.slice (some ⟨w5.heap.size, 0, none⟩) t t)).setCell ⟨p, 4, none⟩ (.slice (some ⟨w5.heap.size + 1, 0, none⟩) t t)).alloc (.cells (madeCells #[.int .u8 0] t) 5)).heap.size = w5.heap.size + 1 by rw [← hsz6]; simp] at hrb
      rw [hsz6] at hra
      rw [madeCells_one] at hra hrb
      have ho6 := ((((ho5.out.set (p := ⟨p, 3, none⟩) (Or.inl (Or.inl rfl)) (.slice (some ⟨w5.heap.size, 0, none⟩) t t)).set (p := ⟨p, 4, none⟩) (Or.inl (Or.inl rfl)) (.slice (some ⟨w5.heap.size + 1, 0, none⟩) t t)).alloc (.cells (madeCells #[.int .u8 0] t) 5)).alloc (.cells (madeCells #[.bool false] t) 4)).drew
      have hD6 := hD5.out.only (((((Only.refl (fun k => k = p) w5).set (p := ⟨p, 3, none⟩) (Or.inl rfl) (.slice (some ⟨w5.heap.size, 0, none⟩) t t)).set (p := ⟨p, 4, none⟩) (Or.inl rfl) (.slice (some ⟨w5.heap.size + 1, 0, none⟩) t t)).alloc (.cells (madeCells #[.int .u8 0] t) 5)).alloc (.cells (madeCells #[.bool false] t) 4)).drew (fun e => hn1 e.symm) (fun e => hn2 e.symm) (fun e => hn3 e.symm)
      have hsz7 : ((((((w5.setCell ⟨p, 3, none⟩ (.slice (some ⟨w5.heap.size, 0, none⟩) t t)).setCell ⟨p, 4, none⟩ (.slice (some ⟨w5.heap.size + 1, 0, none⟩) t t)).alloc (.cells (madeCells #[.int .u8 0] t) 5)).alloc (.cells (madeCells #[.bool false] t) 4)).drew)).heap.size = w5.heap.size + 2 := by rw [← hsz6]; simp
      generalize (((((w5.setCell ⟨p, 3, none⟩ (.slice (some ⟨w5.heap.size, 0, none⟩) t t)).setCell ⟨p, 4, none⟩ (.slice (some ⟨w5.heap.size + 1, 0, none⟩) t t)).alloc (.cells (madeCells #[.int .u8 0] t) 5)).alloc (.cells (madeCells #[.bool false] t) 4)).drew) = Wz at *
      have hwz := ho5.out.size
      obtain ⟨g3', hg3'⟩ : ∃ g, g = w5.heap.size := ⟨_, rfl⟩
      obtain ⟨g4', hg4'⟩ : ∃ g, g = w5.heap.size + 1 := ⟨_, rfl⟩
      have F : Hid (w.heap.size ≤ g3' ∧ w.heap.size ≤ g4' ∧ g3' ≠ g4' ∧ g3' < Wz.heap.size ∧ g4' < Wz.heap.size) := Lib.hid (by omega)
      rw [← hg4', ← hg3'] at hrow6
      rw [← hg3'] at hra
      rw [← hg4'] at hrb
      clear hg3' hg4' hsz7 hsz6 hwz hmk hmk2 q2 q3 q4 f3 f4 hp5 hrow5 ho5 hD5
      rotate_left
      have hrow6 := ((((hrow5.out.set 3 (.slice (some ⟨w5.heap.size + 1, 0, none⟩) t t)).set 4 (.slice (some ⟨w5.heap.size, 0, none⟩) t t)).alloc (.cells (madeCells #[.bool false] t) 4)).alloc (.cells (madeCells #[.int .u8 0] t) 5)).drew
      have hsz6 : ((w5.setCell ⟨p, 3, none⟩ (.slice (some ⟨w5.heap.size + 1, 0, none⟩) t t)).setCell ⟨p, 4, none⟩ (.slice (some ⟨w5.heap.size, 0, none⟩) t t)).heap.size = w5.heap.size := by simp [World.setCell]
      have hrb := ((row_alloc ((w5.setCell ⟨p, 3, none⟩ (.slice (some ⟨w5.heap.size + 1, 0, none⟩) t t)).setCell ⟨p, 4, none⟩ (.slice (some ⟨w5.heap.size, 0, none⟩) t t)) (madeCells #[.bool false] t) 4).alloc (.cells (madeCells #[.int .u8 0] t) 5)).drew
      have hra := (row_alloc (((w5.setCell ⟨p, 3, none⟩ (.slice (some ⟨w5.heap.size + 1, 0, none⟩) t t)).setCell ⟨p, 4, none⟩ (.slice (some ⟨w5.heap.size, 0, none⟩) t t)).alloc (.cells (madeCells #[.bool false] t) 4)) (madeCells #[.int .u8 0] t) 5).drew
      rw [show (((w5.setCell ⟨p, 3, none⟩ (.slice (some ⟨w5.heap.size + 1, 0, none⟩) t t)).setCell ⟨p, 4, none⟩ (.slice (some ⟨w5.heap.size, 0, none⟩) t t)).alloc (.cells (madeCells #[.bool false] t) 4)).heap.size = w5.heap.size + 1 by rw [← hsz6]; simp] at hra
      rw [hsz6] at hrb
      rw [madeCells_one] at hra hrb
      have ho6 := ((((ho5.out.set (p := ⟨p, 3, none⟩) (Or.inl (Or.inl rfl)) (.slice (some ⟨w5.heap.size + 1, 0, none⟩) t t)).set (p := ⟨p, 4, none⟩) (Or.inl (Or.inl rfl)) (.slice (some ⟨w5.heap.size, 0, none⟩) t t)).alloc (.cells (madeCells #[.bool false] t) 4)).alloc (.cells (madeCells #[.int .u8 0] t) 5)).drew
      have hD6 := hD5.out.only (((((Only.refl (fun k => k = p) w5).set (p := ⟨p, 3, none⟩) (Or.inl rfl) (.slice (some ⟨w5.heap.size + 1, 0, none⟩) t t)).set (p := ⟨p, 4, none⟩) (Or.inl rfl) (.slice (some ⟨w5.heap.size, 0, none⟩) t t)).alloc (.cells (madeCells #[.bool false] t) 4)).alloc (.cells (madeCells #[.int .u8 0] t) 5)).drew (fun e => hn1 e.symm) (fun e => hn2 e.symm) (fun e => hn3 e.symm)
      have hsz7 : ((((((w5.setCell ⟨p, 3, none⟩ (.slice (some ⟨w5.heap.size + 1, 0, none⟩) t t)).setCell ⟨p, 4, none⟩ (.slice (some ⟨w5.heap.size, 0, none⟩) t t)).alloc (.cells (madeCells #[.bool false] t) 4)).alloc (.cells (madeCells #[.int .u8 0] t) 5)).drew)).heap.size = w5.heap.size + 2 := by rw [← hsz6]; simp
      generalize (((((w5.setCell ⟨p, 3, none⟩ (.slice (some ⟨w5.heap.size + 1, 0, none⟩) t t)).setCell ⟨p, 4, none⟩ (.slice (some ⟨w5.heap.size, 0, none⟩) t t)).alloc (.cells (madeCells #[.bool false] t) 4)).alloc (.cells (madeCells #[.int .u8 0] t) 5)).drew) = Wz at *
      have hwz := ho5.out.size
      obtain ⟨g3', hg3'⟩ : ∃ g, g = w5.heap.size + 1 := ⟨_, rfl⟩
      obtain ⟨g4', hg4'⟩ : ∃ g, g = w5.heap.size := ⟨_, rfl⟩
      have F : Hid (w.heap.size ≤ g3' ∧ w.heap.size ≤ g4' ∧ g3' ≠ g4' ∧ g3' < Wz.heap.size ∧ g4' < Wz.heap.size) := Lib.hid (by omega)
      rw [← hg3', ← hg4'] at hrow6
      rw [← hg4'] at hrb
      rw [← hg3'] at hra
      clear hg3' hg4' hsz7 hsz6 hwz hmk hmk2 q2 q3 q4 f3 f4 hp5 hrow5 ho5 hD5
      rotate_left
      all_goals
        as_aux_lemma =>
        have hR3 := Lib.hid hra
        have hR4 := Lib.hid hrb
        clear hra hrb
        replace hD6 := Lib.hid hD6
        replace ho6 := Lib.hid ho6
        have c5 : Wz.cell? ⟨p, 6, none⟩ = some (.int .i64 c) := hrow6.cell 6
        have k3 : Wz.cell? ⟨p, 3, none⟩ = some (.slice (some ⟨g3', 0, none⟩) t t) := hrow6.cell 3
        have k4 : Wz.cell? ⟨p, 4, none⟩ = some (.slice (some ⟨g4', 0, none⟩) t t) := hrow6.cell 4
        replace hrow6 := Lib.hid hrow6
        have lp := hR.out.lt _ hR.out.o1
        have ld := hR.out.lt _ hR.out.o2
        have lgs := hR.out.lt _ hR.out.o3
        have lb := hR.out.lt _ hR.out.o4
        obtain ⟨F1, F2, F3, F4, F5⟩ := F.out
        have np3 : ¬ p = g3' := by omega
        have np4 : ¬ p = g4' := by omega
        have n34 : ¬ g3' = g4' := F3
        have n43 : ¬ g4' = g3' := fun e => F3 e.symm
        clear F
        go_wp2_with fail
        go_loopw [103] (fun i wr => ∃ k : Nat, k ≤ c ∧ i = .int .i64 k ∧ Row wr g3' 5 (byteVals (Recv.backs D k ++ List.replicate (t - k) 0)) ∧ Row wr g4' 4 (flags (List.replicate k true ++ List.replicate (t - k) false)) ∧ Only (fun j => j = g3' ∨ j = g4') Wz wr) (fun i _ => c - (intOf i).toNat)
        case atStart =>
          refine ⟨0, by omega, rfl, ?_, ?_, by first | exact Only.refl _ _ | exact (Only.refl _ _).drew⟩
          · rw [show byteVals (Recv.backs D 0 ++ List.replicate (t - 0) 0) = List.replicate t (.int .u8 0) by simp [byteVals, Recv.backs]]
            exact hR3.out
          · rw [show flags (List.replicate 0 true ++ List.replicate (t - 0) false) = List.replicate t (.bool false) by simp [flags]]
            exact hR4.out
        case round =>
          obtain ⟨k, hk, rfl, hr3, hr4, hon⟩ := hrel
          have hsr := hon.size
          by_cases hlt : k < c
          · have hDr := hD6.out.only hon (by omega) (by omega) (by omega)
            obtain ⟨x, hx, hxs⟩ := hDr.view (2 + k / 32) (by omega)
            obtain ⟨u, hu⟩ : ∃ u, u = 2 + k / 32 := ⟨_, rfl⟩
            obtain ⟨v, hv⟩ : ∃ v, v = k % 32 := ⟨_, rfl⟩
            have hvx : v < x.size := by omega
            have hbk : Hid ((Recv.backs D k ++ List.replicate (t - k) 0).set k (x[v]'hvx) = Recv.backs D (k + 1) ++ List.replicate (t - (k + 1)) 0) := Lib.hid (Recv.backs_step D k t (by omega) _ (by
              rw [hx, ← hv]
              show (x.data.toList[v]?).getD 0 = _
              rw [List.getElem?_eq_getElem (by rw [Array.length_toList]; exact hvx)]; rfl))
            have htk : Hid ((List.replicate k true ++ List.replicate (t - k) false).set k true = List.replicate (k + 1) true ++ List.replicate (t - (k + 1)) false) := Lib.hid (Recv.trues_step k t (by omega))
            have hRd := Lib.hid (disk_read wr d gs b 0 140 D hDr u x (by rw [hu]; exact hx))
            have w1' : (k : Int) / 32 = ((k / 32 : Nat) : Int) := by omega
            have w2' : (2 : Int) + (k : Int) / 32 = (u : Int) := by omega
            have w3' : (k : Int) % 32 = (v : Int) := by omega
            have w4' : (k : Int).tmod 32 = (v : Int) := by rw [Int.tmod_eq_emod_of_nonneg (by omega)]; exact w3'
            have hlen3 : (Recv.backs D k ++ List.replicate (t - k) 0).length = t := by rw [List.length_append, Recv.backs_len, List.length_replicate]; omega
            have hlen4 : (List.replicate k true ++ List.replicate (t - k) false).length = t := by rw [List.length_append, List.length_replicate, List.length_replicate]; omega
            generalize Recv.backs D k ++ List.replicate (t - k) 0 = DD at *
            generalize List.replicate k true ++ List.replicate (t - k) false = CC at *
            have hkt : k < t := by omega
            have e3 : wr.cell? ⟨p, 3, none⟩ = some (.slice (some ⟨g3', 0, none⟩) t t) := hon.cell (p := ⟨p, 3, none⟩) k3 (by show ¬ (p = g3' ∨ p = g4'); omega)
            have e4 : wr.cell? ⟨p, 4, none⟩ = some (.slice (some ⟨g4', 0, none⟩) t t) := hon.cell (p := ⟨p, 4, none⟩) k4 (by show ¬ (p = g3' ∨ p = g4'); omega)
            clear w1'
            replace hu := Lib.hid hu
            replace hv := Lib.hid hv
            replace hx := Lib.hid hx
            replace hxs := Lib.hid hxs
            replace hr3 := Lib.hid hr3
            replace hr4 := Lib.hid hr4
            replace hDr := Lib.hid hDr
            replace hlen3 := Lib.hid hlen3
            replace hlen4 := Lib.hid hlen4
            go_wp2_with fail
            refine hRd.out.mono ?_
            rintro e wa ⟨rfl, hba⟩
            have s3 := Lib.hid (hr3.out.below hba)
            have s4 := Lib.hid (hr4.out.below hba)
            replace e3 := cell_below hba e3
            replace e4 := cell_below hba e4
            have hon2 := hon.chain hba
            have m3 : wa.cell? ⟨g3', k, none⟩ = some (.int .u8 (DD[k]'(by rw [hlen3.out]; exact hkt)).toNat) := by rw [s3.out.cell, byteVals, List.getElem?_map, List.getElem?_eq_getElem (by rw [hlen3.out]; exact hkt)]; rfl
            have m4 : wa.cell? ⟨g4', k, none⟩ = some (.bool (CC[k]'(by rw [hlen4.out]; exact hkt))) := by rw [s4.out.cell, flags, List.getElem?_map, List.getElem?_eq_getElem (by rw [hlen4.out]; exact hkt)]; rfl
            have z3 := s3.out.frozen k (by rw [byteVals, List.length_map, hlen3.out]; exact hkt)
            have z4 := s4.out.frozen k (by rw [flags, List.length_map, hlen4.out]; exact hkt)
            generalize (DD[k]'(by rw [hlen3.out]; exact hkt)).toNat = old3 at *
            generalize (CC[k]'(by rw [hlen4.out]; exact hkt)) = old4 at *
            go_wp2_with fail
            go_region
            go_wp2
            go_roundw
            case rel =>
              refine ⟨k + 1, by omega, by go_num, ?_, ?_, ?_⟩
              · have h := ((s3.out.set k (.int .u8 x[v].toNat)).other (p := ⟨g4', k, none⟩) (by show g4' ≠ g3'; omega) (.bool true))
                rw [← hbk.out, show byteVals (DD.set k x[v]) = (byteVals DD).set k (.int .u8 x[v].toNat) by simp [byteVals, List.map_set]]
                first | exact h | exact h.drew
              · have h := ((s4.out.other (p := ⟨g3', k, none⟩) (by show g3' ≠ g4'; omega) (.int .u8 x[v].toNat)).set k (.bool true))
                rw [← htk.out, show flags (CC.set k true) = (flags CC).set k (.bool true) by simp [flags, List.map_set]]
                first | exact h | exact h.drew
              · have h := ((hon2.set (p := ⟨g3', k, none⟩) (Or.inl (Or.inl rfl)) (.int .u8 x[v].toNat)).set (p := ⟨g4', k, none⟩) (Or.inl (Or.inr rfl)) (.bool true))
                first | exact h | exact h.drew
            case measure => simp [intOf]; omega
          · obtain rfl : k = c := by omega
            have e6 : wr.cell? ⟨p, 6, none⟩ = some (.int .i64 k) := hon.cell (p := ⟨p, 6, none⟩) c5 (by show ¬ (p = g3' ∨ p = g4'); omega)
            replace hr3 := Lib.hid hr3
            replace hr4 := Lib.hid hr4
            go_wp2
            go_ret
            have hDr := hD6.out.only hon (by omega) (by omega) (by omega)
            have hrw := hrow6.out.only hon (by omega)
            have hRR := hR.out
            rw [hcr.out]
            have hlen3 : (Recv.backs D k ++ List.replicate (t - k) 0).length = t := by rw [List.length_append, Recv.backs_len, List.length_replicate]; omega
            have hlen4 : (List.replicate k true ++ List.replicate (t - k) false).length = t := by rw [List.length_append, List.length_replicate, List.length_replicate]; omega
            refine ⟨rfl, ⟨fun j => O j ∨ j = g3' ∨ j = g4', ⟨d, gs, b, g3', g4', .slice (some ⟨g3', 0, none⟩) t t, .slice (some ⟨g4', 0, none⟩) t t, { row := ?_, disk := hDr, dat := ?_, cam := ?_, len := by rw [hlen3, hlen4], o1 := Or.inl hRR.o1, o2 := Or.inl hRR.o2, o3 := Or.inl hRR.o3, o4 := Or.inl hRR.o4, o5 := fun _ => ⟨Or.inr (Or.inl rfl), Or.inr (Or.inr rfl)⟩, lt := ?_, n1 := hRR.n1, n2 := hRR.n2, n3 := hRR.n3, n4 := fun _ => by omega }⟩, ?_⟩, ?_⟩
            · rw [hlen4]; exact hrw
            · by_cases ht : t = 0
              · have hk0 : k = 0 := by omega
                subst ht hk0
                exact .inl ⟨rfl, _, _, rfl⟩
              · refine .inr ⟨fun e => ?_, ?_, hr3.out⟩
                · have := congrArg List.length e
                  rw [byteVals, List.length_map, hlen3] at this
                  exact ht this
                · rw [byteVals, List.length_map, hlen3]
            · by_cases ht : t = 0
              · have hk0 : k = 0 := by omega
                subst ht hk0
                exact .inl ⟨rfl, _, _, rfl⟩
              · refine .inr ⟨fun e => ?_, ?_, hr4.out⟩
                · have := congrArg List.length e
                  rw [flags, List.length_map, hlen4] at this
                  exact ht this
                · rw [flags, List.length_map, hlen4]
            · intro j hj
              rcases hj with hj | rfl | rfl
              · have := hRR.lt j hj; have := ho6.out.size; omega
              · omega
              · omega
            · intro j hj
              rcases hj with hj | rfl | rfl
              · exact Or.inl hj
              · exact Or.inr F1
              · exact Or.inr F2
            · refine (ho6.out.mono (S' := O) (fun j _ hj => ?_)).step hon (fun j hj => ?_)
              · rcases hj with rfl | rfl | rfl
                · exact hRR.o1
                · exact hRR.o3
                · exact hRR.o4
              · rcases hj with rfl | rfl
                · exact Or.inr F1
                · exact Or.inr F2
end Go.Proofs.YtdpdnkjpjoccmaaDoor
