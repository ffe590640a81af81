/- The fact on sectors. -/
import Derived.Test.YtdpdnkjpjoccmaaWSpun
import Derived.Test.YtdpdnkjpjoccmaaWEqInt
namespace Go.Proofs.Ytdpdnkjpjoccmaa
open Go.RowKit
set_option linter.unusedVariables false
set_option linter.unusedSimpArgs false
theorem spin_dirty (z a c : ByteArray) : (((⟨List.replicate 3 z, fun _ => none⟩ : Disk.St ByteArray).write 2 a).write 0 c).dirty = [0, 2] := rfl
theorem spin_two (z a c : ByteArray) : ((((⟨List.replicate 3 z, fun _ => none⟩ : Disk.St ByteArray).write 2 a).write 0 c).crash (keepM 2)).view 2 = some a := by rfl
theorem spin_none (z a c : ByteArray) : ((((⟨List.replicate 3 z, fun _ => none⟩ : Disk.St ByteArray).write 2 a).write 0 c).crash (keepM 2)).view 0 = some z := by rfl
theorem owns_apart {w w' : World} {base : Nat} {e : TypeId} {sz n : Nat} {v : Value} {xs : List Value} {S : Nat → Prop} (h : w.ownsRow base e sz v n xs) (ho : Only S w w') (hS : ∀ k, S k → k < base) : w'.ownsRow base e sz v n xs :=
  owns_only h ho (fun k hk hs => by have := (h.lt k hk).1; have := hS k hs; omega)
set_option maxHeartbeats 4000000 in
set_option maxRecDepth 20000 in
theorem spinning (w : World) :
    Calls Try.prog 4 #[] w fun e w' => e = .returned (.bool true) ∧ Below w.heap.size w w' := by
  have hmk : ∀ W : World, (Instr.makeSlice 50 (.int .i64 32) (.int .i64 32)).run Try.prog W = .ok (.slice (some ⟨W.heap.size, 0, none⟩) 32 32) (W.alloc (.cells (madeCells #[.int .u8 0] 32) 5)) := fun (W : World) => run_make_row' (P := Try.prog) 50 5 (.int .u8 0) 1 Try.underlying50 (by kernel_rfl) rfl .i64 .i64 32 (by omega) (by omega) W
  have hcv := fun (W : World) (g : Nat) (hg : g = W.heap.size) => str_of_row (P := Try.prog) (w := W.alloc (.cells (madeCells #[.int .u8 0] 32) 5)) (g := g) (e := 5) (l := List.replicate 32 0) (by
    subst hg
    rw [← zero_row, ← madeCells_one]
    exact row_alloc _ _ _) 50 9 Try.underlying50 Try.underlying5 Try.underlying9 32 32 (by simp)
  have hpe : (⟨(List.replicate 32 0).toArray⟩ : ByteArray) = padB ⟨#[]⟩ := by
    unfold padB; rfl
  rw [hpe] at hcv
  clear hpe
  have hnew := Lib.hid (disk_new w 3 (by omega) (by omega))
  have hw1 := fun W d gs b m st hD => disk_write W d gs b m 3 st hD 2 (by omega) ⟨#[97, 98]⟩ (by decide)
  have hw2 := fun W d gs b m st hD => disk_write W d gs b m 3 st hD 0 (by omega) ⟨#[99]⟩ (by decide)
  have hpre : Lib.hasPrefix (padB ⟨#[97, 98]⟩).data.toList (⟨#[97, 98]⟩ : ByteArray).data.toList = true := by decide +kernel
  have hhp := fun W => Try.strings_HasPrefix (padB ⟨#[97, 98]⟩) ⟨#[97, 98]⟩ W
  rw [hpre] at hhp
  clear hpre
  generalize padB ⟨#[]⟩ = z at *
  generalize padB ⟨#[97, 98]⟩ = A at *
  generalize padB ⟨#[99]⟩ = C at *
  replace hcv := Lib.hid hcv
  replace hw1 := Lib.hid hw1
  replace hw2 := Lib.hid hw2
  replace hhp := Lib.hid hhp
  have s1 := Lib.hid (spin_dirty z A C)
  have s2 := Lib.hid (spin_two z A C)
  have s3 := Lib.hid (spin_none z A C)
  go_enter Try.func4, Try.ntmps4
  go_wp2_with fail
  refine hnew.out.mono ?_
  rintro e w2 ⟨⟨d, gs, b, rfl, hd, hg, hb, hD⟩, hb2⟩
  clear hnew
  replace hD := Lib.hid hD
  have hlt := hD.out.row.lt
  have hltg := hD.out.safe.lt
  have hltb := hD.out.next.lt
  go_wp2_with fail
  refine (hw1.out _ d gs b 0 _ hD.out (by omega)).mono ?_
  rintro e w3 ⟨rfl, hD3, ho3⟩
  have hB3 : Below w.heap.size w w3 := hb2.trans (ho3.below (B := w.heap.size) (fun j hj => by have hj : j = b := hj; omega) hb2.size)
  have hz3 := ho3.size
  replace hD3 := Lib.hid hD3
  go_wp2_with fail
  refine (hw2.out _ d gs b 1 _ hD3.out (by omega)).mono ?_
  rintro e w4 ⟨rfl, hD4, ho4⟩
  have hB4 : Below w.heap.size w w4 := hB3.trans (ho4.below (B := w.heap.size) (fun j hj => by have hj : j = b := hj; omega) hB3.size)
  have hz4 := ho4.size
  generalize hS : ((⟨List.replicate 3 z, fun _ => none⟩ : Disk.St ByteArray).write 2 A).write 0 C = st at *
  clear hS hB3 ho3 ho4
  replace hD4 := Lib.hid hD4
  go_wp2_with fail
  refine (disk_dirty _ d gs b 2 3 st hD4.out).mono ?_
  rintro e w5 ⟨⟨v, rfl, hO⟩, hb5⟩
  rw [s1.out] at hO
  replace hO := Lib.hid hO
  have hD5 := Lib.hid (hD4.out.below hb5)
  have hB5 := bch hB4 hb5
  go_wp2_with fail
  refine (disk_crash _ d gs b 2 3 st hD5.out 2 (by omega)).mono ?_
  rintro e w6 ⟨rfl, hD6, ho6⟩
  have hB6 : Below w.heap.size w w6 := hB5.trans (ho6.below (B := w.heap.size) (fun j hj => by rcases hj with hj | hj <;> omega) hB5.size)
  have hO6 := Lib.hid (owns_apart hO.out ho6 (fun j hj => by rcases hj with hj | hj <;> omega))
  replace hD6 := Lib.hid hD6
  clear hO hB5 ho6
  go_wp2_with fail
  refine (disk_read _ d gs b 0 3 _ hD6.out 2 A s2.out).mono ?_
  rintro e w7 ⟨rfl, hb7⟩
  have hD7 := Lib.hid (hD6.out.below hb7)
  have hB7 := bch hB6 hb7
  have hO7 := Lib.hid (owns_below hO6.out hb7)
  clear hO6 hb7
  go_wp2_with fail
  refine (disk_read _ d gs b 0 3 _ hD7.out 0 z s3.out).mono ?_
  rintro e w8 ⟨rfl, hb8⟩
  have hD8 := Lib.hid (hD7.out.below hb8)
  have hB8 := bch hB7 hb8
  have hO8 := Lib.hid (owns_below hO7.out hb8)
  clear hO7 hb8
  go_wp2_with fail
  have hn8 : Below w8.heap.size w8 (w8.alloc (.cells #[.int .i64 0, .int .i64 2] 3)) := (Below.refl _ _).alloc (Nat.le_refl _) _
  refine (eq_ints _ _ [0, 2] [0, 2] _ ((ListIs.of_owns hO8.out : IntsIs w8 v [0, 2]).below (by omega) hn8) (ListIs.of_alloc (f := intCells) (sz := 1) w8 3 [0, 2] _ rfl intCells_len (by decide) 2 rfl) (by decide) (by decide)).mono ?_
  rintro e w9 ⟨rfl, hb9⟩
  rw [decide_eq_true rfl]
  have hD9 := Lib.hid ((hD8.out.below hn8).below hb9)
  have hB9 := bch (bch hB8 hn8) hb9
  clear hO8 hn8 hb9
  go_wp2_with fail
  refine (hhp.out _).mono ?_
  rintro e w10 ⟨rfl, rfl⟩
  have hcv1 := hcv.out w10 w10.heap.size rfl
  go_wp2_with fail
  have hn10 : Below w10.heap.size w10 (w10.alloc (.cells (madeCells #[.int .u8 0] 32) 5)) := (Below.refl _ _).alloc (Nat.le_refl _) _
  refine (disk_dirty _ d gs b 0 3 _ (hD9.out.below hn10)).mono ?_
  rintro e w11 ⟨⟨v, rfl, hO⟩, hb11⟩
  rw [Disk.dirty_crash] at hO
  obtain ⟨o, c, rfl, -, -⟩ := (ListIs.of_owns hO : IntsIs w11 v _).at intCells_len
  clear hO hmk
  go_wp2
  go_ret
  exact ⟨rfl, bch (bch hB9 hn10) hb11⟩
/-- What the sectors are. -/
def viewsOf (st : Disk.St ByteArray) : List ByteArray := (List.range 8).map fun i => (st.view i).getD ⟨#[]⟩
theorem viewsOf_len (st : Disk.St ByteArray) : (viewsOf st).length = 8 := by simp [viewsOf]
theorem view_some (st : Disk.St ByteArray) (i : Nat) (h : i < st.safe.length) : ∃ x, st.view i = some x := by
  unfold Disk.St.view
  rw [if_pos h]
  cases st.next i with
  | some x => exact ⟨x, rfl⟩
  | none => exact ⟨st.safe[i], List.getElem?_eq_getElem h⟩
theorem viewsOf_get (st : Disk.St ByteArray) (h8 : st.safe.length = 8) (i : Nat) (h : i < (viewsOf st).length) : st.view i = some (viewsOf st)[i] := by
  rw [viewsOf_len] at h
  obtain ⟨x, hx⟩ := view_some st i (by omega)
  simp [viewsOf, hx]
theorem viewsOf_same (a b : Disk.St ByteArray) (h : ∀ i, a.view i = b.view i) : viewsOf a = viewsOf b := by
  unfold viewsOf
  exact List.map_congr_left fun i _ => by rw [h]
end Go.Proofs.Ytdpdnkjpjoccmaa
