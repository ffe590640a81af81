/- The walk of chunk.Write. -/
import Derived.Test.YtdpdnkjpjoccmaaDoorWChunk
namespace Go.Proofs.YtdpdnkjpjoccmaaDoor
open Go.RowKit
set_option linter.unusedVariables false
set_option linter.unusedSimpArgs false
set_option maxHeartbeats 2000000 in
theorem chunk_write_bad (nm : Nat) (t a : Int) (d : ByteArray) (w : World) (hw : Chunk.wrong ⟨nm, t, a, d⟩ ≠ 0) :
    Calls Tryd.prog 15 #[.agg #[.int .u32 nm, .int .i64 t, .int .i64 a, .string d]] w fun e w' => e = .returned (.tuple #[.string ⟨#[]⟩, .iface 58 (.int .i64 (Chunk.wrong ⟨nm, t, a, d⟩))]) ∧ Below w.heap.size w w' := by
  have hR := fun W => chunk_right nm t a d W
  have he : errC (Chunk.wrong ⟨nm, t, a, d⟩) = .iface 58 (.int .i64 (Chunk.wrong ⟨nm, t, a, d⟩)) := by unfold errC; rw [if_neg hw]
  rw [he] at hR
  clear he
  generalize Chunk.wrong ⟨nm, t, a, d⟩ = x at *
  replace hR := Lib.hid hR
  go_enter Tryd.func15, Tryd.ntmps15
  go_wp2_with fail
  refine (hR.out _).mono ?_
  rintro _ w2 ⟨rfl, hb2⟩
  go_wp2
  go_ret2
  exact ⟨rfl, by (repeat (first | exact Below.refl _ _ | assumption | refine bal ?_ _ | refine bdr ?_ | refine bdn ?_ _ | refine bst ?_ (by first | assumption | exact Nat.le_refl _ | omega) _ | refine bch ?_ (by assumption)))⟩
/-- A row of bytes, as a string, in every world behind. -/
theorem str_row {P : Program} (src e dst : TypeId) (hs : P.underlying src = some (.slice e)) (he : P.underlying e = some (.int .u8)) (hd : P.underlying dst = some .string) (W0 : World) (a b c d : Int) (g : Nat) (hg : g = W0.heap.size) (W : World)
    (hW : Below (W0.alloc (.cells #[.int .u8 a, .int .u8 b, .int .u8 c, .int .u8 d] e)).heap.size (W0.alloc (.cells #[.int .u8 a, .int .u8 b, .int .u8 c, .int .u8 d] e)) W) :
    Sem.run P (convert src dst (.slice (some ⟨g, 0, none⟩) 4 4)) W = .ok (.string (strOfNums [a, b, c, d])) W := by
  subst hg
  refine run_convert_bytes_arg W src e hs he W0.heap.size 0 4 4 [a, b, c, d] rfl (fun i hi => ?_) dst hd
  rw [hW.cell (p := ⟨W0.heap.size, 0 + i, none⟩) (by simp), World.cell?_alloc_at _ _ _ _ rfl]
  match i, hi with
  | 0, _ => rfl
  | 1, _ => rfl
  | 2, _ => rfl
  | 3, _ => rfl
theorem four_str (n : Nat) : strOfNums [(n : Int) % 256, (n : Int) / 256 % 256, (n : Int) / 65536 % 256, (n : Int) / 16777216 % 256] = ⟨(Crc.four n).toArray⟩ := by
  apply ba_ext
  rw [strOfNums_data]
  unfold Crc.four
  have h1 : ((n : Int) % 256).toNat = n % 256 := by omega
  have h2 : ((n : Int) / 256 % 256).toNat = n / 256 % 256 := by omega
  have h3 : ((n : Int) / 65536 % 256).toNat = n / 65536 % 256 := by omega
  have h4 : ((n : Int) / 16777216 % 256).toNat = n / 16777216 % 256 := by omega
  simp only [List.map_cons, List.map_nil, h1, h2, h3, h4, ofNat_mod]
/-- What holds behind each step: nothing that stood has changed; three cells of the piece. -/
def SC (g : Nat) (t a : Int) (d : ByteArray) (W2 W : World) : Prop := Below W2.heap.size W2 W ∧ W.cell? ⟨g, 1, none⟩ = some (.int .i64 t) ∧ W.cell? ⟨g, 2, none⟩ = some (.int .i64 a) ∧ W.cell? ⟨g, 3, none⟩ = some (.string d)
theorem SC.below {g : Nat} {t a : Int} {d : ByteArray} {W2 W W' : World} (h : SC g t a d W2 W) (hb : Below W.heap.size W W') : SC g t a d W2 W' :=
  ⟨bch h.1 hb, cell_below hb h.2.1, cell_below hb h.2.2.1, cell_below hb h.2.2.2⟩
theorem SC.alloc {g : Nat} {t a : Int} {d : ByteArray} {W2 W : World} (h : SC g t a d W2 W) (o : Obj) : SC g t a d W2 (W.alloc o) := h.below (bal (Below.refl _ _) o)
set_option maxHeartbeats 20000000 in
set_option maxRecDepth 20000 in
theorem chunk_write (nm t a : Nat) (d : ByteArray) (w : World) (hn : nm < 4294967296) (hf : Chunk.Fine ⟨nm, t, a, d⟩) :
    Calls Tryd.prog 15 #[.agg #[.int .u32 nm, .int .i64 t, .int .i64 a, .string d]] w fun e w' => e = .returned (.tuple #[.string ⟨(Chunk.write ⟨nm, t, a, d⟩).toArray⟩, .nilIface]) ∧ Below w.heap.size w w' := by
  have hR := fun W => chunk_right nm t a d W
  rw [(Chunk.fine_iff _).2 hf] at hR
  replace hR : ∀ W, Calls Tryd.prog 44 #[.agg #[.int .u32 nm, .int .i64 t, .int .i64 a, .string d]] W fun e w' => e = .returned .nilIface ∧ Below W.heap.size W w' := hR
  have ht1 : t ≤ 4096 := by have := hf.t2; simp only at this; omega
  have ha1 : a ≤ 4096 := by have := hf.a2; simp only at this; omega
  have hd1 : d.size ≤ 256 := hf.d2
  have hP1 := fun W => vary_put t W (by omega)
  have hP2 := fun W => vary_put a W (by omega)
  have hl1 := Vary.put_len t (by omega)
  have hl2 := Vary.put_len a (by omega)
  have hz1 := ba_size (Vary.put t)
  have hz2 := ba_size (Vary.put a)
  have hz4 := ba_size (Crc.four nm)
  have hl4 : (Crc.four nm).length = 4 := rfl
  have hsum : ((⟨#[67]⟩ ++ ⟨(Crc.four nm).toArray⟩ ++ ⟨(Vary.put t).toArray⟩ ++ ⟨(Vary.put a).toArray⟩ ++ d : ByteArray)).data.toList = Chunk.inner ⟨nm, t, a, d⟩ := by
    rw [ba_app, ba_app, ba_app, ba_app]
    unfold Chunk.inner
    simp
  have hS := fun W => crc_seal (⟨#[67]⟩ ++ ⟨(Crc.four nm).toArray⟩ ++ ⟨(Vary.put t).toArray⟩ ++ ⟨(Vary.put a).toArray⟩ ++ d) W (by
    simp only [ByteArray.size_append, hz1, hz2, hz4, hl4]
    have : (ByteArray.mk #[67]).size = 1 := rfl
    unfold maxLen; omega)
  rw [hsum] at hS
  have hw : Chunk.write ⟨nm, t, a, d⟩ = Crc.seal_ (Chunk.inner ⟨nm, t, a, d⟩) := rfl
  rw [← hw] at hS
  have hstr := fun W0 g hg W hW => str_row (P := Tryd.prog) 86 5 9 Tryd.underlying86 Tryd.underlying5 Tryd.underlying9 W0 ((nm : Int) % 256) ((nm : Int) / 256 % 256) ((nm : Int) / 65536 % 256) ((nm : Int) / 16777216 % 256) g hg W hW
  rw [four_str] at hstr
  clear hsum hw hf
  generalize Chunk.write ⟨nm, t, a, d⟩ = B at *
  generalize Vary.put t = p1 at *
  generalize Vary.put a = p2 at *
  generalize Crc.four nm = p4 at *
  have hwt : IntKind.u64.wrap (t : Int) = (t : Int) := by rw [IntKind.wrap_u64]; omega
  have hwa : IntKind.u64.wrap (a : Int) = (a : Int) := by rw [IntKind.wrap_u64]; omega
  have hw0 : IntKind.u8.wrap (nm : Int) = (nm : Int) % 256 := by rw [IntKind.wrap_u8]
  have hw1 : IntKind.u8.wrap ((nm : Int) / 256) = (nm : Int) / 256 % 256 := by rw [IntKind.wrap_u8]
  have hw2 : IntKind.u8.wrap ((nm : Int) / 65536) = (nm : Int) / 65536 % 256 := by rw [IntKind.wrap_u8]
  have hw3 : IntKind.u8.wrap ((nm : Int) / 16777216) = (nm : Int) / 16777216 % 256 := by rw [IntKind.wrap_u8]
  have hs1 : ¬ 9223372036854775807 < 5 + p1.length := by omega
  have hs2 : ¬ 9223372036854775807 < 5 + p1.length + p2.length := by omega
  have hs3 : ¬ 9223372036854775807 < 5 + p1.length + p2.length + d.size := by omega
  replace hR := Lib.hid hR
  replace hP1 := Lib.hid hP1
  replace hP2 := Lib.hid hP2
  replace hS := Lib.hid hS
  replace hstr := Lib.hid hstr
  go_enter Tryd.func15, Tryd.ntmps15
  go_wp2_with fail
  have q0 := row_at #[.int .u32 nm, .int .i64 t, .int .i64 a, .string d] 37 (rfl : w.heap.size = w.heap.size)
  have qb : Below w.heap.size w (w.alloc (Obj.cells #[.int .u32 nm, .int .i64 t, .int .i64 a, .string d] 37)) := by (repeat (first | exact Below.refl _ _ | assumption | refine bal ?_ _ | refine bdr ?_ | refine bdn ?_ _ | refine bst ?_ (by first | assumption | exact Nat.le_refl _ | omega) _ | refine bch ?_ (by assumption)))
  generalize w.alloc (Obj.cells #[.int .u32 nm, .int .i64 t, .int .i64 a, .string d] 37) = w1 at *
  obtain ⟨g, hg⟩ : ∃ g, g = w.heap.size := ⟨_, rfl⟩
  rw [← hg] at q0 ⊢
  refine (hR.out _).mono ?_
  rintro _ W2 ⟨rfl, hb2⟩
  have hb3 : Below w.heap.size w W2 := bch qb hb2
  replace q0 := q0.below hb2
  (have c0 := q0.cell 0; have c1 := q0.cell 1; have c2 := q0.cell 2; have c3 := q0.cell 3; simp only [List.set_cons_succ, List.set_cons_zero, List.getElem?_cons_zero, List.getElem?_cons_succ] at c0 c1 c2 c3)
  clear q0 qb hb2
  replace hg := Lib.hid hg
  go_wp2_with fail
  have hS0 : SC g t a d W2 W2.drew := ⟨bdr (Below.refl _ _), c1, c2, c3⟩
  clear c0 c1 c2 c3
  (refine wp_region_held_drew (S := (SC g t a d W2)) (by kernel_rfl) ?_ (fun hHeld => ?_); ((try dsimp only); exact hS0))
  (refine held_take (i := 0) (v := ?_) rfl (by kernel_rfl) (by kernel_rfl) (by kernel_rfl) (fun _ _ _ h => h) (by kernel_rfl) (by assumption) ?_ ?_; rotate_left; (focus (intro w hSw; (try unfold SC at hSw); (try unfold MC at hSw); (try dsimp only at hSw); go_simp; (try with_reducible rfl); done)); (simp only [Act.put, List.setIfInBounds_toArray, List.set_cons_zero, List.set_cons_succ]); refine held_take (i := 1) (v := ?_) rfl (by kernel_rfl) (by kernel_rfl) (by kernel_rfl) (fun _ _ _ h => h) (by kernel_rfl) (by assumption) ?_ ?_; rotate_left; (focus (intro w hSw; (try unfold SC at hSw); (try unfold MC at hSw); (try dsimp only at hSw); go_simp; (try with_reducible rfl); done)); (simp only [Act.put, List.setIfInBounds_toArray, List.set_cons_zero, List.set_cons_succ]); refine held_take (i := 2) (v := ?_) rfl (by kernel_rfl) (by kernel_rfl) (by kernel_rfl) (fun _ _ _ h => h) (by kernel_rfl) (by assumption) ?_ ?_; rotate_left; (focus (intro w hSw; (try unfold SC at hSw); (try unfold MC at hSw); (try dsimp only at hSw); go_simp; (try with_reducible rfl); done)); (simp only [Act.put, List.setIfInBounds_toArray, List.set_cons_zero, List.set_cons_succ]); refine held_take (i := 3) (v := ?_) rfl (by kernel_rfl) (by kernel_rfl) (by kernel_rfl) (fun _ _ _ h => h) (by kernel_rfl) (by assumption) ?_ ?_; rotate_left; (focus (intro w hSw; (try unfold SC at hSw); (try unfold MC at hSw); (try dsimp only at hSw); go_simp; (try with_reducible rfl); done)); (simp only [Act.put, List.setIfInBounds_toArray, List.set_cons_zero, List.set_cons_succ]); refine held_take (i := 4) (v := ?_) rfl (by kernel_rfl) (by kernel_rfl) (by kernel_rfl) (fun _ _ _ h => h) (by kernel_rfl) (by assumption) ?_ ?_; rotate_left; (focus (intro w hSw; (try unfold SC at hSw); (try unfold MC at hSw); (try dsimp only at hSw); go_simp; (try with_reducible rfl); done)); (simp only [Act.put, List.setIfInBounds_toArray, List.set_cons_zero, List.set_cons_succ]); refine held_take (i := 5) (v := ?_) rfl (by kernel_rfl) (by kernel_rfl) (by kernel_rfl) (fun _ _ _ h => h) (by kernel_rfl) (by assumption) ?_ ?_; rotate_left; (focus (intro w hSw; (try unfold SC at hSw); (try unfold MC at hSw); (try dsimp only at hSw); go_simp; (try with_reducible rfl); done)); (simp only [Act.put, List.setIfInBounds_toArray, List.set_cons_zero, List.set_cons_succ]); refine held_take (i := 6) (v := ?_) rfl (by kernel_rfl) (by kernel_rfl) (by kernel_rfl) (fun _ _ _ h => h) (by kernel_rfl) (by assumption) ?_ ?_; rotate_left; (focus (intro w hSw; (try unfold SC at hSw); (try unfold MC at hSw); (try dsimp only at hSw); go_simp; (try with_reducible rfl); done)); (simp only [Act.put, List.setIfInBounds_toArray, List.set_cons_zero, List.set_cons_succ]); refine held_take (i := 7) (v := ?_) rfl (by kernel_rfl) (by kernel_rfl) (by kernel_rfl) (fun _ _ _ h => h) (by kernel_rfl) (by assumption) ?_ ?_; rotate_left; (focus (intro w hSw; (try unfold SC at hSw); (try unfold MC at hSw); (try dsimp only at hSw); go_simp; (try with_reducible rfl); done)); (simp only [Act.put, List.setIfInBounds_toArray, List.set_cons_zero, List.set_cons_succ]); refine held_take (i := 8) (v := ?_) rfl (by kernel_rfl) (by kernel_rfl) (by kernel_rfl) (fun _ _ _ h => h) (by kernel_rfl) (by assumption) ?_ ?_; rotate_left; (focus (intro w hSw; (try unfold SC at hSw); (try unfold MC at hSw); (try dsimp only at hSw); go_simp; (try with_reducible rfl); done)); (simp only [Act.put, List.setIfInBounds_toArray, List.set_cons_zero, List.set_cons_succ]); refine held_take (i := 9) (v := ?_) rfl (by kernel_rfl) (by kernel_rfl) (by kernel_rfl) (fun _ _ _ h => h) (by kernel_rfl) (by assumption) ?_ ?_; rotate_left; (focus (intro w hSw; (try unfold SC at hSw); (try unfold MC at hSw); (try dsimp only at hSw); go_simp; (try with_reducible rfl); done)); (simp only [Act.put, List.setIfInBounds_toArray, List.set_cons_zero, List.set_cons_succ]); refine held_take (i := 10) (v := ?_) rfl (by kernel_rfl) (by kernel_rfl) (by kernel_rfl) (fun _ _ _ h => h) (by kernel_rfl) (by assumption) ?_ ?_; rotate_left; (focus (intro w hSw; (try unfold SC at hSw); (try unfold MC at hSw); (try dsimp only at hSw); go_simp; (try with_reducible rfl); done)); (simp only [Act.put, List.setIfInBounds_toArray, List.set_cons_zero, List.set_cons_succ]); refine held_take (i := 14) (v := ?_) rfl (by kernel_rfl) (by kernel_rfl) (by kernel_rfl) (fun _ _ _ h => h) (by kernel_rfl) (by assumption) ?_ ?_; rotate_left; (focus (intro w hSw; (try unfold SC at hSw); (try unfold MC at hSw); (try dsimp only at hSw); go_simp; (try with_reducible rfl); done)); (simp only [Act.put, List.setIfInBounds_toArray, List.set_cons_zero, List.set_cons_succ]); refine held_take (i := 15) (v := ?_) rfl (by kernel_rfl) (by kernel_rfl) (by kernel_rfl) (fun _ _ _ h => h) (by kernel_rfl) (by assumption) ?_ ?_; rotate_left; (focus (intro w hSw; (try unfold SC at hSw); (try unfold MC at hSw); (try dsimp only at hSw); go_simp; (try with_reducible rfl); done)); (simp only [Act.put, List.setIfInBounds_toArray, List.set_cons_zero, List.set_cons_succ]); refine held_take (i := 16) (v := ?_) rfl (by kernel_rfl) (by kernel_rfl) (by kernel_rfl) (fun _ _ _ h => h) (by kernel_rfl) (by assumption) ?_ ?_; rotate_left; (focus (intro w hSw; (try unfold SC at hSw); (try unfold MC at hSw); (try dsimp only at hSw); go_simp; (try with_reducible rfl); done)); (simp only [Act.put, List.setIfInBounds_toArray, List.set_cons_zero, List.set_cons_succ]); refine held_take (i := 19) (v := ?_) rfl (by kernel_rfl) (by kernel_rfl) (by kernel_rfl) (fun _ _ _ h => h) (by kernel_rfl) (by assumption) ?_ ?_; rotate_left; (focus (intro w hSw; (try unfold SC at hSw); (try unfold MC at hSw); (try dsimp only at hSw); go_simp; (try with_reducible rfl); done)); (simp only [Act.put, List.setIfInBounds_toArray, List.set_cons_zero, List.set_cons_succ]); refine held_take (i := 20) (v := ?_) rfl (by kernel_rfl) (by kernel_rfl) (by kernel_rfl) (fun _ _ _ h => h) (by kernel_rfl) (by assumption) ?_ ?_; rotate_left; (focus (intro w hSw; (try unfold SC at hSw); (try unfold MC at hSw); (try dsimp only at hSw); go_simp; (try with_reducible rfl); done)); (simp only [Act.put, List.setIfInBounds_toArray, List.set_cons_zero, List.set_cons_succ]); refine held_take (i := 21) (v := ?_) rfl (by kernel_rfl) (by kernel_rfl) (by kernel_rfl) (fun _ _ _ h => h) (by kernel_rfl) (by assumption) ?_ ?_; rotate_left; (focus (intro w hSw; (try unfold SC at hSw); (try unfold MC at hSw); (try dsimp only at hSw); go_simp; (try with_reducible rfl); done)); (simp only [Act.put, List.setIfInBounds_toArray, List.set_cons_zero, List.set_cons_succ]); refine held_take (i := 24) (v := ?_) rfl (by kernel_rfl) (by kernel_rfl) (by kernel_rfl) (fun _ _ _ h => h) (by kernel_rfl) (by assumption) ?_ ?_; rotate_left; (focus (intro w hSw; (try unfold SC at hSw); (try unfold MC at hSw); (try dsimp only at hSw); go_simp; (try with_reducible rfl); done)); (simp only [Act.put, List.setIfInBounds_toArray, List.set_cons_zero, List.set_cons_succ]); refine held_take (i := 25) (v := ?_) rfl (by kernel_rfl) (by kernel_rfl) (by kernel_rfl) (fun _ _ _ h => h) (by kernel_rfl) (by assumption) ?_ ?_; rotate_left; (focus (intro w hSw; (try unfold SC at hSw); (try unfold MC at hSw); (try dsimp only at hSw); go_simp; (try with_reducible rfl); done)); (simp only [Act.put, List.setIfInBounds_toArray, List.set_cons_zero, List.set_cons_succ]))
  clear hS0

  refine wpAnyH_ready (P := Tryd.prog) (md := .any) (rs := [11, 17]) (by kernel_rfl) (by simp) ?_
  refine held_cons rfl (by kernel_rfl) (fun K hK => ?_) (held_cons rfl (by kernel_rfl) (fun K hK => ?_) AllReadyH.nil)
  · (go_simp; refine hK.out _ _ ?_ (fun hHeld => ?_); ((try dsimp only); exact SC.alloc hHeld _); clear hK K; (try clear hHeld0); (try rename_i hHeld0))
    refine held_mono (S' := fun W => SC g t a d W2 W ∧ Below (W2.drew.alloc (Obj.cells #[.int .u8 ((nm : Int) % 256), .int .u8 ((nm : Int) / 256 % 256), .int .u8 ((nm : Int) / 65536 % 256), .int .u8 ((nm : Int) / 16777216 % 256)] 5)).heap.size (W2.drew.alloc (Obj.cells #[.int .u8 ((nm : Int) % 256), .int .u8 ((nm : Int) / 256 % 256), .int .u8 ((nm : Int) / 65536 % 256), .int .u8 ((nm : Int) / 16777216 % 256)] 5)) W) (fun _ h => h.1) _ _ _ _ ?_
    replace hHeld : SC g t a d W2 (W2.drew.alloc (Obj.cells #[.int .u8 ((nm : Int) % 256), .int .u8 ((nm : Int) / 256 % 256), .int .u8 ((nm : Int) / 65536 % 256), .int .u8 ((nm : Int) / 16777216 % 256)] 5)) ∧ Below (W2.drew.alloc (Obj.cells #[.int .u8 ((nm : Int) % 256), .int .u8 ((nm : Int) / 256 % 256), .int .u8 ((nm : Int) / 65536 % 256), .int .u8 ((nm : Int) / 16777216 % 256)] 5)).heap.size (W2.drew.alloc (Obj.cells #[.int .u8 ((nm : Int) % 256), .int .u8 ((nm : Int) / 256 % 256), .int .u8 ((nm : Int) / 65536 % 256), .int .u8 ((nm : Int) / 16777216 % 256)] 5)) (W2.drew.alloc (Obj.cells #[.int .u8 ((nm : Int) % 256), .int .u8 ((nm : Int) / 256 % 256), .int .u8 ((nm : Int) / 65536 % 256), .int .u8 ((nm : Int) / 16777216 % 256)] 5)) := ⟨hHeld, Below.refl _ _⟩
    have hst := fun W (h : SC g t a d W2 W ∧ Below (W2.drew.alloc (Obj.cells #[.int .u8 ((nm : Int) % 256), .int .u8 ((nm : Int) / 256 % 256), .int .u8 ((nm : Int) / 65536 % 256), .int .u8 ((nm : Int) / 16777216 % 256)] 5)).heap.size (W2.drew.alloc (Obj.cells #[.int .u8 ((nm : Int) % 256), .int .u8 ((nm : Int) / 256 % 256), .int .u8 ((nm : Int) / 65536 % 256), .int .u8 ((nm : Int) / 16777216 % 256)] 5)) W) => hstr.out W2.drew W2.heap.size rfl W h.2
    refine held_take (i := 12) (v := ?_) rfl (by kernel_rfl) (by kernel_rfl) (by kernel_rfl) (fun _ _ _ h => h) (by kernel_rfl) hHeld ?_ ?_; rotate_left; (focus (intro w hSw; have hx := hst w hSw; go_simp; (try with_reducible rfl); done)); (simp only [Act.put, List.setIfInBounds_toArray, List.set_cons_zero, List.set_cons_succ]); clear hst
    (refine held_take (i := 13) (v := ?_) rfl (by kernel_rfl) (by kernel_rfl) (by kernel_rfl) (fun _ _ _ h => h) (by kernel_rfl) (by assumption) ?_ ?_; rotate_left; (focus (intro w hSw; (try unfold SC at hSw); (try unfold MC at hSw); (try dsimp only at hSw); go_simp; (try with_reducible rfl); done)); (simp only [Act.put, List.setIfInBounds_toArray, List.set_cons_zero, List.set_cons_succ]))
    (refine wpAnyH_ready (P := Tryd.prog) (md := .any) (rs := [17]) (by kernel_rfl) (by simp) ?_; refine held_cons rfl (by kernel_rfl) (fun K hK => ?_) AllReadyH.nil; ((go_simp; refine (hP1.out _).mono ?_; rintro _ wn ⟨rfl, hbn⟩); refine hK.out _ _ ?_ (fun hHeld => ?_); ((try dsimp only); exact ⟨SC.below hHeld.1 hbn, bch hHeld.2 hbn⟩); clear hK K; (try clear hHeld0); (try rename_i hHeld0)))
    (refine held_take (i := 18) (v := ?_) rfl (by kernel_rfl) (by kernel_rfl) (by kernel_rfl) (fun _ _ _ h => h) (by kernel_rfl) (by assumption) ?_ ?_; rotate_left; (focus (intro w hSw; (try unfold SC at hSw); (try unfold MC at hSw); (try dsimp only at hSw); go_simp; (try with_reducible rfl); done)); (simp only [Act.put, List.setIfInBounds_toArray, List.set_cons_zero, List.set_cons_succ]))
    (refine wpAnyH_ready (P := Tryd.prog) (md := .any) (rs := [22]) (by kernel_rfl) (by simp) ?_; refine held_cons rfl (by kernel_rfl) (fun K hK => ?_) AllReadyH.nil; ((go_simp; refine (hP2.out _).mono ?_; rintro _ wn ⟨rfl, hbn⟩); refine hK.out _ _ ?_ (fun hHeld => ?_); ((try dsimp only); exact ⟨SC.below hHeld.1 hbn, bch hHeld.2 hbn⟩); clear hK K; (try clear hHeld0); (try rename_i hHeld0)))
    (refine held_take (i := 23) (v := ?_) rfl (by kernel_rfl) (by kernel_rfl) (by kernel_rfl) (fun _ _ _ h => h) (by kernel_rfl) (by assumption) ?_ ?_; rotate_left; (focus (intro w hSw; (try unfold SC at hSw); (try unfold MC at hSw); (try dsimp only at hSw); go_simp; (try with_reducible rfl); done)); (simp only [Act.put, List.setIfInBounds_toArray, List.set_cons_zero, List.set_cons_succ]); refine held_take (i := 26) (v := ?_) rfl (by kernel_rfl) (by kernel_rfl) (by kernel_rfl) (fun _ _ _ h => h) (by kernel_rfl) (by assumption) ?_ ?_; rotate_left; (focus (intro w hSw; (try unfold SC at hSw); (try unfold MC at hSw); (try dsimp only at hSw); go_simp; (try with_reducible rfl); done)); (simp only [Act.put, List.setIfInBounds_toArray, List.set_cons_zero, List.set_cons_succ]))
    (refine wpAnyH_ready (P := Tryd.prog) (md := .any) (rs := [27]) (by kernel_rfl) (by simp) ?_; refine held_cons rfl (by kernel_rfl) (fun K hK => ?_) AllReadyH.nil; ((go_simp; refine (hS.out _).mono ?_; rintro _ wn ⟨rfl, hbn⟩); refine hK.out _ _ ?_ (fun hHeld => ?_); ((try dsimp only); exact ⟨SC.below hHeld.1 hbn, bch hHeld.2 hbn⟩); clear hK K; (try clear hHeld0); (try rename_i hHeld0)))
    (refine held_take (i := 28) (v := ?_) rfl (by kernel_rfl) (by kernel_rfl) (by kernel_rfl) (fun _ _ _ h => h) (by kernel_rfl) (by assumption) ?_ ?_; rotate_left; (focus (intro w hSw; (try unfold SC at hSw); (try unfold MC at hSw); (try dsimp only at hSw); go_simp; (try with_reducible rfl); done)); (simp only [Act.put, List.setIfInBounds_toArray, List.set_cons_zero, List.set_cons_succ]); refine held_take (i := 29) (v := ?_) rfl (by kernel_rfl) (by kernel_rfl) (by kernel_rfl) (fun _ _ _ h => h) (by kernel_rfl) (by assumption) ?_ ?_; rotate_left; (focus (intro w hSw; (try unfold SC at hSw); (try unfold MC at hSw); (try dsimp only at hSw); go_simp; (try with_reducible rfl); done)); (simp only [Act.put, List.setIfInBounds_toArray, List.set_cons_zero, List.set_cons_succ]))
    (refine wpAnyH_done (by kernel_rfl) ?_ _)
    have hbf : Below w.heap.size w _ := bch hb3 hHeld.1.1
    go_wp2
    go_ret2
    exact ⟨rfl, hbf⟩
  · ((go_simp; refine (hP1.out _).mono ?_; rintro _ w3 ⟨rfl, hbn⟩); refine hK.out _ _ ?_ (fun hHeld => ?_); ((try dsimp only); exact SC.below hHeld hbn); clear hK K; (try clear hHeld0); (try rename_i hHeld0))
    refine wpAnyH_ready (P := Tryd.prog) (md := .any) (rs := [11, 22]) (by kernel_rfl) (by simp) ?_
    refine held_cons rfl (by kernel_rfl) (fun K hK => ?_) (held_cons rfl (by kernel_rfl) (fun K hK => ?_) AllReadyH.nil)
    · (go_simp; refine hK.out _ _ ?_ (fun hHeld => ?_); ((try dsimp only); exact SC.alloc hHeld _); clear hK K; (try clear hHeld0); (try rename_i hHeld0))
      refine held_mono (S' := fun W => SC g t a d W2 W ∧ Below (w3.alloc (Obj.cells #[.int .u8 ((nm : Int) % 256), .int .u8 ((nm : Int) / 256 % 256), .int .u8 ((nm : Int) / 65536 % 256), .int .u8 ((nm : Int) / 16777216 % 256)] 5)).heap.size (w3.alloc (Obj.cells #[.int .u8 ((nm : Int) % 256), .int .u8 ((nm : Int) / 256 % 256), .int .u8 ((nm : Int) / 65536 % 256), .int .u8 ((nm : Int) / 16777216 % 256)] 5)) W) (fun _ h => h.1) _ _ _ _ ?_
      replace hHeld : SC g t a d W2 (w3.alloc (Obj.cells #[.int .u8 ((nm : Int) % 256), .int .u8 ((nm : Int) / 256 % 256), .int .u8 ((nm : Int) / 65536 % 256), .int .u8 ((nm : Int) / 16777216 % 256)] 5)) ∧ Below (w3.alloc (Obj.cells #[.int .u8 ((nm : Int) % 256), .int .u8 ((nm : Int) / 256 % 256), .int .u8 ((nm : Int) / 65536 % 256), .int .u8 ((nm : Int) / 16777216 % 256)] 5)).heap.size (w3.alloc (Obj.cells #[.int .u8 ((nm : Int) % 256), .int .u8 ((nm : Int) / 256 % 256), .int .u8 ((nm : Int) / 65536 % 256), .int .u8 ((nm : Int) / 16777216 % 256)] 5)) (w3.alloc (Obj.cells #[.int .u8 ((nm : Int) % 256), .int .u8 ((nm : Int) / 256 % 256), .int .u8 ((nm : Int) / 65536 % 256), .int .u8 ((nm : Int) / 16777216 % 256)] 5)) := ⟨hHeld, Below.refl _ _⟩
      have hst := fun W (h : SC g t a d W2 W ∧ Below (w3.alloc (Obj.cells #[.int .u8 ((nm : Int) % 256), .int .u8 ((nm : Int) / 256 % 256), .int .u8 ((nm : Int) / 65536 % 256), .int .u8 ((nm : Int) / 16777216 % 256)] 5)).heap.size (w3.alloc (Obj.cells #[.int .u8 ((nm : Int) % 256), .int .u8 ((nm : Int) / 256 % 256), .int .u8 ((nm : Int) / 65536 % 256), .int .u8 ((nm : Int) / 16777216 % 256)] 5)) W) => hstr.out w3 w3.heap.size rfl W h.2
      refine held_take (i := 12) (v := ?_) rfl (by kernel_rfl) (by kernel_rfl) (by kernel_rfl) (fun _ _ _ h => h) (by kernel_rfl) hHeld ?_ ?_; rotate_left; (focus (intro w hSw; have hx := hst w hSw; go_simp; (try with_reducible rfl); done)); (simp only [Act.put, List.setIfInBounds_toArray, List.set_cons_zero, List.set_cons_succ]); clear hst
      (refine held_take (i := 13) (v := ?_) rfl (by kernel_rfl) (by kernel_rfl) (by kernel_rfl) (fun _ _ _ h => h) (by kernel_rfl) (by assumption) ?_ ?_; rotate_left; (focus (intro w hSw; (try unfold SC at hSw); (try unfold MC at hSw); (try dsimp only at hSw); go_simp; (try with_reducible rfl); done)); (simp only [Act.put, List.setIfInBounds_toArray, List.set_cons_zero, List.set_cons_succ]); refine held_take (i := 18) (v := ?_) rfl (by kernel_rfl) (by kernel_rfl) (by kernel_rfl) (fun _ _ _ h => h) (by kernel_rfl) (by assumption) ?_ ?_; rotate_left; (focus (intro w hSw; (try unfold SC at hSw); (try unfold MC at hSw); (try dsimp only at hSw); go_simp; (try with_reducible rfl); done)); (simp only [Act.put, List.setIfInBounds_toArray, List.set_cons_zero, List.set_cons_succ]))
      (refine wpAnyH_ready (P := Tryd.prog) (md := .any) (rs := [22]) (by kernel_rfl) (by simp) ?_; refine held_cons rfl (by kernel_rfl) (fun K hK => ?_) AllReadyH.nil; ((go_simp; refine (hP2.out _).mono ?_; rintro _ wn ⟨rfl, hbn⟩); refine hK.out _ _ ?_ (fun hHeld => ?_); ((try dsimp only); exact ⟨SC.below hHeld.1 hbn, bch hHeld.2 hbn⟩); clear hK K; (try clear hHeld0); (try rename_i hHeld0)))
      (refine held_take (i := 23) (v := ?_) rfl (by kernel_rfl) (by kernel_rfl) (by kernel_rfl) (fun _ _ _ h => h) (by kernel_rfl) (by assumption) ?_ ?_; rotate_left; (focus (intro w hSw; (try unfold SC at hSw); (try unfold MC at hSw); (try dsimp only at hSw); go_simp; (try with_reducible rfl); done)); (simp only [Act.put, List.setIfInBounds_toArray, List.set_cons_zero, List.set_cons_succ]); refine held_take (i := 26) (v := ?_) rfl (by kernel_rfl) (by kernel_rfl) (by kernel_rfl) (fun _ _ _ h => h) (by kernel_rfl) (by assumption) ?_ ?_; rotate_left; (focus (intro w hSw; (try unfold SC at hSw); (try unfold MC at hSw); (try dsimp only at hSw); go_simp; (try with_reducible rfl); done)); (simp only [Act.put, List.setIfInBounds_toArray, List.set_cons_zero, List.set_cons_succ]))
      (refine wpAnyH_ready (P := Tryd.prog) (md := .any) (rs := [27]) (by kernel_rfl) (by simp) ?_; refine held_cons rfl (by kernel_rfl) (fun K hK => ?_) AllReadyH.nil; ((go_simp; refine (hS.out _).mono ?_; rintro _ wn ⟨rfl, hbn⟩); refine hK.out _ _ ?_ (fun hHeld => ?_); ((try dsimp only); exact ⟨SC.below hHeld.1 hbn, bch hHeld.2 hbn⟩); clear hK K; (try clear hHeld0); (try rename_i hHeld0)))
      (refine held_take (i := 28) (v := ?_) rfl (by kernel_rfl) (by kernel_rfl) (by kernel_rfl) (fun _ _ _ h => h) (by kernel_rfl) (by assumption) ?_ ?_; rotate_left; (focus (intro w hSw; (try unfold SC at hSw); (try unfold MC at hSw); (try dsimp only at hSw); go_simp; (try with_reducible rfl); done)); (simp only [Act.put, List.setIfInBounds_toArray, List.set_cons_zero, List.set_cons_succ]); refine held_take (i := 29) (v := ?_) rfl (by kernel_rfl) (by kernel_rfl) (by kernel_rfl) (fun _ _ _ h => h) (by kernel_rfl) (by assumption) ?_ ?_; rotate_left; (focus (intro w hSw; (try unfold SC at hSw); (try unfold MC at hSw); (try dsimp only at hSw); go_simp; (try with_reducible rfl); done)); (simp only [Act.put, List.setIfInBounds_toArray, List.set_cons_zero, List.set_cons_succ]))
      (refine wpAnyH_done (by kernel_rfl) ?_ _)
      have hbf : Below w.heap.size w _ := bch hb3 hHeld.1.1
      go_wp2
      go_ret2
      exact ⟨rfl, hbf⟩
    · ((go_simp; refine (hP2.out _).mono ?_; rintro _ w4 ⟨rfl, hbn⟩); refine hK.out _ _ ?_ (fun hHeld => ?_); ((try dsimp only); exact SC.below hHeld hbn); clear hK K; (try clear hHeld0); (try rename_i hHeld0))
      (refine wpAnyH_ready (P := Tryd.prog) (md := .any) (rs := [11]) (by kernel_rfl) (by simp) ?_; refine held_cons rfl (by kernel_rfl) (fun K hK => ?_) AllReadyH.nil; (go_simp; refine hK.out _ _ ?_ (fun hHeld => ?_); ((try dsimp only); exact SC.alloc hHeld _); clear hK K; (try clear hHeld0); (try rename_i hHeld0)))
      refine held_mono (S' := fun W => SC g t a d W2 W ∧ Below (w4.alloc (Obj.cells #[.int .u8 ((nm : Int) % 256), .int .u8 ((nm : Int) / 256 % 256), .int .u8 ((nm : Int) / 65536 % 256), .int .u8 ((nm : Int) / 16777216 % 256)] 5)).heap.size (w4.alloc (Obj.cells #[.int .u8 ((nm : Int) % 256), .int .u8 ((nm : Int) / 256 % 256), .int .u8 ((nm : Int) / 65536 % 256), .int .u8 ((nm : Int) / 16777216 % 256)] 5)) W) (fun _ h => h.1) _ _ _ _ ?_
      replace hHeld : SC g t a d W2 (w4.alloc (Obj.cells #[.int .u8 ((nm : Int) % 256), .int .u8 ((nm : Int) / 256 % 256), .int .u8 ((nm : Int) / 65536 % 256), .int .u8 ((nm : Int) / 16777216 % 256)] 5)) ∧ Below (w4.alloc (Obj.cells #[.int .u8 ((nm : Int) % 256), .int .u8 ((nm : Int) / 256 % 256), .int .u8 ((nm : Int) / 65536 % 256), .int .u8 ((nm : Int) / 16777216 % 256)] 5)).heap.size (w4.alloc (Obj.cells #[.int .u8 ((nm : Int) % 256), .int .u8 ((nm : Int) / 256 % 256), .int .u8 ((nm : Int) / 65536 % 256), .int .u8 ((nm : Int) / 16777216 % 256)] 5)) (w4.alloc (Obj.cells #[.int .u8 ((nm : Int) % 256), .int .u8 ((nm : Int) / 256 % 256), .int .u8 ((nm : Int) / 65536 % 256), .int .u8 ((nm : Int) / 16777216 % 256)] 5)) := ⟨hHeld, Below.refl _ _⟩
      have hst := fun W (h : SC g t a d W2 W ∧ Below (w4.alloc (Obj.cells #[.int .u8 ((nm : Int) % 256), .int .u8 ((nm : Int) / 256 % 256), .int .u8 ((nm : Int) / 65536 % 256), .int .u8 ((nm : Int) / 16777216 % 256)] 5)).heap.size (w4.alloc (Obj.cells #[.int .u8 ((nm : Int) % 256), .int .u8 ((nm : Int) / 256 % 256), .int .u8 ((nm : Int) / 65536 % 256), .int .u8 ((nm : Int) / 16777216 % 256)] 5)) W) => hstr.out w4 w4.heap.size rfl W h.2
      refine held_take (i := 12) (v := ?_) rfl (by kernel_rfl) (by kernel_rfl) (by kernel_rfl) (fun _ _ _ h => h) (by kernel_rfl) hHeld ?_ ?_; rotate_left; (focus (intro w hSw; have hx := hst w hSw; go_simp; (try with_reducible rfl); done)); (simp only [Act.put, List.setIfInBounds_toArray, List.set_cons_zero, List.set_cons_succ]); clear hst
      (refine held_take (i := 13) (v := ?_) rfl (by kernel_rfl) (by kernel_rfl) (by kernel_rfl) (fun _ _ _ h => h) (by kernel_rfl) (by assumption) ?_ ?_; rotate_left; (focus (intro w hSw; (try unfold SC at hSw); (try unfold MC at hSw); (try dsimp only at hSw); go_simp; (try with_reducible rfl); done)); (simp only [Act.put, List.setIfInBounds_toArray, List.set_cons_zero, List.set_cons_succ]); refine held_take (i := 18) (v := ?_) rfl (by kernel_rfl) (by kernel_rfl) (by kernel_rfl) (fun _ _ _ h => h) (by kernel_rfl) (by assumption) ?_ ?_; rotate_left; (focus (intro w hSw; (try unfold SC at hSw); (try unfold MC at hSw); (try dsimp only at hSw); go_simp; (try with_reducible rfl); done)); (simp only [Act.put, List.setIfInBounds_toArray, List.set_cons_zero, List.set_cons_succ]); refine held_take (i := 23) (v := ?_) rfl (by kernel_rfl) (by kernel_rfl) (by kernel_rfl) (fun _ _ _ h => h) (by kernel_rfl) (by assumption) ?_ ?_; rotate_left; (focus (intro w hSw; (try unfold SC at hSw); (try unfold MC at hSw); (try dsimp only at hSw); go_simp; (try with_reducible rfl); done)); (simp only [Act.put, List.setIfInBounds_toArray, List.set_cons_zero, List.set_cons_succ]); refine held_take (i := 26) (v := ?_) rfl (by kernel_rfl) (by kernel_rfl) (by kernel_rfl) (fun _ _ _ h => h) (by kernel_rfl) (by assumption) ?_ ?_; rotate_left; (focus (intro w hSw; (try unfold SC at hSw); (try unfold MC at hSw); (try dsimp only at hSw); go_simp; (try with_reducible rfl); done)); (simp only [Act.put, List.setIfInBounds_toArray, List.set_cons_zero, List.set_cons_succ]))
      (refine wpAnyH_ready (P := Tryd.prog) (md := .any) (rs := [27]) (by kernel_rfl) (by simp) ?_; refine held_cons rfl (by kernel_rfl) (fun K hK => ?_) AllReadyH.nil; ((go_simp; refine (hS.out _).mono ?_; rintro _ wn ⟨rfl, hbn⟩); refine hK.out _ _ ?_ (fun hHeld => ?_); ((try dsimp only); exact ⟨SC.below hHeld.1 hbn, bch hHeld.2 hbn⟩); clear hK K; (try clear hHeld0); (try rename_i hHeld0)))
      (refine held_take (i := 28) (v := ?_) rfl (by kernel_rfl) (by kernel_rfl) (by kernel_rfl) (fun _ _ _ h => h) (by kernel_rfl) (by assumption) ?_ ?_; rotate_left; (focus (intro w hSw; (try unfold SC at hSw); (try unfold MC at hSw); (try dsimp only at hSw); go_simp; (try with_reducible rfl); done)); (simp only [Act.put, List.setIfInBounds_toArray, List.set_cons_zero, List.set_cons_succ]); refine held_take (i := 29) (v := ?_) rfl (by kernel_rfl) (by kernel_rfl) (by kernel_rfl) (fun _ _ _ h => h) (by kernel_rfl) (by assumption) ?_ ?_; rotate_left; (focus (intro w hSw; (try unfold SC at hSw); (try unfold MC at hSw); (try dsimp only at hSw); go_simp; (try with_reducible rfl); done)); (simp only [Act.put, List.setIfInBounds_toArray, List.set_cons_zero, List.set_cons_succ]))
      (refine wpAnyH_done (by kernel_rfl) ?_ _)
      have hbf : Below w.heap.size w _ := bch hb3 hHeld.1.1
      go_wp2
      go_ret2
      exact ⟨rfl, hbf⟩
end Go.Proofs.YtdpdnkjpjoccmaaDoor
