/- The walk of chunk.Read. -/
import Derived.Test.YtdpdnkjpjoccmaaDoorWChunkW
namespace Go.Proofs.YtdpdnkjpjoccmaaDoor
open Go.RowKit
set_option linter.unusedVariables false
set_option linter.unusedSimpArgs false
def noPiece : Chunk.Piece := ⟨0, 0, 0, ⟨#[]⟩⟩
def chunkVal : Chunk.Got → Value
  | .ok c => .tuple #[pieceVal c, .nilIface]
  | .bad e => .tuple #[pieceVal noPiece, .iface 58 (.int .i64 e)]
theorem open_val (s : ByteArray) : openVal s = match Crc.opened s.data.toList with
    | .inl e => .tuple #[.string ⟨#[]⟩, .iface 58 (.int .i64 e)]
    | .inr t => .tuple #[.string ⟨t.toArray⟩, .nilIface] := by
  have hl : s.data.toList.length = s.size := Array.length_toList
  unfold openVal Crc.opened
  rw [hl]
  by_cases h : s.size < 4
  · rw [if_pos h, if_pos h]; rfl
  · rw [if_neg h, if_neg h]
    by_cases h2 : Crc.seal_ (s.data.toList.take (s.size - 4)) = s.data.toList
    · rw [if_pos h2, if_pos h2]
    · rw [if_neg h2, if_neg h2]; rfl
theorem read_inl {s : List UInt8} {e : Nat} (h : Crc.opened s = .inl e) : Chunk.read s = .bad e := by unfold Chunk.read; rw [h]
theorem read_inr {s t : List UInt8} (h : Crc.opened s = .inr t) : Chunk.read s = Chunk.body t := by unfold Chunk.read; rw [h]
theorem body_name {t : List UInt8} (h : t.head? ≠ some 67) : Chunk.body t = .bad 5 := by unfold Chunk.body; rw [if_pos h]
theorem body_short {t : List UInt8} (h : t.head? = some 67) (h5 : t.length < 5) : Chunk.body t = .bad 7 := by unfold Chunk.body; rw [if_neg (by simp [h]), if_pos h5]
theorem body_int {t : List UInt8} {e : Nat} (h : t.head? = some 67) (h5 : ¬ t.length < 5) (hi : Vary.int (t.drop 5) 4096 = .bad e) : Chunk.body t = .bad e := by
  unfold Chunk.body; rw [if_neg (by simp [h]), if_neg h5]; simp only [hi]
theorem body_int2 {t : List UInt8} {e n k : Nat} (h : t.head? = some 67) (h5 : ¬ t.length < 5) (hi : Vary.int (t.drop 5) 4096 = .ok n k) (hj : Vary.int (t.drop (5 + k)) 4096 = .bad e) : Chunk.body t = .bad e := by
  unfold Chunk.body; rw [if_neg (by simp [h]), if_neg h5]; simp only [hi, List.drop_drop, hj]
theorem body_end {t : List UInt8} {n k m j : Nat} (h : t.head? = some 67) (h5 : ¬ t.length < 5) (hi : Vary.int (t.drop 5) 4096 = .ok n k) (hj : Vary.int (t.drop (5 + k)) 4096 = .ok m j) :
    Chunk.body t = if Chunk.wrong ⟨Chunk.le4 (t.drop 1), n, m, ⟨(t.drop (5 + k + j)).toArray⟩⟩ ≠ 0 then .bad (Chunk.wrong ⟨Chunk.le4 (t.drop 1), n, m, ⟨(t.drop (5 + k + j)).toArray⟩⟩) else .ok ⟨Chunk.le4 (t.drop 1), n, m, ⟨(t.drop (5 + k + j)).toArray⟩⟩ := by
  unfold Chunk.body; rw [if_neg (by simp [h]), if_neg h5]; simp only [hi, List.drop_drop, hj]
theorem u32_plus (k x y : Nat) (hx : x < 2 ^ k) (hy : x + y * 2 ^ k < 4294967296) : bits .or .u32 (x : Int) ((y * 2 ^ k : Nat) : Int) = ((x + y * 2 ^ k : Nat) : Int) := by
  rw [u32_or_nat x (y * 2 ^ k) (by omega) (by omega), Nat.or_comm, nat_join k _ _ (Nat.mul_mod_left _ _) hx, Nat.add_comm]
theorem le4_facts (a b c d : UInt8) : ∃ m2 m3 m4 n2 n3 n4 : Nat, IntKind.u32.wrap (a.toNat : Int) = (a.toNat : Int) ∧ IntKind.u32.wrap (b.toNat : Int) = (b.toNat : Int) ∧ IntKind.u32.wrap (c.toNat : Int) = (c.toNat : Int) ∧ IntKind.u32.wrap (d.toNat : Int) = (d.toNat : Int) ∧
    IntKind.u32.wrap ((b.toNat : Int) * 256) = (m2 : Int) ∧ IntKind.u32.wrap ((c.toNat : Int) * 65536) = (m3 : Int) ∧ IntKind.u32.wrap ((d.toNat : Int) * 16777216) = (m4 : Int) ∧
    bits .or .u32 (a.toNat : Int) (m2 : Int) = (n2 : Int) ∧ bits .or .u32 (n2 : Int) (m3 : Int) = (n3 : Int) ∧ bits .or .u32 (n3 : Int) (m4 : Int) = (n4 : Int) ∧ n4 = Crc.num [a, b, c, d] ∧ n4 < 4294967296 := by
  have ha := a.toNat_lt
  have hb := b.toNat_lt
  have hc := c.toNat_lt
  have hd := d.toNat_lt
  have w32 : ∀ n : Int, 0 ≤ n → n < 4294967296 → IntKind.u32.wrap n = n := fun n h1 h2 => by
    have : IntKind.u32.wrap n = n % 4294967296 := by simp [IntKind.wrap, IntKind.bits, IntKind.signed]
    rw [this]; omega
  refine ⟨b.toNat * 2 ^ 8, c.toNat * 2 ^ 16, d.toNat * 2 ^ 24, a.toNat + b.toNat * 2 ^ 8, a.toNat + b.toNat * 2 ^ 8 + c.toNat * 2 ^ 16, a.toNat + b.toNat * 2 ^ 8 + c.toNat * 2 ^ 16 + d.toNat * 2 ^ 24, w32 _ (by omega) (by omega), w32 _ (by omega) (by omega), w32 _ (by omega) (by omega), w32 _ (by omega) (by omega), ?_, ?_, ?_, u32_plus 8 _ _ (by omega) (by omega), u32_plus 16 _ _ (by omega) (by omega), u32_plus 24 _ _ (by omega) (by omega), ?_, by omega⟩
  · rw [w32 _ (by omega) (by omega)]; omega
  · rw [w32 _ (by omega) (by omega)]; omega
  · rw [w32 _ (by omega) (by omega)]; omega
  · simp only [Crc.num]; omega
theorem num_le4 (T : ByteArray) (t : List UInt8) (h : T.data.toList = t) (h1 : 1 < T.size) (h2 : 2 < T.size) (h3 : 3 < T.size) (h4 : 4 < T.size) : Crc.num [T[1]'h1, T[2]'h2, T[3]'h3, T[4]'h4] = Chunk.le4 (t.drop 1) := by
  subst h
  obtain ⟨⟨l⟩⟩ := T
  match l, h4 with
  | a :: b1 :: b2 :: b3 :: b4 :: r, _ => rfl
theorem vary_of (s : ByteArray) (l : List UInt8) (h : s.data.toList = l) (most : Int) (w : World) (hs : s.size ≤ 1000000) (hm : most ≤ 9223372036854775807) :
    Calls Tryd.prog 71 #[.string s, .int .i64 most] w fun e w' => e = .returned (intVal (Vary.int l most)) ∧ w = w' := by
  have h2 := vary_int s most w (by unfold maxLen; omega) hm
  rw [h] at h2; exact h2
theorem drop_str (s : ByteArray) (l : List UInt8) (h : s.data.toList = l) (k : Nat) : (s.extract k s.size).data.toList = l.drop k ∧ (s.extract k s.size).size = s.size - k := by
  have hl : l.length = s.size := by rw [← h]; exact Array.length_toList
  refine ⟨?_, by simp [ByteArray.size_extract]⟩
  rw [ByteArray.data_extract, Array.toList_extract, List.extract_eq_take_drop, h, List.take_of_length_le (by rw [List.length_drop]; omega)]
set_option maxHeartbeats 20000000 in
set_option maxRecDepth 20000 in
theorem chunk_read (s : ByteArray) (w : World) (hs : s.size ≤ 1000000) :
    Calls Tryd.prog 41 #[.string s] w fun e w' => e = .returned (chunkVal (Chunk.read s.data.toList)) ∧ Below w.heap.size w w' := by
  have hO := fun W => crc_open s W (by unfold maxLen; omega)
  rw [open_val] at hO
  cases ho : Crc.opened s.data.toList with
  | inl e =>
    rw [read_inl ho]
    rw [ho] at hO
    replace hO := Lib.hid hO
    replace ho := Lib.hid ho
    go_enter Tryd.func41, Tryd.ntmps41
    go_wp2_with fail
    have q0 := row_at #[.int .u32 0, .int .i64 0, .int .i64 0, .string ⟨#[]⟩] 37 (rfl : w.heap.size = w.heap.size)
    have qb : Below w.heap.size w (w.alloc (Obj.cells #[.int .u32 0, .int .i64 0, .int .i64 0, .string ⟨#[]⟩] 37)) := by (repeat (first | exact Below.refl _ _ | assumption | refine bal ?_ _ | refine bdr ?_ | refine bdn ?_ _ | refine bst ?_ (by first | assumption | exact Nat.le_refl _ | omega) _ | refine bch ?_ (by assumption)))
    generalize w.alloc (Obj.cells #[.int .u32 0, .int .i64 0, .int .i64 0, .string ⟨#[]⟩] 37) = w1 at *
    refine (hO.out _).mono ?_
    rintro _ W2 ⟨rfl, hb2⟩
    replace q0 := q0.below hb2
    have hb3 : Below w.heap.size w W2 := bch qb hb2
    (have c0 := q0.cell 0; have c1 := q0.cell 1; have c2 := q0.cell 2; have c3 := q0.cell 3; simp only [List.set_cons_succ, List.set_cons_zero, List.getElem?_cons_zero, List.getElem?_cons_succ] at c0 c1 c2 c3)
    (have f0 := q0.frozen 0 (by simp); have f1 := q0.frozen 1 (by simp); have f2 := q0.frozen 2 (by simp); have f3 := q0.frozen 3 (by simp))
    go_wp2
    have hbf : Below w.heap.size w ((((W2.setCell ⟨w.heap.size, 0, none⟩ (.int .u32 0)).setCell ⟨w.heap.size, 1, none⟩ (.int .i64 0)).setCell ⟨w.heap.size, 2, none⟩ (.int .i64 0)).setCell ⟨w.heap.size, 3, none⟩ (.string ⟨#[]⟩)) := bst (bst (bst (bst hb3 (Nat.le_refl _) _) (Nat.le_refl _) _) (Nat.le_refl _) _) (Nat.le_refl _) _
    have q1 := (((q0.set 0 (.int .u32 0)).set 1 (.int .i64 0)).set 2 (.int .i64 0)).set 3 (.string ⟨#[]⟩)
    generalize ((((W2.setCell ⟨w.heap.size, 0, none⟩ (.int .u32 0)).setCell ⟨w.heap.size, 1, none⟩ (.int .i64 0)).setCell ⟨w.heap.size, 2, none⟩ (.int .i64 0)).setCell ⟨w.heap.size, 3, none⟩ (.string ⟨#[]⟩)) = W9 at *
    (have d0 := q1.cell 0; have d1 := q1.cell 1; have d2 := q1.cell 2; have d3 := q1.cell 3; simp only [List.set_cons_succ, List.set_cons_zero, List.getElem?_cons_zero, List.getElem?_cons_succ] at d0 d1 d2 d3)
    refine bodyPost_ret (v := .tuple #[.agg #[.int .u32 0, .int .i64 0, .int .i64 0, .string ⟨#[]⟩], .iface 58 (.int .i64 e)]) (by simp [results, Tryd.results41, go_sem, d0, d1, d2, d3]) rfl ⟨rfl, hbf⟩
  | inr t =>
    rw [read_inr ho]
    rw [ho] at hO
    replace hO : ∀ W, Calls Tryd.prog 70 #[.string s] W fun e w' => e = .returned (.tuple #[.string ⟨t.toArray⟩, .nilIface]) ∧ Below W.heap.size W w' := hO
    have htl : t.length ≤ 1000000 := by
      have := congrArg List.length (Crc.opened_inv ho)
      have hl : s.data.toList.length = s.size := Array.length_toList
      rw [Crc.seal_len', hl] at this
      omega
    obtain ⟨T, hT⟩ : ∃ T : ByteArray, T = ⟨t.toArray⟩ := ⟨_, rfl⟩
    have hTl : T.data.toList = t := by rw [hT]
    have hTs : T.size = t.length := by rw [hT]; exact ba_size t
    rw [← hT] at hO
    replace hO := Lib.hid hO
    replace ho := Lib.hid ho
    replace hT := Lib.hid hT
    replace hTl := Lib.hid hTl
    by_cases h0 : t.head? = some 67
    · obtain ⟨r, rfl⟩ : ∃ r, t = 67 :: r := by
        cases t with
        | nil => cases h0
        | cons x r => injection h0 with h0; subst h0; exact ⟨r, rfl⟩
      have hne := nonempty_size (s := T) (by rw [hTs]; simp)
      have h1s : 0 < T.size := by rw [hTs]; simp
      have hi0 : (T[0]'h1s).toNat = 67 := by
        have e1 : T[0]'h1s = T.data.toList[0]'(by rw [hTl.out]; simp) := by simp [ByteArray.getElem_eq_getElem_data]
        rw [e1]
        simp only [hTl.out]
        rfl
      by_cases h5 : (67 :: r).length < 5
      · have hE := Lib.hid (body_short h0 h5)
        have hd5 : decide ((T.size : Int) < 5) = true := by simp; omega
        replace hTs := Lib.hid hTs
        clear htl h0 h5
        go_enter Tryd.func41, Tryd.ntmps41
        go_wp2_with fail
        have q0 := row_at #[.int .u32 0, .int .i64 0, .int .i64 0, .string ⟨#[]⟩] 37 (rfl : w.heap.size = w.heap.size)
        have qb : Below w.heap.size w (w.alloc (Obj.cells #[.int .u32 0, .int .i64 0, .int .i64 0, .string ⟨#[]⟩] 37)) := by (repeat (first | exact Below.refl _ _ | assumption | refine bal ?_ _ | refine bdr ?_ | refine bdn ?_ _ | refine bst ?_ (by first | assumption | exact Nat.le_refl _ | omega) _ | refine bch ?_ (by assumption)))
        generalize w.alloc (Obj.cells #[.int .u32 0, .int .i64 0, .int .i64 0, .string ⟨#[]⟩] 37) = w1 at *
        refine (hO.out _).mono ?_
        rintro _ W2 ⟨rfl, hb2⟩
        replace q0 := q0.below hb2
        have hb3 : Below w.heap.size w W2 := bch qb hb2
        (have c0 := q0.cell 0; have c1 := q0.cell 1; have c2 := q0.cell 2; have c3 := q0.cell 3; simp only [List.set_cons_succ, List.set_cons_zero, List.getElem?_cons_zero, List.getElem?_cons_succ] at c0 c1 c2 c3)
        (have f0 := q0.frozen 0 (by simp); have f1 := q0.frozen 1 (by simp); have f2 := q0.frozen 2 (by simp); have f3 := q0.frozen 3 (by simp))
        clear qb hb2
        go_wp2
        have hbf : Below w.heap.size w ((((W2.setCell ⟨w.heap.size, 0, none⟩ (.int .u32 0)).setCell ⟨w.heap.size, 1, none⟩ (.int .i64 0)).setCell ⟨w.heap.size, 2, none⟩ (.int .i64 0)).setCell ⟨w.heap.size, 3, none⟩ (.string ⟨#[]⟩)) := bst (bst (bst (bst hb3 (Nat.le_refl _) _) (Nat.le_refl _) _) (Nat.le_refl _) _) (Nat.le_refl _) _
        have q1 := (((q0.set 0 (.int .u32 0)).set 1 (.int .i64 0)).set 2 (.int .i64 0)).set 3 (.string ⟨#[]⟩)
        generalize ((((W2.setCell ⟨w.heap.size, 0, none⟩ (.int .u32 0)).setCell ⟨w.heap.size, 1, none⟩ (.int .i64 0)).setCell ⟨w.heap.size, 2, none⟩ (.int .i64 0)).setCell ⟨w.heap.size, 3, none⟩ (.string ⟨#[]⟩)) = W9 at *
        (have d0 := q1.cell 0; have d1 := q1.cell 1; have d2 := q1.cell 2; have d3 := q1.cell 3; simp only [List.set_cons_succ, List.set_cons_zero, List.getElem?_cons_zero, List.getElem?_cons_succ] at d0 d1 d2 d3)
        refine bodyPost_ret (v := .tuple #[.agg #[.int .u32 0, .int .i64 0, .int .i64 0, .string ⟨#[]⟩], .iface 58 (.int .i64 7)]) (by simp [results, Tryd.results41, go_sem, d0, d1, d2, d3]) rfl ⟨by rw [hE.out]; rfl, hbf⟩
      · have hs5 : 5 ≤ T.size := by omega
        have hj1 : (1 : Int) < (T.size : Int) := by omega
        have hj2 : (2 : Int) < (T.size : Int) := by omega
        have hj3 : (3 : Int) < (T.size : Int) := by omega
        have hj4 : (4 : Int) < (T.size : Int) := by omega
        have hk1 : 1 < T.size := by omega
        have hk2 : 2 < T.size := by omega
        have hk3 : 3 < T.size := by omega
        have hk4 : 4 < T.size := by omega
        have hnum := num_le4 T (67 :: r) hTl.out hk1 hk2 hk3 hk4
        obtain ⟨m2, m3, m4, n2, n3, nm, l1, l2, l3, l4, l5, l6, l7, l8, l9, l10, hnm, hnl⟩ := le4_facts (T[1]'hk1) (T[2]'hk2) (T[3]'hk3) (T[4]'hk4)
        have hnm2 := Lib.hid (hnm.trans hnum)
        clear hnm hnum
        have hd5 : decide ((T.size : Int) < 5) = false := by simp; omega
        have hsz : T.size ≤ 1000000 := by omega
        obtain ⟨u1, u2⟩ := drop_str T _ hTl.out 5
        have hbs := fun e he => body_int (e := e) h0 h5 he
        have hb2' := fun e n k hi hj => body_int2 (e := e) (n := n) (k := k) h0 h5 hi hj
        have hbe := fun n k m j hi hj => body_end (n := n) (k := k) (m := m) (j := j) h0 h5 hi hj
        generalize hE : Chunk.body (67 :: r) = E at *
        generalize hTT : (67 :: r) = t at *
        replace hTs := Lib.hid hTs
        replace hTT := Lib.hid hTT
        replace hE := Lib.hid hE
        replace hbs := Lib.hid hbs
        replace hb2' := Lib.hid hb2'
        replace hbe := Lib.hid hbe
        replace h5 := Lib.hid h5
        replace h0 := Lib.hid h0
        clear htl
        go_enter Tryd.func41, Tryd.ntmps41
        go_wp2_with fail
        have q0 := row_at #[.int .u32 0, .int .i64 0, .int .i64 0, .string ⟨#[]⟩] 37 (rfl : w.heap.size = w.heap.size)
        have qb : Below w.heap.size w (w.alloc (Obj.cells #[.int .u32 0, .int .i64 0, .int .i64 0, .string ⟨#[]⟩] 37)) := by (repeat (first | exact Below.refl _ _ | assumption | refine bal ?_ _ | refine bdr ?_ | refine bdn ?_ _ | refine bst ?_ (by first | assumption | exact Nat.le_refl _ | omega) _ | refine bch ?_ (by assumption)))
        generalize w.alloc (Obj.cells #[.int .u32 0, .int .i64 0, .int .i64 0, .string ⟨#[]⟩] 37) = w1 at *
        refine (hO.out _).mono ?_
        rintro _ W2 ⟨rfl, hb2⟩
        replace q0 := q0.below hb2
        have hb3 : Below w.heap.size w W2 := bch qb hb2
        (have c0 := q0.cell 0; have c1 := q0.cell 1; have c2 := q0.cell 2; have c3 := q0.cell 3; simp only [List.set_cons_succ, List.set_cons_zero, List.getElem?_cons_zero, List.getElem?_cons_succ] at c0 c1 c2 c3)
        (have f0 := q0.frozen 0 (by simp); have f1 := q0.frozen 1 (by simp); have f2 := q0.frozen 2 (by simp); have f3 := q0.frozen 3 (by simp))
        clear qb hb2
        go_wp2_with fail
        have hg6 := q0.lt
        (refine wp_region_held_drew (S := (fun W => Below W2.heap.size W2 W)) (by kernel_rfl) ?_ (fun hHeld => ?_); ((try dsimp only); exact bdr (Below.refl _ _)))
        (refine held_take (i := 0) (v := ?_) rfl (by kernel_rfl) (by kernel_rfl) (by kernel_rfl) (fun _ _ _ h => h) (by kernel_rfl) (by assumption) ?_ ?_; rotate_left; (focus (intro w hSw; (try unfold SC at hSw); (try unfold MC at hSw); (try dsimp only at hSw); go_simp; (try with_reducible rfl); done)); (simp only [Act.put, List.setIfInBounds_toArray, List.set_cons_zero, List.set_cons_succ]); refine held_take (i := 1) (v := ?_) rfl (by kernel_rfl) (by kernel_rfl) (by kernel_rfl) (fun _ _ _ h => h) (by kernel_rfl) (by assumption) ?_ ?_; rotate_left; (focus (intro w hSw; (try unfold SC at hSw); (try unfold MC at hSw); (try dsimp only at hSw); go_simp; (try with_reducible rfl); done)); (simp only [Act.put, List.setIfInBounds_toArray, List.set_cons_zero, List.set_cons_succ]); refine held_take (i := 2) (v := ?_) rfl (by kernel_rfl) (by kernel_rfl) (by kernel_rfl) (fun _ _ _ h => h) (by kernel_rfl) (by assumption) ?_ ?_; rotate_left; (focus (intro w hSw; (try unfold SC at hSw); (try unfold MC at hSw); (try dsimp only at hSw); go_simp; (try with_reducible rfl); done)); (simp only [Act.put, List.setIfInBounds_toArray, List.set_cons_zero, List.set_cons_succ]); refine held_take (i := 3) (v := ?_) rfl (by kernel_rfl) (by kernel_rfl) (by kernel_rfl) (fun _ _ _ h => h) (by kernel_rfl) (by assumption) ?_ ?_; rotate_left; (focus (intro w hSw; (try unfold SC at hSw); (try unfold MC at hSw); (try dsimp only at hSw); go_simp; (try with_reducible rfl); done)); (simp only [Act.put, List.setIfInBounds_toArray, List.set_cons_zero, List.set_cons_succ]); refine held_take (i := 4) (v := ?_) rfl (by kernel_rfl) (by kernel_rfl) (by kernel_rfl) (fun _ _ _ h => h) (by kernel_rfl) (by assumption) ?_ ?_; rotate_left; (focus (intro w hSw; (try unfold SC at hSw); (try unfold MC at hSw); (try dsimp only at hSw); go_simp; (try with_reducible rfl); done)); (simp only [Act.put, List.setIfInBounds_toArray, List.set_cons_zero, List.set_cons_succ]); refine held_take (i := 5) (v := ?_) rfl (by kernel_rfl) (by kernel_rfl) (by kernel_rfl) (fun _ _ _ h => h) (by kernel_rfl) (by assumption) ?_ ?_; rotate_left; (focus (intro w hSw; (try unfold SC at hSw); (try unfold MC at hSw); (try dsimp only at hSw); go_simp; (try with_reducible rfl); done)); (simp only [Act.put, List.setIfInBounds_toArray, List.set_cons_zero, List.set_cons_succ]); refine held_take (i := 6) (v := ?_) rfl (by kernel_rfl) (by kernel_rfl) (by kernel_rfl) (fun _ _ _ h => h) (by kernel_rfl) (by assumption) ?_ ?_; rotate_left; (focus (intro w hSw; (try unfold SC at hSw); (try unfold MC at hSw); (try dsimp only at hSw); go_simp; (try with_reducible rfl); done)); (simp only [Act.put, List.setIfInBounds_toArray, List.set_cons_zero, List.set_cons_succ]); refine held_take (i := 7) (v := ?_) rfl (by kernel_rfl) (by kernel_rfl) (by kernel_rfl) (fun _ _ _ h => h) (by kernel_rfl) (by assumption) ?_ ?_; rotate_left; (focus (intro w hSw; (try unfold SC at hSw); (try unfold MC at hSw); (try dsimp only at hSw); go_simp; (try with_reducible rfl); done)); (simp only [Act.put, List.setIfInBounds_toArray, List.set_cons_zero, List.set_cons_succ]); refine held_take (i := 8) (v := ?_) rfl (by kernel_rfl) (by kernel_rfl) (by kernel_rfl) (fun _ _ _ h => h) (by kernel_rfl) (by assumption) ?_ ?_; rotate_left; (focus (intro w hSw; (try unfold SC at hSw); (try unfold MC at hSw); (try dsimp only at hSw); go_simp; (try with_reducible rfl); done)); (simp only [Act.put, List.setIfInBounds_toArray, List.set_cons_zero, List.set_cons_succ]); refine held_take (i := 9) (v := ?_) rfl (by kernel_rfl) (by kernel_rfl) (by kernel_rfl) (fun _ _ _ h => h) (by kernel_rfl) (by assumption) ?_ ?_; rotate_left; (focus (intro w hSw; (try unfold SC at hSw); (try unfold MC at hSw); (try dsimp only at hSw); go_simp; (try with_reducible rfl); done)); (simp only [Act.put, List.setIfInBounds_toArray, List.set_cons_zero, List.set_cons_succ]); refine held_take (i := 10) (v := ?_) rfl (by kernel_rfl) (by kernel_rfl) (by kernel_rfl) (fun _ _ _ h => h) (by kernel_rfl) (by assumption) ?_ ?_; rotate_left; (focus (intro w hSw; (try unfold SC at hSw); (try unfold MC at hSw); (try dsimp only at hSw); go_simp; (try with_reducible rfl); done)); (simp only [Act.put, List.setIfInBounds_toArray, List.set_cons_zero, List.set_cons_succ]); refine held_take (i := 11) (v := ?_) rfl (by kernel_rfl) (by kernel_rfl) (by kernel_rfl) (fun _ _ _ h => h) (by kernel_rfl) (by assumption) ?_ ?_; rotate_left; (focus (intro w hSw; (try unfold SC at hSw); (try unfold MC at hSw); (try dsimp only at hSw); go_simp; (try with_reducible rfl); done)); (simp only [Act.put, List.setIfInBounds_toArray, List.set_cons_zero, List.set_cons_succ]); refine held_take (i := 12) (v := ?_) rfl (by kernel_rfl) (by kernel_rfl) (by kernel_rfl) (fun _ _ _ h => h) (by kernel_rfl) (by assumption) ?_ ?_; rotate_left; (focus (intro w hSw; (try unfold SC at hSw); (try unfold MC at hSw); (try dsimp only at hSw); go_simp; (try with_reducible rfl); done)); (simp only [Act.put, List.setIfInBounds_toArray, List.set_cons_zero, List.set_cons_succ]); refine held_take (i := 13) (v := ?_) rfl (by kernel_rfl) (by kernel_rfl) (by kernel_rfl) (fun _ _ _ h => h) (by kernel_rfl) (by assumption) ?_ ?_; rotate_left; (focus (intro w hSw; (try unfold SC at hSw); (try unfold MC at hSw); (try dsimp only at hSw); go_simp; (try with_reducible rfl); done)); (simp only [Act.put, List.setIfInBounds_toArray, List.set_cons_zero, List.set_cons_succ]); refine held_take (i := 14) (v := ?_) rfl (by kernel_rfl) (by kernel_rfl) (by kernel_rfl) (fun _ _ _ h => h) (by kernel_rfl) (by assumption) ?_ ?_; rotate_left; (focus (intro w hSw; (try unfold SC at hSw); (try unfold MC at hSw); (try dsimp only at hSw); go_simp; (try with_reducible rfl); done)); (simp only [Act.put, List.setIfInBounds_toArray, List.set_cons_zero, List.set_cons_succ]); refine held_take (i := 15) (v := ?_) rfl (by kernel_rfl) (by kernel_rfl) (by kernel_rfl) (fun _ _ _ h => h) (by kernel_rfl) (by assumption) ?_ ?_; rotate_left; (focus (intro w hSw; (try unfold SC at hSw); (try unfold MC at hSw); (try dsimp only at hSw); go_simp; (try with_reducible rfl); done)); (simp only [Act.put, List.setIfInBounds_toArray, List.set_cons_zero, List.set_cons_succ]); refine held_take (i := 16) (v := ?_) rfl (by kernel_rfl) (by kernel_rfl) (by kernel_rfl) (fun _ _ _ h => h) (by kernel_rfl) (by assumption) ?_ ?_; rotate_left; (focus (intro w hSw; (try unfold SC at hSw); (try unfold MC at hSw); (try dsimp only at hSw); go_simp; (try with_reducible rfl); done)); (simp only [Act.put, List.setIfInBounds_toArray, List.set_cons_zero, List.set_cons_succ]); refine held_take (i := 17) (v := ?_) rfl (by kernel_rfl) (by kernel_rfl) (by kernel_rfl) (fun _ _ _ h => h) (by kernel_rfl) (by assumption) ?_ ?_; rotate_left; (focus (intro w hSw; (try unfold SC at hSw); (try unfold MC at hSw); (try dsimp only at hSw); go_simp; (try with_reducible rfl); done)); (simp only [Act.put, List.setIfInBounds_toArray, List.set_cons_zero, List.set_cons_succ]); refine held_take (i := 18) (v := ?_) rfl (by kernel_rfl) (by kernel_rfl) (by kernel_rfl) (fun _ _ _ h => h) (by kernel_rfl) (by assumption) ?_ ?_; rotate_left; (focus (intro w hSw; (try unfold SC at hSw); (try unfold MC at hSw); (try dsimp only at hSw); go_simp; (try with_reducible rfl); done)); (simp only [Act.put, List.setIfInBounds_toArray, List.set_cons_zero, List.set_cons_succ]))
        (refine wpAnyH_ready (P := Tryd.prog) (md := .any) (rs := [19]) (by kernel_rfl) (by simp) ?_; refine held_cons rfl (by kernel_rfl) (fun K hK => ?_) AllReadyH.nil; (go_simp; refine hK.out _ _ ?_ (fun hHeld => ?_); ((try dsimp only); exact bdr (bal (Below.refl _ _) _)); clear hK K; (try clear hHeld0); (try rename_i hHeld0)))
        clear l1 l2 l3 l4 l5 l6 l7 l8 l9 l10 c0 c1 c2 c3 f0 f1 f2 f3
        have q6 : Row (W2.alloc (Obj.cells #[.int .u32 0, .int .i64 0, .int .i64 0, .string ⟨#[]⟩] 37)).drew W2.heap.size 37 [.int .u32 0, .int .i64 0, .int .i64 0, .string ⟨#[]⟩] := (row_at (w := W2) #[.int .u32 0, .int .i64 0, .int .i64 0, .string ⟨#[]⟩] 37 rfl).drew
        replace q0 : Row (W2.alloc (Obj.cells #[.int .u32 0, .int .i64 0, .int .i64 0, .string ⟨#[]⟩] 37)).drew w.heap.size 37 [.int .u32 0, .int .i64 0, .int .i64 0, .string ⟨#[]⟩] := (q0.alloc _).drew
        replace hb3 : Below w.heap.size w (W2.alloc (Obj.cells #[.int .u32 0, .int .i64 0, .int .i64 0, .string ⟨#[]⟩] 37)).drew := bdr (bal hb3 _)
        generalize (W2.alloc (Obj.cells #[.int .u32 0, .int .i64 0, .int .i64 0, .string ⟨#[]⟩] 37)).drew = W3 at *
        (have c0 := q6.cell 0; have c1 := q6.cell 1; have c2 := q6.cell 2; have c3 := q6.cell 3; simp only [List.set_cons_succ, List.set_cons_zero, List.getElem?_cons_zero, List.getElem?_cons_succ] at c0 c1 c2 c3)
        (have f0 := q6.frozen 0 (by simp); have f1 := q6.frozen 1 (by simp); have f2 := q6.frozen 2 (by simp); have f3 := q6.frozen 3 (by simp))
        (refine wpAnyH_ready (P := Tryd.prog) (md := .any) (rs := [20]) (by kernel_rfl) (by simp) ?_; refine held_cons rfl (by kernel_rfl) (fun K hK => ?_) AllReadyH.nil; (go_simp; refine hK.out _ _ ?_ (fun hHeld => ?_); ((try dsimp only); exact bst (bst (bst (bst (by assumption) (Nat.le_refl _) _) (Nat.le_refl _) _) (Nat.le_refl _) _) (Nat.le_refl _) _); clear hK K; (try clear hHeld0); (try rename_i hHeld0)))
        (refine wpAnyH_done (by kernel_rfl) ?_ _)
        generalize W2.heap.size = g6 at *
        have hne : ∀ j, (⟨g6, j, none⟩ : Addr).block ≠ w.heap.size := fun j h => by simp at h; omega
        replace q6 := (((q6.set 0 (.int .u32 nm)).set 1 (.int .i64 0)).set 2 (.int .i64 0)).set 3 (.string ⟨#[]⟩)
        replace q0 := (((q0.other (hne 0) (.int .u32 nm)).other (hne 1) (.int .i64 0)).other (hne 2) (.int .i64 0)).other (hne 3) (.string ⟨#[]⟩)
        replace hb3 := bst (bst (bst (bst hb3 (p := ⟨g6, 0, none⟩) (by simp; omega) (.int .u32 nm)) (p := ⟨g6, 1, none⟩) (by simp; omega) (.int .i64 0)) (p := ⟨g6, 2, none⟩) (by simp; omega) (.int .i64 0)) (p := ⟨g6, 3, none⟩) (by simp; omega) (.string ⟨#[]⟩)
        generalize (((W3.setCell ⟨g6, 0, none⟩ (.int .u32 nm)).setCell ⟨g6, 1, none⟩ (.int .i64 0)).setCell ⟨g6, 2, none⟩ (.int .i64 0)).setCell ⟨g6, 3, none⟩ (.string ⟨#[]⟩) = W4 at *
        clear c0 c1 c2 c3 f0 f1 f2 f3
        simp only [List.set_cons_zero, List.set_cons_succ] at q6
        go_wp2_with fail
        generalize hU : T.extract 5 T.size = U at *
        replace hU := Lib.hid hU
        have hgg : w.heap.size ≤ g6 := Nat.le_of_lt hg6
        have hUs : U.size ≤ 1000000 := by omega
        have hA := fun W => vary_of U (t.drop 5) u1 4096 W hUs (by omega)
        have i0 : ∀ (x y : Value) (w : World), (Instr.index 125 (.agg #[x, y]) (.int .i64 0)).run Tryd.prog w = .ok x w := fun _ _ _ => by kernel_rfl
        have i1 : ∀ (x y : Value) (w : World), (Instr.index 125 (.agg #[x, y]) (.int .i64 1)).run Tryd.prog w = .ok y w := fun _ _ _ => by kernel_rfl
        have hUl : (t.drop 5).length = U.size := by rw [← u1]; exact Array.length_toList
        replace u2 := Lib.hid u2
        cases hi : Vary.int (t.drop 5) 4096 with
        | bad e =>
          have hE2 := Lib.hid (hbs.out e hi)
          rw [hi] at hA
          replace hA := Lib.hid hA
          have hvb : intVal (.bad e) = .tuple #[.int .i64 0, .int .i64 0, .iface 58 (.int .i64 e)] := rfl
          refine wp_loop_rounds 3 ?_
          rw [rounds_succ]
          go_wp2_with fail
          refine (hA.out _).mono ?_
          rintro _ w2 ⟨rfl, rfl⟩
          (have c0 := q0.cell 0; have c1 := q0.cell 1; have c2 := q0.cell 2; have c3 := q0.cell 3; simp only [List.set_cons_succ, List.set_cons_zero, List.getElem?_cons_zero, List.getElem?_cons_succ] at c0 c1 c2 c3)
          (have f0 := q0.frozen 0 (by simp); have f1 := q0.frozen 1 (by simp); have f2 := q0.frozen 2 (by simp); have f3 := q0.frozen 3 (by simp))
          go_wp2
          have hbf : Below w.heap.size w ((((W4.setCell ⟨w.heap.size, 0, none⟩ (.int .u32 0)).setCell ⟨w.heap.size, 1, none⟩ (.int .i64 0)).setCell ⟨w.heap.size, 2, none⟩ (.int .i64 0)).setCell ⟨w.heap.size, 3, none⟩ (.string ⟨#[]⟩)) := bst (bst (bst (bst hb3 (Nat.le_refl _) _) (Nat.le_refl _) _) (Nat.le_refl _) _) (Nat.le_refl _) _
          have q1 := (((q0.set 0 (.int .u32 0)).set 1 (.int .i64 0)).set 2 (.int .i64 0)).set 3 (.string ⟨#[]⟩)
          generalize ((((W4.setCell ⟨w.heap.size, 0, none⟩ (.int .u32 0)).setCell ⟨w.heap.size, 1, none⟩ (.int .i64 0)).setCell ⟨w.heap.size, 2, none⟩ (.int .i64 0)).setCell ⟨w.heap.size, 3, none⟩ (.string ⟨#[]⟩)) = W9 at *
          (have d0 := q1.cell 0; have d1 := q1.cell 1; have d2 := q1.cell 2; have d3 := q1.cell 3; simp only [List.set_cons_succ, List.set_cons_zero, List.getElem?_cons_zero, List.getElem?_cons_succ] at d0 d1 d2 d3)
          refine bodyPost_ret (v := .tuple #[.agg #[.int .u32 0, .int .i64 0, .int .i64 0, .string ⟨#[]⟩], .iface 58 (.int .i64 e)]) (by simp [results, Tryd.results41, go_sem, d0, d1, d2, d3]) rfl ⟨by rw [hE2.out]; rfl, hbf⟩
        | ok n k =>
          obtain ⟨k1, k2, k3⟩ := Vary.get_ok _ _ _ (Vary.int_inv' hi)
          rw [hUl] at k2
          have hkI : (k : Int) ≤ (U.size : Int) := by omega
          rw [hi] at hA
          replace hA := Lib.hid hA
          have hvg : intVal (.ok n k) = .tuple #[.int .i64 n, .int .i64 k, .nilIface] := rfl
          obtain ⟨v1, v2⟩ := drop_str U _ u1 k
          rw [List.drop_drop] at v1
          replace hUl := Lib.hid hUl
          clear k3
          refine wp_loop_rounds 3 ?_
          rw [rounds_succ]
          go_wp2_with fail
          refine (hA.out _).mono ?_
          rintro _ w2 ⟨rfl, rfl⟩
          go_wp2_with fail
          have q6d := q6.drew
          (have c0 := q6d.cell 0; have c1 := q6d.cell 1; have c2 := q6d.cell 2; have c3 := q6d.cell 3; simp only [List.set_cons_succ, List.set_cons_zero, List.getElem?_cons_zero, List.getElem?_cons_succ] at c0 c1 c2 c3)
          (have f0 := q6d.frozen 0 (by simp); have f1 := q6d.frozen 1 (by simp); have f2 := q6d.frozen 2 (by simp); have f3 := q6d.frozen 3 (by simp))
          clear q6d
          (refine wp_region_held_drew (S := (fun W => Below w.heap.size w W)) (by kernel_rfl) ?_ (fun hHeld => ?_); ((try dsimp only); exact bdr hb3))
          (refine held_take (i := 0) (v := ?_) rfl (by kernel_rfl) (by kernel_rfl) (by kernel_rfl) (fun _ _ _ h => h) (by kernel_rfl) (by assumption) ?_ ?_; rotate_left; (focus (intro w hSw; (try unfold SC at hSw); (try unfold MC at hSw); (try dsimp only at hSw); go_simp; (try with_reducible rfl); done)); (simp only [Act.put, List.setIfInBounds_toArray, List.set_cons_zero, List.set_cons_succ]); refine held_take (i := 1) (v := ?_) rfl (by kernel_rfl) (by kernel_rfl) (by kernel_rfl) (fun _ _ _ h => h) (by kernel_rfl) (by assumption) ?_ ?_; rotate_left; (focus (intro w hSw; (try unfold SC at hSw); (try unfold MC at hSw); (try dsimp only at hSw); go_simp; (try with_reducible rfl); done)); (simp only [Act.put, List.setIfInBounds_toArray, List.set_cons_zero, List.set_cons_succ]); refine held_take (i := 2) (v := ?_) rfl (by kernel_rfl) (by kernel_rfl) (by kernel_rfl) (fun _ _ _ h => h) (by kernel_rfl) (by assumption) ?_ ?_; rotate_left; (focus (intro w hSw; (try unfold SC at hSw); (try unfold MC at hSw); (try dsimp only at hSw); go_simp; (try with_reducible rfl); done)); (simp only [Act.put, List.setIfInBounds_toArray, List.set_cons_zero, List.set_cons_succ]); refine held_take (i := 3) (v := ?_) rfl (by kernel_rfl) (by kernel_rfl) (by kernel_rfl) (fun _ _ _ h => h) (by kernel_rfl) (by assumption) ?_ ?_; rotate_left; (focus (intro w hSw; (try unfold SC at hSw); (try unfold MC at hSw); (try dsimp only at hSw); go_simp; (try with_reducible rfl); done)); (simp only [Act.put, List.setIfInBounds_toArray, List.set_cons_zero, List.set_cons_succ]); refine held_take (i := 4) (v := ?_) rfl (by kernel_rfl) (by kernel_rfl) (by kernel_rfl) (fun _ _ _ h => h) (by kernel_rfl) (by assumption) ?_ ?_; rotate_left; (focus (intro w hSw; (try unfold SC at hSw); (try unfold MC at hSw); (try dsimp only at hSw); go_simp; (try with_reducible rfl); done)); (simp only [Act.put, List.setIfInBounds_toArray, List.set_cons_zero, List.set_cons_succ]); refine held_take (i := 5) (v := ?_) rfl (by kernel_rfl) (by kernel_rfl) (by kernel_rfl) (fun _ _ _ h => h) (by kernel_rfl) (by assumption) ?_ ?_; rotate_left; (focus (intro w hSw; (try unfold SC at hSw); (try unfold MC at hSw); (try dsimp only at hSw); go_simp; (try with_reducible rfl); done)); (simp only [Act.put, List.setIfInBounds_toArray, List.set_cons_zero, List.set_cons_succ]))
          (refine wpAnyH_ready (P := Tryd.prog) (md := .any) (rs := [6]) (by kernel_rfl) (by simp) ?_; refine held_cons rfl (by kernel_rfl) (fun K hK => ?_) AllReadyH.nil; (go_simp; refine hK.out _ _ ?_ (fun hHeld => ?_); ((try dsimp only); exact bst (bdr hb3) (p := ⟨g6, 1, none⟩) hgg _); clear hK K; (try clear hHeld0); (try rename_i hHeld0)))
          (refine held_take (i := 7) (v := ?_) rfl (by kernel_rfl) (by kernel_rfl) (by kernel_rfl) (fun _ _ _ h => h) (by kernel_rfl) (by assumption) ?_ ?_; rotate_left; (focus (intro w hSw; (try unfold SC at hSw); (try unfold MC at hSw); (try dsimp only at hSw); go_simp; (try with_reducible rfl); done)); (simp only [Act.put, List.setIfInBounds_toArray, List.set_cons_zero, List.set_cons_succ]))
          (refine wpAnyH_done (by kernel_rfl) ?_ _)
          clear c0 c1 c2 c3 f0 f1 f2 f3
          replace q6 := (q6.set 1 (.int .i64 n)).drew
          replace q0 := (q0.other (p := ⟨g6, 1, none⟩) (hne 1) (.int .i64 n)).drew
          replace hb3 := bdr (bst hb3 (p := ⟨g6, 1, none⟩) hgg (.int .i64 n))
          generalize (W4.setCell ⟨g6, 1, none⟩ (.int .i64 n)).drew = W5 at *
          simp only [List.set_cons_zero, List.set_cons_succ] at q6
          generalize hV : U.extract k U.size = V at *
          replace hV := Lib.hid hV
          have hVs : V.size ≤ 1000000 := by omega
          have hB := fun W => vary_of V (t.drop (5 + k)) v1 4096 W hVs (by omega)
          have hVl : (t.drop (5 + k)).length = V.size := by rw [← v1]; exact Array.length_toList
          replace v2 := Lib.hid v2
          cases hj : Vary.int (t.drop (5 + k)) 4096 with
          | bad e =>
            have hE2 := Lib.hid (hb2'.out e n k hi hj)
            rw [hj] at hB
            replace hB := Lib.hid hB
            have hvb : intVal (.bad e) = .tuple #[.int .i64 0, .int .i64 0, .iface 58 (.int .i64 e)] := rfl
            go_wp2_with fail
            rw [rounds_succ]
            go_wp2_with fail
            refine (hB.out _).mono ?_
            rintro _ w2 ⟨rfl, rfl⟩
            (have c0 := q0.cell 0; have c1 := q0.cell 1; have c2 := q0.cell 2; have c3 := q0.cell 3; simp only [List.set_cons_succ, List.set_cons_zero, List.getElem?_cons_zero, List.getElem?_cons_succ] at c0 c1 c2 c3)
            (have f0 := q0.frozen 0 (by simp); have f1 := q0.frozen 1 (by simp); have f2 := q0.frozen 2 (by simp); have f3 := q0.frozen 3 (by simp))
            go_wp2
            have hbf : Below w.heap.size w ((((W5.setCell ⟨w.heap.size, 0, none⟩ (.int .u32 0)).setCell ⟨w.heap.size, 1, none⟩ (.int .i64 0)).setCell ⟨w.heap.size, 2, none⟩ (.int .i64 0)).setCell ⟨w.heap.size, 3, none⟩ (.string ⟨#[]⟩)) := bst (bst (bst (bst hb3 (Nat.le_refl _) _) (Nat.le_refl _) _) (Nat.le_refl _) _) (Nat.le_refl _) _
            have q1 := (((q0.set 0 (.int .u32 0)).set 1 (.int .i64 0)).set 2 (.int .i64 0)).set 3 (.string ⟨#[]⟩)
            generalize ((((W5.setCell ⟨w.heap.size, 0, none⟩ (.int .u32 0)).setCell ⟨w.heap.size, 1, none⟩ (.int .i64 0)).setCell ⟨w.heap.size, 2, none⟩ (.int .i64 0)).setCell ⟨w.heap.size, 3, none⟩ (.string ⟨#[]⟩)) = W9 at *
            (have d0 := q1.cell 0; have d1 := q1.cell 1; have d2 := q1.cell 2; have d3 := q1.cell 3; simp only [List.set_cons_succ, List.set_cons_zero, List.getElem?_cons_zero, List.getElem?_cons_succ] at d0 d1 d2 d3)
            refine bodyPost_ret (v := .tuple #[.agg #[.int .u32 0, .int .i64 0, .int .i64 0, .string ⟨#[]⟩], .iface 58 (.int .i64 e)]) (by simp [results, Tryd.results41, go_sem, d0, d1, d2, d3]) rfl ⟨by rw [hE2.out]; rfl, hbf⟩
          | ok m j =>
            obtain ⟨j1, j2, j3⟩ := Vary.get_ok _ _ _ (Vary.int_inv' hj)
            rw [hVl] at j2
            have hjI : (j : Int) ≤ (V.size : Int) := by omega
            rw [hj] at hB
            replace hB := Lib.hid hB
            have hvm : intVal (.ok m j) = .tuple #[.int .i64 m, .int .i64 j, .nilIface] := rfl
            obtain ⟨x1, x2⟩ := drop_str V _ v1 j
            rw [List.drop_drop] at x1
            have hfin := Lib.hid (hbe.out n k m j hi hj)
            replace hVl := Lib.hid hVl
            clear j3
            go_wp2_with fail
            rw [rounds_succ]
            go_wp2_with fail
            refine (hB.out _).mono ?_
            rintro _ w2 ⟨rfl, rfl⟩
            go_wp2_with fail
            have q6d := q6.drew
            (have c0 := q6d.cell 0; have c1 := q6d.cell 1; have c2 := q6d.cell 2; have c3 := q6d.cell 3; simp only [List.set_cons_succ, List.set_cons_zero, List.getElem?_cons_zero, List.getElem?_cons_succ] at c0 c1 c2 c3)
            (have f0 := q6d.frozen 0 (by simp); have f1 := q6d.frozen 1 (by simp); have f2 := q6d.frozen 2 (by simp); have f3 := q6d.frozen 3 (by simp))
            clear q6d
            (refine wp_region_held_drew (S := (fun W => Below w.heap.size w W)) (by kernel_rfl) ?_ (fun hHeld => ?_); ((try dsimp only); exact bdr hb3))
            (refine held_take (i := 0) (v := ?_) rfl (by kernel_rfl) (by kernel_rfl) (by kernel_rfl) (fun _ _ _ h => h) (by kernel_rfl) (by assumption) ?_ ?_; rotate_left; (focus (intro w hSw; (try unfold SC at hSw); (try unfold MC at hSw); (try dsimp only at hSw); go_simp; (try with_reducible rfl); done)); (simp only [Act.put, List.setIfInBounds_toArray, List.set_cons_zero, List.set_cons_succ]); refine held_take (i := 1) (v := ?_) rfl (by kernel_rfl) (by kernel_rfl) (by kernel_rfl) (fun _ _ _ h => h) (by kernel_rfl) (by assumption) ?_ ?_; rotate_left; (focus (intro w hSw; (try unfold SC at hSw); (try unfold MC at hSw); (try dsimp only at hSw); go_simp; (try with_reducible rfl); done)); (simp only [Act.put, List.setIfInBounds_toArray, List.set_cons_zero, List.set_cons_succ]); refine held_take (i := 2) (v := ?_) rfl (by kernel_rfl) (by kernel_rfl) (by kernel_rfl) (fun _ _ _ h => h) (by kernel_rfl) (by assumption) ?_ ?_; rotate_left; (focus (intro w hSw; (try unfold SC at hSw); (try unfold MC at hSw); (try dsimp only at hSw); go_simp; (try with_reducible rfl); done)); (simp only [Act.put, List.setIfInBounds_toArray, List.set_cons_zero, List.set_cons_succ]); refine held_take (i := 3) (v := ?_) rfl (by kernel_rfl) (by kernel_rfl) (by kernel_rfl) (fun _ _ _ h => h) (by kernel_rfl) (by assumption) ?_ ?_; rotate_left; (focus (intro w hSw; (try unfold SC at hSw); (try unfold MC at hSw); (try dsimp only at hSw); go_simp; (try with_reducible rfl); done)); (simp only [Act.put, List.setIfInBounds_toArray, List.set_cons_zero, List.set_cons_succ]); refine held_take (i := 4) (v := ?_) rfl (by kernel_rfl) (by kernel_rfl) (by kernel_rfl) (fun _ _ _ h => h) (by kernel_rfl) (by assumption) ?_ ?_; rotate_left; (focus (intro w hSw; (try unfold SC at hSw); (try unfold MC at hSw); (try dsimp only at hSw); go_simp; (try with_reducible rfl); done)); (simp only [Act.put, List.setIfInBounds_toArray, List.set_cons_zero, List.set_cons_succ]); refine held_take (i := 5) (v := ?_) rfl (by kernel_rfl) (by kernel_rfl) (by kernel_rfl) (fun _ _ _ h => h) (by kernel_rfl) (by assumption) ?_ ?_; rotate_left; (focus (intro w hSw; (try unfold SC at hSw); (try unfold MC at hSw); (try dsimp only at hSw); go_simp; (try with_reducible rfl); done)); (simp only [Act.put, List.setIfInBounds_toArray, List.set_cons_zero, List.set_cons_succ]))
            (refine wpAnyH_ready (P := Tryd.prog) (md := .any) (rs := [6]) (by kernel_rfl) (by simp) ?_; refine held_cons rfl (by kernel_rfl) (fun K hK => ?_) AllReadyH.nil; (go_simp; refine hK.out _ _ ?_ (fun hHeld => ?_); ((try dsimp only); exact bst (bdr hb3) (p := ⟨g6, 2, none⟩) hgg _); clear hK K; (try clear hHeld0); (try rename_i hHeld0)))
            (refine held_take (i := 7) (v := ?_) rfl (by kernel_rfl) (by kernel_rfl) (by kernel_rfl) (fun _ _ _ h => h) (by kernel_rfl) (by assumption) ?_ ?_; rotate_left; (focus (intro w hSw; (try unfold SC at hSw); (try unfold MC at hSw); (try dsimp only at hSw); go_simp; (try with_reducible rfl); done)); (simp only [Act.put, List.setIfInBounds_toArray, List.set_cons_zero, List.set_cons_succ]))
            (refine wpAnyH_done (by kernel_rfl) ?_ _)
            clear c0 c1 c2 c3 f0 f1 f2 f3
            replace q6 := (q6.set 2 (.int .i64 m)).drew
            replace q0 := (q0.other (p := ⟨g6, 2, none⟩) (hne 2) (.int .i64 m)).drew
            replace hb3 := bdr (bst hb3 (p := ⟨g6, 2, none⟩) hgg (.int .i64 m))
            generalize (W5.setCell ⟨g6, 2, none⟩ (.int .i64 m)).drew = W6 at *
            simp only [List.set_cons_zero, List.set_cons_succ] at q6
            generalize hD : V.extract j V.size = D at *
            have hDD : (⟨(t.drop (5 + k + j)).toArray⟩ : ByteArray) = D := by rw [← x1]
            replace hD := Lib.hid hD
            replace x2 := Lib.hid x2
            go_wp2_with fail
            rw [rounds_succ]
            (have c0 := q6.cell 0; have c1 := q6.cell 1; have c2 := q6.cell 2; have c3 := q6.cell 3; simp only [List.set_cons_succ, List.set_cons_zero, List.getElem?_cons_zero, List.getElem?_cons_succ] at c0 c1 c2 c3)
            (have f0 := q6.frozen 0 (by simp); have f1 := q6.frozen 1 (by simp); have f2 := q6.frozen 2 (by simp); have f3 := q6.frozen 3 (by simp))
            go_wp2_with fail
            have hR := fun W => chunk_right nm n m D W
            have hfin2 := hfin.out
            rw [← hnm2.out, hDD] at hfin2
            replace q6 := q6.set 3 (.string D)
            replace q0 := q0.other (p := ⟨g6, 3, none⟩) (hne 3) (.string D)
            replace hb3 := bst hb3 (p := ⟨g6, 3, none⟩) hgg (.string D)
            generalize W6.setCell ⟨g6, 3, none⟩ (.string D) = W7 at *
            simp only [List.set_cons_zero, List.set_cons_succ] at q6
            clear c0 c1 c2 c3 f0 f1 f2 f3
            refine (hR _).mono ?_
            rintro _ W8 ⟨rfl, hb8⟩
            replace q6 := q6.below hb8
            replace q0 := q0.below hb8
            replace hb3 := bch hb3 hb8
            clear hb8 hR hfin
            by_cases hw : Chunk.wrong ⟨nm, n, m, D⟩ = 0
            · have he0 : errC (Chunk.wrong ⟨nm, n, m, D⟩) = .nilIface := by rw [hw]; rfl
              have hE2 := Lib.hid (show E = Chunk.Got.ok ⟨nm, n, m, D⟩ by rw [hfin2, if_neg (by simp [hw])])
              replace hw := Lib.hid hw
              clear hfin2
              rw [he0]
              clear he0
              (have b0 := q6.cell 0; have b1 := q6.cell 1; have b2 := q6.cell 2; have b3 := q6.cell 3; simp only [List.set_cons_succ, List.set_cons_zero, List.getElem?_cons_zero, List.getElem?_cons_succ] at b0 b1 b2 b3)
              (have c0 := q0.cell 0; have c1 := q0.cell 1; have c2 := q0.cell 2; have c3 := q0.cell 3; simp only [List.set_cons_succ, List.set_cons_zero, List.getElem?_cons_zero, List.getElem?_cons_succ] at c0 c1 c2 c3)
              (have f0 := q0.frozen 0 (by simp); have f1 := q0.frozen 1 (by simp); have f2 := q0.frozen 2 (by simp); have f3 := q0.frozen 3 (by simp))
              go_wp2
              have hbf : Below w.heap.size w ((((W8.setCell ⟨w.heap.size, 0, none⟩ (.int .u32 nm)).setCell ⟨w.heap.size, 1, none⟩ (.int .i64 n)).setCell ⟨w.heap.size, 2, none⟩ (.int .i64 m)).setCell ⟨w.heap.size, 3, none⟩ (.string D)) := bst (bst (bst (bst hb3 (Nat.le_refl _) _) (Nat.le_refl _) _) (Nat.le_refl _) _) (Nat.le_refl _) _
              have q1 := (((q0.set 0 (.int .u32 nm)).set 1 (.int .i64 n)).set 2 (.int .i64 m)).set 3 (.string D)
              generalize ((((W8.setCell ⟨w.heap.size, 0, none⟩ (.int .u32 nm)).setCell ⟨w.heap.size, 1, none⟩ (.int .i64 n)).setCell ⟨w.heap.size, 2, none⟩ (.int .i64 m)).setCell ⟨w.heap.size, 3, none⟩ (.string D)) = W9 at *
              (have d0 := q1.cell 0; have d1 := q1.cell 1; have d2 := q1.cell 2; have d3 := q1.cell 3; simp only [List.set_cons_succ, List.set_cons_zero, List.getElem?_cons_zero, List.getElem?_cons_succ] at d0 d1 d2 d3)
              refine bodyPost_ret (v := .tuple #[.agg #[.int .u32 nm, .int .i64 n, .int .i64 m, .string D], .nilIface]) (by simp [results, Tryd.results41, go_sem, d0, d1, d2, d3]) rfl ⟨by rw [hE2.out]; rfl, hbf⟩
            · have he0 : errC (Chunk.wrong ⟨nm, n, m, D⟩) = .iface 58 (.int .i64 (Chunk.wrong ⟨nm, n, m, D⟩)) := by unfold errC; rw [if_neg hw]
              have hE2 := Lib.hid (show E = Chunk.Got.bad (Chunk.wrong ⟨nm, n, m, D⟩) by rw [hfin2, if_pos hw])
              rw [he0]
              clear he0 hfin2 hw
              generalize Chunk.wrong ⟨nm, n, m, D⟩ = x at *
              (have c0 := q0.cell 0; have c1 := q0.cell 1; have c2 := q0.cell 2; have c3 := q0.cell 3; simp only [List.set_cons_succ, List.set_cons_zero, List.getElem?_cons_zero, List.getElem?_cons_succ] at c0 c1 c2 c3)
              (have f0 := q0.frozen 0 (by simp); have f1 := q0.frozen 1 (by simp); have f2 := q0.frozen 2 (by simp); have f3 := q0.frozen 3 (by simp))
              go_wp2
              have hbf : Below w.heap.size w ((((W8.setCell ⟨w.heap.size, 0, none⟩ (.int .u32 0)).setCell ⟨w.heap.size, 1, none⟩ (.int .i64 0)).setCell ⟨w.heap.size, 2, none⟩ (.int .i64 0)).setCell ⟨w.heap.size, 3, none⟩ (.string ⟨#[]⟩)) := bst (bst (bst (bst hb3 (Nat.le_refl _) _) (Nat.le_refl _) _) (Nat.le_refl _) _) (Nat.le_refl _) _
              have q1 := (((q0.set 0 (.int .u32 0)).set 1 (.int .i64 0)).set 2 (.int .i64 0)).set 3 (.string ⟨#[]⟩)
              generalize ((((W8.setCell ⟨w.heap.size, 0, none⟩ (.int .u32 0)).setCell ⟨w.heap.size, 1, none⟩ (.int .i64 0)).setCell ⟨w.heap.size, 2, none⟩ (.int .i64 0)).setCell ⟨w.heap.size, 3, none⟩ (.string ⟨#[]⟩)) = W9 at *
              (have d0 := q1.cell 0; have d1 := q1.cell 1; have d2 := q1.cell 2; have d3 := q1.cell 3; simp only [List.set_cons_succ, List.set_cons_zero, List.getElem?_cons_zero, List.getElem?_cons_succ] at d0 d1 d2 d3)
              refine bodyPost_ret (v := .tuple #[.agg #[.int .u32 0, .int .i64 0, .int .i64 0, .string ⟨#[]⟩], .iface 58 (.int .i64 x)]) (by simp [results, Tryd.results41, go_sem, d0, d1, d2, d3]) rfl ⟨by rw [hE2.out]; rfl, hbf⟩
    · have hE := Lib.hid (body_name h0)
      cases t with
      | nil =>
        have hem := empty_size (s := T) (by rw [hTs]; rfl)
        have hz : T.size = 0 := by rw [hTs]; rfl
        replace hTs := Lib.hid hTs
        clear htl h0
        go_enter Tryd.func41, Tryd.ntmps41
        go_wp2_with fail
        have q0 := row_at #[.int .u32 0, .int .i64 0, .int .i64 0, .string ⟨#[]⟩] 37 (rfl : w.heap.size = w.heap.size)
        have qb : Below w.heap.size w (w.alloc (Obj.cells #[.int .u32 0, .int .i64 0, .int .i64 0, .string ⟨#[]⟩] 37)) := by (repeat (first | exact Below.refl _ _ | assumption | refine bal ?_ _ | refine bdr ?_ | refine bdn ?_ _ | refine bst ?_ (by first | assumption | exact Nat.le_refl _ | omega) _ | refine bch ?_ (by assumption)))
        generalize w.alloc (Obj.cells #[.int .u32 0, .int .i64 0, .int .i64 0, .string ⟨#[]⟩] 37) = w1 at *
        refine (hO.out _).mono ?_
        rintro _ W2 ⟨rfl, hb2⟩
        replace q0 := q0.below hb2
        have hb3 : Below w.heap.size w W2 := bch qb hb2
        (have c0 := q0.cell 0; have c1 := q0.cell 1; have c2 := q0.cell 2; have c3 := q0.cell 3; simp only [List.set_cons_succ, List.set_cons_zero, List.getElem?_cons_zero, List.getElem?_cons_succ] at c0 c1 c2 c3)
        (have f0 := q0.frozen 0 (by simp); have f1 := q0.frozen 1 (by simp); have f2 := q0.frozen 2 (by simp); have f3 := q0.frozen 3 (by simp))
        clear qb hb2
        go_wp2
        have hbf : Below w.heap.size w ((((W2.setCell ⟨w.heap.size, 0, none⟩ (.int .u32 0)).setCell ⟨w.heap.size, 1, none⟩ (.int .i64 0)).setCell ⟨w.heap.size, 2, none⟩ (.int .i64 0)).setCell ⟨w.heap.size, 3, none⟩ (.string ⟨#[]⟩)) := bst (bst (bst (bst hb3 (Nat.le_refl _) _) (Nat.le_refl _) _) (Nat.le_refl _) _) (Nat.le_refl _) _
        have q1 := (((q0.set 0 (.int .u32 0)).set 1 (.int .i64 0)).set 2 (.int .i64 0)).set 3 (.string ⟨#[]⟩)
        generalize ((((W2.setCell ⟨w.heap.size, 0, none⟩ (.int .u32 0)).setCell ⟨w.heap.size, 1, none⟩ (.int .i64 0)).setCell ⟨w.heap.size, 2, none⟩ (.int .i64 0)).setCell ⟨w.heap.size, 3, none⟩ (.string ⟨#[]⟩)) = W9 at *
        (have d0 := q1.cell 0; have d1 := q1.cell 1; have d2 := q1.cell 2; have d3 := q1.cell 3; simp only [List.set_cons_succ, List.set_cons_zero, List.getElem?_cons_zero, List.getElem?_cons_succ] at d0 d1 d2 d3)
        refine bodyPost_ret (v := .tuple #[.agg #[.int .u32 0, .int .i64 0, .int .i64 0, .string ⟨#[]⟩], .iface 58 (.int .i64 5)]) (by simp [results, Tryd.results41, go_sem, d0, d1, d2, d3]) rfl ⟨by rw [hE.out]; rfl, hbf⟩
      | cons x r =>
        have hne := nonempty_size (s := T) (by rw [hTs]; simp)
        have h1s : 0 < T.size := by rw [hTs]; simp
        have hi0 : T[0]'h1s = x := by
          have e1 : T[0]'h1s = T.data.toList[0]'(by rw [hTl.out]; simp) := by simp [ByteArray.getElem_eq_getElem_data]
          rw [e1]
          simp only [hTl.out]
          rfl
        have hx : ((x.toNat : Int) == 67) = false := by
          have hx2 : x ≠ 67 := fun e => h0 (by rw [e]; rfl)
          have hx3 : x.toNat ≠ 67 := fun e => hx2 (UInt8.toNat_inj.1 e)
          simp; omega
        have hx' : ((x.toNat : Int) != 67) = true := by simp [bne, hx]
        replace hTs := Lib.hid hTs
        clear htl h0
        go_enter Tryd.func41, Tryd.ntmps41
        go_wp2_with fail
        have q0 := row_at #[.int .u32 0, .int .i64 0, .int .i64 0, .string ⟨#[]⟩] 37 (rfl : w.heap.size = w.heap.size)
        have qb : Below w.heap.size w (w.alloc (Obj.cells #[.int .u32 0, .int .i64 0, .int .i64 0, .string ⟨#[]⟩] 37)) := by (repeat (first | exact Below.refl _ _ | assumption | refine bal ?_ _ | refine bdr ?_ | refine bdn ?_ _ | refine bst ?_ (by first | assumption | exact Nat.le_refl _ | omega) _ | refine bch ?_ (by assumption)))
        generalize w.alloc (Obj.cells #[.int .u32 0, .int .i64 0, .int .i64 0, .string ⟨#[]⟩] 37) = w1 at *
        refine (hO.out _).mono ?_
        rintro _ W2 ⟨rfl, hb2⟩
        replace q0 := q0.below hb2
        have hb3 : Below w.heap.size w W2 := bch qb hb2
        (have c0 := q0.cell 0; have c1 := q0.cell 1; have c2 := q0.cell 2; have c3 := q0.cell 3; simp only [List.set_cons_succ, List.set_cons_zero, List.getElem?_cons_zero, List.getElem?_cons_succ] at c0 c1 c2 c3)
        (have f0 := q0.frozen 0 (by simp); have f1 := q0.frozen 1 (by simp); have f2 := q0.frozen 2 (by simp); have f3 := q0.frozen 3 (by simp))
        clear qb hb2
        go_wp2
        have hbf : Below w.heap.size w ((((W2.setCell ⟨w.heap.size, 0, none⟩ (.int .u32 0)).setCell ⟨w.heap.size, 1, none⟩ (.int .i64 0)).setCell ⟨w.heap.size, 2, none⟩ (.int .i64 0)).setCell ⟨w.heap.size, 3, none⟩ (.string ⟨#[]⟩)) := bst (bst (bst (bst hb3 (Nat.le_refl _) _) (Nat.le_refl _) _) (Nat.le_refl _) _) (Nat.le_refl _) _
        have q1 := (((q0.set 0 (.int .u32 0)).set 1 (.int .i64 0)).set 2 (.int .i64 0)).set 3 (.string ⟨#[]⟩)
        generalize ((((W2.setCell ⟨w.heap.size, 0, none⟩ (.int .u32 0)).setCell ⟨w.heap.size, 1, none⟩ (.int .i64 0)).setCell ⟨w.heap.size, 2, none⟩ (.int .i64 0)).setCell ⟨w.heap.size, 3, none⟩ (.string ⟨#[]⟩)) = W9 at *
        (have d0 := q1.cell 0; have d1 := q1.cell 1; have d2 := q1.cell 2; have d3 := q1.cell 3; simp only [List.set_cons_succ, List.set_cons_zero, List.getElem?_cons_zero, List.getElem?_cons_succ] at d0 d1 d2 d3)
        refine bodyPost_ret (v := .tuple #[.agg #[.int .u32 0, .int .i64 0, .int .i64 0, .string ⟨#[]⟩], .iface 58 (.int .i64 5)]) (by simp [results, Tryd.results41, go_sem, d0, d1, d2, d3]) rfl ⟨by rw [hE.out]; rfl, hbf⟩
end Go.Proofs.YtdpdnkjpjoccmaaDoor
