/- Walks of crc.Join and what it calls. -/
import Derived.Test.YtmjgminajkhfdaaWBurst
import Derived.Test.YtmjgminajkhfdaaWCrc1
import Derived.Test.YtmjgminajkhfdaaPlainMat
import Derived.Laws.CopyOwn
import Derived.Deep.RegionLaw
import Derived.Deep.MidRow
import Derived.Deep.RegionHeld3
namespace Go.Proofs.Ytmjgminajkhfdaa
open Go.RowKit
set_option linter.unusedVariables false
/-- A matrix as cells. -/
def matCells (m : List Nat) : List Value := m.map fun (x : Nat) => Value.int .u32 (x : Int)
theorem matCells_len (m : List Nat) : (matCells m).length = m.length := by simp [matCells]
theorem matCells_get (m : List Nat) (i : Nat) (h : i < m.length) : (matCells m)[i]? = some (.int .u32 ((m.getD i 0 : Nat) : Int)) := by
  simp [matCells, List.getElem?_eq_getElem h, List.getD]
theorem matCells_one (m : List Nat) : (matCells m).toArray.all (·.oneCell') = true := by
  rw [List.all_toArray, List.all_eq_true]
  intro v hv
  simp only [matCells, List.mem_map] at hv
  obtain ⟨x, _, rfl⟩ := hv
  rfl
/-- A new block that nobody has marked. -/
def ARow (w : World) (g : Nat) (t : TypeId) (cs : List Value) : Prop := w.heap[g]? = some (.cells cs.toArray t (0, 0))
theorem ARow.row {w : World} {g : Nat} {t : TypeId} {cs : List Value} (h : ARow w g t cs) : Row w g t cs := ⟨(0, 0), h, .inl rfl⟩
theorem ARow.lt {w : World} {g : Nat} {t : TypeId} {cs : List Value} (h : ARow w g t cs) : g < w.heap.size := h.row.lt
theorem ARow.below {w w' : World} {g : Nat} {t : TypeId} {cs : List Value} (h : ARow w g t cs) (hb : Below w.heap.size w w') : ARow w' g t cs := (hb.block g h.lt).trans h
theorem ARow.set {w : World} {g : Nat} {t : TypeId} {cs : List Value} (h : ARow w g t cs) (j : Nat) (v : Value) : ARow (w.setCell ⟨g, j, none⟩ v) g t (cs.set j v) := by
  unfold ARow at *
  simp only [World.setCell, Array.getElem?_modify, if_pos, h, Option.map_some]
  simp
theorem ARow.other {w : World} {g : Nat} {t : TypeId} {cs : List Value} (h : ARow w g t cs) {p : Addr} (hp : p.block ≠ g) (v : Value) : ARow (w.setCell p v) g t cs :=
  (Below.heap_setCell w p v g (fun he => hp he.symm)).trans h
theorem ARow.alloc {w : World} {g : Nat} {t : TypeId} {cs : List Value} (h : ARow w g t cs) (o : Obj) : ARow (w.alloc o) g t cs := (Below.heap_alloc w o g h.lt).trans h
theorem arow_new (w : World) (cs : Array Value) (t : TypeId) : ARow (w.alloc (.cells cs t)) w.heap.size t cs.toList := by
  unfold ARow; rw [heap_alloc_new]
def zeros32 : List Value := List.replicate 32 (.int .u32 0)
set_option maxHeartbeats 1000000 in
theorem crc_times (m : List Nat) (c n : Nat) (w : World) (hm : Crc.IsMat m c) (hn : n < 4294967296) :
    Calls Try.prog 30 #[.agg (matCells m).toArray, .int .u32 n] w fun e w' => e = .returned (.int .u32 (Crc.times m n)) ∧ Below w.heap.size w w' := by
  go_enter Try.func30, Try.ntmps30
  go_wp2
  have hrow : Row (w.alloc (Obj.cells (matCells m).toArray 57)) w.heap.size 57 (matCells m) := row_alloc w (matCells m).toArray 57
  have hbel : Below w.heap.size w (w.alloc (Obj.cells (matCells m).toArray 57)) := by (repeat (first | exact Below.refl _ _ | assumption | refine bal ?_ _ | refine bdr ?_ | refine bdn ?_ _ | refine bst ?_ (by first | assumption | exact Nat.le_refl _ | omega) _ | refine bch ?_ (by assumption)))
  generalize w.alloc (Obj.cells (matCells m).toArray 57) = w1 at *
  go_loop [5, 7] (fun a i => ∃ k : Nat, k ≤ 32 ∧ i = .int .i64 k ∧ a = .int .u32 (Crc.timesTo m n k)) (fun _ i => 32 - (intOf i).toNat)
  case atStart => exact ⟨0, by omega, rfl, rfl⟩
  case round =>
    obtain ⟨k, hk, rfl, rfl⟩ := hrel
    have hx := Crc.timesTo_lt hm n k hk
    by_cases hlt : k < 32
    · have hbit := u32_bit n k hn
      have hml := Crc.mat_lt hm k hlt
      have hc : w1.cell? ⟨w.heap.size, k, none⟩ = some (.int .u32 ((m.getD k 0 : Nat) : Int)) := by rw [hrow.cell]; exact matCells_get m k (by rw [hm.len]; exact hlt)
      by_cases hb : n / 2 ^ k % 2 = 1
      · have hand : bits .and .u32 ((n : Int) / 2 ^ k) 1 = 1 := by rw [hbit, hb]; rfl
        have hs : Hid (Crc.timesTo m n (k + 1) = Crc.timesTo m n k ^^^ m.getD k 0) := Lib.hid (by simp only [Crc.timesTo]; rw [if_pos hb])
        have hxor := u32_xor_nat (Crc.timesTo m n k) (m.getD k 0) hx hml
        clear hbit
        generalize m.getD k 0 = y at *
        generalize Crc.timesTo m n k = x at *
        go_wp2
        go_round
        case rel => exact ⟨k + 1, by omega, by go_num, by rw [hs.out]⟩
        case measure => simp [intOf]; omega
      · have hand : bits .and .u32 ((n : Int) / 2 ^ k) 1 = 0 := by rw [hbit, show n / 2 ^ k % 2 = 0 by omega]; rfl
        have hs : Hid (Crc.timesTo m n (k + 1) = Crc.timesTo m n k) := Lib.hid (by simp only [Crc.timesTo]; rw [if_neg hb])
        clear hbit hc
        go_wp2
        go_round
        case rel => exact ⟨k + 1, by omega, by go_num, by rw [hs.out]⟩
        case measure => simp [intOf]; omega
    · obtain rfl : k = 32 := by omega
      go_wp2
      go_ret
      exact ⟨rfl, hbel⟩
theorem bit_pow (k : Nat) (hk : k < 32) : (2 : Int) ^ k % 4294967296 = ((2 ^ k : Nat) : Int) := by
  have e1 : ((2 ^ k : Nat) : Int) = (2 : Int) ^ k := by rw [Int.natCast_pow]; rfl
  rw [← e1]
  exact Int.emod_eq_of_lt (Int.natCast_nonneg _) (Int.ofNat_lt.2 (Crc.pow_lt32 hk))
theorem mat_and (x : Nat) (h : x < 4294967296) : bits .and .u32 (x : Int) 255 = ((x % 256 : Nat) : Int) := by
  have h1 := u32_and_nat x 255 h (by omega)
  rw [show (255 : Nat) = 2 ^ 8 - 1 from rfl, Nat.and_two_pow_sub_one_eq_mod] at h1
  exact h1
theorem mat_out (x : Nat) (h : x < 4294967296) : bits .xor .u32 ((Crc.one (x % 256) : Nat) : Int) ((x : Int) / 256) = ((Crc.byte x 0 : Nat) : Int) := by
  have h1 := u32_xor_nat (Crc.one (x % 256)) (x / 256) (Crc.one_lt (by omega)) (by omega)
  have e : Crc.byte x 0 = Crc.one (x % 256) ^^^ (x / 256) := by
    unfold Crc.byte; rw [show (0 : UInt8).toNat = 0 from rfl, Nat.xor_zero]
  rw [e, ← h1]; rfl
theorem mat_get (k : Nat) (hk : k < 32) (h : k < (matCells Crc.mat).length) : (matCells Crc.mat)[k] = .int .u32 ((Crc.byte (2 ^ k) 0 : Nat) : Int) := by
  unfold matCells Crc.mat
  simp
set_option maxHeartbeats 1000000 in
set_option maxRecDepth 20000 in
theorem crc_mat (w : World) :
    Calls Try.prog 29 #[] w fun e w' => e = .returned (.agg (matCells Crc.mat).toArray) ∧ Below w.heap.size w w' := by
  have hml : (matCells Crc.mat).length = 32 := by rw [matCells_len, Crc.mat_is.len]
  have hsz : (Try.prog.info? 57).map (·.size) = some (matCells Crc.mat).toArray.size := by
    have : (Try.prog.info? 57).map (·.size) = some 32 := by kernel_rfl
    rw [this, List.size_toArray, hml]
  have hold : Hid (zeros32.toArray.size = (matCells Crc.mat).toArray.size) := Lib.hid (by rw [List.size_toArray, List.size_toArray, hml]; rfl)
  go_enter Try.func29, Try.ntmps29
  go_wp2
  have hA : ARow ((w.alloc (Obj.cells zeros32.toArray 57)).alloc (Obj.cells zeros32.toArray 57)) w.heap.size 57 zeros32 := (arow_new w zeros32.toArray _).alloc _
  have hB : ARow ((w.alloc (Obj.cells zeros32.toArray 57)).alloc (Obj.cells zeros32.toArray 57)) (w.heap.size + 1) 57 (part (matCells Crc.mat) (.int .u32 0) 0) := by
    rw [part_zero, hml]
    have := arow_new (w.alloc (Obj.cells zeros32.toArray 57)) zeros32.toArray 57
    have e : (w.alloc (Obj.cells zeros32.toArray 57)).heap.size = w.heap.size + 1 := by simp
    rw [e] at this
    exact this
  have hbel : Below w.heap.size w ((w.alloc (Obj.cells zeros32.toArray 57)).alloc (Obj.cells zeros32.toArray 57)) := by (repeat (first | exact Below.refl _ _ | assumption | refine bal ?_ _ | refine bdr ?_ | refine bdn ?_ _ | refine bst ?_ (by first | assumption | exact Nat.le_refl _ | omega) _ | refine bch ?_ (by assumption)))
  change Code.wp _ _ _ _ ((w.alloc (Obj.cells zeros32.toArray 57)).alloc (Obj.cells zeros32.toArray 57))
  generalize (w.alloc (Obj.cells zeros32.toArray 57)).alloc (Obj.cells zeros32.toArray 57) = w1 at *
  go_loopw [4] (fun i wr => ∃ k : Nat, k ≤ 32 ∧ i = .int .i64 k ∧ ARow wr w.heap.size 57 zeros32 ∧ ARow wr (w.heap.size + 1) 57 (part (matCells Crc.mat) (.int .u32 0) k) ∧ Below w.heap.size w wr) (fun i _ => 32 - (intOf i).toNat)
  case atStart => exact ⟨0, by omega, rfl, hA, hB, hbel⟩
  case round =>
    clear hA hB hbel
    obtain ⟨k, hk, rfl, hA, hB, hbel⟩ := hrel
    by_cases hlt : k < 32
    · have hp := bit_pow k hlt
      have hx := Crc.pow_lt32 hlt
      have hx256 : 2 ^ k % 256 < 4294967296 := Nat.lt_of_lt_of_le (Nat.mod_lt _ (by omega)) (by omega)
      have hpl := part_len (matCells Crc.mat) (.int .u32 0) k (by omega)
      have hc : wr.cell? ⟨w.heap.size + 1, k, none⟩ = some (.int .u32 0) := by rw [hB.row.cell]; exact part_next _ _ _ (by omega)
      have hf : wr.frozen? ⟨w.heap.size + 1, k, none⟩ = false := hB.row.frozen k (by omega)
      have hst : Hid (ARow (wr.setCell ⟨w.heap.size + 1, k, none⟩ (.int .u32 ((Crc.byte (2 ^ k) 0 : Nat) : Int))) (w.heap.size + 1) 57 (part (matCells Crc.mat) (.int .u32 0) (k + 1))) := Lib.hid (by
        rw [← part_set _ _ k (by omega), mat_get k hlt]; exact hB.set k _)
      have hsA : Hid (ARow (wr.setCell ⟨w.heap.size + 1, k, none⟩ (.int .u32 ((Crc.byte (2 ^ k) 0 : Nat) : Int))) w.heap.size 57 zeros32) := Lib.hid (hA.other (by simp) _)
      clear hA hB
      generalize 2 ^ k = x at *
      have ha := mat_and x hx
      have ho := mat_out x hx
      go_wp2_with (go_at_call 25; go_must (refine (crc_one _ _ hx256).mono ?_); rintro e w' ⟨rfl, rfl⟩)
      go_roundw
      case rel => exact ⟨k + 1, by omega, by go_num, hsA.out, hst.out, hbel.setCell (by simp) _⟩
      case measure => simp [intOf]; omega
    · obtain rfl : k = 32 := by omega
      have hall : part (matCells Crc.mat) (.int .u32 0) 32 = matCells Crc.mat := by
        have := part_all (matCells Crc.mat) (.int .u32 0)
        rwa [hml] at this
      rw [hall] at hB
      clear hall
      unfold ARow at hA hB
      go_wp2_with (first
        | (refine wpList_load_row rfl 57 _ rfl (w.heap.size + 1) rfl 57 _ (0, 0) _ hB Try.underlying57 rfl hsz ?_)
        | (refine wpList_store_row rfl 57 _ _ rfl w.heap.size (matCells Crc.mat).toArray rfl rfl 57 zeros32.toArray hA hsz hold.out (matCells_one _) ?_))
      have hg := setRow_heap wr w.heap.size zeros32.toArray (matCells Crc.mat).toArray 57 (0, 0) hA
      refine bodyPost_ret (v := .agg (matCells Crc.mat).toArray) ?_ rfl ⟨rfl, below_setRow hbel (Nat.le_refl _) _⟩
      exact results_cell_row Try.results29 _ _ w.heap.size 57 _ (0, 0) _ rfl hg Try.underlying57 rfl hsz
theorem i64_and1 (n : Int) : bits .and .i64 n 1 = n % 2 := by
  have h1 : (BitVec.ofInt 64 1).toNat = 2 ^ 1 - 1 := by decide
  have key : (BitVec.ofInt 64 n &&& BitVec.ofInt 64 1).toNat = (n % ((2 ^ 64 : Nat) : Int)).toNat % 2 ^ 1 := by
    rw [BitVec.toNat_and, BitVec.toNat_ofInt, h1, Nat.and_two_pow_sub_one_eq_mod]
  show IntKind.i64.wrap ((BitVec.ofInt 64 n &&& BitVec.ofInt 64 1).toNat : Nat) = n % 2
  rw [key, IntKind.wrap_i64]
  omega
theorem ARow.range {w : World} {g : Nat} {t : TypeId} {cs : List Value} (h : ARow w g t cs) : w.rangeAt g 0 cs := fun j v hv => by
  rw [Nat.zero_add, h.row.cell, hv]
theorem ARow.setRow {w : World} {g : Nat} {t : TypeId} {cs : List Value} (h : ARow w g t cs) (ds : List Value) : ARow (w.setRow g ds.toArray) g t ds := setRow_heap w g _ _ t _ h
def cellAt (W : World) (g j : Nat) : Value := (W.cell? ⟨g, j, none⟩).getD undef
/-- What the drawn region keeps: the one row as it is, the other as it was or as it is to be. -/
theorem join_held {B : Nat} {w W : World} {g g8 j : Nat} {t : TypeId} {M C D : List Value} {y : Value} (h1 : ARow W g t M) (h2 : ARow W g8 t C ∨ ARow W g8 t D) (h3 : Below B w W) (hm : M[j]? = some y) (hC : j < C.length) (hD : j < D.length) :
    (ARow W g t M ∧ (ARow W g8 t C ∨ ARow W g8 t D) ∧ Below B w W) ∧ (W.rangeAt g 0 M ∧ W.cell? ⟨g, j, none⟩ = some y ∧ W.cell? ⟨g8, j, none⟩ = some (cellAt W g8 j) ∧ W.frozen? ⟨g8, j, none⟩ = false) := by
  refine ⟨⟨h1, h2, h3⟩, h1.range, by rw [h1.row.cell, hm], ?_, ?_⟩
  · unfold cellAt
    rcases h2 with h | h
    · rw [h.row.cell, List.getElem?_eq_getElem hC]; rfl
    · rw [h.row.cell, List.getElem?_eq_getElem hD]; rfl
  · rcases h2 with h | h
    · exact h.row.frozen j hC
    · exact h.row.frozen j hD
theorem join_below {W W' : World} {g8 : Nat} {t : TypeId} {C D : List Value} (h : ARow W g8 t C ∨ ARow W g8 t D) (hb : Below W.heap.size W W') : ARow W' g8 t C ∨ ARow W' g8 t D :=
  h.elim (fun h => .inl (h.below hb)) (fun h => .inr (h.below hb))
theorem join_store {W : World} {g8 j : Nat} {t : TypeId} {C D : List Value} {v : Value} (h : ARow W g8 t C ∨ ARow W g8 t D) (hC : C.set j v = D) (hD : D.set j v = D) : ARow (W.setCell ⟨g8, j, none⟩ v) g8 t D := by
  rcases h with h | h
  · have := h.set j v; rwa [hC] at this
  · have := h.set j v; rwa [hD] at this
theorem join_after {W : World} {g8 j : Nat} {t : TypeId} {C D : List Value} {v : Value} (h : ARow (W.setCell ⟨g8, j, none⟩ v) g8 t C ∨ ARow (W.setCell ⟨g8, j, none⟩ v) g8 t D) (hC : C.set j v = D) : ARow (W.setCell ⟨g8, j, none⟩ v) g8 t D := by
  rcases h with h | h
  · have h0 := h
    unfold ARow at h
    simp only [World.setCell, Array.getElem?_modify, if_pos, Option.map_eq_some_iff] at h
    obtain ⟨o, ho, he⟩ := h
    cases o <;> simp at he
    have e : C.set j v = C := by
      rw [← Array.toList_inj] at he
      simp at he
      rw [← he.1, List.set_set]
    rw [hC] at e
    rw [e]; exact h0
  · exact h
theorem square_get (m : List Nat) (j : Nat) (hj : j < m.length) (h : j < (matCells (Crc.square m)).length) : (matCells (Crc.square m))[j] = .int .u32 ((Crc.times m (m.getD j 0) : Nat) : Int) := by
  simp [matCells, Crc.square, List.getD, List.getElem?_eq_getElem hj]
set_option maxHeartbeats 2000000 in
set_option maxRecDepth 20000 in
theorem crc_join (a b : Nat) (n : Int) (w : World) (ha : a < 4294967296) (hb0 : b < 4294967296) (hn0 : 0 ≤ n) (hn1 : n ≤ 1000000) :
    Calls Try.prog 24 #[.int .u32 a, .int .u32 b, .int .i64 n] w fun e w' => e = .returned (.int .u32 (Crc.join a b n.toNat)) ∧ Below w.heap.size w w' := by
  obtain ⟨n, rfl⟩ := Int.eq_ofNat_of_zero_le hn0
  rw [Int.toNat_natCast]
  have hml : (matCells Crc.mat).length = 32 := by rw [matCells_len, Crc.mat_is.len]
  have hinf : Hid ((Try.prog.info? 57).map (·.size) = some 32) := Lib.hid (by kernel_rfl)
  have hsz : ∀ m : List Nat, m.length = 32 → (Try.prog.info? 57).map (·.size) = some (matCells m).toArray.size := fun m hm => by
    rw [hinf.out, List.size_toArray, matCells_len, hm]
  have hz : Hid (zeros32.length = 32) := Lib.hid rfl
  replace hsz := Lib.hid hsz
  go_enter Try.func24, Try.ntmps24
  go_wp2_with (first
    | (go_at_call 29; go_must (refine (crc_mat _).mono ?_); rintro e w' ⟨rfl, hb⟩)
    | (refine wpList_store_row rfl 57 _ _ rfl _ (matCells Crc.mat).toArray rfl rfl 57 zeros32.toArray (arow_new _ zeros32.toArray 57) (hsz.out _ Crc.mat_is.len) (by rw [List.size_toArray, List.size_toArray, hml]; rfl) (matCells_one _) ?_))
  have hA : ARow ((w'.alloc (Obj.cells zeros32.toArray 57)).setRow w'.heap.size (matCells Crc.mat).toArray) w'.heap.size 57 (matCells Crc.mat) := ARow.setRow (arow_new w' zeros32.toArray 57) _
  have hbel : Below w.heap.size w ((w'.alloc (Obj.cells zeros32.toArray 57)).setRow w'.heap.size (matCells Crc.mat).toArray) := below_setRow (hb.alloc hb.size _) hb.size _
  have hge := hb.size
  change Code.wp _ _ _ _ ((w'.alloc (Obj.cells zeros32.toArray 57)).setRow w'.heap.size (matCells Crc.mat).toArray)
  generalize (w'.alloc (Obj.cells zeros32.toArray 57)).setRow w'.heap.size (matCells Crc.mat).toArray = w1 at *
  simp only [Act.put]
  go_loopw [0, 2, 7] (fun x k t wr => ∃ (a1 k1 c g : Nat) (m : List Nat), x = .int .u32 a1 ∧ k = .int .i64 k1 ∧ t = .pointer (some ⟨g, 0, none⟩) ∧ a1 < 4294967296 ∧ k1 ≤ 1000000 ∧ Crc.IsMat m c ∧ Crc.carry (k1 * c) a1 = Crc.carry n a ∧ w.heap.size ≤ g ∧ ARow wr g 57 (matCells m) ∧ Below w.heap.size w wr) (fun _ k _ _ => (intOf k).toNat)
  case atStart => exact ⟨a, n, 1, w'.heap.size, Crc.mat, rfl, rfl, rfl, ha, by omega, Crc.mat_is, by rw [Nat.mul_one], hge, hA, hbel⟩
  case round =>
    clear hA hbel hb hge
    obtain ⟨a1, k1, c, g, m, rfl, rfl, rfl, ha1, hk1, hm, hcar, hge, hA, hbel⟩ := hrel
    have hml1 : (matCells m).length = 32 := by rw [matCells_len, hm.len]
    have hsl : (matCells (Crc.square m)).length = 32 := by rw [matCells_len]; simp [Crc.square, hm.len]
    by_cases h0 : k1 = 0
    · subst h0
      have hx := u32_xor_nat a1 b ha1 hb0
      rw [Nat.zero_mul, Crc.carry_zero_n] at hcar
      subst hcar
      have he : Hid (Crc.join a b n = Crc.carry n a ^^^ b) := Lib.hid rfl
      generalize Crc.carry n a = y at *
      go_wp2
      go_ret
      exact ⟨by rw [he.out]; rfl, hbel⟩
    obtain ⟨a2, ha2, hcar2, hsel⟩ : ∃ a2, a2 < 4294967296 ∧ Crc.carry (k1 / 2 * (c + c)) a2 = Crc.carry n a ∧ (k1 % 2 = 1 ∧ Crc.times m a1 = a2 ∨ k1 % 2 = 0 ∧ a1 = a2) := by
      have := Crc.carry_round k1 c a1
      by_cases hp : k1 % 2 = 1
      · rw [if_pos hp] at this
        exact ⟨_, Crc.carry_lt c ha1, by rw [← hcar, this], .inl ⟨hp, Crc.times_eq hm ha1⟩⟩
      · rw [if_neg hp] at this
        exact ⟨_, ha1, by rw [← hcar, this], .inr ⟨by omega, rfl⟩⟩
    have hdec : decide (0 < k1) = true := by simp; omega
    have hand0 := i64_and1 (k1 : Int)
    rcases hsel with ⟨hp, ht⟩ | ⟨hp, rfl⟩
    · have hand : bits .and .i64 (k1 : Int) 1 = 1 := by rw [hand0]; omega
      clear hand0
      unfold ARow at hA
      have hct1 := fun W => crc_times m c a1 W hm ha1
      rw [ht] at hct1
      replace ht := Lib.hid ht
      go_wp2_with (first
        | (refine wpList_load_row rfl 57 _ rfl g rfl 57 _ (0, 0) _ hA Try.underlying57 rfl (hsz.out m hm.len) ?_)
        | (go_at_call 30; go_must (refine (hct1 _).mono ?_); rintro e w' ⟨rfl, hb⟩))
      have hA : ARow w' g 57 (matCells m) := ARow.below (hA : ARow wr g 57 (matCells m)) hb
      have hbel : Below w.heap.size w w' := bch hbel hb
      clear hb
      have hA1 : ARow (w'.alloc (Obj.cells zeros32.toArray 57)) g 57 (matCells m) := hA.alloc _
      have hB1 : ARow (w'.alloc (Obj.cells zeros32.toArray 57)) w'.heap.size 57 (part (matCells (Crc.square m)) (.int .u32 0) 0) := by
        rw [part_zero, hsl]; exact arow_new _ _ _
      have hbel1 : Below w.heap.size w (w'.alloc (Obj.cells zeros32.toArray 57)) := hbel.alloc hbel.size _
      have hne : g ≠ w'.heap.size := Nat.ne_of_lt hA.lt
      have hg8 : w.heap.size ≤ w'.heap.size := hbel.size
      clear hA hbel
      change Code.wp _ _ _ _ (w'.alloc (Obj.cells zeros32.toArray 57))
      generalize w'.alloc (Obj.cells zeros32.toArray 57) = w1 at *
      generalize w'.heap.size = g8 at *
      go_loopw [23] (fun i wr => ∃ j : Nat, j ≤ 32 ∧ i = .int .i64 j ∧ ARow wr g 57 (matCells m) ∧ ARow wr g8 57 (part (matCells (Crc.square m)) (.int .u32 0) j) ∧ Below w.heap.size w wr) (fun i _ => 32 - (intOf i).toNat)
      case atStart => exact ⟨0, by omega, rfl, hA1, hB1, hbel1⟩
      case round =>
        clear hA1 hB1 hbel1
        obtain ⟨j, hj, rfl, hA, hB, hbel⟩ := hrel
        by_cases hlt : j < 32
        · have hmj := matCells_get m j (by rw [hm.len]; exact hlt)
          have hpj := part_next (matCells (Crc.square m)) (.int .u32 0) j (by rw [hsl]; exact hlt)
          have hyl := Crc.mat_lt hm j hlt
          have hpl := part_len (matCells (Crc.square m)) (.int .u32 0) j (by omega)
          have hu57 := Try.underlying57
          have hi57 : (Try.prog.info? 57).map (·.size) = some (matCells m).length := by rw [hinf.out, hml1]
          obtain ⟨D, hDd⟩ : ∃ D, part (matCells (Crc.square m)) (.int .u32 0) (j + 1) = D := ⟨_, rfl⟩
          have hCD : (part (matCells (Crc.square m)) (.int .u32 0) j).set j (.int .u32 ((Crc.times m (m.getD j 0) : Nat) : Int)) = D := by
            rw [← hDd, ← part_set _ _ j (by omega), square_get m j (by rw [hm.len]; exact hlt)]
          have hDD : D.set j (.int .u32 ((Crc.times m (m.getD j 0) : Nat) : Int)) = D := by rw [← hCD, List.set_set]
          have hCl : j < (part (matCells (Crc.square m)) (.int .u32 0) j).length := by omega
          have hDl : j < D.length := by rw [← hCD, List.length_set]; exact hCl
          replace hCD := Lib.hid hCD
          replace hDD := Lib.hid hDD
          replace hDd := Lib.hid hDd
          have hct := fun W => crc_times m c (m.getD j 0) W hm hyl
          generalize part (matCells (Crc.square m)) (.int .u32 0) j = C at *
          generalize m.getD j 0 = y at *
          generalize Crc.times m y = z at *
          obtain ⟨M, hM⟩ : ∃ M, matCells m = M := ⟨_, rfl⟩
          rw [hM] at hA hmj hi57 hct
          replace hM := Lib.hid hM
          clear hml1 hsl hpl
          have hA' : ARow wr.drew g 57 M := hA
          have hB' : ARow wr.drew g8 57 C ∨ ARow wr.drew g8 57 D := .inl hB
          have hbel' := bdr hbel
          have hne' : (⟨g8, j, none⟩ : Addr).block ≠ g := fun e => hne e.symm
          obtain ⟨-, hS1, hS2, hS3, hS4⟩ := join_held hA' hB' hbel' hmj hCl hDl
          go_wp2
          go_region_held3 (fun W => (ARow W g 57 M ∧ (ARow W g8 57 C ∨ ARow W g8 57 D) ∧ Below w.heap.size w W) ∧ (W.rangeAt g 0 M ∧ W.cell? ⟨g, j, none⟩ = some (.int .u32 (y : Int)) ∧ W.cell? ⟨g8, j, none⟩ = some (cellAt W g8 j) ∧ W.frozen? ⟨g8, j, none⟩ = false)) ((go_split_ands; first | (exact ⟨⟨by assumption, by assumption, by assumption⟩, by assumption, by assumption, by assumption, by assumption⟩) | (exact join_held (ARow.below (by assumption) (by assumption)) (join_below (by assumption) (by assumption)) (by (repeat (first | exact Below.refl _ _ | assumption | refine bal ?_ _ | refine bdr ?_ | refine bdn ?_ _ | refine bst ?_ (by first | assumption | exact Nat.le_refl _ | omega) _ | refine bch ?_ (by assumption)))) hmj hCl hDl) | (exact join_held (ARow.other (by assumption) hne' _) (Or.inr (join_store (by assumption) hCD.out hDD.out)) (bst (by assumption) hg8 _) hmj hCl hDl))) (first | (go_at_call 30; go_must (refine (hct _).mono ?_); rintro e w' ⟨rfl, hb⟩))
          go_split_ands
          go_wp2
          go_roundw
          case rel =>
            refine ⟨j + 1, by omega, by go_num, ?_, ?_, ?_⟩
            · rw [hM.out]; assumption
            · rw [hDd.out]; exact join_after (by assumption) hCD.out
            · assumption
          case measure => simp [intOf]; omega
        · obtain rfl : j = 32 := by omega
          have hall : part (matCells (Crc.square m)) (.int .u32 0) 32 = matCells (Crc.square m) := by
            have := part_all (matCells (Crc.square m)) (.int .u32 0)
            rwa [hsl] at this
          rw [hall] at hB
          have hsm := Crc.square_is hm
          have hA2 := ARow.setRow hA (matCells (Crc.square m))
          have hb2 : Below w.heap.size w (wr.setRow g (matCells (Crc.square m)).toArray) := below_setRow hbel hge _
          have hold : (matCells m).toArray.size = (matCells (Crc.square m)).toArray.size := by simp [hml1, hsl]
          generalize Crc.square m = m2 at *
          have hN := ARow.setRow (arow_new (wr.setRow g (matCells m2).toArray) zeros32.toArray 57) (matCells m2)
          have hN0 := arow_new (wr.setRow g (matCells m2).toArray) zeros32.toArray 57
          have hss : (wr.setRow g (matCells m2).toArray).heap.size = wr.heap.size := by simp [World.setRow]
          rw [hss] at hN hN0
          unfold ARow at hA hB hA2 hN0
          go_wp2_with (first
            | (refine wpList_load_row rfl 57 _ rfl g8 rfl 57 _ (0, 0) _ hB Try.underlying57 rfl (hsz.out m2 hsm.len) ?_)
            | (refine wpList_store_row rfl 57 _ _ rfl g (matCells m2).toArray rfl rfl 57 (matCells m).toArray hA (hsz.out m2 hsm.len) hold (matCells_one _) ?_)
            | (refine wpList_load_row rfl 57 _ rfl g rfl 57 _ (0, 0) _ hA2 Try.underlying57 rfl (hsz.out m2 hsm.len) ?_)
            | (refine wpList_store_row rfl 57 _ _ rfl wr.heap.size (matCells m2).toArray rfl rfl 57 zeros32.toArray hN0 (hsz.out m2 hsm.len) (by rw [List.size_toArray, List.size_toArray, hsl, hz.out]) (matCells_one _) ?_))
          have hfin : Below w.heap.size w (((wr.setRow g (matCells m2).toArray).alloc (Obj.cells zeros32.toArray 57)).setRow wr.heap.size (matCells m2).toArray) := below_setRow (bal hb2 _) hbel.size _
          refine ⟨⟨a2, k1 / 2, c + c, wr.heap.size, m2, rfl, by go_num, rfl, ha2, by omega, hsm, hcar2, hbel.size, hN, hfin⟩, ?_⟩
          simp [intOf]; omega
    · have hand : bits .and .i64 (k1 : Int) 1 = 0 := by rw [hand0]; omega
      clear hand0
      go_wp2
      have hA1 : ARow (wr.alloc (Obj.cells zeros32.toArray 57)) g 57 (matCells m) := hA.alloc _
      have hB1 : ARow (wr.alloc (Obj.cells zeros32.toArray 57)) wr.heap.size 57 (part (matCells (Crc.square m)) (.int .u32 0) 0) := by
        rw [part_zero, hsl]; exact arow_new _ _ _
      have hbel1 : Below w.heap.size w (wr.alloc (Obj.cells zeros32.toArray 57)) := hbel.alloc hbel.size _
      have hne : g ≠ wr.heap.size := Nat.ne_of_lt hA.lt
      have hg8 : w.heap.size ≤ wr.heap.size := hbel.size
      clear hA hbel
      change Code.wp _ _ _ _ (wr.alloc (Obj.cells zeros32.toArray 57))
      generalize wr.alloc (Obj.cells zeros32.toArray 57) = w1 at *
      generalize wr.heap.size = g8 at *
      go_loopw [23] (fun i wr => ∃ j : Nat, j ≤ 32 ∧ i = .int .i64 j ∧ ARow wr g 57 (matCells m) ∧ ARow wr g8 57 (part (matCells (Crc.square m)) (.int .u32 0) j) ∧ Below w.heap.size w wr) (fun i _ => 32 - (intOf i).toNat)
      case atStart => exact ⟨0, by omega, rfl, hA1, hB1, hbel1⟩
      case round =>
        clear hA1 hB1 hbel1
        obtain ⟨j, hj, rfl, hA, hB, hbel⟩ := hrel
        by_cases hlt : j < 32
        · have hmj := matCells_get m j (by rw [hm.len]; exact hlt)
          have hpj := part_next (matCells (Crc.square m)) (.int .u32 0) j (by rw [hsl]; exact hlt)
          have hyl := Crc.mat_lt hm j hlt
          have hpl := part_len (matCells (Crc.square m)) (.int .u32 0) j (by omega)
          have hu57 := Try.underlying57
          have hi57 : (Try.prog.info? 57).map (·.size) = some (matCells m).length := by rw [hinf.out, hml1]
          obtain ⟨D, hDd⟩ : ∃ D, part (matCells (Crc.square m)) (.int .u32 0) (j + 1) = D := ⟨_, rfl⟩
          have hCD : (part (matCells (Crc.square m)) (.int .u32 0) j).set j (.int .u32 ((Crc.times m (m.getD j 0) : Nat) : Int)) = D := by
            rw [← hDd, ← part_set _ _ j (by omega), square_get m j (by rw [hm.len]; exact hlt)]
          have hDD : D.set j (.int .u32 ((Crc.times m (m.getD j 0) : Nat) : Int)) = D := by rw [← hCD, List.set_set]
          have hCl : j < (part (matCells (Crc.square m)) (.int .u32 0) j).length := by omega
          have hDl : j < D.length := by rw [← hCD, List.length_set]; exact hCl
          replace hCD := Lib.hid hCD
          replace hDD := Lib.hid hDD
          replace hDd := Lib.hid hDd
          have hct := fun W => crc_times m c (m.getD j 0) W hm hyl
          generalize part (matCells (Crc.square m)) (.int .u32 0) j = C at *
          generalize m.getD j 0 = y at *
          generalize Crc.times m y = z at *
          obtain ⟨M, hM⟩ : ∃ M, matCells m = M := ⟨_, rfl⟩
          rw [hM] at hA hmj hi57 hct
          replace hM := Lib.hid hM
          clear hml1 hsl hpl
          have hA' : ARow wr.drew g 57 M := hA
          have hB' : ARow wr.drew g8 57 C ∨ ARow wr.drew g8 57 D := .inl hB
          have hbel' := bdr hbel
          have hne' : (⟨g8, j, none⟩ : Addr).block ≠ g := fun e => hne e.symm
          obtain ⟨-, hS1, hS2, hS3, hS4⟩ := join_held hA' hB' hbel' hmj hCl hDl
          go_wp2
          go_region_held3 (fun W => (ARow W g 57 M ∧ (ARow W g8 57 C ∨ ARow W g8 57 D) ∧ Below w.heap.size w W) ∧ (W.rangeAt g 0 M ∧ W.cell? ⟨g, j, none⟩ = some (.int .u32 (y : Int)) ∧ W.cell? ⟨g8, j, none⟩ = some (cellAt W g8 j) ∧ W.frozen? ⟨g8, j, none⟩ = false)) ((go_split_ands; first | (exact ⟨⟨by assumption, by assumption, by assumption⟩, by assumption, by assumption, by assumption, by assumption⟩) | (exact join_held (ARow.below (by assumption) (by assumption)) (join_below (by assumption) (by assumption)) (by (repeat (first | exact Below.refl _ _ | assumption | refine bal ?_ _ | refine bdr ?_ | refine bdn ?_ _ | refine bst ?_ (by first | assumption | exact Nat.le_refl _ | omega) _ | refine bch ?_ (by assumption)))) hmj hCl hDl) | (exact join_held (ARow.other (by assumption) hne' _) (Or.inr (join_store (by assumption) hCD.out hDD.out)) (bst (by assumption) hg8 _) hmj hCl hDl))) (first | (go_at_call 30; go_must (refine (hct _).mono ?_); rintro e w' ⟨rfl, hb⟩))
          go_split_ands
          go_wp2
          go_roundw
          case rel =>
            refine ⟨j + 1, by omega, by go_num, ?_, ?_, ?_⟩
            · rw [hM.out]; assumption
            · rw [hDd.out]; exact join_after (by assumption) hCD.out
            · assumption
          case measure => simp [intOf]; omega
        · obtain rfl : j = 32 := by omega
          have hall : part (matCells (Crc.square m)) (.int .u32 0) 32 = matCells (Crc.square m) := by
            have := part_all (matCells (Crc.square m)) (.int .u32 0)
            rwa [hsl] at this
          rw [hall] at hB
          have hsm := Crc.square_is hm
          have hA2 := ARow.setRow hA (matCells (Crc.square m))
          have hb2 : Below w.heap.size w (wr.setRow g (matCells (Crc.square m)).toArray) := below_setRow hbel hge _
          have hold : (matCells m).toArray.size = (matCells (Crc.square m)).toArray.size := by simp [hml1, hsl]
          generalize Crc.square m = m2 at *
          have hN := ARow.setRow (arow_new (wr.setRow g (matCells m2).toArray) zeros32.toArray 57) (matCells m2)
          have hN0 := arow_new (wr.setRow g (matCells m2).toArray) zeros32.toArray 57
          have hss : (wr.setRow g (matCells m2).toArray).heap.size = wr.heap.size := by simp [World.setRow]
          rw [hss] at hN hN0
          unfold ARow at hA hB hA2 hN0
          go_wp2_with (first
            | (refine wpList_load_row rfl 57 _ rfl g8 rfl 57 _ (0, 0) _ hB Try.underlying57 rfl (hsz.out m2 hsm.len) ?_)
            | (refine wpList_store_row rfl 57 _ _ rfl g (matCells m2).toArray rfl rfl 57 (matCells m).toArray hA (hsz.out m2 hsm.len) hold (matCells_one _) ?_)
            | (refine wpList_load_row rfl 57 _ rfl g rfl 57 _ (0, 0) _ hA2 Try.underlying57 rfl (hsz.out m2 hsm.len) ?_)
            | (refine wpList_store_row rfl 57 _ _ rfl wr.heap.size (matCells m2).toArray rfl rfl 57 zeros32.toArray hN0 (hsz.out m2 hsm.len) (by rw [List.size_toArray, List.size_toArray, hsl, hz.out]) (matCells_one _) ?_))
          have hfin : Below w.heap.size w (((wr.setRow g (matCells m2).toArray).alloc (Obj.cells zeros32.toArray 57)).setRow wr.heap.size (matCells m2).toArray) := below_setRow (bal hb2 _) hbel.size _
          refine ⟨⟨a1, k1 / 2, c + c, wr.heap.size, m2, rfl, by go_num, rfl, ha2, by omega, hsm, hcar2, hbel.size, hN, hfin⟩, ?_⟩
          simp [intOf]; omega
end Go.Proofs.Ytmjgminajkhfdaa
