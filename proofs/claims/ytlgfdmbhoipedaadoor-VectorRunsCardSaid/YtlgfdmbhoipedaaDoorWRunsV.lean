/- The walk of keep.VectorRuns. -/
import Derived.Test.YtlgfdmbhoipedaaDoorWKnown
import Derived.Test.YtlgfdmbhoipedaaDoorWPick
import Derived.Test.YtlgfdmbhoipedaaDoorPlainVecR
namespace Go.Proofs.YtlgfdmbhoipedaaDoor
open Go.RowKit
set_option linter.unusedVariables false
theorem Vec.write_len (l : List Vec.Entry) (h : Vec.right l = .ok) : (Vec.write l).length ≤ 500 := by
  have hF := (Vec.right_iff l).1 h
  have hl := hF.len
  obtain ⟨h1, h2⟩ := Vec.enc_len true 0 l (fun x hx => by have := hF.each x hx; omega) (by omega) (by omega)
  have := Vary.put_len (Vec.enc true 0 l).1 (by omega)
  unfold Vec.write
  rw [List.length_append]; omega
theorem up_within (r g t : Int) (n : Nat) (hg : 1 ≤ g) (hg2 : g ≤ 9) : ∀ x ∈ Vec.up r g t n, r ≤ x.r ∧ x.r ≤ r + 9 * n := by
  induction n generalizing r with
  | zero => intro x hx; cases hx
  | succ n ih =>
    intro x hx
    rw [Vec.up] at hx
    rcases List.mem_cons.1 hx with rfl | hx
    · exact ⟨Int.le_refl _, by show r ≤ _; omega⟩
    · have := ih (r + g) x hx
      omega
theorem up_sorted (r g t : Int) (n : Nat) (hg : 1 ≤ g) (hg2 : g ≤ 9) : Vec.Sorted (Vec.up r g t n) := by
  induction n generalizing r with
  | zero => exact List.Pairwise.nil
  | succ n ih =>
    rw [Vec.up]
    refine List.pairwise_cons.2 ⟨fun y hy => ?_, ih _⟩
    have := up_within (r + g) g t n hg hg2 y hy
    show r < y.r
    omega
theorem up_fine (g t : Int) (n : Nat) (hn : n ≤ 16) (hg : 1 ≤ g) (hg2 : g ≤ 9) (ht : 1 ≤ t) (ht2 : t ≤ 1099511627776) : Vec.right (Vec.up 0 g t n) = .ok := by
  refine (Vec.right_iff _).2 ⟨by rw [Vec.up_len]; exact hn, up_sorted 0 g t n hg hg2, fun x hx => ?_⟩
  have h1 := up_within 0 g t n hg hg2 x hx
  have h2 := Vec.up_t 0 g t n x hx
  omega
def Apart (a b : Value) : Prop := ∀ x, a.ownBlock = some x → b.ownBlock ≠ some x
theorem Apart.two {a b : Value} (h : Apart a b) : b.ownBlock = none ∨ b.ownBlock ≠ a.ownBlock := by
  cases hb : b.ownBlock with
  | none => exact .inl rfl
  | some x => exact .inr fun e => h x e.symm hb
theorem Apart.symm {a b : Value} (h : Apart a b) : Apart b a := fun x h1 h2 => h x h2 h1
theorem Apart.step {w : World} {base : Nat} {e : TypeId} {sz n : Nat} {a b a' : Value} {xs : List Value} {g : Nat} (h : Apart a b) (hb : w.ownsRow base e sz b n xs) (hg : w.heap.size ≤ g) (h' : a'.ownBlock = a.ownBlock ∨ a'.ownBlock = some g) : Apart a' b := fun x h1 => by
  rcases h' with h' | h'
  · rw [h'] at h1; exact h x h1
  · rw [h'] at h1; injection h1 with h1; subst h1; exact owns_lt hb _ hg
theorem up_cells (g t : Int) (k : Nat) (c : Int) (h : c = g * k) : (Vec.up 0 g t k).flatMap entCells ++ [.int .i64 c, .int .i64 t] = (Vec.up 0 g t (k + 1)).flatMap entCells := by
  rw [Vec.up_snoc, List.flatMap_append, Int.zero_add, ← h]; rfl
set_option maxHeartbeats 4000000 in
set_option maxRecDepth 100000 in
theorem keep_vruns (n g t : Int) (w : World) (hL : Laid w) :
    Calls Tryd.prog 12 #[.int .i64 n, .int .i64 g, .int .i64 t] w fun e w' => e = .returned (.bool true) ∧ Below w.heap.size w w' := by
  have hk := Lib.hid (keep_known w hL)
  clear hL
  obtain ⟨N, hN⟩ : ∃ N, N = pickN n 16 + 1 := ⟨_, rfl⟩
  obtain ⟨G, hG⟩ : ∃ G, G = pickN g 8 + 2 := ⟨_, rfl⟩
  obtain ⟨T, hT⟩ : ∃ T, T = pickN t 1099511627776 + 1 := ⟨_, rfl⟩
  have hN1 := pickN_lt n 16 (by omega)
  have hG1 := pickN_lt g 8 (by omega)
  have hT1 := pickN_lt t 1099511627776 (by omega)
  have wN : IntKind.i64.wrap (1 + (pickN n 16 : Int)) = (N : Int) := by rw [IntWalk.i64_in _ (by omega)]; omega
  have wG : IntKind.i64.wrap (2 + (pickN g 8 : Int)) = (G : Int) := by rw [IntWalk.i64_in _ (by omega)]; omega
  have wT : IntKind.i64.wrap (1 + (pickN t 1099511627776 : Int)) = (T : Int) := by rw [IntWalk.i64_in _ (by omega)]; omega
  have bN : 1 ≤ N ∧ N ≤ 16 := by omega
  have bG : 2 ≤ G ∧ G ≤ 9 := by omega
  have bT : 1 ≤ T ∧ T ≤ 1099511627776 := by omega
  obtain ⟨bN1, bN2⟩ := bN
  obtain ⟨bG1, bG2⟩ := bG
  obtain ⟨bT1, bT2⟩ := bT
  replace hN := Lib.hid hN
  replace hG := Lib.hid hG
  replace hT := Lib.hid hT
  go_enter Tryd.func12, Tryd.ntmps12
  go_wp2_with fail
  refine hk.out.mono ?_
  rintro e w1 ⟨rfl, hb1⟩
  go_wp2_with fail
  refine (keep_pick n 16 16 _ rfl (by omega) (by omega)).mono ?_
  rintro e w2 ⟨rfl, rfl⟩
  go_wp2_with fail
  refine (keep_pick g 8 8 _ rfl (by omega) (by omega)).mono ?_
  rintro e w2 ⟨rfl, rfl⟩
  go_wp2_with fail
  refine (keep_pick t 1099511627776 1099511627776 _ rfl (by omega) (by omega)).mono ?_
  rintro e w2 ⟨rfl, rfl⟩
  go_wp2_with fail
  go_loopw [7, 8, 26] (fun sa sb si wr => ∃ k : Nat, si = .int .i64 k ∧ k ≤ N ∧ wr.ownsRow w.heap.size 45 2 sa k ((Vec.up 0 1 T k).flatMap entCells) ∧ wr.ownsRow w.heap.size 45 2 sb k ((Vec.up 0 G T k).flatMap entCells) ∧ Apart sa sb ∧ Below w.heap.size w wr) (fun _ _ si _ => N - (intOf si).toNat)
  case atStart => exact ⟨0, rfl, by omega, World.ownsRow_nil _ _ _ _, World.ownsRow_nil _ _ _ _, fun x h => (by cases h), hb1⟩
  case round =>
    clear hb1
    obtain ⟨k, rfl, hkN, howna, hownb, hne, hbel⟩ := hrel
    have hsz := hbel.size
    by_cases hlt : k < N
    · have wm : IntKind.i64.wrap ((G : Int) * (k : Int)) = (G : Int) * k := by
        have h1 : (G : Int) * k ≤ 9 * 16 := Int.mul_le_mul (by omega) (by omega) (by omega) (by omega)
        have h2 : (0 : Int) ≤ (G : Int) * k := Int.mul_nonneg (by omega) (by omega)
        exact IntWalk.i64_in _ (by omega)
      generalize hCa : (Vec.up 0 1 T k).flatMap entCells = ca at *
      generalize hCb : (Vec.up 0 G T k).flatMap entCells = cb at *
      replace hCa := Lib.hid hCa
      replace hCb := Lib.hid hCb
      replace hne := Lib.hid hne
      go_wp2_with (at_builtin; go_must (refine app_one rfl _ _ 39 45 rfl w.heap.size (.agg #[.int .i64 0, .int .i64 0]) 2 16 Tryd.underlying39 (by kernel_rfl) rfl _ _ _ rfl howna _ rfl rfl ?_ (by omega) (by omega) hsz ?_))
      · simp [Value.oneCell']
      intro va' wa hownA hgA hblkA hnnA hbA
      have hownB := Lib.hid (owns_grown hownb hgA hne.out.two)
      have hneA := Lib.hid (hne.out.step hownb (by omega) hblkA)
      have hbel2 : Below w.heap.size w wa := hbel.trans hbA
      have hsz2 := hbel2.size
      have hownB2 := hownB.out
      have hownA2 := Lib.hid hownA
      clear hownb hgA hblkA hnnA hbA howna hownA
      go_wp2_with (at_builtin; go_must (refine app_one rfl _ _ 39 45 rfl w.heap.size (.agg #[.int .i64 0, .int .i64 0]) 2 16 Tryd.underlying39 (by kernel_rfl) rfl _ _ _ rfl hownB2 _ rfl rfl ?_ (by omega) (by omega) hsz2 ?_))
      · simp [Value.oneCell']
      intro vb' wb hownB3 hgB hblkB hnnB hbB
      have hownA3 := owns_grown hownA2.out hgB (Apart.two hneA.out.symm)
      have hneB := Lib.hid ((hneA.out.symm.step hownA2.out (by omega) hblkB).symm)
      have hbel3 : Below w.heap.size w wb := hbel2.trans hbB
      have cA : wb.ownsRow w.heap.size 45 2 va' (k + 1) ((Vec.up 0 1 T (k + 1)).flatMap entCells) := by
        rw [← up_cells 1 T k k (by omega), hCa.out]; exact hownA3
      have cB : wb.ownsRow w.heap.size 45 2 vb' (k + 1) ((Vec.up 0 G T (k + 1)).flatMap entCells) := by
        rw [← up_cells G T k ((G : Int) * k) rfl, hCb.out]; exact hownB3
      replace cA := Lib.hid cA
      replace cB := Lib.hid cB
      clear hgB hblkB hnnB hbB hownA3 hownB3 hownB2 hownA2 hownB
      go_wp2
      go_roundw
      case rel => exact ⟨k + 1, by go_num, by omega, cA.out, cB.out, hneB.out, hbel3⟩
      case measure => simp [intOf]; omega
    · obtain rfl : k = N := by omega
      obtain ⟨oa, ca, rfl⟩ := owns_slice howna
      obtain ⟨ob, cb, rfl⟩ := owns_slice hownb
      have la := Vec.up_len 0 1 T k
      have lb := Vec.up_len 0 G T k
      have ia : VecIs wr (.slice oa k ca) (Vec.up 0 1 T k) := ListIs.of_owns (base := w.heap.size) (e := 45) (by rw [la]; exact howna)
      have ib : VecIs wr (.slice ob k cb) (Vec.up 0 G T k) := ListIs.of_owns (base := w.heap.size) (e := 45) (by rw [lb]; exact hownb)
      have fa := up_fine 1 T k (by omega) (by omega) (by omega) (by omega) (by omega)
      have fb := up_fine G T k (by omega) (by omega) (by omega) (by omega) (by omega)
      have hlaw := Vec.runs_law G T k (by omega) (by omega) (by omega) (by omega)
      have lxa := Vec.write_len _ fa
      have lxb := Vec.write_len _ fb
      have dl : ((Vec.write (Vec.up 0 G T k)).length : Int) = (Vec.write (Vec.up 0 1 T k)).length + 2 * ((k : Int) - 1) := by rw [hlaw]; omega
      have hwa := Lib.hid (vector_write_ok _ _ _ ia fa)
      have hwb := Lib.hid (fun W h => vector_write_ok _ _ W (ib.below h) fb)
      generalize Vec.write (Vec.up 0 1 T k) = xa at *
      generalize Vec.write (Vec.up 0 G T k) = xb at *
      clear ia ib fa fb hlaw howna hownb hne la lb
      go_wp2_with fail
      refine hwa.out.mono ?_
      rintro e w3 ⟨rfl, hb3⟩
      go_wp2_with fail
      refine (hwb.out _ hb3).mono ?_
      rintro e w4 ⟨rfl, hb4⟩
      go_wp2
      go_ret
      exact ⟨rfl, by (repeat (first | exact Below.refl _ _ | assumption | refine bal ?_ _ | refine bdr ?_ | refine bdn ?_ _ | refine bst ?_ (by first | assumption | exact Nat.le_refl _ | omega) _ | refine bch ?_ (by assumption)))⟩
theorem VectorRuns_walk (a0 a1 a2 : Int) (w : World) (w0 : (Lit.int .i64 a0).wf = true) (w1 : (Lit.int .i64 a1).wf = true) (w2 : (Lit.int .i64 a2).wf = true) (hL : Laid w) :
    Calls Tryd.prog 12 #[.int .i64 a0, .int .i64 a1, .int .i64 a2] w fun e w' => e = .returned (.bool true) ∧ Below w.heap.size w w' := keep_vruns a0 a1 a2 w hL
end Go.Proofs.YtlgfdmbhoipedaaDoor
