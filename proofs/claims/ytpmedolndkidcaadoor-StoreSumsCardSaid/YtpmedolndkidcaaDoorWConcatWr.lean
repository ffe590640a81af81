/- The walks of slices.Grow (nil) and slices.Concat over lists of packtrain/api.Write; printed by gen_concat.py. -/
import Derived.Lib.AppendZerosOnto
import Derived.Test.YtpmedolndkidcaaDoorWBatch
namespace Go.Proofs.YtpmedolndkidcaaDoor
open Go.RowKit
set_option linter.unusedVariables false
set_option linter.unusedSimpArgs false
theorem grow_nil_wr (w : World) :
    Calls Tryd.prog 59 #[.slice none 0 0, .int .i64 (0 : Nat)] w fun e w' => (∃ v, e = .returned v ∧ w'.ownsRow w.heap.size 36 6 v 0 []) ∧ Below w.heap.size w w' := by
  go_enter Tryd.func59, Tryd.ntmps59
  go_wp2
  go_ret
  exact ⟨⟨_, rfl, World.ownsRow_nil _ _ _ _⟩, by (repeat (first | exact Below.refl _ _ | assumption | refine bal ?_ _ | refine bdr ?_ | refine bdn ?_ _ | refine bst ?_ (by first | assumption | exact Nat.le_refl _ | omega) _ | refine bch ?_ (by assumption)))⟩
theorem owns_mono_wr {w : World} {base base' : Nat} {e : TypeId} {sz n : Nat} {v : Value} {xs : List Value} (h : w.ownsRow base' e sz v n xs) (hb : base ≤ base') : w.ownsRow base e sz v n xs := by
  refine ⟨h.1, ?_⟩
  rcases h.2 with h0 | ⟨g, cap, cur, h1, h2, h3⟩
  · exact .inl h0
  · exact .inr ⟨g, cap, cur, h1, by omega, h3⟩
set_option maxHeartbeats 2000000 in
set_option maxRecDepth 20000 in
theorem grow_wr (n : Nat) (w : World) (h1 : 1 ≤ n) (h2 : n ≤ 1000) :
    Calls Tryd.prog 59 #[.slice none 0 0, .int .i64 n] w fun e w' => (∃ v, e = .returned v ∧ w'.ownsRow w.heap.size 36 6 v 0 []) ∧ Below w.heap.size w w' := by
  obtain ⟨i0, hi0, hzz⟩ := Option.map_eq_some_iff.1 (show (Tryd.prog.info? 36).map (fun i => (i.zero, i.size, i.bytes)) = some (some (Value.agg #[.int .i64 0, .int .i64 0, .int .i64 0, .string ⟨#[]⟩, .string ⟨#[]⟩, .int .i64 0]), 6, 64) by kernel_rfl)
  simp only [Prod.mk.injEq] at hzz
  obtain ⟨hz0, hs0, hb0⟩ := hzz
  have hfit := growslice_fits (need := n) (old := 0) (bytes := i0.bytes) (by omega) (by rw [hb0]; omega)
  have hr := fun (W : World) (ty : TypeId) => Lib.run_append_grow_zeros W 22 3 ty 36 i0 (Value.agg #[.int .i64 0, .int .i64 0, .int .i64 0, .string ⟨#[]⟩, .string ⟨#[]⟩, .int .i64 0]) .i64 .i64 Tryd.underlying22 Tryd.underlying3 hi0 hz0 none 0 0 [] (run_firstCells_none W.drew i0.size 0 0 0) n h1 (by rw [hs0]; omega) (by omega) (by omega) (by rw [hb0]; omega) (by rw [Nat.zero_add]; exact hfit)
  simp only [Nat.zero_add] at hr
  have hG := grownCap_ge w n 0 36
  have hG2 := grownCap_le_maxLen w n 0 36 (by unfold maxLen; omega)
  have hr0 := hr w
  clear hr hfit
  generalize grownCap w n 0 36 = G at *
  have hcs : (Builtin.zeroCells (Value.agg #[.int .i64 0, .int .i64 0, .int .i64 0, .string ⟨#[]⟩, .string ⟨#[]⟩, .int .i64 0]).cells n).size + (Builtin.zeroCells (Value.agg #[.int .i64 0, .int .i64 0, .int .i64 0, .string ⟨#[]⟩, .string ⟨#[]⟩, .int .i64 0]).cells (G - n)).size = G * 6 := by
    rw [size_zeroCells, size_zeroCells]
    show n * 6 + (G - n) * 6 = _
    rw [← Nat.add_mul]; congr 1; omega
  obtain ⟨cs, hcs0⟩ : ∃ cs, cs = Builtin.zeroCells (Value.agg #[.int .i64 0, .int .i64 0, .int .i64 0, .string ⟨#[]⟩, .string ⟨#[]⟩, .int .i64 0]).cells n ++ Builtin.zeroCells (Value.agg #[.int .i64 0, .int .i64 0, .int .i64 0, .string ⟨#[]⟩, .string ⟨#[]⟩, .int .i64 0]).cells (G - n) := ⟨_, rfl⟩
  simp only [List.toArray, Array.empty_append] at hr0
  rw [← hcs0] at hr0
  have hsz : cs.size = G * 6 := by rw [hcs0, Array.size_append]; exact hcs
  clear hcs0 hcs
  have hG2' : G ≤ 9223372036854775807 := by unfold maxLen at hG2; omega
  replace hr0 := Lib.hid hr0
  replace hsz := Lib.hid hsz
  replace hi0 := Lib.hid hi0
  replace hs0 := Lib.hid hs0
  replace hz0 := Lib.hid hz0
  replace hb0 := Lib.hid hb0
  go_enter Tryd.func59, Tryd.ntmps59
  go_wp2_with (at_builtin; refine Lib.wpList_append_run _ rfl _ _ _ _ rfl _ _ rfl rfl _ _ (hr0.out _) ?_)
  go_ret
  refine ⟨⟨_, rfl, rfl, .inr ⟨w.heap.size, G, cs, rfl, Nat.le_refl _, heap_alloc_new _ _, Nat.zero_le _, by unfold maxLen; omega, hsz.out, rfl⟩⟩, by (repeat (first | exact Below.refl _ _ | assumption | refine bal ?_ _ | refine bdr ?_ | refine bdn ?_ _ | refine bst ?_ (by first | assumption | exact Nat.le_refl _ | omega) _ | refine bch ?_ (by assumption)))⟩
/-- A list in memory as a source of an append. -/
theorem src_wr {w : World} {v : Value} {l : List WrB} (h : ListIs wrBCells 6 w v l) : Src Tryd.prog 6 22 v l.length (l.flatMap wrBCells) w := by
  have hfl := flat_len (f := wrBCells) (sz := 6) (fun _ => rfl) l
  obtain ⟨a, cap, rfl, -, hc⟩ := h.at (fun _ => rfl)
  have hone : ∀ u ∈ l.flatMap wrBCells, u.oneCell' = true := fun u hu => by
    obtain ⟨x, -, hx⟩ := List.mem_flatMap.1 hu
    simp only [wrBCells, List.mem_cons, List.not_mem_nil, or_false] at hx
    rcases hx with rfl | rfl | rfl | rfl | rfl | rfl <;> rfl
  rcases Nat.eq_zero_or_pos l.length with h0 | hp
  · rw [h0]
    have hl : l = [] := List.eq_nil_of_length_eq_zero h0
    subst hl
    cases a with
    | none => exact Src.ofNil w Tryd.underlying22 _
    | some a => exact Src.ofSlice w Tryd.underlying22 a 0 cap [] rfl (fun j u hu => by cases hu) (fun u hu => by cases hu)
  · obtain ⟨b, off, rfl, -, -⟩ := hc 0 hp
    refine Src.ofSlice w Tryd.underlying22 _ _ _ _ hfl (fun j u hu => ?_) hone
    have hj := (List.getElem?_eq_some_iff.1 hu).1
    rw [hfl] at hj
    have hk : j / 6 < l.length := Nat.div_lt_of_lt_mul (by rw [Nat.mul_comm]; exact hj)
    have hm : j % 6 < 6 := Nat.mod_lt _ (by omega)
    have he : j / 6 * 6 + j % 6 = j := by omega
    have hg := flat_get (f := wrBCells) (sz := 6) (fun _ => rfl) l (j / 6) (j % 6) hk hm
    rw [he, hu] at hg
    obtain ⟨b', off', e, -, hcc⟩ := hc (j / 6) hk
    injection e with e
    injection e with e1 e2
    subst e1; subst e2
    have h2 := hcc (j % 6) u hg.symm
    rw [Nat.add_assoc, he] at h2
    have ea : (⟨b, off, none⟩ : Addr).add j = ⟨b, off + j, none⟩ := by unfold Addr.add; split <;> simp_all
    rw [ea]; exact h2
/-- A list of slices, each of which reads as a list. -/
structure Parts_wr (w : World) (v : Value) (vs : List Value) (L : List (List WrB)) : Prop where
  at_ : ListIs (fun u : Value => [u]) 1 w v vs
  len : vs.length = L.length
  each : ∀ k (h : k < vs.length) (h2 : k < L.length), ListIs wrBCells 6 w vs[k] L[k]
theorem parts_take_wr (L : List (List WrB)) (k : Nat) (h : k < L.length) : (L.take (k + 1)).flatten = (L.take k).flatten ++ L[k] := by
  rw [List.take_succ_eq_append_getElem h, List.flatten_append]; simp
theorem flat_le_wr (L : List (List WrB)) (k : Nat) : (L.take k).flatten.length ≤ L.flatten.length := by
  have h := congrArg List.length (congrArg List.flatten (List.take_append_drop k L))
  rw [List.flatten_append, List.length_append] at h
  omega
set_option maxHeartbeats 4000000 in
set_option maxRecDepth 20000 in
theorem concat_wr (v : Value) (vs : List Value) (L : List (List WrB)) (w : World) (hP : Parts_wr w v vs L) (hL : L.length ≤ 10) (hF : L.flatten.length ≤ 1000) :
    Calls Tryd.prog 26 #[v] w fun e w' => (∃ u, e = .returned u ∧ w'.ownsRow w.heap.size 36 6 u L.flatten.length (L.flatten.flatMap wrBCells)) ∧ Below w.heap.size w w' := by
  obtain ⟨o, c, rfl, hcap, hcell⟩ := hP.at_.at (fun _ => rfl)
  clear hcap
  have hvl := hP.len
  replace hP := Lib.hid hP
  replace hcell := Lib.hid hcell
  have htk := Lib.hid (parts_take_wr L)
  have hfl := Lib.hid (flat_le_wr L)
  rw [hvl]
  go_enter Tryd.func26, Tryd.ntmps26
  go_wp2
  go_loopw [3, 11] (fun s i wr => ∃ k : Nat, k ≤ L.length ∧ i = .int .i64 k ∧ s = .int .i64 ((L.take k).flatten.length : Nat) ∧ Below w.heap.size w wr) (fun _ i _ => L.length - (intOf i).toNat)
  case atStart => exact ⟨0, by omega, rfl, rfl, by (repeat (first | exact Below.refl _ _ | assumption | refine bal ?_ _ | refine bdr ?_ | refine bdn ?_ _ | refine bst ?_ (by first | assumption | exact Nat.le_refl _ | omega) _ | refine bch ?_ (by assumption)))⟩
  case round =>
    obtain ⟨k, hk, rfl, rfl, hbel⟩ := hrel
    by_cases hlt : k < L.length
    · obtain ⟨b1, f1, rfl, hb1, hc1⟩ := hcell.out k (by omega)
      have hb1 := hb1 (by omega)
      have c0 : wr.cell? ⟨b1, f1 + k, none⟩ = some (vs[k]'(by omega)) := (hbel.cell (p := ⟨b1, f1 + k, none⟩) hb1).trans (by have := hc1 0 _ rfl; simpa using this)
      clear hc1
      obtain ⟨a2, c2, hv2, -, -⟩ := (hP.out.each k (by omega) hlt).at (fun _ => rfl)
      rw [hv2] at c0
      have h1 := htk.out k hlt
      have h2 := hfl.out (k + 1)
      have h3 := congrArg List.length h1
      rw [List.length_append] at h3
      generalize hx2 : (L.take (k + 1)).flatten.length = x2 at *
      replace hx2 := Lib.hid hx2
      generalize (L.take k).flatten.length = x at *
      generalize L[k].length = y at *
      clear h1 hv2
      go_wp2
      go_roundw
      case rel => exact ⟨k + 1, by omega, by go_num, by rw [hx2.out, h3]; go_num, by (repeat (first | exact Below.refl _ _ | assumption | refine bal ?_ _ | refine bdr ?_ | refine bdn ?_ _ | refine bst ?_ (by first | assumption | exact Nat.le_refl _ | omega) _ | refine bch ?_ (by assumption)))⟩
      case measure => simp [intOf]; omega
    · obtain rfl : k = L.length := by omega
      rw [List.take_length]
      generalize hN : L.flatten.length = N at *
      replace hN := Lib.hid hN
      have hGr : Calls Tryd.prog 59 #[.slice none 0 0, .int .i64 N] wr fun e w' => (∃ v, e = .returned v ∧ w'.ownsRow wr.heap.size 36 6 v 0 []) ∧ Below wr.heap.size wr w' := by
        rcases Nat.eq_zero_or_pos N with h0 | hp
        · subst h0; exact grow_nil_wr wr
        · exact grow_wr N wr hp (by omega)
      replace hGr := Lib.hid hGr
      go_wp2_with fail
      refine hGr.out.mono ?_
      rintro e w3 ⟨⟨u, rfl, hO⟩, hb3⟩
      clear hGr
      have hB3 := bch hbel hb3
      have hO' : w3.ownsRow w.heap.size 36 6 u (L.take 0).flatten.length ((L.take 0).flatten.flatMap wrBCells) := owns_mono_wr hO hbel.size
      replace hO' := Lib.hid hO'
      clear hO hb3 hbel
      go_wp2
      go_loopw [6, 27] (fun s i wr => ∃ k : Nat, k ≤ L.length ∧ i = .int .i64 k ∧ wr.ownsRow w.heap.size 36 6 s (L.take k).flatten.length ((L.take k).flatten.flatMap wrBCells) ∧ Below w.heap.size w wr) (fun _ i _ => L.length - (intOf i).toNat)
      case atStart => exact ⟨0, by omega, rfl, hO'.out, hB3⟩
      case round =>
        obtain ⟨k, hk, rfl, hO, hbel⟩ := hrel
        have hsz := hbel.size
        by_cases hlt : k < L.length
        · obtain ⟨b1, f1, rfl, hb1, hc1⟩ := hcell.out k (by omega)
          have hb1 := hb1 (by omega)
          have c0 : wr.cell? ⟨b1, f1 + k, none⟩ = some (vs[k]'(by omega)) := (hbel.cell (p := ⟨b1, f1 + k, none⟩) hb1).trans (by have := hc1 0 _ rfl; simpa using this)
          clear hc1
          have hv := (hP.out.each k (by omega) hlt).below (by omega) hbel
          have h1 := htk.out k hlt
          have h2 := hfl.out (k + 1)
          have h3 := congrArg List.length h1
          rw [List.length_append] at h3
          have h4 := congrArg (List.flatMap wrBCells) h1
          rw [List.flatMap_append] at h4
          clear h1
          generalize hX2 : (L.take (k + 1)).flatten = X2 at *
          replace hX2 := Lib.hid hX2
          generalize (L.take k).flatten = X at *
          generalize L[k] = Y at *
          generalize vs[k]'(by omega) = vk at *
          have hsrc := Lib.hid (src_wr hv)
          obtain ⟨a2, c2, rfl, -, -⟩ := hv.at (fun _ => rfl)
          replace hO := Lib.hid hO
          replace h4 := Lib.hid h4
          clear hv
          go_wp2_with (at_builtin; go_must (refine app_any rfl _ _ 22 22 36 rfl w.heap.size (Value.agg #[.int .i64 0, .int .i64 0, .int .i64 0, .string ⟨#[]⟩, .string ⟨#[]⟩, .int .i64 0]) 6 64 Tryd.underlying22 (by kernel_rfl) rfl _ X.length (X.flatMap wrBCells) rfl hO.out Y.length (Y.flatMap wrBCells) hsrc.out (by omega) (by omega) hsz ?_))
          intro v1 w2 hown2 hg2 hblk2 hnil hb2
          go_wp2
          go_roundw
          case rel => exact ⟨k + 1, by omega, by go_num, by rw [hX2.out, h3, h4.out]; exact hown2, hbel.trans hb2⟩
          case measure => simp [intOf]; omega
        · obtain rfl : k = L.length := by omega
          rw [List.take_length] at hO
          replace hO := Lib.hid hO
          go_wp2
          go_ret
          exact ⟨⟨_, rfl, hO.out⟩, hbel⟩
end Go.Proofs.YtpmedolndkidcaaDoor
