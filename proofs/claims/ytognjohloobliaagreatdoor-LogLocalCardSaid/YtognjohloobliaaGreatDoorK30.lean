/- The walks of Accept's closure, and of slices.BinarySearchFunc over writes. -/
import Derived.Test.YtognjohloobliaaGreatDoorK29
import Derived.Test.YtognjohloobliaaGreatDoorK19
namespace Go.Proofs.YtognjohloobliaaGreatDoor
open Go.RowKit
set_option linter.unusedVariables false
set_option linter.unusedSimpArgs false
def cmpW (x y : WrB) : Int := orInt (cmp2 x.t y.t) (cmp2 x.r y.r)
set_option maxHeartbeats 1000000 in
theorem accept_less (x y : WrB) (W : World) : Calls Tryz.prog 39 #[.agg (wrBCells x).toArray, .agg (wrBCells y).toArray] W fun e w' => e = .returned (.int .i64 (cmpW x y)) ∧ Below W.heap.size W w' := by
 have hc := Lib.hid (fun W => ident_compare x.t x.r y.t y.r W)
 unfold wrBCells
 go_enter Tryz.func39, Tryz.ntmps39
 go_wp2_with (go_at_call 24; refine (hc.out _).mono ?_; rintro e w' ⟨rfl, hb⟩)
 go_ret
 exact ⟨rfl, by exact blw⟩
theorem cmp2_neg {a b : Int} : cmp2 a b < 0 ↔ a < b := by unfold cmp2; split <;> (try split) <;> omega
theorem cmp2_zero {a b : Int} : cmp2 a b = 0 ↔ a = b := by unfold cmp2; split <;> (try split) <;> omega
theorem cmpW_neg {x y : WrB} : cmpW x y < 0 ↔ (x.t < y.t ∨ (x.t = y.t ∧ x.r < y.r)) := by
 unfold cmpW orInt
 by_cases h : cmp2 x.t y.t = 0
 ·rw [if_pos h, cmp2_neg]
  have := cmp2_zero.1 h
  omega
 ·rw [if_neg h, cmp2_neg]
  have : x.t ≠ y.t := fun e => h (cmp2_zero.2 e)
  omega
theorem cmpW_zero {x y : WrB} : cmpW x y = 0 ↔ (x.t = y.t ∧ x.r = y.r) := by
 unfold cmpW orInt
 by_cases h : cmp2 x.t y.t = 0
 ·rw [if_pos h, cmp2_zero]
  have := cmp2_zero.1 h
  omega
 ·rw [if_neg h]
  have : x.t ≠ y.t := fun e => h (cmp2_zero.2 e)
  constructor
  ·intro e; exact absurd e h
  ·intro e; exact absurd e.1 this
theorem cmpW_trans {x y z : WrB} (h1 : cmpW x y < 0) (h2 : cmpW y z < 0) : cmpW x z < 0 := by
 rw [cmpW_neg] at *; omega
def MC (g o b : Nat) (x y : WrB) (W : World) : Prop := W.cell? ⟨g, o, none⟩ = some (.int .i64 x.t) ∧ W.cell? ⟨g, o + 1, none⟩ = some (.int .i64 x.r) ∧ W.cell? ⟨g, o + 2, none⟩ = some (.int .i64 x.k) ∧ W.cell? ⟨g, o + 3, none⟩ = some (.string x.key) ∧ W.cell? ⟨g, o + 4, none⟩ = some (.string x.val) ∧ W.cell? ⟨g, o + 5, none⟩ = some (.int .i64 x.n) ∧
 W.cell? ⟨b, 0, none⟩ = some (.int .i64 y.t) ∧ W.cell? ⟨b, 1, none⟩ = some (.int .i64 y.r) ∧ W.cell? ⟨b, 2, none⟩ = some (.int .i64 y.k) ∧ W.cell? ⟨b, 3, none⟩ = some (.string y.key) ∧ W.cell? ⟨b, 4, none⟩ = some (.string y.val) ∧ W.cell? ⟨b, 5, none⟩ = some (.int .i64 y.n)
theorem MC.below {W W' : World} {g o b : Nat} {x y : WrB} (h : MC g o b x y W) (hb : Below W.heap.size W W') : MC g o b x y W' := by
 obtain ⟨h1, h2, h3, h4, h5, h6, h7, h8, h9, ha, hc, hd⟩ := h
 exact ⟨cell_below hb h1, cell_below hb h2, cell_below hb h3, cell_below hb h4, cell_below hb h5, cell_below hb h6, cell_below hb h7, cell_below hb h8, cell_below hb h9, cell_below hb ha, cell_below hb hc, cell_below hb hd⟩
theorem pair_lt {l : List WrB} (hs : l.Pairwise fun a b => cmpW a b < 0) {i j : Nat} (hi : i < l.length) (hj : j < l.length) (h : i < j) : cmpW l[i] l[j] < 0 := List.pairwise_iff_getElem.1 hs i j hi hj h
/-- Where a write would stand: all ahead of it are earlier, none behind it is. -/
def Place (l : List WrB) (y : WrB) (i : Nat) : Prop := i ≤ l.length ∧ (∀ k (h : k < l.length), k < i → cmpW l[k] y < 0) ∧ (∀ k (h : k < l.length), i ≤ k → 0 ≤ cmpW l[k] y)
set_option maxHeartbeats 4000000 in
theorem find_wr (v : Value) (l : List WrB) (y : WrB) (w : World) (hv : WrsIs w v l) (hl : l.length ≤ 1000) (hs : l.Pairwise fun a b => cmpW a b < 0) :
  Calls Tryz.prog 38 #[v, .agg (wrBCells y).toArray, .func (.func 39) #[] #[]] w fun e w' => (∃ i, e = .returned (.tuple #[.int .i64 (i : Nat), .bool (decide (∃ h : i < l.length, cmpW l[i] y = 0))]) ∧ Place l y i) ∧ Below w.heap.size w w' := by
 obtain ⟨o, c, rfl, -, hcell⟩ := ListIs.at hv wrBCells_len
 clear hv
 replace hcell := Lib.hid hcell
 replace hs := Lib.hid hs
 (try unfold wrBCells)
 go_enter Tryz.func38, Tryz.ntmps38
 go_wp2
 have q0 := row_at (w := w) (g := w.heap.size) #[.int .i64 y.t, .int .i64 y.r, .int .i64 y.k, .string y.key, .string y.val, .int .i64 y.n] 33 rfl
 have hb0 : Below w.heap.size w (w.alloc (Obj.cells #[.int .i64 y.t, .int .i64 y.r, .int .i64 y.k, .string y.key, .string y.val, .int .i64 y.n] 33)) := by exact blw
 generalize w.alloc (Obj.cells #[.int .i64 y.t, .int .i64 y.r, .int .i64 y.k, .string y.key, .string y.val, .int .i64 y.n] 33) = w1 at *
 have hs1 := hb0.size
 replace q0 := Lib.hid q0
 replace hb0 := Lib.hid hb0
 go_loopw [9, 10] (fun i j wr => ∃ a b : Nat, i = .int .i64 a ∧ j = .int .i64 b ∧ a ≤ b ∧ b ≤ l.length ∧ (∀ k (h : k < l.length), k < a → cmpW l[k] y < 0) ∧ (∀ k (h : k < l.length), b ≤ k → 0 ≤ cmpW l[k] y) ∧ Below w1.heap.size w1 wr) (fun i j _ => (intOf j).toNat - (intOf i).toNat)
 case atStart => exact ⟨0, l.length, rfl, rfl, by omega, by omega, fun k h h2 => by omega, fun k h h2 => by omega, Below.refl _ _⟩
 case round =>
  obtain ⟨a, b, rfl, rfl, hab, hbl, hlo, hhi, hb⟩ := hrel
  replace hlo := Lib.hid hlo
  replace hhi := Lib.hid hhi
  have qb := q0.out.below hb
  have hbw := hb0.out.trans (hb.mono hs1)
  by_cases hlt : a < b
  ·obtain ⟨h, hh⟩ : ∃ h, h = (a + b) / 2 := ⟨_, rfl⟩
   have hha : a ≤ h := by omega
   have hhb : h < b := by omega
   have hhl : h < l.length := by omega
   have e1 : IntKind.i64.wrap ((a : Int) + (b : Int)) = (a : Int) + (b : Int) := by rw [IntKind.wrap_i64]; omega
   have e2 : IntKind.u64.wrap ((a : Int) + (b : Int)) = (a : Int) + (b : Int) := by rw [IntKind.wrap_u64]; omega
   have e3 : ((a : Int) + (b : Int)) / 2 = (h : Int) := by omega
   replace hh := Lib.hid hh
   obtain ⟨b1, f1, rfl, hb1, hc1⟩ := hcell.out h hhl
   have hb1 := hb1 (by omega)
   have g1 : ∀ (j : Nat) (u : Value), (wrBCells l[h])[j]? = some u → wr.cell? ⟨b1, f1 + h * 6 + j, none⟩ = some u := fun j u hu => (hbw.cell (p := ⟨b1, f1 + h * 6 + j, none⟩) hb1).trans (hc1 j u hu)
   have c0 : wr.cell? ⟨b1, f1 + h * 6, none⟩ = _ := g1 0 _ rfl
   have c1 := g1 1 _ rfl
   have c2 := g1 2 _ rfl
   have c3 := g1 3 _ rfl
   have c4 := g1 4 _ rfl
   have c5 := g1 5 _ rfl
   obtain ⟨d0, d1, d2, d3, d4, d5⟩ := qb.c6
   clear g1 hc1
   go_wp2_with fail
   obtain ⟨x, hx⟩ : ∃ x, x = l[h] := ⟨_, rfl⟩
   rw [← hx] at c0 c1 c2 c3 c4 c5
   have hS0 : MC b1 (f1 + h * 6) w.heap.size x y wr.drew := ⟨c0, c1, c2, c3, c4, c5, d0, d1, d2, d3, d4, d5⟩
   clear c0 c1 c2 c3 c4 c5 d0 d1 d2 d3 d4 d5 e1 e2 e3
   obtain ⟨cv, hcv⟩ : ∃ cv, cv = cmpW x y := ⟨_, rfl⟩
   have hA : ∀ W, Calls Tryz.prog 39 #[.agg (wrBCells x).toArray, .agg (wrBCells y).toArray] W fun e w' => e = .returned (.int .i64 cv) ∧ Below W.heap.size W w' := fun W => by rw [hcv]; exact accept_less x y W
   replace hA := Lib.hid hA
   rw [hx] at hcv
   replace hx := Lib.hid hx
   replace hcv := Lib.hid hcv
   (refine wp_region_held_drew (S := (MC b1 (f1 + h * 6) w.heap.size x y)) (by kernel_rfl) ?_ (fun hHeld => ?_); ((try dsimp only); exact hS0))
   clear hS0
   (refine tkO 0 ?_; refine tkO 1 ?_; refine tkO 2 ?_; refine tkO 3 ?_; refine tkO 4 ?_; refine tkO 5 ?_)
   (refine tdoO 6 (fun K hK => ?_); ((go_simp; refine (hA.out _).mono ?_; rintro _ w8 ⟨rfl, hb8⟩); refine hK.out _ _ ?_ (fun hHeld => ?_); ((try dsimp only); exact MC.below hHeld hb8); clear hK K; (try clear hHeld0); (try rename_i hHeld0)))
   (refine tkO 7 ?_)
   (refine wpAnyH_done (by kernel_rfl) ?_ _)
   have hb' := bch (bdr hb) hb8
   clear hHeld hHeld0 hA hb8
   by_cases hc : cv < 0
   ·have hlo' : ∀ k (hk : k < l.length), k < h + 1 → cmpW l[k] y < 0 := fun k hk hk2 => by
     have h0 : cmpW l[h] y < 0 := by rw [← hcv.out]; exact hc
     by_cases e : k = h
     ·subst e; exact h0
     ·exact cmpW_trans (pair_lt hs.out hk hhl (by omega)) h0
    replace hlo' := Lib.hid hlo'
    go_wp2
    go_roundw
    case rel => exact ⟨h + 1, b, by go_num, rfl, by omega, hbl, hlo'.out, hhi.out, hb'⟩
    case measure => simp [intOf]; omega
   ·have hhi' : ∀ k (hk : k < l.length), h ≤ k → 0 ≤ cmpW l[k] y := fun k hk hk2 => by
     refine Int.not_lt.1 fun h1 => ?_
     by_cases e : k = h
     ·subst e; exact hc (by rw [hcv.out]; exact h1)
     ·exact hc (by rw [hcv.out]; exact cmpW_trans (pair_lt hs.out hhl hk (by omega)) h1)
    have hc2 : 0 ≤ cv := by omega
    replace hhi' := Lib.hid hhi'
    go_wp2
    go_roundw
    case rel => exact ⟨a, h, rfl, rfl, by omega, by omega, hlo.out, hhi'.out, hb'⟩
    case measure => simp [intOf]; omega
  ·obtain rfl : a = b := by omega
   have hpl : Hid (Place l y a) := Lib.hid ⟨hbl, hlo.out, hhi.out⟩
   clear hlo hhi
   by_cases han : a < l.length
   ·obtain ⟨b1, f1, rfl, hb1, hc1⟩ := hcell.out a han
    have hb1 := hb1 (by omega)
    have g1 : ∀ (j : Nat) (u : Value), (wrBCells l[a])[j]? = some u → wr.cell? ⟨b1, f1 + a * 6 + j, none⟩ = some u := fun j u hu => (hbw.cell (p := ⟨b1, f1 + a * 6 + j, none⟩) hb1).trans (hc1 j u hu)
    obtain ⟨d0, d1, d2, d3, d4, d5⟩ := qb.c6
    obtain ⟨x, hx⟩ : ∃ x, x = l[a] := ⟨_, rfl⟩
    rw [← hx] at g1
    have hS0 : MC b1 (f1 + a * 6) w.heap.size x y wr.drew := ⟨g1 0 _ rfl, g1 1 _ rfl, g1 2 _ rfl, g1 3 _ rfl, g1 4 _ rfl, g1 5 _ rfl, d0, d1, d2, d3, d4, d5⟩
    clear g1 hc1 d0 d1 d2 d3 d4 d5
    obtain ⟨cv, hcv⟩ : ∃ cv, cv = cmpW x y := ⟨_, rfl⟩
    have hA : ∀ W, Calls Tryz.prog 39 #[.agg (wrBCells x).toArray, .agg (wrBCells y).toArray] W fun e w' => e = .returned (.int .i64 cv) ∧ Below W.heap.size W w' := fun W => by rw [hcv]; exact accept_less x y W
    replace hA := Lib.hid hA
    rw [hx] at hcv
    replace hx := Lib.hid hx
    replace hcv := Lib.hid hcv
    go_wp2_with fail
    (refine wp_region_held_drew (S := (MC b1 (f1 + a * 6) w.heap.size x y)) (by kernel_rfl) ?_ (fun hHeld => ?_); ((try dsimp only); exact hS0))
    clear hS0
    (refine tkO 0 ?_; refine tkO 1 ?_; refine tkO 2 ?_; refine tkO 3 ?_; refine tkO 4 ?_; refine tkO 5 ?_; refine tkO 6 ?_; refine tkO 7 ?_; refine tkO 8 ?_; refine tkO 9 ?_; refine tkO 10 ?_)
    (refine tdoO 11 (fun K hK => ?_); ((go_simp; refine (hA.out _).mono ?_; rintro _ w8 ⟨rfl, hb8⟩); refine hK.out _ _ ?_ (fun hHeld => ?_); ((try dsimp only); exact MC.below hHeld hb8); clear hK K; (try clear hHeld0); (try rename_i hHeld0)))
    (refine tkO 12 ?_; refine tkO 13 ?_; refine tkO 14 ?_; refine tkO 15 ?_)
    (refine wpAnyH_done (by kernel_rfl) ?_ _)
    have hb' := bch (bdr hb) hb8
    clear hHeld hHeld0 hA hb8
    have hbo : (cv == 0) = decide (∃ h : a < l.length, cmpW l[a] y = 0) := by
     have hi : (∃ h : a < l.length, cmpW l[a] y = 0) ↔ cv = 0 := ⟨fun ⟨_, e⟩ => hcv.out.trans e, fun e => ⟨han, hcv.out.symm.trans e⟩⟩
     rw [Bool.eq_iff_iff]; simp only [beq_iff_eq, decide_eq_true_eq]; exact hi.symm
    replace hbo := Lib.hid hbo
    go_wp2
    go_ret2
    refine ⟨⟨a, ?_, hpl.out⟩, hb0.out.trans (hb'.mono hs1)⟩
    rw [← hbo.out]
    rfl
   ·have hbl2 : a = l.length := by omega
    subst hbl2
    clear han hlt hab hbl qb
    have hbo : false = decide (∃ h : l.length < l.length, cmpW l[l.length] y = 0) := by simp
    replace hbo := Lib.hid hbo
    go_wp2_with fail
    (refine wp_region_held_drew (S := (fun W => Below w1.heap.size w1 W)) (by kernel_rfl) ?_ (fun hHeld => ?_); ((try dsimp only); exact bdr hb))
    (refine tkO 0 ?_; refine tkO 1 ?_; refine tkO 2 ?_; refine tkO 3 ?_; refine tkO 4 ?_)
    (refine tofO 5 ?_; refine tofO 6 ?_; refine tofO 7 ?_; refine tofO 8 ?_; refine tofO 9 ?_; refine tofO 10 ?_; refine tofO 11 ?_; refine tofO 12 ?_)
    (refine tkO 13 ?_; refine tkO 14 ?_; refine tkO 15 ?_)
    (refine wpAnyH_done (by kernel_rfl) ?_ _)
    have hb' := hHeld
    go_wp2
    go_ret2
    refine ⟨⟨l.length, ?_, hpl.out⟩, hb0.out.trans (hb'.mono hs1)⟩
    rw [← hbo.out]
    rfl
end Go.Proofs.YtognjohloobliaaGreatDoor
/- Plain words for a log's Accept. -/
namespace Go.Proofs.YtognjohloobliaaGreatDoor
set_option linter.unusedVariables false
set_option linter.unusedSimpArgs false
namespace Lg
/-- Where a write stands among others. -/
def at_ (l : List WrB) (y : WrB) : Nat := (l.takeWhile fun x => decide (cmpW x y < 0)).length
theorem place_at : ∀ {l : List WrB} {y : WrB} {i : Nat}, Place l y i → i = at_ l y
 | [], y, i, h => by have := h.1; simp only [List.length_nil] at this; simp only [at_, List.takeWhile_nil, List.length_nil]; omega
 | x :: l, y, 0, h => by
  have h0 := h.2.2 0 (by simp) (by omega)
  simp only [List.getElem_cons_zero] at h0
  unfold at_
  rw [List.takeWhile_cons_of_neg (by simp; omega)]; rfl
 | x :: l, y, i + 1, h => by
  have h0 := h.2.1 0 (by simp) (by omega)
  simp only [List.getElem_cons_zero] at h0
  have ih : Place l y i := ⟨by have := h.1; simp only [List.length_cons] at this; omega, fun k hk hk2 => by
   have := h.2.1 (k + 1) (by simp; omega) (by omega)
   simpa using this, fun k hk hk2 => by
   have := h.2.2 (k + 1) (by simp; omega) (by omega)
   simpa using this⟩
  have := place_at ih
  unfold at_ at *
  rw [List.takeWhile_cons_of_pos (by simpa using h0), List.length_cons, ← this]
open Classical in
/-- The writes of a batch, one behind the other: what is written then, and how many were new; or what is wrong. -/
noncomputable def acc : List WrB → List WrB → Nat → Nat → Err ⊕ (List WrB × Nat)
 | next, [], _, many => .inr (next, many)
 | next, y :: ws, i, many =>
  if ∃ h : at_ next y < next.length, cmpW next[at_ next y] y = 0 then
   if next[at_ next y]? = some y then acc next ws (i + 1) many else .inl (.at_ 9 i)
  else acc (next.take (at_ next y) ++ [y] ++ next.drop (at_ next y)) ws (i + 1) (many + 1)
noncomputable def accept (m : Lg) (f h : List Vec.Entry) (ws : List WrB) : Err ⊕ (Lg × Nat) :=
 if Bat.right f h (ws.map WrB.plain) ≠ .ok then .inl (Bat.right f h (ws.map WrB.plain))
 else if coversB m.H f = false then .inl (.no 10)
 else match joined m.H h with
  | .inl e => .inl e
  | .inr H' => match acc m.W ws 0 0 with
   | .inl e => .inl e
   | .inr (W', n) => if 300 < W'.length then .inl (.no 12) else .inr (⟨m.rep, H', W'⟩, n)
/-- A list stays in order where a write is put at its place. -/
theorem put_sorted {l : List WrB} {y : WrB} {i : Nat} (hs : l.Pairwise fun a b => cmpW a b < 0) (hp : Place l y i) (hn : ¬ ∃ h : i < l.length, cmpW l[i] y = 0) : (l.take i ++ [y] ++ l.drop i).Pairwise fun a b => cmpW a b < 0 := by
 have hback : ∀ k (hk : k < l.length), i ≤ k → cmpW y l[k] < 0 := fun k hk hik => by
  have h0 := hp.2.2 k hk hik
  have hne : cmpW l[k] y ≠ 0 := fun e => by
   rcases Nat.lt_or_ge i k with h | h
   ·have h1 := hp.2.2 i (by omega) (Nat.le_refl _)
    have h2 := pair_lt hs (by omega) hk h
    rw [cmpW_zero] at e
    rw [cmpW_neg] at h2
    have h3 : cmpW l[i] y < 0 := by rw [cmpW_neg]; omega
    omega
   ·obtain rfl : i = k := by omega
    exact hn ⟨hk, e⟩
  rw [cmpW_neg]
  have h1 : ¬ cmpW l[k] y < 0 := by omega
  rw [cmpW_neg] at h1
  rw [Ne, cmpW_zero] at hne
  omega
 rw [List.append_assoc, List.pairwise_append]
 refine ⟨hs.sublist (List.take_sublist _ _), ?_, fun a ha b hb => ?_⟩
 ·rw [List.singleton_append, List.pairwise_cons]
  refine ⟨fun b hb => ?_, hs.sublist (List.drop_sublist _ _)⟩
  obtain ⟨k, hk, rfl⟩ := List.getElem_of_mem hb
  rw [List.getElem_drop]
  exact hback _ _ (by omega)
 ·obtain ⟨k, hk, rfl⟩ := List.getElem_of_mem ha
  rw [List.length_take] at hk
  rw [List.getElem_take]
  have hky := hp.2.1 k (by omega) (by omega)
  rw [List.singleton_append] at hb
  rcases List.mem_cons.1 hb with rfl | hb
  ·exact hky
  ·obtain ⟨j, hj, rfl⟩ := List.getElem_of_mem hb
   rw [List.getElem_drop]
   exact cmpW_trans hky (hback _ _ (by omega))
end Lg
end Go.Proofs.YtognjohloobliaaGreatDoor
