/- The walks of Accept's closure, and of slices.BinarySearchFunc over writes. -/
import Derived.Test.YtognjohloobliaaGreatDoorJ26
import Derived.Test.YtognjohloobliaaGreatDoorJ13
import Derived.Test.YtognjohloobliaaGreatDoorJ14
namespace Go.Proofs.YtognjohloobliaaGreatDoor
open Go.RowKit
set_option linter.unusedVariables false
set_option linter.unusedSimpArgs false
def cmpW (x y : WrB) : Int := orInt (cmp2 x.t y.t) (cmp2 x.r y.r)
set_option maxHeartbeats 1000000 in
theorem accept_less (x y : WrB) (W : World) : Calls Tryz.prog 39 #[.agg (wrBCells x).toArray, .agg (wrBCells y).toArray] W fun e w' => e = .returned (.int .i64 (cmpW x y)) ∧ Below W.heap.size W w' := by
 have hc := Lib.hid (fun W => ident_compare x.t x.r y.t y.r W)
 unfold wrBCells
 go_enter Tryz.func39, Tryz.ntmps39
 go_wp2_with (go_at_call 24; refine (hc.out _).mono ?_; rintro e w' ⟨rfl, hb⟩)
 go_ret
 exact ⟨rfl, by exact blw⟩
theorem cmp2_neg {a b : Int} : cmp2 a b < 0 ↔ a < b := by unfold cmp2; split <;> (try split) <;> omega
theorem cmp2_zero {a b : Int} : cmp2 a b = 0 ↔ a = b := by unfold cmp2; split <;> (try split) <;> omega
theorem cmpW_neg {x y : WrB} : cmpW x y < 0 ↔ (x.t < y.t ∨ (x.t = y.t ∧ x.r < y.r)) := by
 unfold cmpW orInt
 by_cases h : cmp2 x.t y.t = 0
 ·rw [if_pos h, cmp2_neg]
  have := cmp2_zero.1 h
  omega
 ·rw [if_neg h, cmp2_neg]
  have : x.t ≠ y.t := fun e => h (cmp2_zero.2 e)
  omega
theorem cmpW_zero {x y : WrB} : cmpW x y = 0 ↔ (x.t = y.t ∧ x.r = y.r) := by
 unfold cmpW orInt
 by_cases h : cmp2 x.t y.t = 0
 ·rw [if_pos h, cmp2_zero]
  have := cmp2_zero.1 h
  omega
 ·rw [if_neg h]
  have : x.t ≠ y.t := fun e => h (cmp2_zero.2 e)
  constructor
  ·intro e; exact absurd e h
  ·intro e; exact absurd e.1 this
theorem cmpW_trans {x y z : WrB} (h1 : cmpW x y < 0) (h2 : cmpW y z < 0) : cmpW x z < 0 := by
 rw [cmpW_neg] at *; omega
def MC (g o b : Nat) (x y : WrB) (W : World) : Prop := W.cell? ⟨g, o, none⟩ = some (.int .i64 x.t) ∧ W.cell? ⟨g, o + 1, none⟩ = some (.int .i64 x.r) ∧ W.cell? ⟨g, o + 2, none⟩ = some (.int .i64 x.k) ∧ W.cell? ⟨g, o + 3, none⟩ = some (.string x.key) ∧ W.cell? ⟨g, o + 4, none⟩ = some (.string x.val) ∧ W.cell? ⟨g, o + 5, none⟩ = some (.int .i64 x.n) ∧
 W.cell? ⟨b, 0, none⟩ = some (.int .i64 y.t) ∧ W.cell? ⟨b, 1, none⟩ = some (.int .i64 y.r) ∧ W.cell? ⟨b, 2, none⟩ = some (.int .i64 y.k) ∧ W.cell? ⟨b, 3, none⟩ = some (.string y.key) ∧ W.cell? ⟨b, 4, none⟩ = some (.string y.val) ∧ W.cell? ⟨b, 5, none⟩ = some (.int .i64 y.n)
theorem MC.below {W W' : World} {g o b : Nat} {x y : WrB} (h : MC g o b x y W) (hb : Below W.heap.size W W') : MC g o b x y W' := by
 obtain ⟨h1, h2, h3, h4, h5, h6, h7, h8, h9, ha, hc, hd⟩ := h
 exact ⟨cell_below hb h1, cell_below hb h2, cell_below hb h3, cell_below hb h4, cell_below hb h5, cell_below hb h6, cell_below hb h7, cell_below hb h8, cell_below hb h9, cell_below hb ha, cell_below hb hc, cell_below hb hd⟩
theorem pair_lt {l : List WrB} (hs : l.Pairwise fun a b => cmpW a b < 0) {i j : Nat} (hi : i < l.length) (hj : j < l.length) (h : i < j) : cmpW l[i] l[j] < 0 := List.pairwise_iff_getElem.1 hs i j hi hj h
/-- Where a write would stand: all ahead of it are earlier, none behind it is. -/
def Place (l : List WrB) (y : WrB) (i : Nat) : Prop := i ≤ l.length ∧ (∀ k (h : k < l.length), k < i → cmpW l[k] y < 0) ∧ (∀ k (h : k < l.length), i ≤ k → 0 ≤ cmpW l[k] y)
set_option maxHeartbeats 4000000 in
theorem find_wr (v : Value) (l : List WrB) (y : WrB) (w : World) (hv : WrsIs w v l) (hl : l.length ≤ 1000) (hs : l.Pairwise fun a b => cmpW a b < 0) :
  Calls Tryz.prog 38 #[v, .agg (wrBCells y).toArray, .func (.func 39) #[] #[]] w fun e w' => (∃ i, e = .returned (.tuple #[.int .i64 (i : Nat), .bool (decide (∃ h : i < l.length, cmpW l[i] y = 0))]) ∧ Place l y i) ∧ Below w.heap.size w w' := by
 obtain ⟨o, c, rfl, -, hcell⟩ := ListIs.at hv wrBCells_len
 clear hv
 replace hcell := Lib.hid hcell
 replace hs := Lib.hid hs
 (try unfold wrBCells)
 go_enter Tryz.func38, Tryz.ntmps38
 go_wp2
 have q0 := row_at (w := w) (g := w.heap.size) #[.int .i64 y.t, .int .i64 y.r, .int .i64 y.k, .string y.key, .string y.val, .int .i64 y.n] 33 rfl
 have hb0 : Below w.heap.size w (w.alloc (Obj.cells #[.int .i64 y.t, .int .i64 y.r, .int .i64 y.k, .string y.key, .string y.val, .int .i64 y.n] 33)) := by exact blw
 generalize w.alloc (Obj.cells #[.int .i64 y.t, .int .i64 y.r, .int .i64 y.k, .string y.key, .string y.val, .int .i64 y.n] 33) = w1 at *
 have hs1 := hb0.size
 replace q0 := Lib.hid q0
 replace hb0 := Lib.hid hb0
 go_loopw [9, 10] (fun i j wr => ∃ a b : Nat, i = .int .i64 a ∧ j = .int .i64 b ∧ a ≤ b ∧ b ≤ l.length ∧ (∀ k (h : k < l.length), k < a → cmpW l[k] y < 0) ∧ (∀ k (h : k < l.length), b ≤ k → 0 ≤ cmpW l[k] y) ∧ Below w1.heap.size w1 wr) (fun i j _ => (intOf j).toNat - (intOf i).toNat)
 case atStart => exact ⟨0, l.length, rfl, rfl, by omega, by omega, fun k h h2 => by omega, fun k h h2 => by omega, Below.refl _ _⟩
 case round =>
  obtain ⟨a, b, rfl, rfl, hab, hbl, hlo, hhi, hb⟩ := hrel
  replace hlo := Lib.hid hlo
  replace hhi := Lib.hid hhi
  have qb := q0.out.below hb
  have hbw := hb0.out.trans (hb.mono hs1)
  by_cases hlt : a < b
  ·obtain ⟨h, hh⟩ : ∃ h, h = (a + b) / 2 := ⟨_, rfl⟩
   have hha : a ≤ h := by omega
   have hhb : h < b := by omega
   have hhl : h < l.length := by omega
   have e1 : IntKind.i64.wrap ((a : Int) + (b : Int)) = (a : Int) + (b : Int) := by rw [IntKind.wrap_i64]; omega
   have e2 : IntKind.u64.wrap ((a : Int) + (b : Int)) = (a : Int) + (b : Int) := by rw [IntKind.wrap_u64]; omega
   have e3 : ((a : Int) + (b : Int)) / 2 = (h : Int) := by omega
   replace hh := Lib.hid hh
   obtain ⟨b1, f1, rfl, hb1, hc1⟩ := hcell.out h hhl
   have hb1 := hb1 (by omega)
   have g1 : ∀ (j : Nat) (u : Value), (wrBCells l[h])[j]? = some u → wr.cell? ⟨b1, f1 + h * 6 + j, none⟩ = some u := fun j u hu => (hbw.cell (p := ⟨b1, f1 + h * 6 + j, none⟩) hb1).trans (hc1 j u hu)
   have c0 : wr.cell? ⟨b1, f1 + h * 6, none⟩ = _ := g1 0 _ rfl
   have c1 := g1 1 _ rfl
   have c2 := g1 2 _ rfl
   have c3 := g1 3 _ rfl
   have c4 := g1 4 _ rfl
   have c5 := g1 5 _ rfl
   obtain ⟨d0, d1, d2, d3, d4, d5⟩ := qb.c6
   clear g1 hc1
   go_wp2_with fail
   obtain ⟨x, hx⟩ : ∃ x, x = l[h] := ⟨_, rfl⟩
   rw [← hx] at c0 c1 c2 c3 c4 c5
   have hS0 : MC b1 (f1 + h * 6) w.heap.size x y wr.drew := ⟨c0, c1, c2, c3, c4, c5, d0, d1, d2, d3, d4, d5⟩
   clear c0 c1 c2 c3 c4 c5 d0 d1 d2 d3 d4 d5 e1 e2 e3
   obtain ⟨cv, hcv⟩ : ∃ cv, cv = cmpW x y := ⟨_, rfl⟩
   have hA : ∀ W, Calls Tryz.prog 39 #[.agg (wrBCells x).toArray, .agg (wrBCells y).toArray] W fun e w' => e = .returned (.int .i64 cv) ∧ Below W.heap.size W w' := fun W => by rw [hcv]; exact accept_less x y W
   replace hA := Lib.hid hA
   rw [hx] at hcv
   replace hx := Lib.hid hx
   replace hcv := Lib.hid hcv
   (refine wp_region_held_drew (S := (MC b1 (f1 + h * 6) w.heap.size x y)) (by kernel_rfl) ?_ (fun hHeld => ?_); ((try dsimp only); exact hS0))
   clear hS0
   (refine tkO 0 ?_; refine tkO 1 ?_; refine tkO 2 ?_; refine tkO 3 ?_; refine tkO 4 ?_; refine tkO 5 ?_)
   (refine tdoO 6 (fun K hK => ?_); ((go_simp; refine (hA.out _).mono ?_; rintro _ w8 ⟨rfl, hb8⟩); refine hK.out _ _ ?_ (fun hHeld => ?_); ((try dsimp only); exact MC.below hHeld hb8); clear hK K; (try clear hHeld0); (try rename_i hHeld0)))
   (refine tkO 7 ?_)
   (refine wpAnyH_done (by kernel_rfl) ?_ _)
   have hb' := bch (bdr hb) hb8
   clear hHeld hHeld0 hA hb8
   by_cases hc : cv < 0
   ·have hlo' : ∀ k (hk : k < l.length), k < h + 1 → cmpW l[k] y < 0 := fun k hk hk2 => by
     have h0 : cmpW l[h] y < 0 := by rw [← hcv.out]; exact hc
     by_cases e : k = h
     ·subst e; exact h0
     ·exact cmpW_trans (pair_lt hs.out hk hhl (by omega)) h0
    replace hlo' := Lib.hid hlo'
    go_wp2
    go_roundw
    case rel => exact ⟨h + 1, b, by go_num, rfl, by omega, hbl, hlo'.out, hhi.out, hb'⟩
    case measure => simp [intOf]; omega
   ·have hhi' : ∀ k (hk : k < l.length), h ≤ k → 0 ≤ cmpW l[k] y := fun k hk hk2 => by
     refine Int.not_lt.1 fun h1 => ?_
     by_cases e : k = h
     ·subst e; exact hc (by rw [hcv.out]; exact h1)
     ·exact hc (by rw [hcv.out]; exact cmpW_trans (pair_lt hs.out hhl hk (by omega)) h1)
    have hc2 : 0 ≤ cv := by omega
    replace hhi' := Lib.hid hhi'
    go_wp2
    go_roundw
    case rel => exact ⟨a, h, rfl, rfl, by omega, by omega, hlo.out, hhi'.out, hb'⟩
    case measure => simp [intOf]; omega
  ·obtain rfl : a = b := by omega
   have hpl : Hid (Place l y a) := Lib.hid ⟨hbl, hlo.out, hhi.out⟩
   clear hlo hhi
   by_cases han : a < l.length
   ·obtain ⟨b1, f1, rfl, hb1, hc1⟩ := hcell.out a han
    have hb1 := hb1 (by omega)
    have g1 : ∀ (j : Nat) (u : Value), (wrBCells l[a])[j]? = some u → wr.cell? ⟨b1, f1 + a * 6 + j, none⟩ = some u := fun j u hu => (hbw.cell (p := ⟨b1, f1 + a * 6 + j, none⟩) hb1).trans (hc1 j u hu)
    obtain ⟨d0, d1, d2, d3, d4, d5⟩ := qb.c6
    obtain ⟨x, hx⟩ : ∃ x, x = l[a] := ⟨_, rfl⟩
    rw [← hx] at g1
    have hS0 : MC b1 (f1 + a * 6) w.heap.size x y wr.drew := ⟨g1 0 _ rfl, g1 1 _ rfl, g1 2 _ rfl, g1 3 _ rfl, g1 4 _ rfl, g1 5 _ rfl, d0, d1, d2, d3, d4, d5⟩
    clear g1 hc1 d0 d1 d2 d3 d4 d5
    obtain ⟨cv, hcv⟩ : ∃ cv, cv = cmpW x y := ⟨_, rfl⟩
    have hA : ∀ W, Calls Tryz.prog 39 #[.agg (wrBCells x).toArray, .agg (wrBCells y).toArray] W fun e w' => e = .returned (.int .i64 cv) ∧ Below W.heap.size W w' := fun W => by rw [hcv]; exact accept_less x y W
    replace hA := Lib.hid hA
    rw [hx] at hcv
    replace hx := Lib.hid hx
    replace hcv := Lib.hid hcv
    go_wp2_with fail
    (refine wp_region_held_drew (S := (MC b1 (f1 + a * 6) w.heap.size x y)) (by kernel_rfl) ?_ (fun hHeld => ?_); ((try dsimp only); exact hS0))
    clear hS0
    (refine tkO 0 ?_; refine tkO 1 ?_; refine tkO 2 ?_; refine tkO 3 ?_; refine tkO 4 ?_; refine tkO 5 ?_; refine tkO 6 ?_; refine tkO 7 ?_; refine tkO 8 ?_; refine tkO 9 ?_; refine tkO 10 ?_)
    (refine tdoO 11 (fun K hK => ?_); ((go_simp; refine (hA.out _).mono ?_; rintro _ w8 ⟨rfl, hb8⟩); refine hK.out _ _ ?_ (fun hHeld => ?_); ((try dsimp only); exact MC.below hHeld hb8); clear hK K; (try clear hHeld0); (try rename_i hHeld0)))
    (refine tkO 12 ?_; refine tkO 13 ?_; refine tkO 14 ?_; refine tkO 15 ?_)
    (refine wpAnyH_done (by kernel_rfl) ?_ _)
    have hb' := bch (bdr hb) hb8
    clear hHeld hHeld0 hA hb8
    have hbo : (cv == 0) = decide (∃ h : a < l.length, cmpW l[a] y = 0) := by
     have hi : (∃ h : a < l.length, cmpW l[a] y = 0) ↔ cv = 0 := ⟨fun ⟨_, e⟩ => hcv.out.trans e, fun e => ⟨han, hcv.out.symm.trans e⟩⟩
     rw [Bool.eq_iff_iff]; simp only [beq_iff_eq, decide_eq_true_eq]; exact hi.symm
    replace hbo := Lib.hid hbo
    go_wp2
    go_ret2
    refine ⟨⟨a, ?_, hpl.out⟩, hb0.out.trans (hb'.mono hs1)⟩
    rw [← hbo.out]
    rfl
   ·have hbl2 : a = l.length := by omega
    subst hbl2
    clear han hlt hab hbl qb
    have hbo : false = decide (∃ h : l.length < l.length, cmpW l[l.length] y = 0) := by simp
    replace hbo := Lib.hid hbo
    go_wp2_with fail
    (refine wp_region_held_drew (S := (fun W => Below w1.heap.size w1 W)) (by kernel_rfl) ?_ (fun hHeld => ?_); ((try dsimp only); exact bdr hb))
    (refine tkO 0 ?_; refine tkO 1 ?_; refine tkO 2 ?_; refine tkO 3 ?_; refine tkO 4 ?_)
    (refine tofO 5 ?_; refine tofO 6 ?_; refine tofO 7 ?_; refine tofO 8 ?_; refine tofO 9 ?_; refine tofO 10 ?_; refine tofO 11 ?_; refine tofO 12 ?_)
    (refine tkO 13 ?_; refine tkO 14 ?_; refine tkO 15 ?_)
    (refine wpAnyH_done (by kernel_rfl) ?_ _)
    have hb' := hHeld
    go_wp2
    go_ret2
    refine ⟨⟨l.length, ?_, hpl.out⟩, hb0.out.trans (hb'.mono hs1)⟩
    rw [← hbo.out]
    rfl
end Go.Proofs.YtognjohloobliaaGreatDoor
/- Plain words for a log's Accept. -/
namespace Go.Proofs.YtognjohloobliaaGreatDoor
set_option linter.unusedVariables false
set_option linter.unusedSimpArgs false
namespace Lg
/-- Where a write stands among others. -/
def at_ (l : List WrB) (y : WrB) : Nat := (l.takeWhile fun x => decide (cmpW x y < 0)).length
theorem place_at : ∀ {l : List WrB} {y : WrB} {i : Nat}, Place l y i → i = at_ l y
 | [], y, i, h => by have := h.1; simp only [List.length_nil] at this; simp only [at_, List.takeWhile_nil, List.length_nil]; omega
 | x :: l, y, 0, h => by
  have h0 := h.2.2 0 (by simp) (by omega)
  simp only [List.getElem_cons_zero] at h0
  unfold at_
  rw [List.takeWhile_cons_of_neg (by simp; omega)]; rfl
 | x :: l, y, i + 1, h => by
  have h0 := h.2.1 0 (by simp) (by omega)
  simp only [List.getElem_cons_zero] at h0
  have ih : Place l y i := ⟨by have := h.1; simp only [List.length_cons] at this; omega, fun k hk hk2 => by
   have := h.2.1 (k + 1) (by simp; omega) (by omega)
   simpa using this, fun k hk hk2 => by
   have := h.2.2 (k + 1) (by simp; omega) (by omega)
   simpa using this⟩
  have := place_at ih
  unfold at_ at *
  rw [List.takeWhile_cons_of_pos (by simpa using h0), List.length_cons, ← this]
open Classical in
/-- The writes of a batch, one behind the other: what is written then, and how many were new; or what is wrong. -/
noncomputable def acc : List WrB → List WrB → Nat → Nat → Err ⊕ (List WrB × Nat)
 | next, [], _, many => .inr (next, many)
 | next, y :: ws, i, many =>
  if ∃ h : at_ next y < next.length, cmpW next[at_ next y] y = 0 then
   if next[at_ next y]? = some y then acc next ws (i + 1) many else .inl (.at_ 9 i)
  else acc (next.take (at_ next y) ++ [y] ++ next.drop (at_ next y)) ws (i + 1) (many + 1)
noncomputable def accept (m : Lg) (f h : List Vec.Entry) (ws : List WrB) : Err ⊕ (Lg × Nat) :=
 if Bat.right f h (ws.map WrB.plain) ≠ .ok then .inl (Bat.right f h (ws.map WrB.plain))
 else if coversB m.H f = false then .inl (.no 10)
 else match joined m.H h with
  | .inl e => .inl e
  | .inr H' => match acc m.W ws 0 0 with
   | .inl e => .inl e
   | .inr (W', n) => if 300 < W'.length then .inl (.no 12) else .inr (⟨m.rep, H', W'⟩, n)
/-- A list stays in order where a write is put at its place. -/
theorem put_sorted {l : List WrB} {y : WrB} {i : Nat} (hs : l.Pairwise fun a b => cmpW a b < 0) (hp : Place l y i) (hn : ¬ ∃ h : i < l.length, cmpW l[i] y = 0) : (l.take i ++ [y] ++ l.drop i).Pairwise fun a b => cmpW a b < 0 := by
 have hback : ∀ k (hk : k < l.length), i ≤ k → cmpW y l[k] < 0 := fun k hk hik => by
  have h0 := hp.2.2 k hk hik
  have hne : cmpW l[k] y ≠ 0 := fun e => by
   rcases Nat.lt_or_ge i k with h | h
   ·have h1 := hp.2.2 i (by omega) (Nat.le_refl _)
    have h2 := pair_lt hs (by omega) hk h
    rw [cmpW_zero] at e
    rw [cmpW_neg] at h2
    have h3 : cmpW l[i] y < 0 := by rw [cmpW_neg]; omega
    omega
   ·obtain rfl : i = k := by omega
    exact hn ⟨hk, e⟩
  rw [cmpW_neg]
  have h1 : ¬ cmpW l[k] y < 0 := by omega
  rw [cmpW_neg] at h1
  rw [Ne, cmpW_zero] at hne
  omega
 rw [List.append_assoc, List.pairwise_append]
 refine ⟨hs.sublist (List.take_sublist _ _), ?_, fun a ha b hb => ?_⟩
 ·rw [List.singleton_append, List.pairwise_cons]
  refine ⟨fun b hb => ?_, hs.sublist (List.drop_sublist _ _)⟩
  obtain ⟨k, hk, rfl⟩ := List.getElem_of_mem hb
  rw [List.getElem_drop]
  exact hback _ _ (by omega)
 ·obtain ⟨k, hk, rfl⟩ := List.getElem_of_mem ha
  rw [List.length_take] at hk
  rw [List.getElem_take]
  have hky := hp.2.1 k (by omega) (by omega)
  rw [List.singleton_append] at hb
  rcases List.mem_cons.1 hb with rfl | hb
  ·exact hky
  ·obtain ⟨j, hj, rfl⟩ := List.getElem_of_mem hb
   rw [List.getElem_drop]
   exact cmpW_trans hky (hback _ _ (by omega))
end Lg
end Go.Proofs.YtognjohloobliaaGreatDoor
/- Plain laws of logs that take what others send. -/
namespace Go.Proofs.YtognjohloobliaaGreatDoor
set_option linter.unusedVariables false
set_option linter.unusedSimpArgs false
namespace Lg
/-- Rising, each id once. -/
def Asc (l : List WrB) : Prop := l.Pairwise fun a b => cmpW a b < 0
theorem cmp_refl (x : WrB) : cmpW x x = 0 := cmpW_zero.2 ⟨rfl, rfl⟩
theorem not_lt_self (x : WrB) : ¬ cmpW x x < 0 := by rw [cmp_refl]; omega
theorem lt_asymm {x y : WrB} (h : cmpW x y < 0) : ¬ cmpW y x < 0 := by rw [cmpW_neg] at *; omega
theorem asc_cons {x : WrB} {l : List WrB} : Asc (x :: l) ↔ (∀ y ∈ l, cmpW x y < 0) ∧ Asc l := List.pairwise_cons
theorem asc_ext : ∀ {a b : List WrB}, Asc a → Asc b → (∀ x, x ∈ a ↔ x ∈ b) → a = b
 | [], b, _, _, h => by
  cases b with
  | nil => rfl
  | cons y b => exact absurd ((h y).2 (by simp)) (by simp)
 | x :: a, [], _, _, h => absurd ((h x).1 (by simp)) (by simp)
 | x :: a, y :: b, ha, hb, h => by
  obtain ⟨a1, a2⟩ := asc_cons.1 ha
  obtain ⟨b1, b2⟩ := asc_cons.1 hb
  have hxy : x = y := by
   rcases List.mem_cons.1 ((h x).1 (by simp)) with e | e
   ·exact e
   rcases List.mem_cons.1 ((h y).2 (by simp)) with e2 | e2
   ·exact e2.symm
   exact absurd (a1 y e2) (lt_asymm (b1 x e))
  subst hxy
  rw [asc_ext a2 b2 fun z => ⟨fun hz => ?_, fun hz => ?_⟩]
  ·rcases List.mem_cons.1 ((h z).1 (List.mem_cons_of_mem _ hz)) with e | e
   ·subst e; exact absurd (a1 z hz) (not_lt_self z)
   ·exact e
  ·rcases List.mem_cons.1 ((h z).2 (List.mem_cons_of_mem _ hz)) with e | e
   ·subst e; exact absurd (b1 z hz) (not_lt_self z)
   ·exact e
theorem at_place : ∀ {l : List WrB} (y : WrB), Asc l → Place l y (at_ l y)
 | [], y, _ => ⟨by simp [at_], fun k hk => absurd hk (by simp), fun k hk => absurd hk (by simp)⟩
 | x :: l, y, h => by
  obtain ⟨h1, h2⟩ := asc_cons.1 h
  obtain ⟨p1, p2, p3⟩ := at_place y h2
  by_cases hx : cmpW x y < 0
  ·have e : at_ (x :: l) y = at_ l y + 1 := by
    unfold at_; rw [List.takeWhile_cons_of_pos (by simpa using hx), List.length_cons]
   rw [e]
   refine ⟨by simp only [List.length_cons]; omega, fun k hk hk2 => ?_, fun k hk hk2 => ?_⟩
   ·cases k with
    | zero => exact hx
    | succ k => exact p2 k (by simpa using hk) (by omega)
   ·cases k with
    | zero => omega
    | succ k => exact p3 k (by simpa using hk) (by omega)
  ·have e : at_ (x :: l) y = 0 := by
    unfold at_; rw [List.takeWhile_cons_of_neg (by simpa using hx)]; rfl
   rw [e]
   refine ⟨by omega, fun k hk hk2 => by omega, fun k hk _ => ?_⟩
   cases k with
   | zero => simpa using hx
   | succ k =>
    have hkl : k < l.length := by simpa using hk
    show 0 ≤ cmpW l[k] y
    have := h1 l[k] (List.getElem_mem hkl)
    rw [cmpW_neg] at this hx
    apply Int.not_lt.1
    rw [cmpW_neg]
    omega
theorem find_iff {l : List WrB} {y : WrB} (hs : Asc l) : (∃ h : at_ l y < l.length, cmpW l[at_ l y] y = 0) ↔ ∃ x ∈ l, cmpW x y = 0 := by
 constructor
 ·rintro ⟨h, e⟩; exact ⟨_, List.getElem_mem h, e⟩
 ·rintro ⟨x, hx, e⟩
  obtain ⟨k, hk, rfl⟩ := List.getElem_of_mem hx
  obtain ⟨p1, p2, p3⟩ := at_place y hs
  have hka : at_ l y ≤ k := by
   rcases Nat.lt_or_ge k (at_ l y) with h | h
   ·have := p2 k hk h; omega
   ·exact h
  refine ⟨by omega, ?_⟩
  rcases Nat.lt_or_ge (at_ l y) k with h | h
  ·have h1 := p3 (at_ l y) (by omega) (Nat.le_refl _)
   have h2 := pair_lt hs (by omega) hk h
   have h3 : ¬ cmpW l[at_ l y] y < 0 := by omega
   rw [cmpW_neg] at h2 h3
   rw [cmpW_zero] at e ⊢
   omega
  ·have : at_ l y = k := by omega
   simp only [this]; exact e
theorem put_mem (l : List WrB) (i : Nat) (x y : WrB) : x ∈ l.take i ++ [y] ++ l.drop i ↔ x ∈ l ∨ x = y := by
 rw [List.mem_append, List.mem_append, List.mem_singleton]
 have : x ∈ l ↔ x ∈ l.take i ∨ x ∈ l.drop i := by rw [← List.mem_append, List.take_append_drop]
 rw [this]; constructor <;> (intro h; rcases h with (h | h) | h <;> simp [h])
/-- Of writes that agree with what is there: all are there then; and as many are new as weren't. -/
theorem acc_ok : ∀ (ws : List WrB) {next : List WrB} (i many : Nat), Asc next → (∀ y ∈ ws, ∀ x ∈ next, cmpW x y = 0 → x = y) → ws.Pairwise (fun a b => cmpW a b ≠ 0) →
  ∃ W' n, acc next ws i many = .inr (W', many + n) ∧ Asc W' ∧ (∀ x, x ∈ W' ↔ x ∈ next ∨ x ∈ ws) ∧ W'.length = next.length + n ∧ n ≤ ws.length ∧ ((∀ y ∈ ws, y ∈ next) → n = 0) ∧ ((∀ y ∈ ws, y ∉ next) → n = ws.length)
 | [], next, i, many, hs, _, _ => ⟨next, 0, by simp [acc], hs, by simp, by simp, by simp, by simp, by simp⟩
 | y :: ws, next, i, many, hs, hc, hd => by
  obtain ⟨d1, d2⟩ := List.pairwise_cons.1 hd
  by_cases hf : ∃ h : at_ next y < next.length, cmpW next[at_ next y] y = 0
  ·have hy : next[at_ next y]? = some y := by
    obtain ⟨h1, h2⟩ := hf
    rw [List.getElem?_eq_getElem h1, hc y (by simp) _ (List.getElem_mem h1) h2]
   have hyn : y ∈ next := List.mem_of_getElem? hy
   obtain ⟨W', n, e, hs', hm, hl, hn, h0, h1⟩ := acc_ok ws (i + 1) many hs (fun z hz => hc z (List.mem_cons_of_mem _ hz)) d2
   refine ⟨W', n, ?_, hs', fun x => ?_, hl, by simp only [List.length_cons]; omega, fun h => h0 fun z hz => h z (List.mem_cons_of_mem _ hz), fun h => absurd hyn (h y (by simp))⟩
   ·rw [acc, if_pos hf, if_pos hy]; exact e
   ·rw [hm, List.mem_cons]
    constructor
    ·rintro (h | h) <;> simp [h]
    ·rintro (h | rfl | h)
     ·exact .inl h
     ·exact .inl hyn
     ·exact .inr h
  ·have hyn : y ∉ next := fun h => hf ((find_iff hs).2 ⟨y, h, cmp_refl y⟩)
   have hs2 : Asc (next.take (at_ next y) ++ [y] ++ next.drop (at_ next y)) := put_sorted hs (at_place y hs) hf
   obtain ⟨W', n, e, hs', hm, hl, hn, h0, h1⟩ := acc_ok ws (i + 1) (many + 1) hs2 (fun z hz x hx => by
    rw [put_mem] at hx
    rcases hx with hx | rfl
    ·exact hc z (List.mem_cons_of_mem _ hz) x hx
    ·exact fun e => absurd e (d1 z hz)) d2
   refine ⟨W', n + 1, ?_, hs', fun x => ?_, ?_, by simp only [List.length_cons]; omega, fun h => absurd (h y (by simp)) hyn, fun h => ?_⟩
   ·rw [acc, if_neg hf, e]; congr 2; omega
   ·rw [hm, put_mem, List.mem_cons]
    constructor
    ·rintro ((h | h) | h) <;> simp [h]
    ·rintro (h | h | h) <;> simp [h]
   ·rw [hl]
    have := (at_place y hs).1
    simp only [List.length_append, List.length_take, List.length_drop, List.length_singleton]; omega
   ·rw [h1 fun z hz hzn => ?_]
    ·rfl
    ·rw [put_mem] at hzn
     rcases hzn with hzn | rfl
     ·exact h z (List.mem_cons_of_mem _ hz) hzn
     ·exact d1 z hz (cmp_refl z)
theorem asc_ne {l : List WrB} (h : Asc l) : l.Pairwise (fun a b => cmpW a b ≠ 0) := h.imp fun h => by omega
theorem asc_nodup {l : List WrB} (h : Asc l) : l.Nodup := h.imp fun {a b} h e => by subst e; exact not_lt_self _ h
theorem len_le {a b : List WrB} (h : Asc a) (hs : ∀ x ∈ a, x ∈ b) : a.length ≤ b.length := (asc_nodup h).length_le_of_subset hs
/-- What is joined. -/
theorem joined_of {a b : List Vec.Entry} (ha : Vec.Fine a) (hb : Vec.Fine b) (h : (Vec.merge a b).length ≤ 16) : joined a b = .inr (Vec.merge a b) := by
 unfold joined
 rw [if_neg (by simp [(Vec.right_iff _).2 ha]), if_neg (by simp [(Vec.right_iff _).2 hb]), if_neg (by omega)]
theorem joined_inr {a b l : List Vec.Entry} (h : joined a b = .inr l) : Vec.Fine a ∧ Vec.Fine b ∧ l = Vec.merge a b ∧ l.length ≤ 16 := by
 unfold joined at h
 by_cases h1 : Vec.right a ≠ .ok
 ·rw [if_pos h1] at h; cases h
 rw [if_neg h1] at h
 by_cases h2 : Vec.right b ≠ .ok
 ·rw [if_pos h2] at h; cases h
 rw [if_neg h2] at h
 by_cases h3 : 16 < (Vec.merge a b).length
 ·rw [if_pos h3] at h; cases h
 rw [if_neg h3] at h
 injection h with h
 exact ⟨(Vec.right_iff _).1 (by simpa using h1), (Vec.right_iff _).1 (by simpa using h2), h.symm, by rw [← h]; omega⟩
theorem of_one (r t q : Int) : Vec.of [⟨r, t⟩] q = if r = q then t else 0 := by
 by_cases h : r = q
 ·subst h; rw [if_pos rfl]; exact Vec.of_self
 ·rw [if_neg h, Vec.of_head h]; exact Vec.of_zero fun y hy => absurd hy (by simp)
theorem step_of {H b : List Vec.Entry} {x : WrB} (hH : Vec.Fine H) (hb : Vec.Fine b) (hc : Vec.Covers H b) (hx : Right_ x) (hk : x.t ≤ Vec.of H x.r) (r : Int) : Vec.of (step_ b x) r = max (Vec.of b r) (if x.r = r then x.t else 0) := by
 obtain ⟨hj, -, -⟩ := step_ok hH hb hc hx hk
 obtain ⟨-, h1, h2, -⟩ := joined_inr hj
 rw [h2, Vec.of_merge _ _ hb.sorted h1.sorted hb.pos h1.pos, of_one]
theorem told_has {H f : List Vec.Entry} (hH : Vec.Fine H) (hf : Vec.Fine f) (hc : Vec.Covers H f) : ∀ (l : List WrB), (∀ x ∈ l, Right_ x ∧ x.t ≤ Vec.of H x.r) → Vec.Covers (told f l) f ∧ ∀ x ∈ l, x.t ≤ Vec.of (told f l) x.r := by
 intro l
 induction l generalizing f with
 | nil => exact fun _ => ⟨Vec.covers_refl _, fun x hx => absurd hx (by simp)⟩
 | cons x l ih =>
  intro h
  have hx := h x (by simp)
  obtain ⟨-, h2, h3⟩ := step_ok hH hf hc hx.1 hx.2
  obtain ⟨g1, g2⟩ := ih h2 h3 fun y hy => h y (List.mem_cons_of_mem _ hy)
  have hs := step_of hH hf hc hx.1 hx.2
  refine ⟨Vec.covers_trans g1 fun r => by rw [hs]; omega, fun y hy => ?_⟩
  rcases List.mem_cons.1 hy with rfl | hy
  ·have := g1 y.r
   rw [hs, if_pos rfl] at this
   show y.t ≤ Vec.of (told (step_ f y) l) y.r
   omega
  ·exact g2 y hy
/-- What a log that is right sends is a batch that is right. -/
theorem sent_fine {s : Lg} {f : List Vec.Entry} (hok : s.Ok) (ha : Asc s.W) (hf : Vec.right f = .ok) (hc : Vec.Covers s.H f) : Bat.right f (sentHave s f) ((sent s f).map WrB.plain) = .ok := by
 have hH := (Vec.right_iff _).1 hok.have_
 have hF := (Vec.right_iff _).1 hf
 have hsub : ∀ x ∈ sent s f, x ∈ s.W ∧ new_ f x = true := fun x hx => List.mem_filter.1 (List.mem_of_mem_take hx)
 have hh : Vec.Fine (sentHave s f) ∧ Vec.Covers s.H (sentHave s f) ∧ Vec.Covers (sentHave s f) f ∧ ∀ x ∈ sent s f, x.t ≤ Vec.of (sentHave s f) x.r := by
  by_cases hl : (s.W.filter (new_ f)).length ≤ 60
  ·rw [(sent_all hl).2]
   exact ⟨hH, Vec.covers_refl _, hc, fun x hx => hok.known x (hsub x hx).1⟩
  ·have e : sentHave s f = told f (sent s f) := by unfold sentHave; rw [if_neg hl]
   rw [e]
   obtain ⟨t1, t2⟩ := told_ok hH hF hc (sent s f) fun x hx => ⟨hok.right_ x (hsub x hx).1, hok.known x (hsub x hx).1⟩
   obtain ⟨t3, t4⟩ := told_has hH hF hc (sent s f) fun x hx => ⟨hok.right_ x (hsub x hx).1, hok.known x (hsub x hx).1⟩
   exact ⟨t1, t2, t3, t4⟩
 obtain ⟨h1, h2, h3, h4⟩ := hh
 refine (Bat.right_iff _ _ _).2 ⟨hf, (Vec.right_iff _).2 h1, Bat.covers_iff'.2 ⟨(Vec.right_iff _).2 h1, hf, h3⟩, ?_, ?_, ?_⟩
 ·rw [List.length_map]; unfold sent; rw [List.length_take]; omega
 ·intro x hx
  obtain ⟨y, hy, rfl⟩ := List.mem_map.1 hx
  refine ⟨hok.right_ y (hsub y hy).1, ?_⟩
  have h5 := of_decide_eq_true (hsub y hy).2
  unfold Bat.within
  rw [Bool.and_eq_true, decide_eq_true_eq, decide_eq_true_eq]
  exact ⟨h5, h4 y hy⟩
 ·rw [List.pairwise_map]
  have : Asc (sent s f) := (ha.filter _).sublist (List.take_sublist _ _)
  refine this.imp fun {a b} h => ?_
  rw [cmpW_neg] at h
  exact h
theorem covB {a b : List Vec.Entry} (ha : Vec.right a = .ok) (hb : Vec.right b = .ok) : coversB a b = true ↔ Vec.Covers a b := by
 have : coversB a b = Bat.covers a b := rfl
 rw [this, Bat.covers_iff']
 exact ⟨fun h => h.2.2, fun h => ⟨ha, hb, h⟩⟩
theorem of_merge_ {a b : List Vec.Entry} (ha : Vec.Fine a) (hb : Vec.Fine b) (r : Int) : Vec.of (Vec.merge a b) r = max (Vec.of a r) (Vec.of b r) := Vec.of_merge _ _ ha.sorted hb.sorted ha.pos hb.pos r
/-- A batch that is right, and agrees, is taken. -/
theorem accept_good {m : Lg} {f h : List Vec.Entry} {ws : List WrB} (hm : m.Ok) (ha : Asc m.W) (hb : Bat.right f h (ws.map WrB.plain) = .ok) (hc : Vec.Covers m.H f) (hag : ∀ y ∈ ws, ∀ x ∈ m.W, cmpW x y = 0 → x = y) (hj : (Vec.merge m.H h).length ≤ 16)
  (hl : ∀ W', Asc W' → (∀ x, x ∈ W' ↔ x ∈ m.W ∨ x ∈ ws) → W'.length ≤ 300) :
  ∃ W' n, accept m f h ws = .inr (⟨m.rep, Vec.merge m.H h, W'⟩, n) ∧ Ok ⟨m.rep, Vec.merge m.H h, W'⟩ ∧ Asc W' ∧ (∀ x, x ∈ W' ↔ x ∈ m.W ∨ x ∈ ws) ∧ W'.length = m.W.length + n ∧ n ≤ ws.length ∧ ((∀ y ∈ ws, y ∈ m.W) → n = 0) ∧ ((∀ y ∈ ws, y ∉ m.W) → n = ws.length) := by
 have hB := (Bat.right_iff _ _ _).1 hb
 have hH := (Vec.right_iff _).1 hm.have_
 have hh := (Vec.right_iff _).1 hB.have_
 have hws : Asc ws := by
  have := hB.order
  rw [List.pairwise_map] at this
  refine this.imp fun {a b} h => ?_
  rw [cmpW_neg]; exact h
 obtain ⟨W', n, e, h1, h2, h3, h4, h5, h6⟩ := acc_ok ws 0 0 ha hag (asc_ne hws)
 refine ⟨W', n, ?_, ⟨?_, hl W' h1 h2, hm.rep0, hm.rep1, fun x hx => ?_, fun x hx => ?_⟩, h1, h2, h3, h4, h5, h6⟩
 ·unfold accept
  rw [if_neg (by simp [hb]), if_neg (by simp [(covB hm.have_ hB.from_).2 hc]), joined_of hH hh hj]
  simp only [e]
  rw [if_neg (by have := hl W' h1 h2; omega)]
  simp
 ·exact (Vec.right_iff _).2 (Vec.merge_fine hH hh hj)
 ·rcases (h2 x).1 hx with hx | hx
  ·exact hm.right_ x hx
  ·exact (hB.each _ (List.mem_map_of_mem hx)).1
 ·show x.t ≤ Vec.of (Vec.merge m.H h) x.r
  rw [of_merge_ hH hh]
  rcases (h2 x).1 hx with hx | hx
  ·have : x.t ≤ Vec.of m.H x.r := hm.known x hx
   omega
  ·have := (hB.each _ (List.mem_map_of_mem hx)).2
   unfold Bat.within at this
   rw [Bool.and_eq_true, decide_eq_true_eq, decide_eq_true_eq] at this
   have h8 : x.t ≤ Vec.of h x.r := this.2
   omega
theorem of_top_go : ∀ (H : List Vec.Entry) (t : Int), t ≤ H.foldl (fun t x => max t x.t) t ∧ ∀ x ∈ H, x.t ≤ H.foldl (fun t x => max t x.t) t
 | [], t => ⟨Int.le_refl _, fun x hx => absurd hx (by simp)⟩
 | y :: H, t => by
  obtain ⟨h1, h2⟩ := of_top_go H (max t y.t)
  rw [List.foldl_cons]
  refine ⟨by omega, fun x hx => ?_⟩
  rcases List.mem_cons.1 hx with rfl | hx
  ·omega
  ·exact h2 x hx
theorem of_mem_or (H : List Vec.Entry) (hs : Vec.Sorted H) (r : Int) : Vec.of H r = 0 ∨ ∃ x ∈ H, x.r = r ∧ Vec.of H r = x.t := by
 by_cases h : ∃ x ∈ H, x.r = r
 ·obtain ⟨x, hx, rfl⟩ := h
  exact .inr ⟨x, hx, rfl, Vec.of_mem hs hx⟩
 ·exact .inl (Vec.of_zero fun y hy e => h ⟨y, hy, e⟩)
theorem of_top {H : List Vec.Entry} (hs : Vec.Sorted H) (r : Int) : Vec.of H r ≤ top H := by
 rcases of_mem_or H hs r with h | ⟨x, hx, -, h⟩
 ·rw [h]; exact (of_top_go H 0).1
 ·rw [h]; exact (of_top_go H 0).2 x hx
theorem top_nonneg (H : List Vec.Entry) : 0 ≤ top H := (of_top_go H 0).1
/-- What one writes is there, last of all. -/
theorem local_inr {m m' : Lg} {x : WrB} (hm : m.Ok) (ha : Asc m.W) (h : local_ m x = .inr m') :
  m' = ⟨m.rep, Vec.merge m.H [⟨m.rep, top m.H + 1⟩], m.W ++ [mine_ m x]⟩ ∧ m'.Ok ∧ Asc m'.W ∧ (∀ r, Vec.of m'.H r = max (Vec.of m.H r) (if m.rep = r then top m.H + 1 else 0)) ∧ Right_ (mine_ m x) := by
 unfold local_ at h
 by_cases h1 : top m.H = 1099511627776
 ·rw [if_pos h1] at h; cases h
 rw [if_neg h1] at h
 by_cases h2 : rightC (mine_ m x) ≠ 0
 ·rw [if_pos h2] at h; cases h
 rw [if_neg h2] at h
 by_cases h3 : 300 ≤ m.W.length
 ·rw [if_pos h3] at h; cases h
 rw [if_neg h3] at h
 have hr : Right_ (mine_ m x) := by simpa [rightC] using h2
 have hH := (Vec.right_iff _).1 hm.have_
 cases hj : joined m.H [⟨m.rep, top m.H + 1⟩] with
 | inl e => rw [hj] at h; cases h
 | inr H' =>
  rw [hj] at h
  injection h with h
  obtain ⟨-, hO, hH', hl⟩ := joined_inr hj
  subst hH'
  subst h
  have hof : ∀ r, Vec.of (Vec.merge m.H [⟨m.rep, top m.H + 1⟩]) r = max (Vec.of m.H r) (if m.rep = r then top m.H + 1 else 0) := fun r => by rw [of_merge_ hH hO, of_one]
  refine ⟨rfl, ⟨(Vec.right_iff _).2 (Vec.merge_fine hH hO hl), ?_, hm.rep0, hm.rep1, fun y hy => ?_, fun y hy => ?_⟩, ?_, hof, hr⟩
  ·simp only [List.length_append, List.length_singleton]; omega
  ·rcases List.mem_append.1 hy with hy | hy
   ·exact hm.right_ y hy
   ·rw [List.mem_singleton] at hy; subst hy; exact hr
  ·show y.t ≤ Vec.of (Vec.merge m.H [⟨m.rep, top m.H + 1⟩]) y.r
   rw [hof]
   rcases List.mem_append.1 hy with hy | hy
   ·have := hm.known y hy; omega
   ·rw [List.mem_singleton] at hy; subst hy
    have : max (Vec.of m.H m.rep) (if m.rep = m.rep then top m.H + 1 else 0) = max (Vec.of m.H m.rep) (top m.H + 1) := by rw [if_pos rfl]
    show top m.H + 1 ≤ max (Vec.of m.H m.rep) (if m.rep = m.rep then top m.H + 1 else 0)
    omega
  ·refine List.pairwise_append.2 ⟨ha, List.pairwise_singleton _ _, fun a h1 b h2 => ?_⟩
   rw [List.mem_singleton] at h2; subst h2
   rw [cmpW_neg]
   have := hm.known a h1
   have := of_top hH.sorted a.r
   exact .inl (show a.t < top m.H + 1 by omega)
theorem local_ok {m : Lg} {x : WrB} (hm : m.Ok) (h1 : top m.H < 1099511627776) (h2 : Right_ (mine_ m x)) (h3 : m.W.length < 300) (h4 : (Vec.merge m.H [⟨m.rep, top m.H + 1⟩]).length ≤ 16) :
  Lg.local_ m x = .inr ⟨m.rep, Vec.merge m.H [⟨m.rep, top m.H + 1⟩], m.W ++ [mine_ m x]⟩ := by
 have ht := top_nonneg m.H
 have hone := one_right hm.rep0 hm.rep1 (show 1 ≤ top m.H + 1 by omega) (show top m.H + 1 ≤ 1099511627776 by omega)
 have hj := joined_of ((Vec.right_iff _).1 hm.have_) ((Vec.right_iff _).1 hone) h4
 rw [local_join (m := m) (x := x) (T1 := top m.H + 1) (by omega) h2 (by omega) rfl rfl, hj]
theorem set_get {α : Type} {l : List α} {i k : Nat} {a : α} (h : k < (l.set i a).length) : (l.set i a)[k] = if i = k then a else l[k]'(by simpa using h) := by
 rw [List.getElem_set]
end Lg
end Go.Proofs.YtognjohloobliaaGreatDoor
/- Plain law of BatchTaken: a batch is taken at once, or in two parts. -/
namespace Go.Proofs.YtognjohloobliaaGreatDoor
set_option linter.unusedVariables false
set_option linter.unusedSimpArgs false
namespace Lg
theorem sub_right {f h g k : List Vec.Entry} {ws : List WrB} (hb : Bat.right f h (ws.map WrB.plain) = .ok) (h1 : Vec.right g = .ok) (h2 : Vec.right k = .ok) (h3 : Vec.Covers k g) (p : WrB → Bool) (hp : ∀ x ∈ ws, p x = true → Vec.of g x.r < x.t ∧ x.t ≤ Vec.of k x.r) :
  Bat.right g k ((ws.filter p).map WrB.plain) = .ok := by
 have hB := (Bat.right_iff _ _ _).1 hb
 refine (Bat.right_iff _ _ _).2 ⟨h1, h2, Bat.covers_iff'.2 ⟨h2, h1, h3⟩, ?_, ?_, ?_⟩
 ·have := hB.len
  rw [List.length_map] at this ⊢
  exact Nat.le_trans (List.length_filter_le _ _) this
 ·intro x hx
  obtain ⟨y, hy, rfl⟩ := List.mem_map.1 hx
  obtain ⟨m1, m2⟩ := List.mem_filter.1 hy
  refine ⟨(hB.each _ (List.mem_map.2 ⟨y, m1, rfl⟩)).1, ?_⟩
  unfold Bat.within
  rw [Bool.and_eq_true, decide_eq_true_eq, decide_eq_true_eq]
  exact hp y m1 m2
 ·have := hB.order
  rw [List.pairwise_map] at this ⊢
  exact this.filter _
theorem ok_zero : Ok ⟨0, [], []⟩ := ⟨(Vec.right_iff _).2 { len := by simp, each := by simp, sorted := List.Pairwise.nil }, by simp, by simp, by simp, by simp, by simp⟩
theorem merge_cov {a b : List Vec.Entry} (ha : Vec.Fine a) (hb : Vec.Fine b) (h : Vec.Covers b a) : Vec.merge a b = b :=
 Vec.ext (Vec.merge_sorted _ _ ha.sorted hb.sorted) hb.sorted (Vec.merge_pos ha.pos hb.pos) hb.pos fun r => by
  rw [of_merge_ ha hb]; have := h r; omega
theorem right_asc {f h : List Vec.Entry} {ws : List WrB} (hb : Bat.right f h (ws.map WrB.plain) = .ok) : Asc ws := by
 have := ((Bat.right_iff _ _ _).1 hb).order
 rw [List.pairwise_map] at this
 exact this.imp fun {a b} h => by rw [cmpW_neg]; exact h
theorem first_ {h : List Vec.Entry} {ws : List WrB} (hb : Bat.right [] h (ws.map WrB.plain) = .ok) : accept ⟨0, [], []⟩ [] h ws = .inr (⟨0, h, ws⟩, ws.length) ∧ Ok ⟨0, h, ws⟩ := by
 have hB := (Bat.right_iff _ _ _).1 hb
 have h0 := (Vec.right_iff _).1 ok_zero.have_
 have hH := (Vec.right_iff _).1 hB.have_
 have hm : Vec.merge [] h = h := merge_cov h0 hH fun r => by have := Vec.of_pos hH.pos r; exact this
 have hl : ws.length ≤ 60 := by have := hB.len; rwa [List.length_map] at this
 obtain ⟨W', n, e, k1, k2, k3, k4, k5, k6, k7⟩ := accept_good (m := ⟨0, [], []⟩) (f := []) ok_zero List.Pairwise.nil hb (fun r => Int.le_refl _) (fun y _ x hx => absurd hx (by simp)) (by rw [hm]; exact hH.len) (fun W' g1 g2 => Nat.le_trans (len_le g1 fun x hx => by simpa using (g2 x).1 hx) (by omega))
 have hW : W' = ws := asc_ext k2 (right_asc hb) fun x => by rw [k3]; simp
 have hn : n = ws.length := k7 fun y _ => by simp
 subst hW hn
 (try simp only [hm] at e k1)
 exact ⟨e, k1⟩
/-- What a part of a batch, up to a vector, and the rest come to. -/
theorem taken_ {h mid : List Vec.Entry} {ws : List WrB} (hb : Bat.right [] h (ws.map WrB.plain) = .ok) (hm : Vec.right mid = .ok) (hc : Vec.Covers h mid) :
  (accept ⟨0, [], []⟩ [] h ws = .inr (⟨0, h, ws⟩, ws.length) ∧ Ok ⟨0, h, ws⟩) ∧
  (accept ⟨0, [], []⟩ [] mid (ws.filter fun x => within x.t x.r [] mid) = .inr (⟨0, mid, ws.filter fun x => within x.t x.r [] mid⟩, (ws.filter fun x => within x.t x.r [] mid).length) ∧ Ok ⟨0, mid, ws.filter fun x => within x.t x.r [] mid⟩ ∧ Asc (ws.filter fun x => within x.t x.r [] mid)) ∧
  accept ⟨0, mid, ws.filter fun x => within x.t x.r [] mid⟩ mid h (ws.filter fun x => !within x.t x.r [] mid) = .inr (⟨0, h, ws⟩, (ws.filter fun x => !within x.t x.r [] mid).length) ∧
  ws.length = (ws.filter fun x => within x.t x.r [] mid).length + (ws.filter fun x => !within x.t x.r [] mid).length := by
 have hB := (Bat.right_iff _ _ _).1 hb
 have hH := (Vec.right_iff _).1 hB.have_
 have hM := (Vec.right_iff _).1 hm
 have hw := right_asc hb
 have hin : ∀ x ∈ ws, 0 < x.t ∧ x.t ≤ Vec.of h x.r := fun x hx => by
  have := (hB.each _ (List.mem_map.2 ⟨x, hx, rfl⟩)).2
  unfold Bat.within at this
  rw [Bool.and_eq_true, decide_eq_true_eq, decide_eq_true_eq] at this
  exact this
 have hwi : ∀ x : WrB, within x.t x.r [] mid = true ↔ 0 < x.t ∧ x.t ≤ Vec.of mid x.r := fun x => by
  unfold within
  rw [Bool.and_eq_true, decide_eq_true_eq, decide_eq_true_eq]
  exact Iff.rfl
 have hone := sub_right hb hB.from_ hm (fun r => Vec.of_pos hM.pos r) (fun x => within x.t x.r [] mid) fun x _ hx => (hwi x).1 hx
 have htwo := sub_right hb hm hB.have_ hc (fun x => !within x.t x.r [] mid) fun x hx hn => by
  have h1 := hin x hx
  have h2 : ¬ within x.t x.r [] mid = true := by simpa using hn
  rw [hwi] at h2
  omega
 obtain ⟨e2, ok2⟩ := first_ hone
 have a2 := right_asc hone
 have hmm := merge_cov hM hH hc
 have hl : ws.length ≤ 60 := by have := hB.len; rwa [List.length_map] at this
 have hmem : ∀ x, (x ∈ (ws.filter fun x => within x.t x.r [] mid) ∨ x ∈ ws.filter fun x => !within x.t x.r [] mid) ↔ x ∈ ws := fun x => by
  rw [List.mem_filter, List.mem_filter]
  constructor
  ·rintro (h | h) <;> exact h.1
  ·intro h
   cases hx : within x.t x.r [] mid
   ·exact .inr ⟨h, rfl⟩
   ·exact .inl ⟨h, rfl⟩
 obtain ⟨W', n, e, k1, k2, k3, k4, k5, k6, k7⟩ := accept_good (m := ⟨0, mid, ws.filter fun x => within x.t x.r [] mid⟩) (f := mid) ok2 a2 htwo (Vec.covers_refl _) (fun y hy x hx e => by
   exfalso
   have h1 := (List.mem_filter.1 hx).2
   have h2 := (List.mem_filter.1 hy).2
   rw [cmpW_zero] at e
   (try simp only at h1 h2)
   rw [← e.1, ← e.2, h1] at h2
   cases h2) (by rw [hmm]; exact hH.len)
  (fun W' g1 g2 => Nat.le_trans (len_le g1 fun x hx => (hmem x).1 ((g2 x).1 hx)) (by omega))
 have hW : W' = ws := asc_ext k2 hw fun x => (k3 x).trans (hmem x)
 have hn : n = (ws.filter fun x => !within x.t x.r [] mid).length := k7 fun y hy hy2 => by
  have h1 := (List.mem_filter.1 hy2).2
  have h2 := (List.mem_filter.1 hy).2
  (try simp only at h1 h2)
  rw [h1] at h2
  cases h2
 subst hW hn
 (try simp only [hmm] at e)
 exact ⟨first_ hb, ⟨e2, ok2, a2⟩, e, k4⟩
end Lg
end Go.Proofs.YtognjohloobliaaGreatDoor
