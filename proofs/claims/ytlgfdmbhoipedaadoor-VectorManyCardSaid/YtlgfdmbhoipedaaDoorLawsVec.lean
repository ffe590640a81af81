/- The walks of keep.VectorTimes, VectorLeast, VectorOrder, VectorSame. -/
import Derived.Test.YtlgfdmbhoipedaaDoorWFrom
namespace Go.Proofs.YtlgfdmbhoipedaaDoor
open Go.RowKit
set_option linter.unusedVariables false
abbrev Ent (x : Vec.Entry) : Prop := (Lit.int .i64 x.r).wf = true ∧ (Lit.int .i64 x.t).wf = true
set_option maxHeartbeats 2000000 in
set_option maxRecDepth 100000 in
theorem VectorTimes_walk (va : Value) (a : List Vec.Entry) (vb : Value) (b : List Vec.Entry) (r : Int) (w : World) (ha : VecIs w va a) (q0 : ∀ x ∈ a, Ent x) (hla : a.length ≤ 140737488351232) (hb : VecIs w vb b) (q1 : ∀ x ∈ b, Ent x) (hlb : b.length ≤ 140737488351232) (w2 : (Lit.int .i64 r).wf = true) (hL : Laid w) :
    Calls Tryd.prog 10 #[va, vb, .int .i64 r] w fun e w' => e = .returned (.bool true) ∧ Below w.heap.size w w' := by
  have hk := from_known w hL
  have hF : ∀ v, fewB [a, b] = v → Few2 va vb w v := fun v hv W T hW => few_two va vb a b v w W T ha hb hla hlb hv hW
  obtain ⟨oa, ca, ea, -, -⟩ := ha.list.at entCells_len
  obtain ⟨ob, cb, eb, -, -⟩ := hb.list.at entCells_len
  by_cases hf : fewB [a, b] = true
  · have hF := hF true hf
    obtain ⟨fa, fb⟩ := few2_iff hf
    have Fa := (Vec.right_iff a).1 fa
    have Fb := (Vec.right_iff b).1 fb
    by_cases hm : (Vec.merge a b).length ≤ 16
    · have hJ := join_is hL ha hb fa fb hm
      have ho := fun v W h => from_of (w := W) (va := v) (a := Vec.merge a b) h r (max (Vec.of a r) (Vec.of b r)) (Vec.of_merge a b Fa.sorted Fb.sorted Fa.pos Fb.pos r)
      have ho2 := from_of ha r _ rfl
      have ho3 := from_of hb r _ rfl
      clear hf fa fb Fa Fb hm ha hb q0 q1 hL hla hlb
      generalize Vec.merge a b = x at *
      generalize Vec.of a r = m at *
      generalize Vec.of b r = n at *
      replace ho := Lib.hid ho
      subst ea eb
      go_enter Tryd.func10, Tryd.ntmps10
      go_wp2_with fail
      refine (hk _ (by (repeat (first | exact Below.refl _ _ | assumption | refine bal ?_ _ | refine bdr ?_ | refine bdn ?_ _ | refine bst ?_ (by first | assumption | exact Nat.le_refl _ | omega) _ | refine bch ?_ (by assumption))))).mono ?_
      rintro e w1 ⟨rfl, hb1⟩
      go_wp2_with fail
      refine (hF _ _ (by (repeat (first | exact Below.refl _ _ | assumption | refine bal ?_ _ | refine bdr ?_ | refine bdn ?_ _ | refine bst ?_ (by first | assumption | exact Nat.le_refl _ | omega) _ | refine bch ?_ (by assumption))))).mono ?_
      rintro e w2 ⟨rfl, hb2⟩
      go_wp2_with fail
      refine (hJ _ (by (repeat (first | exact Below.refl _ _ | assumption | refine bal ?_ _ | refine bdr ?_ | refine bdn ?_ _ | refine bst ?_ (by first | assumption | exact Nat.le_refl _ | omega) _ | refine bch ?_ (by assumption))))).mono ?_
      rintro e w3 ⟨o, c, rfl, hx, hb3⟩
      have hx := ho.out _ _ hx
      go_wp2_with fail
      refine (hx _ (by (repeat (first | exact Below.refl _ _ | assumption | refine bal ?_ _ | refine bdr ?_ | refine bdn ?_ _ | refine bst ?_ (by first | assumption | exact Nat.le_refl _ | omega) _ | refine bch ?_ (by assumption))))).mono ?_
      rintro e w4 ⟨rfl, hb4⟩
      go_wp2_with fail
      refine (ho2 _ (by (repeat (first | exact Below.refl _ _ | assumption | refine bal ?_ _ | refine bdr ?_ | refine bdn ?_ _ | refine bst ?_ (by first | assumption | exact Nat.le_refl _ | omega) _ | refine bch ?_ (by assumption))))).mono ?_
      rintro e w5 ⟨rfl, hb5⟩
      go_wp2_with fail
      refine (ho3 _ (by (repeat (first | exact Below.refl _ _ | assumption | refine bal ?_ _ | refine bdr ?_ | refine bdn ?_ _ | refine bst ?_ (by first | assumption | exact Nat.le_refl _ | omega) _ | refine bch ?_ (by assumption))))).mono ?_
      rintro e w6 ⟨rfl, hb6⟩
      go_wp2
      all_goals
        go_ret
        exact ⟨ret_bool (by rw [beq_iff_eq]; omega), by (repeat (first | exact Below.refl _ _ | assumption | refine bal ?_ _ | refine bdr ?_ | refine bdn ?_ _ | refine bst ?_ (by first | assumption | exact Nat.le_refl _ | omega) _ | refine bch ?_ (by assumption)))⟩
    · have hJ := join_no hL ha hb fa fb (by omega)
      clear hf fa fb Fa Fb hm ha hb q0 q1 hL hla hlb
      subst ea eb
      go_enter Tryd.func10, Tryd.ntmps10
      go_wp2_with fail
      refine (hk _ (by (repeat (first | exact Below.refl _ _ | assumption | refine bal ?_ _ | refine bdr ?_ | refine bdn ?_ _ | refine bst ?_ (by first | assumption | exact Nat.le_refl _ | omega) _ | refine bch ?_ (by assumption))))).mono ?_
      rintro e w1 ⟨rfl, hb1⟩
      go_wp2_with fail
      refine (hF _ _ (by (repeat (first | exact Below.refl _ _ | assumption | refine bal ?_ _ | refine bdr ?_ | refine bdn ?_ _ | refine bst ?_ (by first | assumption | exact Nat.le_refl _ | omega) _ | refine bch ?_ (by assumption))))).mono ?_
      rintro e w2 ⟨rfl, hb2⟩
      go_wp2_with fail
      refine (hJ _ (by (repeat (first | exact Below.refl _ _ | assumption | refine bal ?_ _ | refine bdr ?_ | refine bdn ?_ _ | refine bst ?_ (by first | assumption | exact Nat.le_refl _ | omega) _ | refine bch ?_ (by assumption))))).mono ?_
      rintro e w3 ⟨rfl, hb3⟩
      unfold errV
      go_wp2
      go_ret
      exact ⟨rfl, by (repeat (first | exact Below.refl _ _ | assumption | refine bal ?_ _ | refine bdr ?_ | refine bdn ?_ _ | refine bst ?_ (by first | assumption | exact Nat.le_refl _ | omega) _ | refine bch ?_ (by assumption)))⟩
  · have hF := hF false (by simpa using hf)
    clear hf ha hb q0 q1 hL hla hlb
    subst ea eb
    go_enter Tryd.func10, Tryd.ntmps10
    go_wp2_with fail
    refine (hk _ (by (repeat (first | exact Below.refl _ _ | assumption | refine bal ?_ _ | refine bdr ?_ | refine bdn ?_ _ | refine bst ?_ (by first | assumption | exact Nat.le_refl _ | omega) _ | refine bch ?_ (by assumption))))).mono ?_
    rintro e w1 ⟨rfl, hb1⟩
    go_wp2_with fail
    refine (hF _ _ (by (repeat (first | exact Below.refl _ _ | assumption | refine bal ?_ _ | refine bdr ?_ | refine bdn ?_ _ | refine bst ?_ (by first | assumption | exact Nat.le_refl _ | omega) _ | refine bch ?_ (by assumption))))).mono ?_
    rintro e w2 ⟨rfl, hb2⟩
    go_wp2
    go_ret
    exact ⟨rfl, by (repeat (first | exact Below.refl _ _ | assumption | refine bal ?_ _ | refine bdr ?_ | refine bdn ?_ _ | refine bst ?_ (by first | assumption | exact Nat.le_refl _ | omega) _ | refine bch ?_ (by assumption)))⟩
set_option maxHeartbeats 2000000 in
set_option maxRecDepth 100000 in
theorem VectorLeast_walk (va : Value) (a : List Vec.Entry) (vb : Value) (b : List Vec.Entry) (vc : Value) (c : List Vec.Entry) (w : World) (ha : VecIs w va a) (q0 : ∀ x ∈ a, Ent x) (hla : a.length ≤ 140737488351232) (hb : VecIs w vb b) (q1 : ∀ x ∈ b, Ent x) (hlb : b.length ≤ 140737488351232) (hc : VecIs w vc c) (q2 : ∀ x ∈ c, Ent x) (hlc : c.length ≤ 140737488351232) (hL : Laid w) :
    Calls Tryd.prog 8 #[va, vb, vc] w fun e w' => e = .returned (.bool true) ∧ Below w.heap.size w w' := by
  have hk := from_known w hL
  have hF : ∀ v, fewB [a, b, c] = v → Few3 va vb vc w v := fun v hv W T hW => few_three va vb vc a b c v w W T ha hb hc hla hlb hlc hv hW
  obtain ⟨oa, ca, ea, -, -⟩ := ha.list.at entCells_len
  obtain ⟨ob, cb, eb, -, -⟩ := hb.list.at entCells_len
  obtain ⟨oc, cc, ec, -, -⟩ := hc.list.at entCells_len
  by_cases hf : fewB [a, b, c] = true
  · have hF := hF true hf
    obtain ⟨fa, fb, fc⟩ := few3_iff hf
    have Fa := (Vec.right_iff a).1 fa
    have Fb := (Vec.right_iff b).1 fb
    by_cases hm : (Vec.merge a b).length ≤ 16
    · have hJ := join_is hL ha hb fa fb hm
      have Fx := Vec.merge_fine Fa Fb hm
      have fx := (Vec.right_iff _).2 Fx
      have c1 := fun v W h ha => from_covers (w := W) (va := v) (vb := va) (a := Vec.merge a b) (b := a) h ha (by omega) hla true (covers_true fx fa (Vec.covers_merge Fa Fb).1)
      have c2 := fun v W h hb => from_covers (w := W) (va := v) (vb := vb) (a := Vec.merge a b) (b := b) h hb (by omega) hlb true (covers_true fx fb (Vec.covers_merge Fa Fb).2)
      have d1 := from_covers hc ha hlc hla _ rfl
      have d2 := from_covers hc hb hlc hlb _ rfl
      have c3 : coversB c a = true → coversB c b = true → coversB c (Vec.merge a b) = true := fun h1 h2 => covers_true fc fx (Vec.covers_least Fa Fb (covers_of h1).1 (covers_of h2).1)
      have d3 := fun v W h hc => from_covers (w := W) (va := vc) (vb := v) (a := c) (b := Vec.merge a b) hc h hlc (by omega) _ rfl
      clear hf fa fb fc Fa Fb Fx fx hm q0 q1 q2 hL hla hlb hlc
      generalize Vec.merge a b = x at *
      generalize coversB c a = ka at *
      generalize coversB c b = kb at *
      generalize coversB c x = kx at *
      replace c1 := Lib.hid c1
      replace c2 := Lib.hid c2
      replace d3 := Lib.hid d3
      replace ha := Lib.hid ha
      replace hb := Lib.hid hb
      replace hc := Lib.hid hc
      subst ea eb ec
      cases ka
      · clear c3 d3 d2
        go_enter Tryd.func8, Tryd.ntmps8
        (go_wp2_with fail; refine (hk _ (by (repeat (first | exact Below.refl _ _ | assumption | refine bal ?_ _ | refine bdr ?_ | refine bdn ?_ _ | refine bst ?_ (by first | assumption | exact Nat.le_refl _ | omega) _ | refine bch ?_ (by assumption))))).mono ?_; rintro e wn ⟨rfl, hbn⟩)
        (go_wp2_with fail; refine (hF _ _ (by (repeat (first | exact Below.refl _ _ | assumption | refine bal ?_ _ | refine bdr ?_ | refine bdn ?_ _ | refine bst ?_ (by first | assumption | exact Nat.le_refl _ | omega) _ | refine bch ?_ (by assumption))))).mono ?_; rintro e wn ⟨rfl, hbn⟩)
        (go_wp2_with fail; refine (hJ _ (by (repeat (first | exact Below.refl _ _ | assumption | refine bal ?_ _ | refine bdr ?_ | refine bdn ?_ _ | refine bst ?_ (by first | assumption | exact Nat.le_refl _ | omega) _ | refine bch ?_ (by assumption))))).mono ?_; rintro e w3 ⟨o, c, rfl, hx, hb3⟩)
        have hx1 := c1.out _ _ hx (ha.out.below (by (repeat (first | exact Below.refl _ _ | assumption | refine bal ?_ _ | refine bdr ?_ | refine bdn ?_ _ | refine bst ?_ (by first | assumption | exact Nat.le_refl _ | omega) _ | refine bch ?_ (by assumption)))))
        have hx2 := c2.out _ _ hx (hb.out.below (by (repeat (first | exact Below.refl _ _ | assumption | refine bal ?_ _ | refine bdr ?_ | refine bdn ?_ _ | refine bst ?_ (by first | assumption | exact Nat.le_refl _ | omega) _ | refine bch ?_ (by assumption)))))
        (go_wp2_with fail; refine (hx1 _ (by (repeat (first | exact Below.refl _ _ | assumption | refine bal ?_ _ | refine bdr ?_ | refine bdn ?_ _ | refine bst ?_ (by first | assumption | exact Nat.le_refl _ | omega) _ | refine bch ?_ (by assumption))))).mono ?_; rintro e wn ⟨rfl, hbn⟩)
        (go_wp2_with fail; refine (hx2 _ (by (repeat (first | exact Below.refl _ _ | assumption | refine bal ?_ _ | refine bdr ?_ | refine bdn ?_ _ | refine bst ?_ (by first | assumption | exact Nat.le_refl _ | omega) _ | refine bch ?_ (by assumption))))).mono ?_; rintro e wn ⟨rfl, hbn⟩)
        (go_wp2_with fail; refine (d1 _ (by (repeat (first | exact Below.refl _ _ | assumption | refine bal ?_ _ | refine bdr ?_ | refine bdn ?_ _ | refine bst ?_ (by first | assumption | exact Nat.le_refl _ | omega) _ | refine bch ?_ (by assumption))))).mono ?_; rintro e wn ⟨rfl, hbn⟩)
        go_wp2
        go_ret
        exact ⟨rfl, by (repeat (first | exact Below.refl _ _ | assumption | refine bal ?_ _ | refine bdr ?_ | refine bdn ?_ _ | refine bst ?_ (by first | assumption | exact Nat.le_refl _ | omega) _ | refine bch ?_ (by assumption)))⟩
      · cases kb
        · clear c3 d3
          go_enter Tryd.func8, Tryd.ntmps8
          (go_wp2_with fail; refine (hk _ (by (repeat (first | exact Below.refl _ _ | assumption | refine bal ?_ _ | refine bdr ?_ | refine bdn ?_ _ | refine bst ?_ (by first | assumption | exact Nat.le_refl _ | omega) _ | refine bch ?_ (by assumption))))).mono ?_; rintro e wn ⟨rfl, hbn⟩)
          (go_wp2_with fail; refine (hF _ _ (by (repeat (first | exact Below.refl _ _ | assumption | refine bal ?_ _ | refine bdr ?_ | refine bdn ?_ _ | refine bst ?_ (by first | assumption | exact Nat.le_refl _ | omega) _ | refine bch ?_ (by assumption))))).mono ?_; rintro e wn ⟨rfl, hbn⟩)
          (go_wp2_with fail; refine (hJ _ (by (repeat (first | exact Below.refl _ _ | assumption | refine bal ?_ _ | refine bdr ?_ | refine bdn ?_ _ | refine bst ?_ (by first | assumption | exact Nat.le_refl _ | omega) _ | refine bch ?_ (by assumption))))).mono ?_; rintro e w3 ⟨o, c, rfl, hx, hb3⟩)
          have hx1 := c1.out _ _ hx (ha.out.below (by (repeat (first | exact Below.refl _ _ | assumption | refine bal ?_ _ | refine bdr ?_ | refine bdn ?_ _ | refine bst ?_ (by first | assumption | exact Nat.le_refl _ | omega) _ | refine bch ?_ (by assumption)))))
          have hx2 := c2.out _ _ hx (hb.out.below (by (repeat (first | exact Below.refl _ _ | assumption | refine bal ?_ _ | refine bdr ?_ | refine bdn ?_ _ | refine bst ?_ (by first | assumption | exact Nat.le_refl _ | omega) _ | refine bch ?_ (by assumption)))))
          (go_wp2_with fail; refine (hx1 _ (by (repeat (first | exact Below.refl _ _ | assumption | refine bal ?_ _ | refine bdr ?_ | refine bdn ?_ _ | refine bst ?_ (by first | assumption | exact Nat.le_refl _ | omega) _ | refine bch ?_ (by assumption))))).mono ?_; rintro e wn ⟨rfl, hbn⟩)
          (go_wp2_with fail; refine (hx2 _ (by (repeat (first | exact Below.refl _ _ | assumption | refine bal ?_ _ | refine bdr ?_ | refine bdn ?_ _ | refine bst ?_ (by first | assumption | exact Nat.le_refl _ | omega) _ | refine bch ?_ (by assumption))))).mono ?_; rintro e wn ⟨rfl, hbn⟩)
          (go_wp2_with fail; refine (d1 _ (by (repeat (first | exact Below.refl _ _ | assumption | refine bal ?_ _ | refine bdr ?_ | refine bdn ?_ _ | refine bst ?_ (by first | assumption | exact Nat.le_refl _ | omega) _ | refine bch ?_ (by assumption))))).mono ?_; rintro e wn ⟨rfl, hbn⟩)
          (go_wp2_with fail; refine (d2 _ (by (repeat (first | exact Below.refl _ _ | assumption | refine bal ?_ _ | refine bdr ?_ | refine bdn ?_ _ | refine bst ?_ (by first | assumption | exact Nat.le_refl _ | omega) _ | refine bch ?_ (by assumption))))).mono ?_; rintro e wn ⟨rfl, hbn⟩)
          go_wp2
          go_ret
          exact ⟨rfl, by (repeat (first | exact Below.refl _ _ | assumption | refine bal ?_ _ | refine bdr ?_ | refine bdn ?_ _ | refine bst ?_ (by first | assumption | exact Nat.le_refl _ | omega) _ | refine bch ?_ (by assumption)))⟩
        · obtain rfl := c3 rfl rfl
          go_enter Tryd.func8, Tryd.ntmps8
          (go_wp2_with fail; refine (hk _ (by (repeat (first | exact Below.refl _ _ | assumption | refine bal ?_ _ | refine bdr ?_ | refine bdn ?_ _ | refine bst ?_ (by first | assumption | exact Nat.le_refl _ | omega) _ | refine bch ?_ (by assumption))))).mono ?_; rintro e wn ⟨rfl, hbn⟩)
          (go_wp2_with fail; refine (hF _ _ (by (repeat (first | exact Below.refl _ _ | assumption | refine bal ?_ _ | refine bdr ?_ | refine bdn ?_ _ | refine bst ?_ (by first | assumption | exact Nat.le_refl _ | omega) _ | refine bch ?_ (by assumption))))).mono ?_; rintro e wn ⟨rfl, hbn⟩)
          (go_wp2_with fail; refine (hJ _ (by (repeat (first | exact Below.refl _ _ | assumption | refine bal ?_ _ | refine bdr ?_ | refine bdn ?_ _ | refine bst ?_ (by first | assumption | exact Nat.le_refl _ | omega) _ | refine bch ?_ (by assumption))))).mono ?_; rintro e w3 ⟨o, c, rfl, hx, hb3⟩)
          have hx1 := c1.out _ _ hx (ha.out.below (by (repeat (first | exact Below.refl _ _ | assumption | refine bal ?_ _ | refine bdr ?_ | refine bdn ?_ _ | refine bst ?_ (by first | assumption | exact Nat.le_refl _ | omega) _ | refine bch ?_ (by assumption)))))
          have hx2 := c2.out _ _ hx (hb.out.below (by (repeat (first | exact Below.refl _ _ | assumption | refine bal ?_ _ | refine bdr ?_ | refine bdn ?_ _ | refine bst ?_ (by first | assumption | exact Nat.le_refl _ | omega) _ | refine bch ?_ (by assumption)))))
          have hx3 := d3.out _ _ hx (hc.out.below (by (repeat (first | exact Below.refl _ _ | assumption | refine bal ?_ _ | refine bdr ?_ | refine bdn ?_ _ | refine bst ?_ (by first | assumption | exact Nat.le_refl _ | omega) _ | refine bch ?_ (by assumption)))))
          (go_wp2_with fail; refine (hx1 _ (by (repeat (first | exact Below.refl _ _ | assumption | refine bal ?_ _ | refine bdr ?_ | refine bdn ?_ _ | refine bst ?_ (by first | assumption | exact Nat.le_refl _ | omega) _ | refine bch ?_ (by assumption))))).mono ?_; rintro e wn ⟨rfl, hbn⟩)
          (go_wp2_with fail; refine (hx2 _ (by (repeat (first | exact Below.refl _ _ | assumption | refine bal ?_ _ | refine bdr ?_ | refine bdn ?_ _ | refine bst ?_ (by first | assumption | exact Nat.le_refl _ | omega) _ | refine bch ?_ (by assumption))))).mono ?_; rintro e wn ⟨rfl, hbn⟩)
          (go_wp2_with fail; refine (d1 _ (by (repeat (first | exact Below.refl _ _ | assumption | refine bal ?_ _ | refine bdr ?_ | refine bdn ?_ _ | refine bst ?_ (by first | assumption | exact Nat.le_refl _ | omega) _ | refine bch ?_ (by assumption))))).mono ?_; rintro e wn ⟨rfl, hbn⟩)
          (go_wp2_with fail; refine (d2 _ (by (repeat (first | exact Below.refl _ _ | assumption | refine bal ?_ _ | refine bdr ?_ | refine bdn ?_ _ | refine bst ?_ (by first | assumption | exact Nat.le_refl _ | omega) _ | refine bch ?_ (by assumption))))).mono ?_; rintro e wn ⟨rfl, hbn⟩)
          (go_wp2_with fail; refine (hx3 _ (by (repeat (first | exact Below.refl _ _ | assumption | refine bal ?_ _ | refine bdr ?_ | refine bdn ?_ _ | refine bst ?_ (by first | assumption | exact Nat.le_refl _ | omega) _ | refine bch ?_ (by assumption))))).mono ?_; rintro e wn ⟨rfl, hbn⟩)
          go_wp2
          go_ret
          exact ⟨rfl, by (repeat (first | exact Below.refl _ _ | assumption | refine bal ?_ _ | refine bdr ?_ | refine bdn ?_ _ | refine bst ?_ (by first | assumption | exact Nat.le_refl _ | omega) _ | refine bch ?_ (by assumption)))⟩
    · have hJ := join_no hL ha hb fa fb (by omega)
      clear hf fa fb fc Fa Fb hm ha hb hc q0 q1 q2 hL hla hlb hlc
      subst ea eb ec
      go_enter Tryd.func8, Tryd.ntmps8
      (go_wp2_with fail; refine (hk _ (by (repeat (first | exact Below.refl _ _ | assumption | refine bal ?_ _ | refine bdr ?_ | refine bdn ?_ _ | refine bst ?_ (by first | assumption | exact Nat.le_refl _ | omega) _ | refine bch ?_ (by assumption))))).mono ?_; rintro e wn ⟨rfl, hbn⟩)
      (go_wp2_with fail; refine (hF _ _ (by (repeat (first | exact Below.refl _ _ | assumption | refine bal ?_ _ | refine bdr ?_ | refine bdn ?_ _ | refine bst ?_ (by first | assumption | exact Nat.le_refl _ | omega) _ | refine bch ?_ (by assumption))))).mono ?_; rintro e wn ⟨rfl, hbn⟩)
      (go_wp2_with fail; refine (hJ _ (by (repeat (first | exact Below.refl _ _ | assumption | refine bal ?_ _ | refine bdr ?_ | refine bdn ?_ _ | refine bst ?_ (by first | assumption | exact Nat.le_refl _ | omega) _ | refine bch ?_ (by assumption))))).mono ?_; rintro e wn ⟨rfl, hbn⟩)
      unfold errV
      go_wp2
      go_ret
      exact ⟨rfl, by (repeat (first | exact Below.refl _ _ | assumption | refine bal ?_ _ | refine bdr ?_ | refine bdn ?_ _ | refine bst ?_ (by first | assumption | exact Nat.le_refl _ | omega) _ | refine bch ?_ (by assumption)))⟩
  · have hF := hF false (by simpa using hf)
    clear hf ha hb hc q0 q1 q2 hL hla hlb hlc
    subst ea eb ec
    go_enter Tryd.func8, Tryd.ntmps8
    (go_wp2_with fail; refine (hk _ (by (repeat (first | exact Below.refl _ _ | assumption | refine bal ?_ _ | refine bdr ?_ | refine bdn ?_ _ | refine bst ?_ (by first | assumption | exact Nat.le_refl _ | omega) _ | refine bch ?_ (by assumption))))).mono ?_; rintro e wn ⟨rfl, hbn⟩)
    (go_wp2_with fail; refine (hF _ _ (by (repeat (first | exact Below.refl _ _ | assumption | refine bal ?_ _ | refine bdr ?_ | refine bdn ?_ _ | refine bst ?_ (by first | assumption | exact Nat.le_refl _ | omega) _ | refine bch ?_ (by assumption))))).mono ?_; rintro e wn ⟨rfl, hbn⟩)
    go_wp2
    go_ret
    exact ⟨rfl, by (repeat (first | exact Below.refl _ _ | assumption | refine bal ?_ _ | refine bdr ?_ | refine bdn ?_ _ | refine bst ?_ (by first | assumption | exact Nat.le_refl _ | omega) _ | refine bch ?_ (by assumption)))⟩
set_option maxHeartbeats 2000000 in
set_option maxRecDepth 100000 in
theorem VectorOrder_walk (va : Value) (a : List Vec.Entry) (vb : Value) (b : List Vec.Entry) (vc : Value) (c : List Vec.Entry) (w : World) (ha : VecIs w va a) (q0 : ∀ x ∈ a, Ent x) (hla : a.length ≤ 140737488351232) (hb : VecIs w vb b) (q1 : ∀ x ∈ b, Ent x) (hlb : b.length ≤ 140737488351232) (hc : VecIs w vc c) (q2 : ∀ x ∈ c, Ent x) (hlc : c.length ≤ 140737488351232) (hL : Laid w) :
    Calls Tryd.prog 9 #[va, vb, vc] w fun e w' => e = .returned (.bool true) ∧ Below w.heap.size w w' := by
  have hk := from_known w hL
  have hF : ∀ v, fewB [a, b, c] = v → Few3 va vb vc w v := fun v hv W T hW => few_three va vb vc a b c v w W T ha hb hc hla hlb hlc hv hW
  have hn : VecIs w (.slice none 0 0) [] := vec_nil w none 0
  obtain ⟨oa, ca, ea, -, -⟩ := ha.list.at entCells_len
  obtain ⟨ob, cb, eb, -, -⟩ := hb.list.at entCells_len
  obtain ⟨oc, cc, ec, -, -⟩ := hc.list.at entCells_len
  by_cases hf : fewB [a, b, c] = true
  · have hF := hF true hf
    obtain ⟨fa, fb, fc⟩ := few3_iff hf
    have Fa := (Vec.right_iff a).1 fa
    have Fb := (Vec.right_iff b).1 fb
    have c1 := from_covers ha hb hla hlb _ rfl
    have c2 := from_covers hb ha hlb hla _ rfl
    have c3 := from_covers hb hc hlb hlc _ rfl
    have c4 := from_covers ha hc hla hlc _ rfl
    have c5 := from_covers ha ha hla hla true (covers_true fa fa (Vec.covers_refl a))
    have c6 := from_covers ha hn hla (by decide) true (covers_true fa rfl (fun r => Vec.of_pos Fa.pos r))
    have c7 := from_eq ha hb hla hlb _ rfl
    have e1 : decide (a = b) = (coversB a b && coversB b a) := by
      rw [Bool.eq_iff_iff, Bool.and_eq_true, decide_eq_true_eq]
      refine ⟨fun h => ?_, fun h => Vec.covers_antisymm Fa Fb (covers_of h.1).1 (covers_of h.2).1⟩
      subst h
      exact ⟨covers_true fa fa (Vec.covers_refl a), covers_true fa fa (Vec.covers_refl a)⟩
    have e2 : coversB a b = true → coversB b c = true → coversB a c = true := fun h1 h2 => covers_true fa fc (Vec.covers_trans (covers_of h1).1 (covers_of h2).1)
    rw [e1] at c7
    clear hf fa fb fc Fa Fb q0 q1 q2 hL hla hlb hlc ha hb hc hn e1
    generalize coversB a b = x at *
    generalize coversB b a = y at *
    generalize coversB b c = z at *
    generalize coversB a c = u at *
    subst ea eb ec
    have e3 : u = (u || (x && z)) := by cases x <;> cases z <;> simp_all
    clear e2
    cases x <;> cases z <;> cases y <;> (try simp only [Bool.and_true, Bool.or_true] at e3) <;> (try subst e3)
    all_goals
      (try clear e3)
      simp only [Bool.and_true, Bool.and_false] at c7
      go_enter Tryd.func9, Tryd.ntmps9
      (go_wp2_with fail; refine (hk _ (by (repeat (first | exact Below.refl _ _ | assumption | refine bal ?_ _ | refine bdr ?_ | refine bdn ?_ _ | refine bst ?_ (by first | assumption | exact Nat.le_refl _ | omega) _ | refine bch ?_ (by assumption))))).mono ?_; rintro e wn ⟨rfl, hbn⟩)
      (go_wp2_with fail; refine (hF _ _ (by (repeat (first | exact Below.refl _ _ | assumption | refine bal ?_ _ | refine bdr ?_ | refine bdn ?_ _ | refine bst ?_ (by first | assumption | exact Nat.le_refl _ | omega) _ | refine bch ?_ (by assumption))))).mono ?_; rintro e wn ⟨rfl, hbn⟩)
      (go_wp2_with fail; refine (c1 _ (by (repeat (first | exact Below.refl _ _ | assumption | refine bal ?_ _ | refine bdr ?_ | refine bdn ?_ _ | refine bst ?_ (by first | assumption | exact Nat.le_refl _ | omega) _ | refine bch ?_ (by assumption))))).mono ?_; rintro e wn ⟨rfl, hbn⟩)
      (go_wp2_with fail; refine (c2 _ (by (repeat (first | exact Below.refl _ _ | assumption | refine bal ?_ _ | refine bdr ?_ | refine bdn ?_ _ | refine bst ?_ (by first | assumption | exact Nat.le_refl _ | omega) _ | refine bch ?_ (by assumption))))).mono ?_; rintro e wn ⟨rfl, hbn⟩)
      (go_wp2_with fail; refine (c3 _ (by (repeat (first | exact Below.refl _ _ | assumption | refine bal ?_ _ | refine bdr ?_ | refine bdn ?_ _ | refine bst ?_ (by first | assumption | exact Nat.le_refl _ | omega) _ | refine bch ?_ (by assumption))))).mono ?_; rintro e wn ⟨rfl, hbn⟩)
      (go_wp2_with fail; refine (c5 _ (by (repeat (first | exact Below.refl _ _ | assumption | refine bal ?_ _ | refine bdr ?_ | refine bdn ?_ _ | refine bst ?_ (by first | assumption | exact Nat.le_refl _ | omega) _ | refine bch ?_ (by assumption))))).mono ?_; rintro e wn ⟨rfl, hbn⟩)
      (go_wp2_with fail; refine (c6 _ (by (repeat (first | exact Below.refl _ _ | assumption | refine bal ?_ _ | refine bdr ?_ | refine bdn ?_ _ | refine bst ?_ (by first | assumption | exact Nat.le_refl _ | omega) _ | refine bch ?_ (by assumption))))).mono ?_; rintro e wn ⟨rfl, hbn⟩)
      (go_wp2_with fail; refine (c7 _ (by (repeat (first | exact Below.refl _ _ | assumption | refine bal ?_ _ | refine bdr ?_ | refine bdn ?_ _ | refine bst ?_ (by first | assumption | exact Nat.le_refl _ | omega) _ | refine bch ?_ (by assumption))))).mono ?_; rintro e wn ⟨rfl, hbn⟩)
      first | done | (go_wp2; go_ret; exact ⟨rfl, by (repeat (first | exact Below.refl _ _ | assumption | refine bal ?_ _ | refine bdr ?_ | refine bdn ?_ _ | refine bst ?_ (by first | assumption | exact Nat.le_refl _ | omega) _ | refine bch ?_ (by assumption)))⟩) | ((go_wp2_with fail; refine (c4 _ (by (repeat (first | exact Below.refl _ _ | assumption | refine bal ?_ _ | refine bdr ?_ | refine bdn ?_ _ | refine bst ?_ (by first | assumption | exact Nat.le_refl _ | omega) _ | refine bch ?_ (by assumption))))).mono ?_; rintro e wn ⟨rfl, hbn⟩); go_wp2; go_ret; exact ⟨rfl, by (repeat (first | exact Below.refl _ _ | assumption | refine bal ?_ _ | refine bdr ?_ | refine bdn ?_ _ | refine bst ?_ (by first | assumption | exact Nat.le_refl _ | omega) _ | refine bch ?_ (by assumption)))⟩)
  · have hF := hF false (by simpa using hf)
    clear hf ha hb hc q0 q1 q2 hL hla hlb hlc
    subst ea eb ec
    go_enter Tryd.func9, Tryd.ntmps9
    (go_wp2_with fail; refine (hk _ (by (repeat (first | exact Below.refl _ _ | assumption | refine bal ?_ _ | refine bdr ?_ | refine bdn ?_ _ | refine bst ?_ (by first | assumption | exact Nat.le_refl _ | omega) _ | refine bch ?_ (by assumption))))).mono ?_; rintro e wn ⟨rfl, hbn⟩)
    (go_wp2_with fail; refine (hF _ _ (by (repeat (first | exact Below.refl _ _ | assumption | refine bal ?_ _ | refine bdr ?_ | refine bdn ?_ _ | refine bst ?_ (by first | assumption | exact Nat.le_refl _ | omega) _ | refine bch ?_ (by assumption))))).mono ?_; rintro e wn ⟨rfl, hbn⟩)
    go_wp2
    go_ret
    exact ⟨rfl, by (repeat (first | exact Below.refl _ _ | assumption | refine bal ?_ _ | refine bdr ?_ | refine bdn ?_ _ | refine bst ?_ (by first | assumption | exact Nat.le_refl _ | omega) _ | refine bch ?_ (by assumption)))⟩
end Go.Proofs.YtlgfdmbhoipedaaDoor
