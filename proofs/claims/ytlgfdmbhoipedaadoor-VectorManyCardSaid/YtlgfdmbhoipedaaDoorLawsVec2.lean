/- The walks of keep.VectorSame, VectorMany. -/
import Derived.Test.YtlgfdmbhoipedaaDoorLawsVec
namespace Go.Proofs.YtlgfdmbhoipedaaDoor
open Go.RowKit
set_option linter.unusedVariables false
theorem from_eq_nil (w : World) : From 27 #[.slice none 0 0, .slice none 0 0] w (.bool true) := from_eq (vec_nil w none 0) (vec_nil w none 0) (by decide) (by decide) true (by simp)
set_option maxHeartbeats 4000000 in
set_option maxRecDepth 100000 in
theorem VectorSame_walk (va : Value) (a : List Vec.Entry) (vb : Value) (b : List Vec.Entry) (vc : Value) (c : List Vec.Entry) (w : World) (ha : VecIs w va a) (q0 : ∀ x ∈ a, Ent x) (hla : a.length ≤ 140737488351232) (hb : VecIs w vb b) (q1 : ∀ x ∈ b, Ent x) (hlb : b.length ≤ 140737488351232) (hc : VecIs w vc c) (q2 : ∀ x ∈ c, Ent x) (hlc : c.length ≤ 140737488351232) (hL : Laid w) :
    Calls Tryd.prog 7 #[va, vb, vc] w fun e w' => e = .returned (.bool true) ∧ Below w.heap.size w w' := by
  have hk := from_known w hL
  have hF : ∀ v, fewB [a, b, c] = v → Few3 va vb vc w v := fun v hv W T hW => few_three va vb vc a b c v w W T ha hb hc hla hlb hlc hv hW
  obtain ⟨oa, ca, ea, -, -⟩ := ha.list.at entCells_len
  obtain ⟨ob, cb, eb, -, -⟩ := hb.list.at entCells_len
  obtain ⟨oc, cc, ec, -, -⟩ := hc.list.at entCells_len
  by_cases hf : fewB [a, b, c] = true
  · have hF := hF true hf
    obtain ⟨fa, fb, fc⟩ := few3_iff hf
    have Fa := (Vec.right_iff a).1 fa
    have Fb := (Vec.right_iff b).1 fb
    have Fc := (Vec.right_iff c).1 fc
    have hcomm : Vec.merge b a = Vec.merge a b := (Vec.merge_comm Fa.sorted Fb.sorted Fa.pos Fb.pos).symm
    have hself : Vec.merge a a = a := Vec.merge_self Fa.sorted Fa.pos
    have hassoc := Vec.merge_assoc Fa.sorted Fb.sorted Fc.sorted Fa.pos Fb.pos Fc.pos
    have hZ : JoinIs va va w a := by
      have := join_is hL ha ha fa fa (by rw [hself]; exact Fa.len)
      rw [hself] at this; exact this
    have hE := fun (v : Value) (W : World) h ha => from_eq (w := W) (va := v) (vb := va) (a := a) (b := a) h ha hla hla true (by simp)
    have hNil := from_eq_nil w
    by_cases hm : (Vec.merge a b).length ≤ 16
    · have hJ := join_is hL ha hb fa fb hm
      have hJ2 : JoinIs vb va w (Vec.merge a b) := by
        have := join_is hL hb ha fb fa (by rw [hcomm]; exact hm)
        rw [hcomm] at this; exact this
      have Fx := Vec.merge_fine Fa Fb hm
      have fx := (Vec.right_iff _).2 Fx
      have hX := fun (v1 v2 : Value) (W : World) h1 h2 => from_eq (w := W) (va := v1) (vb := v2) (a := Vec.merge a b) (b := Vec.merge a b) h1 h2 (by omega) (by omega) true (by simp)
      by_cases hm2 : (Vec.merge b c).length ≤ 16
      · have hJ4 := join_is hL hb hc fb fc hm2
        have Fu := Vec.merge_fine Fb Fc hm2
        have fu := (Vec.right_iff _).2 Fu
        by_cases hm3 : (Vec.merge (Vec.merge a b) c).length ≤ 16
        · have hJ5 := fun (v : Value) (W : World) (hL : Laid W) h hc => join_is (w := W) (va := v) (vb := vc) hL h hc fx fc hm3
          have hJ6 : ∀ (v : Value) (W : World), Laid W → VecIs W v (Vec.merge b c) → VecIs W va a → JoinIs va v W (Vec.merge (Vec.merge a b) c) := fun v W hL h ha => by
            have := join_is (w := W) (va := va) (vb := v) hL ha h fa fu (by rw [← hassoc]; exact hm3)
            rw [← hassoc] at this; exact this
          have hV := fun (v1 v2 : Value) (W : World) h1 h2 => from_eq (w := W) (va := v1) (vb := v2) (a := Vec.merge (Vec.merge a b) c) (b := Vec.merge (Vec.merge a b) c) h1 h2 (by omega) (by omega) true (by simp)
          clear hf fa fb fc Fa Fb Fc Fx fx Fu fu hm hm2 hm3 hcomm hself hassoc q0 q1 q2 hla hlb hlc hb
          generalize Vec.merge (Vec.merge a b) c = y at *
          generalize Vec.merge a b = x at *
          generalize Vec.merge b c = u at *
          replace hE := Lib.hid hE
          replace hX := Lib.hid hX
          replace hJ5 := Lib.hid hJ5
          replace hJ6 := Lib.hid hJ6
          replace hV := Lib.hid hV
          replace ha := Lib.hid ha
          replace hc := Lib.hid hc
          replace hL := Lib.hid hL
          subst ea eb ec
          go_enter Tryd.func7, Tryd.ntmps7
          (go_wp2_with fail; refine (hk _ (by (repeat (first | exact Below.refl _ _ | assumption | refine bal ?_ _ | refine bdr ?_ | refine bdn ?_ _ | refine bst ?_ (by first | assumption | exact Nat.le_refl _ | omega) _ | refine bch ?_ (by assumption))))).mono ?_; rintro e wn ⟨rfl, hbn⟩)
          (go_wp2_with fail; refine (hF _ _ (by (repeat (first | exact Below.refl _ _ | assumption | refine bal ?_ _ | refine bdr ?_ | refine bdn ?_ _ | refine bst ?_ (by first | assumption | exact Nat.le_refl _ | omega) _ | refine bch ?_ (by assumption))))).mono ?_; rintro e wn ⟨rfl, hbn⟩)
          (go_wp2_with fail; refine (hJ _ (by (repeat (first | exact Below.refl _ _ | assumption | refine bal ?_ _ | refine bdr ?_ | refine bdn ?_ _ | refine bst ?_ (by first | assumption | exact Nat.le_refl _ | omega) _ | refine bch ?_ (by assumption))))).mono ?_; rintro e w3 ⟨o, cp, rfl, hx, hb3⟩)
          replace hx := Lib.hid hx
          (go_wp2_with fail; refine (hJ2 _ (by (repeat (first | exact Below.refl _ _ | assumption | refine bal ?_ _ | refine bdr ?_ | refine bdn ?_ _ | refine bst ?_ (by first | assumption | exact Nat.le_refl _ | omega) _ | refine bch ?_ (by assumption))))).mono ?_; rintro e w4 ⟨o2, cp2, rfl, hy, hb4⟩)
          replace hx := Lib.hid (hx.out.below (w' := w4) (by (repeat (first | exact Below.refl _ _ | assumption | refine bal ?_ _ | refine bdr ?_ | refine bdn ?_ _ | refine bst ?_ (by first | assumption | exact Nat.le_refl _ | omega) _ | refine bch ?_ (by assumption)))))
          replace hy := Lib.hid hy
          (go_wp2_with fail; refine (hZ _ (by (repeat (first | exact Below.refl _ _ | assumption | refine bal ?_ _ | refine bdr ?_ | refine bdn ?_ _ | refine bst ?_ (by first | assumption | exact Nat.le_refl _ | omega) _ | refine bch ?_ (by assumption))))).mono ?_; rintro e w5 ⟨o3, cp3, rfl, hz, hb5⟩)
          have hz := hE.out _ _ hz (ha.out.below (w' := w5) (by (repeat (first | exact Below.refl _ _ | assumption | refine bal ?_ _ | refine bdr ?_ | refine bdn ?_ _ | refine bst ?_ (by first | assumption | exact Nat.le_refl _ | omega) _ | refine bch ?_ (by assumption)))))
          have hxy := hX.out _ _ _ (hx.out.below (w' := w5) (by (repeat (first | exact Below.refl _ _ | assumption | refine bal ?_ _ | refine bdr ?_ | refine bdn ?_ _ | refine bst ?_ (by first | assumption | exact Nat.le_refl _ | omega) _ | refine bch ?_ (by assumption))))) (hy.out.below (w' := w5) (by (repeat (first | exact Below.refl _ _ | assumption | refine bal ?_ _ | refine bdr ?_ | refine bdn ?_ _ | refine bst ?_ (by first | assumption | exact Nat.le_refl _ | omega) _ | refine bch ?_ (by assumption)))))
          replace hx := Lib.hid (hx.out.below (w' := w5) (by (repeat (first | exact Below.refl _ _ | assumption | refine bal ?_ _ | refine bdr ?_ | refine bdn ?_ _ | refine bst ?_ (by first | assumption | exact Nat.le_refl _ | omega) _ | refine bch ?_ (by assumption)))))
          clear hy
          go_wp2
          (have hN := Old.ne w5; refine wp_region_kept (Old w5.heap.size w5) (by kernel_rfl) (by kernel_rfl) (Old.start w5) ?_; (repeat (first | go_big_quiet_step ((first | (go_at_call 27; with_reducible exact (From.kept hz _)) | (go_at_call 27; with_reducible exact (From.kept hxy _)))) | quiet_step ((first | (go_at_call 27; with_reducible exact (From.kept hz _)) | (go_at_call 27; with_reducible exact (From.kept hxy _)))))); refine wpQuiet_nil ?_; rintro _ ⟨X, rfl⟩)
          have hbX := X.ok.2
          generalize X.val = wn at *
          replace hx := Lib.hid (hx.out.below (w' := wn) (by (repeat (first | exact Below.refl _ _ | assumption | refine bal ?_ _ | refine bdr ?_ | refine bdn ?_ _ | refine bst ?_ (by first | assumption | exact Nat.le_refl _ | omega) _ | refine bch ?_ (by assumption)))))
          (go_wp2_with fail; refine (hJ4 _ (by (repeat (first | exact Below.refl _ _ | assumption | refine bal ?_ _ | refine bdr ?_ | refine bdn ?_ _ | refine bst ?_ (by first | assumption | exact Nat.le_refl _ | omega) _ | refine bch ?_ (by assumption))))).mono ?_; rintro e w6 ⟨o4, cp4, rfl, hu, hb6⟩)
          have hj5 := hJ5.out _ _ (hL.out.below (w' := w6) (by (repeat (first | exact Below.refl _ _ | assumption | refine bal ?_ _ | refine bdr ?_ | refine bdn ?_ _ | refine bst ?_ (by first | assumption | exact Nat.le_refl _ | omega) _ | refine bch ?_ (by assumption))))) (hx.out.below (w' := w6) (by (repeat (first | exact Below.refl _ _ | assumption | refine bal ?_ _ | refine bdr ?_ | refine bdn ?_ _ | refine bst ?_ (by first | assumption | exact Nat.le_refl _ | omega) _ | refine bch ?_ (by assumption))))) (hc.out.below (w' := w6) (by (repeat (first | exact Below.refl _ _ | assumption | refine bal ?_ _ | refine bdr ?_ | refine bdn ?_ _ | refine bst ?_ (by first | assumption | exact Nat.le_refl _ | omega) _ | refine bch ?_ (by assumption)))))
          have hj6 := hJ6.out _ _ (hL.out.below (w' := w6) (by (repeat (first | exact Below.refl _ _ | assumption | refine bal ?_ _ | refine bdr ?_ | refine bdn ?_ _ | refine bst ?_ (by first | assumption | exact Nat.le_refl _ | omega) _ | refine bch ?_ (by assumption))))) hu (ha.out.below (w' := w6) (by (repeat (first | exact Below.refl _ _ | assumption | refine bal ?_ _ | refine bdr ?_ | refine bdn ?_ _ | refine bst ?_ (by first | assumption | exact Nat.le_refl _ | omega) _ | refine bch ?_ (by assumption)))))
          clear hx hu
          (go_wp2_with fail; refine (hj5 _ (by (repeat (first | exact Below.refl _ _ | assumption | refine bal ?_ _ | refine bdr ?_ | refine bdn ?_ _ | refine bst ?_ (by first | assumption | exact Nat.le_refl _ | omega) _ | refine bch ?_ (by assumption))))).mono ?_; rintro e w7 ⟨o5, cp5, rfl, hv1, hb7⟩)
          replace hv1 := Lib.hid hv1
          (go_wp2_with fail; refine (hj6 _ (by (repeat (first | exact Below.refl _ _ | assumption | refine bal ?_ _ | refine bdr ?_ | refine bdn ?_ _ | refine bst ?_ (by first | assumption | exact Nat.le_refl _ | omega) _ | refine bch ?_ (by assumption))))).mono ?_; rintro e w8 ⟨o6, cp6, rfl, hv2, hb8⟩)
          have hfin := hV.out _ _ _ (hv1.out.below (w' := w8) (by (repeat (first | exact Below.refl _ _ | assumption | refine bal ?_ _ | refine bdr ?_ | refine bdn ?_ _ | refine bst ?_ (by first | assumption | exact Nat.le_refl _ | omega) _ | refine bch ?_ (by assumption))))) hv2
          clear hv1 hv2
          go_wp2
          (have hN := Old.ne w8; refine wp_region_kept (Old w8.heap.size w8) (by kernel_rfl) (by kernel_rfl) (Old.start w8) ?_; (repeat (first | go_big_quiet_step ((first | (go_at_call 27; with_reducible exact (From.kept hfin _)))) | quiet_step ((first | (go_at_call 27; with_reducible exact (From.kept hfin _)))))); refine wpQuiet_nil ?_; rintro _ ⟨X, rfl⟩)
          have hbY := X.ok.2
          generalize X.val = wn at *
          go_wp2
          go_ret
          exact ⟨rfl, by (repeat (first | exact Below.refl _ _ | assumption | refine bal ?_ _ | refine bdr ?_ | refine bdn ?_ _ | refine bst ?_ (by first | assumption | exact Nat.le_refl _ | omega) _ | refine bch ?_ (by assumption)))⟩
        · have hJ5 := fun (v : Value) (W : World) (hL : Laid W) h hc => join_no (w := W) (va := v) (vb := vc) hL h hc fx fc (by omega)
          have hJ6 : ∀ (v : Value) (W : World), Laid W → VecIs W v (Vec.merge b c) → VecIs W va a → JoinNo va v W 4 := fun v W hL h ha => by
            exact join_no (w := W) (va := va) (vb := v) hL ha h fa fu (by rw [← hassoc]; omega)
          clear hf fa fb fc Fa Fb Fc Fx fx Fu fu hm hm2 hm3 hcomm hself hassoc q0 q1 q2 hla hlb hlc hb
          generalize Vec.merge a b = x at *
          generalize Vec.merge b c = u at *
          replace hE := Lib.hid hE
          replace hX := Lib.hid hX
          replace hJ5 := Lib.hid hJ5
          replace hJ6 := Lib.hid hJ6
          replace ha := Lib.hid ha
          replace hc := Lib.hid hc
          replace hL := Lib.hid hL
          subst ea eb ec
          go_enter Tryd.func7, Tryd.ntmps7
          (go_wp2_with fail; refine (hk _ (by (repeat (first | exact Below.refl _ _ | assumption | refine bal ?_ _ | refine bdr ?_ | refine bdn ?_ _ | refine bst ?_ (by first | assumption | exact Nat.le_refl _ | omega) _ | refine bch ?_ (by assumption))))).mono ?_; rintro e wn ⟨rfl, hbn⟩)
          (go_wp2_with fail; refine (hF _ _ (by (repeat (first | exact Below.refl _ _ | assumption | refine bal ?_ _ | refine bdr ?_ | refine bdn ?_ _ | refine bst ?_ (by first | assumption | exact Nat.le_refl _ | omega) _ | refine bch ?_ (by assumption))))).mono ?_; rintro e wn ⟨rfl, hbn⟩)
          (go_wp2_with fail; refine (hJ _ (by (repeat (first | exact Below.refl _ _ | assumption | refine bal ?_ _ | refine bdr ?_ | refine bdn ?_ _ | refine bst ?_ (by first | assumption | exact Nat.le_refl _ | omega) _ | refine bch ?_ (by assumption))))).mono ?_; rintro e w3 ⟨o, cp, rfl, hx, hb3⟩)
          replace hx := Lib.hid hx
          (go_wp2_with fail; refine (hJ2 _ (by (repeat (first | exact Below.refl _ _ | assumption | refine bal ?_ _ | refine bdr ?_ | refine bdn ?_ _ | refine bst ?_ (by first | assumption | exact Nat.le_refl _ | omega) _ | refine bch ?_ (by assumption))))).mono ?_; rintro e w4 ⟨o2, cp2, rfl, hy, hb4⟩)
          replace hx := Lib.hid (hx.out.below (w' := w4) (by (repeat (first | exact Below.refl _ _ | assumption | refine bal ?_ _ | refine bdr ?_ | refine bdn ?_ _ | refine bst ?_ (by first | assumption | exact Nat.le_refl _ | omega) _ | refine bch ?_ (by assumption)))))
          replace hy := Lib.hid hy
          (go_wp2_with fail; refine (hZ _ (by (repeat (first | exact Below.refl _ _ | assumption | refine bal ?_ _ | refine bdr ?_ | refine bdn ?_ _ | refine bst ?_ (by first | assumption | exact Nat.le_refl _ | omega) _ | refine bch ?_ (by assumption))))).mono ?_; rintro e w5 ⟨o3, cp3, rfl, hz, hb5⟩)
          have hz := hE.out _ _ hz (ha.out.below (w' := w5) (by (repeat (first | exact Below.refl _ _ | assumption | refine bal ?_ _ | refine bdr ?_ | refine bdn ?_ _ | refine bst ?_ (by first | assumption | exact Nat.le_refl _ | omega) _ | refine bch ?_ (by assumption)))))
          have hxy := hX.out _ _ _ (hx.out.below (w' := w5) (by (repeat (first | exact Below.refl _ _ | assumption | refine bal ?_ _ | refine bdr ?_ | refine bdn ?_ _ | refine bst ?_ (by first | assumption | exact Nat.le_refl _ | omega) _ | refine bch ?_ (by assumption))))) (hy.out.below (w' := w5) (by (repeat (first | exact Below.refl _ _ | assumption | refine bal ?_ _ | refine bdr ?_ | refine bdn ?_ _ | refine bst ?_ (by first | assumption | exact Nat.le_refl _ | omega) _ | refine bch ?_ (by assumption)))))
          replace hx := Lib.hid (hx.out.below (w' := w5) (by (repeat (first | exact Below.refl _ _ | assumption | refine bal ?_ _ | refine bdr ?_ | refine bdn ?_ _ | refine bst ?_ (by first | assumption | exact Nat.le_refl _ | omega) _ | refine bch ?_ (by assumption)))))
          clear hy
          go_wp2
          (have hN := Old.ne w5; refine wp_region_kept (Old w5.heap.size w5) (by kernel_rfl) (by kernel_rfl) (Old.start w5) ?_; (repeat (first | go_big_quiet_step ((first | (go_at_call 27; with_reducible exact (From.kept hz _)) | (go_at_call 27; with_reducible exact (From.kept hxy _)))) | quiet_step ((first | (go_at_call 27; with_reducible exact (From.kept hz _)) | (go_at_call 27; with_reducible exact (From.kept hxy _)))))); refine wpQuiet_nil ?_; rintro _ ⟨X, rfl⟩)
          have hbX := X.ok.2
          generalize X.val = wn at *
          replace hx := Lib.hid (hx.out.below (w' := wn) (by (repeat (first | exact Below.refl _ _ | assumption | refine bal ?_ _ | refine bdr ?_ | refine bdn ?_ _ | refine bst ?_ (by first | assumption | exact Nat.le_refl _ | omega) _ | refine bch ?_ (by assumption)))))
          (go_wp2_with fail; refine (hJ4 _ (by (repeat (first | exact Below.refl _ _ | assumption | refine bal ?_ _ | refine bdr ?_ | refine bdn ?_ _ | refine bst ?_ (by first | assumption | exact Nat.le_refl _ | omega) _ | refine bch ?_ (by assumption))))).mono ?_; rintro e w6 ⟨o4, cp4, rfl, hu, hb6⟩)
          have hj5 := hJ5.out _ _ (hL.out.below (w' := w6) (by (repeat (first | exact Below.refl _ _ | assumption | refine bal ?_ _ | refine bdr ?_ | refine bdn ?_ _ | refine bst ?_ (by first | assumption | exact Nat.le_refl _ | omega) _ | refine bch ?_ (by assumption))))) (hx.out.below (w' := w6) (by (repeat (first | exact Below.refl _ _ | assumption | refine bal ?_ _ | refine bdr ?_ | refine bdn ?_ _ | refine bst ?_ (by first | assumption | exact Nat.le_refl _ | omega) _ | refine bch ?_ (by assumption))))) (hc.out.below (w' := w6) (by (repeat (first | exact Below.refl _ _ | assumption | refine bal ?_ _ | refine bdr ?_ | refine bdn ?_ _ | refine bst ?_ (by first | assumption | exact Nat.le_refl _ | omega) _ | refine bch ?_ (by assumption)))))
          have hj6 := hJ6.out _ _ (hL.out.below (w' := w6) (by (repeat (first | exact Below.refl _ _ | assumption | refine bal ?_ _ | refine bdr ?_ | refine bdn ?_ _ | refine bst ?_ (by first | assumption | exact Nat.le_refl _ | omega) _ | refine bch ?_ (by assumption))))) hu (ha.out.below (w' := w6) (by (repeat (first | exact Below.refl _ _ | assumption | refine bal ?_ _ | refine bdr ?_ | refine bdn ?_ _ | refine bst ?_ (by first | assumption | exact Nat.le_refl _ | omega) _ | refine bch ?_ (by assumption)))))
          clear hx hu
          (go_wp2_with fail; refine (hj5 _ (by (repeat (first | exact Below.refl _ _ | assumption | refine bal ?_ _ | refine bdr ?_ | refine bdn ?_ _ | refine bst ?_ (by first | assumption | exact Nat.le_refl _ | omega) _ | refine bch ?_ (by assumption))))).mono ?_; rintro e wn ⟨rfl, hbn⟩)
          (go_wp2_with fail; refine (hj6 _ (by (repeat (first | exact Below.refl _ _ | assumption | refine bal ?_ _ | refine bdr ?_ | refine bdn ?_ _ | refine bst ?_ (by first | assumption | exact Nat.le_refl _ | omega) _ | refine bch ?_ (by assumption))))).mono ?_; rintro e wn ⟨rfl, hbn⟩)
          unfold errV
          have hn9 := hNil.later (w' := wn) (by (repeat (first | exact Below.refl _ _ | assumption | refine bal ?_ _ | refine bdr ?_ | refine bdn ?_ _ | refine bst ?_ (by first | assumption | exact Nat.le_refl _ | omega) _ | refine bch ?_ (by assumption))))
          go_wp2
          (have hN := Old.ne wn; refine wp_region_kept (Old wn.heap.size wn) (by kernel_rfl) (by kernel_rfl) (Old.start wn) ?_; (repeat (first | go_big_quiet_step ((first | (go_at_call 27; with_reducible exact (From.kept hn9 _)))) | quiet_step ((first | (go_at_call 27; with_reducible exact (From.kept hn9 _)))))); refine wpQuiet_nil ?_; rintro _ ⟨X, rfl⟩)
          have hbY := X.ok.2
          generalize X.val = wm at *
          go_wp2
          go_ret
          exact ⟨rfl, by (repeat (first | exact Below.refl _ _ | assumption | refine bal ?_ _ | refine bdr ?_ | refine bdn ?_ _ | refine bst ?_ (by first | assumption | exact Nat.le_refl _ | omega) _ | refine bch ?_ (by assumption)))⟩
      · have hJ4 := join_no hL hb hc fb fc (by omega)
        clear hf fa fb fc Fa Fb Fc Fx fx hm hm2 hcomm hself hassoc q0 q1 q2 hla hlb hlc hb hL hc
        generalize Vec.merge a b = x at *
        replace hE := Lib.hid hE
        replace hX := Lib.hid hX
        replace ha := Lib.hid ha
        subst ea eb ec
        go_enter Tryd.func7, Tryd.ntmps7
        (go_wp2_with fail; refine (hk _ (by (repeat (first | exact Below.refl _ _ | assumption | refine bal ?_ _ | refine bdr ?_ | refine bdn ?_ _ | refine bst ?_ (by first | assumption | exact Nat.le_refl _ | omega) _ | refine bch ?_ (by assumption))))).mono ?_; rintro e wn ⟨rfl, hbn⟩)
        (go_wp2_with fail; refine (hF _ _ (by (repeat (first | exact Below.refl _ _ | assumption | refine bal ?_ _ | refine bdr ?_ | refine bdn ?_ _ | refine bst ?_ (by first | assumption | exact Nat.le_refl _ | omega) _ | refine bch ?_ (by assumption))))).mono ?_; rintro e wn ⟨rfl, hbn⟩)
        (go_wp2_with fail; refine (hJ _ (by (repeat (first | exact Below.refl _ _ | assumption | refine bal ?_ _ | refine bdr ?_ | refine bdn ?_ _ | refine bst ?_ (by first | assumption | exact Nat.le_refl _ | omega) _ | refine bch ?_ (by assumption))))).mono ?_; rintro e w3 ⟨o, cp, rfl, hx, hb3⟩)
        replace hx := Lib.hid hx
        (go_wp2_with fail; refine (hJ2 _ (by (repeat (first | exact Below.refl _ _ | assumption | refine bal ?_ _ | refine bdr ?_ | refine bdn ?_ _ | refine bst ?_ (by first | assumption | exact Nat.le_refl _ | omega) _ | refine bch ?_ (by assumption))))).mono ?_; rintro e w4 ⟨o2, cp2, rfl, hy, hb4⟩)
        replace hx := Lib.hid (hx.out.below (w' := w4) (by (repeat (first | exact Below.refl _ _ | assumption | refine bal ?_ _ | refine bdr ?_ | refine bdn ?_ _ | refine bst ?_ (by first | assumption | exact Nat.le_refl _ | omega) _ | refine bch ?_ (by assumption)))))
        replace hy := Lib.hid hy
        (go_wp2_with fail; refine (hZ _ (by (repeat (first | exact Below.refl _ _ | assumption | refine bal ?_ _ | refine bdr ?_ | refine bdn ?_ _ | refine bst ?_ (by first | assumption | exact Nat.le_refl _ | omega) _ | refine bch ?_ (by assumption))))).mono ?_; rintro e w5 ⟨o3, cp3, rfl, hz, hb5⟩)
        have hz := hE.out _ _ hz (ha.out.below (w' := w5) (by (repeat (first | exact Below.refl _ _ | assumption | refine bal ?_ _ | refine bdr ?_ | refine bdn ?_ _ | refine bst ?_ (by first | assumption | exact Nat.le_refl _ | omega) _ | refine bch ?_ (by assumption)))))
        have hxy := hX.out _ _ _ (hx.out.below (w' := w5) (by (repeat (first | exact Below.refl _ _ | assumption | refine bal ?_ _ | refine bdr ?_ | refine bdn ?_ _ | refine bst ?_ (by first | assumption | exact Nat.le_refl _ | omega) _ | refine bch ?_ (by assumption))))) (hy.out.below (w' := w5) (by (repeat (first | exact Below.refl _ _ | assumption | refine bal ?_ _ | refine bdr ?_ | refine bdn ?_ _ | refine bst ?_ (by first | assumption | exact Nat.le_refl _ | omega) _ | refine bch ?_ (by assumption)))))
        clear hx hy
        go_wp2
        (have hN := Old.ne w5; refine wp_region_kept (Old w5.heap.size w5) (by kernel_rfl) (by kernel_rfl) (Old.start w5) ?_; (repeat (first | go_big_quiet_step ((first | (go_at_call 27; with_reducible exact (From.kept hz _)) | (go_at_call 27; with_reducible exact (From.kept hxy _)))) | quiet_step ((first | (go_at_call 27; with_reducible exact (From.kept hz _)) | (go_at_call 27; with_reducible exact (From.kept hxy _)))))); refine wpQuiet_nil ?_; rintro _ ⟨X, rfl⟩)
        have hbX := X.ok.2
        generalize X.val = wn at *
        (go_wp2_with fail; refine (hJ4 _ (by (repeat (first | exact Below.refl _ _ | assumption | refine bal ?_ _ | refine bdr ?_ | refine bdn ?_ _ | refine bst ?_ (by first | assumption | exact Nat.le_refl _ | omega) _ | refine bch ?_ (by assumption))))).mono ?_; rintro e wn ⟨rfl, hbn⟩)
        unfold errV
        go_wp2
        go_ret
        exact ⟨rfl, by (repeat (first | exact Below.refl _ _ | assumption | refine bal ?_ _ | refine bdr ?_ | refine bdn ?_ _ | refine bst ?_ (by first | assumption | exact Nat.le_refl _ | omega) _ | refine bch ?_ (by assumption)))⟩
    · have hJ := join_no hL ha hb fa fb (by omega)
      have hJ2 : JoinNo vb va w 4 := join_no hL hb ha fb fa (by rw [hcomm]; omega)
      have hJ4 : ((Vec.merge b c).length ≤ 16 ∧ JoinIs vb vc w (Vec.merge b c)) ∨ JoinNo vb vc w 4 := by
        by_cases hm2 : (Vec.merge b c).length ≤ 16
        · exact .inl ⟨hm2, join_is hL hb hc fb fc hm2⟩
        · exact .inr (join_no hL hb hc fb fc (by omega))
      clear hf fa fb fc Fa Fb Fc hm hcomm hself hassoc q0 q1 q2 hla hlb hlc hb hL hc
      replace hE := Lib.hid hE
      replace ha := Lib.hid ha
      subst ea eb ec
      rcases hJ4 with ⟨hm2, hJ4⟩ | hJ4
      · generalize Vec.merge b c = u at *
        clear hm2
        go_enter Tryd.func7, Tryd.ntmps7
        (go_wp2_with fail; refine (hk _ (by (repeat (first | exact Below.refl _ _ | assumption | refine bal ?_ _ | refine bdr ?_ | refine bdn ?_ _ | refine bst ?_ (by first | assumption | exact Nat.le_refl _ | omega) _ | refine bch ?_ (by assumption))))).mono ?_; rintro e wn ⟨rfl, hbn⟩)
        (go_wp2_with fail; refine (hF _ _ (by (repeat (first | exact Below.refl _ _ | assumption | refine bal ?_ _ | refine bdr ?_ | refine bdn ?_ _ | refine bst ?_ (by first | assumption | exact Nat.le_refl _ | omega) _ | refine bch ?_ (by assumption))))).mono ?_; rintro e wn ⟨rfl, hbn⟩)
        (go_wp2_with fail; refine (hJ _ (by (repeat (first | exact Below.refl _ _ | assumption | refine bal ?_ _ | refine bdr ?_ | refine bdn ?_ _ | refine bst ?_ (by first | assumption | exact Nat.le_refl _ | omega) _ | refine bch ?_ (by assumption))))).mono ?_; rintro e wn ⟨rfl, hbn⟩)
        (go_wp2_with fail; refine (hJ2 _ (by (repeat (first | exact Below.refl _ _ | assumption | refine bal ?_ _ | refine bdr ?_ | refine bdn ?_ _ | refine bst ?_ (by first | assumption | exact Nat.le_refl _ | omega) _ | refine bch ?_ (by assumption))))).mono ?_; rintro e wn ⟨rfl, hbn⟩)
        unfold errV
        (go_wp2_with fail; refine (hZ _ (by (repeat (first | exact Below.refl _ _ | assumption | refine bal ?_ _ | refine bdr ?_ | refine bdn ?_ _ | refine bst ?_ (by first | assumption | exact Nat.le_refl _ | omega) _ | refine bch ?_ (by assumption))))).mono ?_; rintro e w5 ⟨o3, cp3, rfl, hz, hb5⟩)
        have hz := hE.out _ _ hz (ha.out.below (w' := w5) (by (repeat (first | exact Below.refl _ _ | assumption | refine bal ?_ _ | refine bdr ?_ | refine bdn ?_ _ | refine bst ?_ (by first | assumption | exact Nat.le_refl _ | omega) _ | refine bch ?_ (by assumption)))))
        have hn5 := hNil.later (w' := w5) (by (repeat (first | exact Below.refl _ _ | assumption | refine bal ?_ _ | refine bdr ?_ | refine bdn ?_ _ | refine bst ?_ (by first | assumption | exact Nat.le_refl _ | omega) _ | refine bch ?_ (by assumption))))
        go_wp2
        (have hN := Old.ne w5; refine wp_region_kept (Old w5.heap.size w5) (by kernel_rfl) (by kernel_rfl) (Old.start w5) ?_; (repeat (first | go_big_quiet_step ((first | (go_at_call 27; with_reducible exact (From.kept hz _)) | (go_at_call 27; with_reducible exact (From.kept hn5 _)))) | quiet_step ((first | (go_at_call 27; with_reducible exact (From.kept hz _)) | (go_at_call 27; with_reducible exact (From.kept hn5 _)))))); refine wpQuiet_nil ?_; rintro _ ⟨X, rfl⟩)
        have hbX := X.ok.2
        generalize X.val = wn at *
        (go_wp2_with fail; refine (hJ4 _ (by (repeat (first | exact Below.refl _ _ | assumption | refine bal ?_ _ | refine bdr ?_ | refine bdn ?_ _ | refine bst ?_ (by first | assumption | exact Nat.le_refl _ | omega) _ | refine bch ?_ (by assumption))))).mono ?_; rintro e w6 ⟨o4, cp4, rfl, hu, hb6⟩)
        clear hu
        go_wp2
        go_ret
        exact ⟨rfl, by (repeat (first | exact Below.refl _ _ | assumption | refine bal ?_ _ | refine bdr ?_ | refine bdn ?_ _ | refine bst ?_ (by first | assumption | exact Nat.le_refl _ | omega) _ | refine bch ?_ (by assumption)))⟩
      · go_enter Tryd.func7, Tryd.ntmps7
        (go_wp2_with fail; refine (hk _ (by (repeat (first | exact Below.refl _ _ | assumption | refine bal ?_ _ | refine bdr ?_ | refine bdn ?_ _ | refine bst ?_ (by first | assumption | exact Nat.le_refl _ | omega) _ | refine bch ?_ (by assumption))))).mono ?_; rintro e wn ⟨rfl, hbn⟩)
        (go_wp2_with fail; refine (hF _ _ (by (repeat (first | exact Below.refl _ _ | assumption | refine bal ?_ _ | refine bdr ?_ | refine bdn ?_ _ | refine bst ?_ (by first | assumption | exact Nat.le_refl _ | omega) _ | refine bch ?_ (by assumption))))).mono ?_; rintro e wn ⟨rfl, hbn⟩)
        (go_wp2_with fail; refine (hJ _ (by (repeat (first | exact Below.refl _ _ | assumption | refine bal ?_ _ | refine bdr ?_ | refine bdn ?_ _ | refine bst ?_ (by first | assumption | exact Nat.le_refl _ | omega) _ | refine bch ?_ (by assumption))))).mono ?_; rintro e wn ⟨rfl, hbn⟩)
        (go_wp2_with fail; refine (hJ2 _ (by (repeat (first | exact Below.refl _ _ | assumption | refine bal ?_ _ | refine bdr ?_ | refine bdn ?_ _ | refine bst ?_ (by first | assumption | exact Nat.le_refl _ | omega) _ | refine bch ?_ (by assumption))))).mono ?_; rintro e wn ⟨rfl, hbn⟩)
        unfold errV
        (go_wp2_with fail; refine (hZ _ (by (repeat (first | exact Below.refl _ _ | assumption | refine bal ?_ _ | refine bdr ?_ | refine bdn ?_ _ | refine bst ?_ (by first | assumption | exact Nat.le_refl _ | omega) _ | refine bch ?_ (by assumption))))).mono ?_; rintro e w5 ⟨o3, cp3, rfl, hz, hb5⟩)
        have hz := hE.out _ _ hz (ha.out.below (w' := w5) (by (repeat (first | exact Below.refl _ _ | assumption | refine bal ?_ _ | refine bdr ?_ | refine bdn ?_ _ | refine bst ?_ (by first | assumption | exact Nat.le_refl _ | omega) _ | refine bch ?_ (by assumption)))))
        have hn5 := hNil.later (w' := w5) (by (repeat (first | exact Below.refl _ _ | assumption | refine bal ?_ _ | refine bdr ?_ | refine bdn ?_ _ | refine bst ?_ (by first | assumption | exact Nat.le_refl _ | omega) _ | refine bch ?_ (by assumption))))
        go_wp2
        (have hN := Old.ne w5; refine wp_region_kept (Old w5.heap.size w5) (by kernel_rfl) (by kernel_rfl) (Old.start w5) ?_; (repeat (first | go_big_quiet_step ((first | (go_at_call 27; with_reducible exact (From.kept hz _)) | (go_at_call 27; with_reducible exact (From.kept hn5 _)))) | quiet_step ((first | (go_at_call 27; with_reducible exact (From.kept hz _)) | (go_at_call 27; with_reducible exact (From.kept hn5 _)))))); refine wpQuiet_nil ?_; rintro _ ⟨X, rfl⟩)
        have hbX := X.ok.2
        generalize X.val = wn at *
        (go_wp2_with fail; refine (hJ4 _ (by (repeat (first | exact Below.refl _ _ | assumption | refine bal ?_ _ | refine bdr ?_ | refine bdn ?_ _ | refine bst ?_ (by first | assumption | exact Nat.le_refl _ | omega) _ | refine bch ?_ (by assumption))))).mono ?_; rintro e wn ⟨rfl, hbn⟩)
        unfold errV
        go_wp2
        go_ret
        exact ⟨rfl, by (repeat (first | exact Below.refl _ _ | assumption | refine bal ?_ _ | refine bdr ?_ | refine bdn ?_ _ | refine bst ?_ (by first | assumption | exact Nat.le_refl _ | omega) _ | refine bch ?_ (by assumption)))⟩
  · have hF := hF false (by simpa using hf)
    clear hf ha hb hc q0 q1 q2 hL hla hlb hlc
    subst ea eb ec
    go_enter Tryd.func7, Tryd.ntmps7
    (go_wp2_with fail; refine (hk _ (by (repeat (first | exact Below.refl _ _ | assumption | refine bal ?_ _ | refine bdr ?_ | refine bdn ?_ _ | refine bst ?_ (by first | assumption | exact Nat.le_refl _ | omega) _ | refine bch ?_ (by assumption))))).mono ?_; rintro e wn ⟨rfl, hbn⟩)
    (go_wp2_with fail; refine (hF _ _ (by (repeat (first | exact Below.refl _ _ | assumption | refine bal ?_ _ | refine bdr ?_ | refine bdn ?_ _ | refine bst ?_ (by first | assumption | exact Nat.le_refl _ | omega) _ | refine bch ?_ (by assumption))))).mono ?_; rintro e wn ⟨rfl, hbn⟩)
    go_wp2
    go_ret
    exact ⟨rfl, by (repeat (first | exact Below.refl _ _ | assumption | refine bal ?_ _ | refine bdr ?_ | refine bdn ?_ _ | refine bst ?_ (by first | assumption | exact Nat.le_refl _ | omega) _ | refine bch ?_ (by assumption)))⟩
theorem many_step (a b : List Vec.Entry) (k : Nat) (h : k < b.length) : ((b.take (k + 1)).filter fun x => Vec.of a x.r = 0).length = ((b.take k).filter fun x => Vec.of a x.r = 0).length + if Vec.of a b[k].r = 0 then 1 else 0 := by
  rw [List.take_succ_eq_append_getElem h, List.filter_append, List.length_append, List.filter_cons]
  split <;> simp_all
set_option maxHeartbeats 4000000 in
set_option maxRecDepth 100000 in
theorem VectorMany_walk (va : Value) (a : List Vec.Entry) (vb : Value) (b : List Vec.Entry) (w : World) (ha : VecIs w va a) (q0 : ∀ x ∈ a, Ent x) (hla : a.length ≤ 140737488351232) (hb : VecIs w vb b) (q1 : ∀ x ∈ b, Ent x) (hlb : b.length ≤ 140737488351232) (hL : Laid w) :
    Calls Tryd.prog 11 #[va, vb] w fun e w' => e = .returned (.bool true) ∧ Below w.heap.size w w' := by
  have hk := from_known w hL
  have hF : ∀ v, fewB [a, b] = v → Few2 va vb w v := fun v hv W T hW => few_two va vb a b v w W T ha hb hla hlb hv hW
  obtain ⟨oa, ca, ea, -, -⟩ := ha.list.at entCells_len
  obtain ⟨ob, cb, eb, hcap, hcell⟩ := hb.list.at entCells_len
  by_cases hf : fewB [a, b] = true
  · have hF := hF true hf
    obtain ⟨fa, fb⟩ := few2_iff hf
    have Fa := (Vec.right_iff a).1 fa
    have Fb := (Vec.right_iff b).1 fb
    have hlen := Vec.merge_len a b Fa.sorted Fb.sorted Fa.pos
    have la := Fa.len
    have lb := Fb.len
    have hJ1 : (Vec.merge a b).length ≤ 16 → JoinIs va vb w (Vec.merge a b) := fun hm => join_is hL ha hb fa fb hm
    have hJ2 : 16 < (Vec.merge a b).length → JoinNo va vb w 4 := fun hm => join_no hL ha hb fa fb hm
    have hR : (Vec.merge a b).length ≤ 16 → ∀ (v : Value) (W : World), VecIs W v (Vec.merge a b) → From 31 #[v] W .nilIface := fun hm v W h => from_right h (by omega) ((Vec.right_iff _).2 (Vec.merge_fine Fa Fb hm))
    have hstep := many_step a b
    have hfl : ∀ k, ((b.take k).filter fun x => Vec.of a x.r = 0).length ≤ 16 := fun k => by
      have := List.length_filter_le (fun x => decide (Vec.of a x.r = 0)) (b.take k)
      have := List.length_take_le k b
      have := List.length_take_le' k b
      omega
    have h0 : ((b.take 0).filter fun x => Vec.of a x.r = 0).length = 0 := by simp
    have hall : a.length + ((b.take b.length).filter fun x => Vec.of a x.r = 0).length = (Vec.merge a b).length := by rw [List.take_length, hlen]
    generalize Vec.merge a b = x at *
    obtain ⟨cnt, hcnt⟩ : ∃ f : Nat → Nat, ∀ k, f k = ((b.take k).filter fun x => Vec.of a x.r = 0).length := ⟨_, fun _ => rfl⟩
    simp only [← hcnt] at hstep hfl h0 hall
    clear hcnt hlen hf fa fb Fa Fb hb q0 q1 hla hlb
    replace hstep := Lib.hid hstep
    replace hfl := Lib.hid hfl
    replace hall := Lib.hid hall
    replace h0 := Lib.hid h0
    replace hJ1 := Lib.hid hJ1
    replace hJ2 := Lib.hid hJ2
    replace hR := Lib.hid hR
    replace hcell := Lib.hid hcell
    replace hcap := Lib.hid hcap
    have hL' := Lib.hid hL
    clear hL
    replace ha := Lib.hid ha
    subst ea eb
    go_enter Tryd.func11, Tryd.ntmps11
    (go_wp2_with fail; refine (hk _ (by (repeat (first | exact Below.refl _ _ | assumption | refine bal ?_ _ | refine bdr ?_ | refine bdn ?_ _ | refine bst ?_ (by first | assumption | exact Nat.le_refl _ | omega) _ | refine bch ?_ (by assumption))))).mono ?_; rintro e wn ⟨rfl, hbn⟩)
    (go_wp2_with fail; refine (hF _ _ (by (repeat (first | exact Below.refl _ _ | assumption | refine bal ?_ _ | refine bdr ?_ | refine bdn ?_ _ | refine bst ?_ (by first | assumption | exact Nat.le_refl _ | omega) _ | refine bch ?_ (by assumption))))).mono ?_; rintro e wn ⟨rfl, hbn⟩)
    have hbel2 : Below w.heap.size w wn := by (repeat (first | exact Below.refl _ _ | assumption | refine bal ?_ _ | refine bdr ?_ | refine bdn ?_ _ | refine bst ?_ (by first | assumption | exact Nat.le_refl _ | omega) _ | refine bch ?_ (by assumption)))
    go_wp2
    go_loopw [5, 21] (fun n i wr => ∃ k : Nat, k ≤ b.length ∧ i = .int .i64 k ∧ n = .int .i64 (a.length + cnt k : Nat) ∧ Below w.heap.size w wr) (fun _ i _ => b.length - (intOf i).toNat)
    case atStart => exact ⟨0, by omega, rfl, by rw [h0.out]; rfl, hbel2⟩
    case round =>
      clear hbel2
      obtain ⟨k, hk, rfl, rfl, hbel⟩ := hrel
      have hsz := hbel.size
      have hfl1 := hfl.out k
      by_cases hlt : k < b.length
      · obtain ⟨b0, off, rfl, hbw, hc⟩ := hcell.out k hlt
        have hbw := hbw (by omega)
        have c0 : wr.cell? ⟨b0, off + k * 2, none⟩ = some (.int .i64 b[k].r) := (hbel.cell (p := ⟨b0, off + k * 2, none⟩) hbw).trans (hc 0 _ rfl)
        have c1 : wr.cell? ⟨b0, off + k * 2 + 1, none⟩ = some (.int .i64 b[k].t) := (hbel.cell (p := ⟨b0, off + k * 2 + 1, none⟩) hbw).trans (hc 1 _ rfl)
        have hs := hstep.out k hlt
        have hfl2 := hfl.out (k + 1)
        clear hc
        generalize b[k] = y at *
        by_cases hy : Vec.of a y.r = 0
        · rw [if_pos hy] at hs
          generalize hm2 : cnt (k + 1) = m2 at *
          generalize cnt k = m1 at *
          replace hm2 := Lib.hid hm2
          have d1 : ((Vec.of a y.r : Int) == 0) = true := by simp [hy]
          replace hs := Lib.hid hs
          have hvo : ∀ (W : World) (h : VecIs W (.slice oa a.length ca) a), From 29 #[.slice oa a.length ca, .int .i64 y.r] W (.int .i64 0) := fun W h => from_of h y.r 0 hy
          replace hvo := Lib.hid hvo
          clear hy d1
          go_wp2_with fail
          have q0 := row_at #[.int .i64 y.r, .int .i64 y.t] 45 (rfl : wr.heap.size = wr.heap.size)
          have qb : Below w.heap.size w (wr.alloc (Obj.cells #[.int .i64 y.r, .int .i64 y.t] 45)) := by (repeat (first | exact Below.refl _ _ | assumption | refine bal ?_ _ | refine bdr ?_ | refine bdn ?_ _ | refine bst ?_ (by first | assumption | exact Nat.le_refl _ | omega) _ | refine bch ?_ (by assumption)))
          generalize wr.alloc (Obj.cells #[.int .i64 y.r, .int .i64 y.t] 45) = w3 at *
          have q1 := Old.cell (q0.cell 0)
          have q2 := Old.cell (q0.cell 1)
          have qa := hvo.out w3 (ha.out.below qb)
          refine (qa _ (Below.refl _ _)).mono ?_
          rintro e w4 ⟨rfl, hb4⟩
          have qx := qb.trans (hb4.mono qb.size)
          go_wp2
          go_roundw
          case rel => exact ⟨k + 1, by omega, by go_num, congrArg (Value.int .i64) (by rw [hm2.out, hs.out]; simp; omega), qx⟩
          case measure => simp [intOf]; omega
        · rw [if_neg hy] at hs
          generalize hm2 : cnt (k + 1) = m2 at *
          generalize cnt k = m1 at *
          replace hm2 := Lib.hid hm2
          have d1 : ((Vec.of a y.r : Int) == 0) = false := by simp [hy]
          replace hs := Lib.hid hs
          have hvo : ∀ (W : World) (h : VecIs W (.slice oa a.length ca) a), From 29 #[.slice oa a.length ca, .int .i64 y.r] W (.int .i64 (Vec.of a y.r)) := fun W h => from_of h y.r _ rfl
          replace hvo := Lib.hid hvo
          generalize Vec.of a y.r = ov at *
          replace hy := Lib.hid hy
          go_wp2_with fail
          have q0 := row_at #[.int .i64 y.r, .int .i64 y.t] 45 (rfl : wr.heap.size = wr.heap.size)
          have qb : Below w.heap.size w (wr.alloc (Obj.cells #[.int .i64 y.r, .int .i64 y.t] 45)) := by (repeat (first | exact Below.refl _ _ | assumption | refine bal ?_ _ | refine bdr ?_ | refine bdn ?_ _ | refine bst ?_ (by first | assumption | exact Nat.le_refl _ | omega) _ | refine bch ?_ (by assumption)))
          generalize wr.alloc (Obj.cells #[.int .i64 y.r, .int .i64 y.t] 45) = w3 at *
          have q1 := Old.cell (q0.cell 0)
          have q2 := Old.cell (q0.cell 1)
          have qa := hvo.out w3 (ha.out.below qb)
          refine (qa _ (Below.refl _ _)).mono ?_
          rintro e w4 ⟨rfl, hb4⟩
          have qx := qb.trans (hb4.mono qb.size)
          go_wp2
          go_roundw
          case rel => exact ⟨k + 1, by omega, by go_num, congrArg (Value.int .i64) (by rw [hm2.out, hs.out]; simp), qx⟩
          case measure => simp [intOf]; omega
      · obtain rfl : k = b.length := by omega
        have hall := hall.out
        generalize cnt b.length = m at *
        by_cases hm : x.length ≤ 16
        · have hJ := hJ1.out hm
          have hR := hR.out hm
          have d1 : decide ((16 : Int) < ((a.length + m : Nat) : Int)) = false := by simp; omega
          have d2 : ((x.length : Int) == ((a.length + m : Nat) : Int)) = true := by rw [hall]; simp
          replace hall := Lib.hid hall
          replace hR := Lib.hid hR
          generalize a.length + m = z at *
          (go_wp2_with fail; refine (hJ _ (by (repeat (first | exact Below.refl _ _ | assumption | refine bal ?_ _ | refine bdr ?_ | refine bdn ?_ _ | refine bst ?_ (by first | assumption | exact Nat.le_refl _ | omega) _ | refine bch ?_ (by assumption))))).mono ?_; rintro e w3 ⟨o, c, rfl, hx, hb3⟩)
          have hr := hR.out _ _ hx
          (go_wp2_with fail; refine (hr _ (by (repeat (first | exact Below.refl _ _ | assumption | refine bal ?_ _ | refine bdr ?_ | refine bdn ?_ _ | refine bst ?_ (by first | assumption | exact Nat.le_refl _ | omega) _ | refine bch ?_ (by assumption))))).mono ?_; rintro e wn ⟨rfl, hbn⟩)
          go_wp2
          go_ret
          exact ⟨rfl, by (repeat (first | exact Below.refl _ _ | assumption | refine bal ?_ _ | refine bdr ?_ | refine bdn ?_ _ | refine bst ?_ (by first | assumption | exact Nat.le_refl _ | omega) _ | refine bch ?_ (by assumption)))⟩
        · have hJ := hJ2.out (by omega)
          have d1 : decide ((16 : Int) < ((a.length + m : Nat) : Int)) = true := by simp; omega
          replace hall := Lib.hid hall
          generalize a.length + m = z at *
          (go_wp2_with fail; refine (hJ _ (by (repeat (first | exact Below.refl _ _ | assumption | refine bal ?_ _ | refine bdr ?_ | refine bdn ?_ _ | refine bst ?_ (by first | assumption | exact Nat.le_refl _ | omega) _ | refine bch ?_ (by assumption))))).mono ?_; rintro e wn ⟨rfl, hbn⟩)
          unfold errV
          go_wp2_with fail
          refine (tell_errno 4 _ (hL'.out.below (by (repeat (first | exact Below.refl _ _ | assumption | refine bal ?_ _ | refine bdr ?_ | refine bdn ?_ _ | refine bst ?_ (by first | assumption | exact Nat.le_refl _ | omega) _ | refine bch ?_ (by assumption)))))).mono ?_
          rintro e w4 ⟨rfl, hb4⟩
          go_wp2
          go_ret
          exact ⟨rfl, by (repeat (first | exact Below.refl _ _ | assumption | refine bal ?_ _ | refine bdr ?_ | refine bdn ?_ _ | refine bst ?_ (by first | assumption | exact Nat.le_refl _ | omega) _ | refine bch ?_ (by assumption)))⟩
  · have hF := hF false (by simpa using hf)
    clear hf ha hb hcell hcap q0 q1 hL hla hlb
    subst ea eb
    go_enter Tryd.func11, Tryd.ntmps11
    (go_wp2_with fail; refine (hk _ (by (repeat (first | exact Below.refl _ _ | assumption | refine bal ?_ _ | refine bdr ?_ | refine bdn ?_ _ | refine bst ?_ (by first | assumption | exact Nat.le_refl _ | omega) _ | refine bch ?_ (by assumption))))).mono ?_; rintro e wn ⟨rfl, hbn⟩)
    (go_wp2_with fail; refine (hF _ _ (by (repeat (first | exact Below.refl _ _ | assumption | refine bal ?_ _ | refine bdr ?_ | refine bdn ?_ _ | refine bst ?_ (by first | assumption | exact Nat.le_refl _ | omega) _ | refine bch ?_ (by assumption))))).mono ?_; rintro e wn ⟨rfl, hbn⟩)
    go_wp2
    go_ret
    exact ⟨rfl, by (repeat (first | exact Below.refl _ _ | assumption | refine bal ?_ _ | refine bdr ?_ | refine bdn ?_ _ | refine bst ?_ (by first | assumption | exact Nat.le_refl _ | omega) _ | refine bch ?_ (by assumption)))⟩
end Go.Proofs.YtlgfdmbhoipedaaDoor
