/- The walk of keep.IdentParts. -/
import Derived.Test.YtonblpcbpfhlmaaDoorWFrom
import Derived.Test.YtonblpcbpfhlmaaDoorWOrdered
namespace Go.Proofs.YtonblpcbpfhlmaaDoor
open Go.RowKit
set_option linter.unusedVariables false
set_option linter.unusedSimpArgs false
theorem from_ordered (w : World) : From 21 #[] w (.bool true) := fun W hW => ordered W
theorem from_within {w : World} {va vb : Value} {a b : List Vec.Entry} (ha : VecIs w va a) (hb : VecIs w vb b) (t r : Int) (v : Bool) (h : within t r a b = v) : From 25 #[.agg #[.int .i64 t, .int .i64 r], va, vb] w (.bool v) := fun W hW => h ▸ ident_within t r va vb a b W (ha.below hW) (hb.below hW)
theorem parts_law {a b c : List Vec.Entry} (h1 : coversB b a = true) (h2 : coversB c b = true) (t r : Int) : (within t r a c == (within t r a b || within t r b c)) = true ∧ (within t r a b && within t r b c) = false := by
  have h1 := (covers_of h1).1 r
  have h2 := (covers_of h2).1 r
  unfold within
  by_cases p1 : Vec.of a r < t <;> by_cases p2 : t ≤ Vec.of b r <;> by_cases p3 : t ≤ Vec.of c r <;> by_cases p4 : Vec.of b r < t <;> simp [p1, p2, p3, p4] <;> omega
set_option maxHeartbeats 4000000 in
set_option maxRecDepth 100000 in
theorem IdentParts_walk (t r : Int) (va : Value) (a : List Vec.Entry) (vb : Value) (b : List Vec.Entry) (vc : Value) (c : List Vec.Entry) (w : World) (_ : (Lit.int .i64 t).wf = true ∧ (Lit.int .i64 r).wf = true) (ha : VecIs w va a) (q0 : ∀ x ∈ a, (Lit.int .i64 x.r).wf = true ∧ (Lit.int .i64 x.t).wf = true) (hla : a.length ≤ 140737488351232) (hb : VecIs w vb b) (q1 : ∀ x ∈ b, (Lit.int .i64 x.r).wf = true ∧ (Lit.int .i64 x.t).wf = true) (hlb : b.length ≤ 140737488351232) (hc : VecIs w vc c) (q2 : ∀ x ∈ c, (Lit.int .i64 x.r).wf = true ∧ (Lit.int .i64 x.t).wf = true) (hlc : c.length ≤ 140737488351232) (hL : Laid w) :
    Calls Tryd.prog 7 #[.agg #[.int .i64 t, .int .i64 r], va, vb, vc] w fun e w' => e = .returned (.bool true) ∧ Below w.heap.size w w' := by
  have ho := from_ordered w
  have hk := from_known w hL
  have hF : ∀ v, fewB [a, b, c] = v → Few3 va vb vc w v := fun v hv W T hW => few_three va vb vc a b c v w W T ha hb hc hla hlb hlc hv hW
  have c1 := from_covers hb ha hlb hla _ rfl
  have c2 := from_covers hc hb hlc hlb _ rfl
  have d1 := from_within ha hb t r _ rfl
  have d2 := from_within hb hc t r _ rfl
  have d3 := from_within ha hc t r _ rfl
  have hlaw := parts_law (a := a) (b := b) (c := c) (t := t) (r := r)
  obtain ⟨oa, ca, ea, -, -⟩ := ha.list.at entCells_len
  obtain ⟨ob, cb, eb, -, -⟩ := hb.list.at entCells_len
  obtain ⟨oc, cc, ec, -, -⟩ := hc.list.at entCells_len
  have hF := hF _ rfl
  clear ha hb hc q0 q1 q2 hla hlb hlc hL
  generalize fewB [a, b, c] = f at *
  generalize coversB b a = x at *
  generalize coversB c b = y at *
  generalize within t r a b = u at *
  generalize within t r b c = v at *
  generalize within t r a c = z at *
  subst ea eb ec
  cases f
  · clear hlaw
    go_enter Tryd.func7, Tryd.ntmps7
    go_wp2_with fail
    have q0 := row_at #[.int .i64 t, .int .i64 r] 23 (rfl : w.heap.size = w.heap.size)
    have qb : Below w.heap.size w (w.alloc (Obj.cells #[.int .i64 t, .int .i64 r] 23)) := by (repeat (first | exact Below.refl _ _ | assumption | refine bal ?_ _ | refine bdr ?_ | refine bdn ?_ _ | refine bst ?_ (by first | assumption | exact Nat.le_refl _ | omega) _ | refine bch ?_ (by assumption)))
    generalize w.alloc (Obj.cells #[.int .i64 t, .int .i64 r] 23) = w1 at *
    replace q0 := Lib.hid q0
    (go_wp2_with fail; refine (ho _ (by (repeat (first | exact Below.refl _ _ | assumption | refine bal ?_ _ | refine bdr ?_ | refine bdn ?_ _ | refine bst ?_ (by first | assumption | exact Nat.le_refl _ | omega) _ | refine bch ?_ (by assumption))))).mono ?_; rintro e wn ⟨rfl, hbn⟩)
    replace q0 := Lib.hid (q0.out.below hbn)
    (go_wp2_with fail; refine (hk _ (by (repeat (first | exact Below.refl _ _ | assumption | refine bal ?_ _ | refine bdr ?_ | refine bdn ?_ _ | refine bst ?_ (by first | assumption | exact Nat.le_refl _ | omega) _ | refine bch ?_ (by assumption))))).mono ?_; rintro e wn ⟨rfl, hbn⟩)
    replace q0 := Lib.hid (q0.out.below hbn)
    (go_wp2_with fail; refine (hF _ _ (by (repeat (first | exact Below.refl _ _ | assumption | refine bal ?_ _ | refine bdr ?_ | refine bdn ?_ _ | refine bst ?_ (by first | assumption | exact Nat.le_refl _ | omega) _ | refine bch ?_ (by assumption))))).mono ?_; rintro e wn ⟨rfl, hbn⟩)
    replace q0 := Lib.hid (q0.out.below hbn)
    go_wp2
    go_ret
    exact ⟨rfl, by (repeat (first | exact Below.refl _ _ | assumption | refine bal ?_ _ | refine bdr ?_ | refine bdn ?_ _ | refine bst ?_ (by first | assumption | exact Nat.le_refl _ | omega) _ | refine bch ?_ (by assumption)))⟩
  · cases x
    · clear hlaw
      go_enter Tryd.func7, Tryd.ntmps7
      go_wp2_with fail
      have q0 := row_at #[.int .i64 t, .int .i64 r] 23 (rfl : w.heap.size = w.heap.size)
      have qb : Below w.heap.size w (w.alloc (Obj.cells #[.int .i64 t, .int .i64 r] 23)) := by (repeat (first | exact Below.refl _ _ | assumption | refine bal ?_ _ | refine bdr ?_ | refine bdn ?_ _ | refine bst ?_ (by first | assumption | exact Nat.le_refl _ | omega) _ | refine bch ?_ (by assumption)))
      generalize w.alloc (Obj.cells #[.int .i64 t, .int .i64 r] 23) = w1 at *
      replace q0 := Lib.hid q0
      (go_wp2_with fail; refine (ho _ (by (repeat (first | exact Below.refl _ _ | assumption | refine bal ?_ _ | refine bdr ?_ | refine bdn ?_ _ | refine bst ?_ (by first | assumption | exact Nat.le_refl _ | omega) _ | refine bch ?_ (by assumption))))).mono ?_; rintro e wn ⟨rfl, hbn⟩)
      replace q0 := Lib.hid (q0.out.below hbn)
      (go_wp2_with fail; refine (hk _ (by (repeat (first | exact Below.refl _ _ | assumption | refine bal ?_ _ | refine bdr ?_ | refine bdn ?_ _ | refine bst ?_ (by first | assumption | exact Nat.le_refl _ | omega) _ | refine bch ?_ (by assumption))))).mono ?_; rintro e wn ⟨rfl, hbn⟩)
      replace q0 := Lib.hid (q0.out.below hbn)
      (go_wp2_with fail; refine (hF _ _ (by (repeat (first | exact Below.refl _ _ | assumption | refine bal ?_ _ | refine bdr ?_ | refine bdn ?_ _ | refine bst ?_ (by first | assumption | exact Nat.le_refl _ | omega) _ | refine bch ?_ (by assumption))))).mono ?_; rintro e wn ⟨rfl, hbn⟩)
      replace q0 := Lib.hid (q0.out.below hbn)
      (go_wp2_with fail; refine (c1 _ (by (repeat (first | exact Below.refl _ _ | assumption | refine bal ?_ _ | refine bdr ?_ | refine bdn ?_ _ | refine bst ?_ (by first | assumption | exact Nat.le_refl _ | omega) _ | refine bch ?_ (by assumption))))).mono ?_; rintro e wn ⟨rfl, hbn⟩)
      replace q0 := Lib.hid (q0.out.below hbn)
      go_wp2
      go_ret
      exact ⟨rfl, by (repeat (first | exact Below.refl _ _ | assumption | refine bal ?_ _ | refine bdr ?_ | refine bdn ?_ _ | refine bst ?_ (by first | assumption | exact Nat.le_refl _ | omega) _ | refine bch ?_ (by assumption)))⟩
    · cases y
      · clear hlaw
        go_enter Tryd.func7, Tryd.ntmps7
        go_wp2_with fail
        have q0 := row_at #[.int .i64 t, .int .i64 r] 23 (rfl : w.heap.size = w.heap.size)
        have qb : Below w.heap.size w (w.alloc (Obj.cells #[.int .i64 t, .int .i64 r] 23)) := by (repeat (first | exact Below.refl _ _ | assumption | refine bal ?_ _ | refine bdr ?_ | refine bdn ?_ _ | refine bst ?_ (by first | assumption | exact Nat.le_refl _ | omega) _ | refine bch ?_ (by assumption)))
        generalize w.alloc (Obj.cells #[.int .i64 t, .int .i64 r] 23) = w1 at *
        replace q0 := Lib.hid q0
        (go_wp2_with fail; refine (ho _ (by (repeat (first | exact Below.refl _ _ | assumption | refine bal ?_ _ | refine bdr ?_ | refine bdn ?_ _ | refine bst ?_ (by first | assumption | exact Nat.le_refl _ | omega) _ | refine bch ?_ (by assumption))))).mono ?_; rintro e wn ⟨rfl, hbn⟩)
        replace q0 := Lib.hid (q0.out.below hbn)
        (go_wp2_with fail; refine (hk _ (by (repeat (first | exact Below.refl _ _ | assumption | refine bal ?_ _ | refine bdr ?_ | refine bdn ?_ _ | refine bst ?_ (by first | assumption | exact Nat.le_refl _ | omega) _ | refine bch ?_ (by assumption))))).mono ?_; rintro e wn ⟨rfl, hbn⟩)
        replace q0 := Lib.hid (q0.out.below hbn)
        (go_wp2_with fail; refine (hF _ _ (by (repeat (first | exact Below.refl _ _ | assumption | refine bal ?_ _ | refine bdr ?_ | refine bdn ?_ _ | refine bst ?_ (by first | assumption | exact Nat.le_refl _ | omega) _ | refine bch ?_ (by assumption))))).mono ?_; rintro e wn ⟨rfl, hbn⟩)
        replace q0 := Lib.hid (q0.out.below hbn)
        (go_wp2_with fail; refine (c1 _ (by (repeat (first | exact Below.refl _ _ | assumption | refine bal ?_ _ | refine bdr ?_ | refine bdn ?_ _ | refine bst ?_ (by first | assumption | exact Nat.le_refl _ | omega) _ | refine bch ?_ (by assumption))))).mono ?_; rintro e wn ⟨rfl, hbn⟩)
        replace q0 := Lib.hid (q0.out.below hbn)
        (go_wp2_with fail; refine (c2 _ (by (repeat (first | exact Below.refl _ _ | assumption | refine bal ?_ _ | refine bdr ?_ | refine bdn ?_ _ | refine bst ?_ (by first | assumption | exact Nat.le_refl _ | omega) _ | refine bch ?_ (by assumption))))).mono ?_; rintro e wn ⟨rfl, hbn⟩)
        replace q0 := Lib.hid (q0.out.below hbn)
        go_wp2
        go_ret
        exact ⟨rfl, by (repeat (first | exact Below.refl _ _ | assumption | refine bal ?_ _ | refine bdr ?_ | refine bdn ?_ _ | refine bst ?_ (by first | assumption | exact Nat.le_refl _ | omega) _ | refine bch ?_ (by assumption)))⟩
      · obtain ⟨e1, e2⟩ := hlaw rfl rfl
        clear hlaw
        obtain rfl : z = (u || v) := by simpa using e1
        clear e1
        cases u <;> cases v <;> try (exfalso; revert e2; decide; done)
        all_goals
          clear e2
          simp only [Bool.or_true, Bool.or_false, Bool.true_or, Bool.false_or] at d3
          go_enter Tryd.func7, Tryd.ntmps7
          go_wp2_with fail
          have q0 := row_at #[.int .i64 t, .int .i64 r] 23 (rfl : w.heap.size = w.heap.size)
          have qb : Below w.heap.size w (w.alloc (Obj.cells #[.int .i64 t, .int .i64 r] 23)) := by (repeat (first | exact Below.refl _ _ | assumption | refine bal ?_ _ | refine bdr ?_ | refine bdn ?_ _ | refine bst ?_ (by first | assumption | exact Nat.le_refl _ | omega) _ | refine bch ?_ (by assumption)))
          generalize w.alloc (Obj.cells #[.int .i64 t, .int .i64 r] 23) = w1 at *
          replace q0 := Lib.hid q0
          (go_wp2_with fail; refine (ho _ (by (repeat (first | exact Below.refl _ _ | assumption | refine bal ?_ _ | refine bdr ?_ | refine bdn ?_ _ | refine bst ?_ (by first | assumption | exact Nat.le_refl _ | omega) _ | refine bch ?_ (by assumption))))).mono ?_; rintro e wn ⟨rfl, hbn⟩)
          replace q0 := Lib.hid (q0.out.below hbn)
          (go_wp2_with fail; refine (hk _ (by (repeat (first | exact Below.refl _ _ | assumption | refine bal ?_ _ | refine bdr ?_ | refine bdn ?_ _ | refine bst ?_ (by first | assumption | exact Nat.le_refl _ | omega) _ | refine bch ?_ (by assumption))))).mono ?_; rintro e wn ⟨rfl, hbn⟩)
          replace q0 := Lib.hid (q0.out.below hbn)
          (go_wp2_with fail; refine (hF _ _ (by (repeat (first | exact Below.refl _ _ | assumption | refine bal ?_ _ | refine bdr ?_ | refine bdn ?_ _ | refine bst ?_ (by first | assumption | exact Nat.le_refl _ | omega) _ | refine bch ?_ (by assumption))))).mono ?_; rintro e wn ⟨rfl, hbn⟩)
          replace q0 := Lib.hid (q0.out.below hbn)
          (go_wp2_with fail; refine (c1 _ (by (repeat (first | exact Below.refl _ _ | assumption | refine bal ?_ _ | refine bdr ?_ | refine bdn ?_ _ | refine bst ?_ (by first | assumption | exact Nat.le_refl _ | omega) _ | refine bch ?_ (by assumption))))).mono ?_; rintro e wn ⟨rfl, hbn⟩)
          replace q0 := Lib.hid (q0.out.below hbn)
          (go_wp2_with fail; refine (c2 _ (by (repeat (first | exact Below.refl _ _ | assumption | refine bal ?_ _ | refine bdr ?_ | refine bdn ?_ _ | refine bst ?_ (by first | assumption | exact Nat.le_refl _ | omega) _ | refine bch ?_ (by assumption))))).mono ?_; rintro e wn ⟨rfl, hbn⟩)
          replace q0 := Lib.hid (q0.out.below hbn)
          (have cc0 := q0.out.cell 0; have cc1 := q0.out.cell 1; simp only [List.set_cons_succ, List.set_cons_zero, List.getElem?_cons_zero, List.getElem?_cons_succ] at cc0 cc1)
          have o0 := Old.cell cc0
          have o1 := Old.cell cc1
          have f1 := d1.later (w' := wn) (by (repeat (first | exact Below.refl _ _ | assumption | refine bal ?_ _ | refine bdr ?_ | refine bdn ?_ _ | refine bst ?_ (by first | assumption | exact Nat.le_refl _ | omega) _ | refine bch ?_ (by assumption))))
          have f2 := d2.later (w' := wn) (by (repeat (first | exact Below.refl _ _ | assumption | refine bal ?_ _ | refine bdr ?_ | refine bdn ?_ _ | refine bst ?_ (by first | assumption | exact Nat.le_refl _ | omega) _ | refine bch ?_ (by assumption))))
          clear cc0 cc1
          go_wp2_with fail
          (have hN := Old.ne wn; refine wp_region_kept (Old wn.heap.size wn) (by kernel_rfl) (by kernel_rfl) (Old.start wn) ?_; (repeat (first | go_big_quiet_step ((first | (go_at_call 25; with_reducible exact (From.kept f1 _)) | (go_at_call 25; with_reducible exact (From.kept f2 _)))) | quiet_step ((first | (go_at_call 25; with_reducible exact (From.kept f1 _)) | (go_at_call 25; with_reducible exact (From.kept f2 _)))))); refine wpQuiet_nil ?_; rintro _ ⟨X, rfl⟩)
          replace q0 := q0.out.below X.ok.2
          have hbX := X.ok.2
          generalize X.val = wx at *
          clear o0 o1 f1 f2
          (have cc0 := q0.cell 0; have cc1 := q0.cell 1; simp only [List.set_cons_succ, List.set_cons_zero, List.getElem?_cons_zero, List.getElem?_cons_succ] at cc0 cc1)
          clear q0
          (go_wp2_with fail; refine (d3 _ (by (repeat (first | exact Below.refl _ _ | assumption | refine bal ?_ _ | refine bdr ?_ | refine bdn ?_ _ | refine bst ?_ (by first | assumption | exact Nat.le_refl _ | omega) _ | refine bch ?_ (by assumption))))).mono ?_; rintro e wn ⟨rfl, hbn⟩)
          go_wp2
          go_ret
          exact ⟨rfl, by (repeat (first | exact Below.refl _ _ | assumption | refine bal ?_ _ | refine bdr ?_ | refine bdn ?_ _ | refine bst ?_ (by first | assumption | exact Nat.le_refl _ | omega) _ | refine bch ?_ (by assumption)))⟩
end Go.Proofs.YtonblpcbpfhlmaaDoor
