/- Walks of the laws VectorBack and VectorOnly. -/
import Derived.Test.YtajpoggkmjedpaaDoorWVecRd
import Derived.Test.YtajpoggkmjedpaaDoorWKnown
import Derived.Test.YtajpoggkmjedpaaDoorWEqEnt
import Derived.Test.YtajpoggkmjedpaaDoorLaid
namespace Go.Proofs.YtajpoggkmjedpaaDoor
open Go.RowKit
set_option linter.unusedVariables false
set_option linter.unusedSimpArgs false
set_option maxHeartbeats 2000000 in
set_option maxRecDepth 20000 in
theorem vector_write_bad (v : Value) (l : List Vec.Entry) (w : World) (hv : VecIs w v l) (hl : l.length ≤ 140737488351232) (hr : Vec.right l ≠ .ok) :
    Calls Tryd.prog 14 #[v] w fun e w' => (∃ r, e = .returned (.tuple #[.string ⟨#[]⟩, r]) ∧ ErrRep w' r (Vec.right l)) ∧ Below w.heap.size w w' := by
  have hR := vector_right v l w hv hl
  clear hv
  cases hx : Vec.right l with
  | ok => exact absurd hx hr
  | no e =>
    rw [hx] at hR
    replace hR := Lib.hid hR
    replace hx := Lib.hid hx
    clear hr
    go_enter Tryd.func14, Tryd.ntmps14
    go_wp2_with fail
    refine hR.out.mono ?_
    rintro _ w4 ⟨v4, rfl, hv4, hb4⟩
    have hv4 : v4 = .iface 54 (.int .i64 e) := hv4
    subst hv4
    go_wp2
    go_ret2
    exact ⟨⟨_, rfl, rfl⟩, by (repeat (first | exact Below.refl _ _ | assumption | refine bal ?_ _ | refine bdr ?_ | refine bdn ?_ _ | refine bst ?_ (by first | assumption | exact Nat.le_refl _ | omega) _ | refine bch ?_ (by assumption)))⟩
  | at_ e i =>
    rw [hx] at hR
    replace hR := Lib.hid hR
    replace hx := Lib.hid hx
    clear hr
    go_enter Tryd.func14, Tryd.ntmps14
    go_wp2_with fail
    refine hR.out.mono ?_
    rintro _ w4 ⟨v4, rfl, hv4, hb4⟩
    obtain ⟨gg, rfl, hrow⟩ := hv4
    replace hrow := Lib.hid hrow
    go_wp2
    go_ret2
    exact ⟨⟨_, rfl, gg, rfl, hrow.out⟩, by (repeat (first | exact Below.refl _ _ | assumption | refine bal ?_ _ | refine bdr ?_ | refine bdn ?_ _ | refine bst ?_ (by first | assumption | exact Nat.le_refl _ | omega) _ | refine bch ?_ (by assumption)))⟩
/-- What is wrong is none or something, as a value. -/
theorem err_some {w : World} {v : Value} {x : Err} (h : ErrRep w v x) (hx : x ≠ .ok) : ∃ t u, v = .iface t u := by
  cases x with
  | ok => exact absurd rfl hx
  | no n => exact ⟨_, _, h⟩
  | at_ n i => obtain ⟨g, h, -⟩ := h; exact ⟨_, _, h⟩
set_option maxHeartbeats 4000000 in
set_option maxRecDepth 20000 in
theorem VectorBack_walk (v0 : Value) (l : List Vec.Entry) (a1 : ByteArray) (w : World) (L0 : VecIs w v0 l) (q0 : ∀ x ∈ l, (Lit.int .i64 x.r).wf = true ∧ (Lit.int .i64 x.t).wf = true) (z0 : l.length ≤ 140737488351232) (w1 : a1.size ≤ 140737488351232) (hL : Laid w) :
    Calls Tryd.prog 4 #[v0, .string a1] w fun e w' => e = .returned (.bool true) ∧ Below w.heap.size w w' := by
  have hK := keep_known w hL
  obtain ⟨o, c, rfl, hcap, -⟩ := L0.list.at entCells_len
  clear hcap q0
  have hR := fun W hW => vector_right (.slice o l.length c) l W hW z0
  have hL0 := Lib.hid L0
  replace hK := Lib.hid hK
  clear L0
  by_cases h60 : 60 < l.length
  · clear hR
    go_enter Tryd.func4, Tryd.ntmps4
    go_wp2_with fail
    refine hK.out.mono ?_
    rintro e w2 ⟨rfl, hb0⟩
    go_wp2
    go_ret
    exact ⟨rfl, hb0⟩
  · by_cases h100 : 100 < a1.size
    · clear hR
      go_enter Tryd.func4, Tryd.ntmps4
      go_wp2_with fail
      refine hK.out.mono ?_
      rintro e w2 ⟨rfl, hb0⟩
      go_wp2
      go_ret
      exact ⟨rfl, hb0⟩
    · by_cases hr : Vec.right l = .ok
      · have hW := fun W hW => vector_write_ok (.slice o l.length c) l W hW hr
        have hf := (Vec.right_iff l).1 hr
        have hlen := Vec.enc_len true 0 l (fun x hx => ⟨(hf.each x hx).1, (hf.each x hx).2.1, (hf.each x hx).2.2.2⟩) (by omega) (by omega)
        have hp := Vary.put_len (Vec.enc true 0 l).1 (by omega)
        have hwl : (Vec.write l).length ≤ 2000 := by unfold Vec.write; rw [List.length_append]; omega
        have hsz := ba_size (Vec.write l)
        have hRd := fun W hW => vector_read (⟨(Vec.write l).toArray⟩ ++ a1) W (by rw [ByteArray.size_append, hsz]; omega) hW
        have hrw := Vec.read_write l a1.data.toList hr
        have hE : (⟨(Vec.write l).toArray⟩ ++ a1 : ByteArray).data.toList = Vec.write l ++ a1.data.toList := by rw [ba_app]
        rw [hE, hrw] at hRd
        rw [hr] at hR
        clear hlen hf hp hrw hE
        generalize Vec.write l = B at *
        have hq1 : ((B.length : Int) == (B.length : Int)) = true := by simp
        replace hW := Lib.hid hW
        replace hRd := Lib.hid hRd
        replace hR := Lib.hid hR
        replace hr := Lib.hid hr
        go_enter Tryd.func4, Tryd.ntmps4
        go_wp2_with fail
        refine hK.out.mono ?_
        rintro e w2 ⟨rfl, hb0⟩
        go_wp2_with fail
        refine (hW.out _ (hL0.out.below (by (repeat (first | exact Below.refl _ _ | assumption | refine bal ?_ _ | refine bdr ?_ | refine bdn ?_ _ | refine bst ?_ (by first | assumption | exact Nat.le_refl _ | omega) _ | refine bch ?_ (by assumption)))))).mono ?_
        rintro e w3 ⟨rfl, hb3⟩
        go_wp2_with fail
        refine (hR.out _ (hL0.out.below (by (repeat (first | exact Below.refl _ _ | assumption | refine bal ?_ _ | refine bdr ?_ | refine bdn ?_ _ | refine bst ?_ (by first | assumption | exact Nat.le_refl _ | omega) _ | refine bch ?_ (by assumption)))))).mono ?_
        rintro e w4 ⟨v4, rfl, hv4, hb4⟩
        have hv4 : v4 = .nilIface := hv4
        subst hv4
        go_wp2_with fail
        refine (hRd.out _ (hL.below (by (repeat (first | exact Below.refl _ _ | assumption | refine bal ?_ _ | refine bdr ?_ | refine bdn ?_ _ | refine bst ?_ (by first | assumption | exact Nat.le_refl _ | omega) _ | refine bch ?_ (by assumption)))))).mono ?_
        rintro e w5 ⟨⟨v5, rfl, hv5⟩, hb5⟩
        have hq := eq_ent (.slice o l.length c) v5 l l w5 (hL0.out.below (by (repeat (first | exact Below.refl _ _ | assumption | refine bal ?_ _ | refine bdr ?_ | refine bdn ?_ _ | refine bst ?_ (by first | assumption | exact Nat.le_refl _ | omega) _ | refine bch ?_ (by assumption))))) hv5 z0 z0
        rw [decide_eq_true rfl] at hq
        replace hq := Lib.hid hq
        go_wp2_with fail
        refine hq.out.mono ?_
        rintro e w6 ⟨rfl, hb6⟩
        go_wp2
        go_ret
        exact ⟨rfl, by (repeat (first | exact Below.refl _ _ | assumption | refine bal ?_ _ | refine bdr ?_ | refine bdn ?_ _ | refine bst ?_ (by first | assumption | exact Nat.le_refl _ | omega) _ | refine bch ?_ (by assumption)))⟩
      · have hW := fun W hW => vector_write_bad (.slice o l.length c) l W hW z0 hr
        have hes := fun W v (h : ErrRep W v (Vec.right l)) => err_some h hr
        replace hW := Lib.hid hW
        replace hR := Lib.hid hR
        replace hr := Lib.hid hr
        replace hes := Lib.hid hes
        go_enter Tryd.func4, Tryd.ntmps4
        go_wp2_with fail
        refine hK.out.mono ?_
        rintro e w2 ⟨rfl, hb0⟩
        go_wp2_with fail
        refine (hW.out _ (hL0.out.below (by (repeat (first | exact Below.refl _ _ | assumption | refine bal ?_ _ | refine bdr ?_ | refine bdn ?_ _ | refine bst ?_ (by first | assumption | exact Nat.le_refl _ | omega) _ | refine bch ?_ (by assumption)))))).mono ?_
        rintro e w3 ⟨⟨v3, rfl, hv3⟩, hb3⟩
        obtain ⟨t3, u3', rfl⟩ := hes.out _ _ hv3
        clear hv3
        go_wp2_with fail
        refine (hR.out _ (hL0.out.below (by (repeat (first | exact Below.refl _ _ | assumption | refine bal ?_ _ | refine bdr ?_ | refine bdn ?_ _ | refine bst ?_ (by first | assumption | exact Nat.le_refl _ | omega) _ | refine bch ?_ (by assumption)))))).mono ?_
        rintro e w4 ⟨v4, rfl, hv4, hb4⟩
        obtain ⟨t4, u4', rfl⟩ := hes.out _ _ hv4
        clear hv4
        go_wp2
        go_ret
        exact ⟨rfl, by (repeat (first | exact Below.refl _ _ | assumption | refine bal ?_ _ | refine bdr ?_ | refine bdn ?_ _ | refine bst ?_ (by first | assumption | exact Nat.le_refl _ | omega) _ | refine bch ?_ (by assumption)))⟩
set_option maxHeartbeats 4000000 in
set_option maxRecDepth 20000 in
theorem VectorOnly_walk (a0 : ByteArray) (w : World) (w0 : a0.size ≤ 140737488351232) (hL : Laid w) :
    Calls Tryd.prog 5 #[.string a0] w fun e w' => e = .returned (.bool true) ∧ Below w.heap.size w w' := by
  have hK := keep_known w hL
  replace hK := Lib.hid hK
  by_cases h500 : 500 < a0.size
  · go_enter Tryd.func5, Tryd.ntmps5
    go_wp2_with fail
    refine hK.out.mono ?_
    rintro e w2 ⟨rfl, hb0⟩
    go_wp2
    go_ret
    exact ⟨rfl, hb0⟩
  · have hRd := fun W hW => vector_read a0 W (by omega) hW
    cases hx : Vec.read a0.data.toList with
    | bad x =>
      rw [hx] at hRd
      replace hRd := Lib.hid hRd
      clear hx
      go_enter Tryd.func5, Tryd.ntmps5
      go_wp2_with fail
      refine hK.out.mono ?_
      rintro e w2 ⟨rfl, hb0⟩
      go_wp2_with fail
      refine (hRd.out _ (hL.below hb0)).mono ?_
      rintro e w3 ⟨h3, hb3⟩
      have h3 : e = .returned (.tuple #[.slice none 0 0, .int .i64 0, .iface 54 (.int .i64 x)]) := h3
      subst h3
      go_wp2
      go_ret
      exact ⟨rfl, by (repeat (first | exact Below.refl _ _ | assumption | refine bal ?_ _ | refine bdr ?_ | refine bdn ?_ _ | refine bst ?_ (by first | assumption | exact Nat.le_refl _ | omega) _ | refine bch ?_ (by assumption)))⟩
    | ok l n =>
      obtain ⟨hr, h1, h2, h3⟩ := Vec.read_ok _ _ _ hx
      have h2' : n ≤ a0.size := by rw [Array.length_toList] at h2; exact h2
      rw [hx] at hRd
      have hll := ((Vec.right_iff l).1 hr).len
      have hW := fun v W hW => vector_write_ok v l W hW hr
      have hR := fun v W hW => vector_right v l W hW (by omega)
      rw [hr] at hR
      have he : (Vec.write l == (a0.extract 0 n).toList) = true := by rw [h3, ByteArray.toList_eq]; simp
      have hb1 : decide (1 ≤ (n : Int)) = true := by simp; omega
      have hb2 : decide ((n : Int) ≤ (a0.size : Int)) = true := by simp; omega
      replace hRd := Lib.hid hRd
      replace hW := Lib.hid hW
      replace hR := Lib.hid hR
      replace hr := Lib.hid hr
      clear hx h2 h3
      generalize Vec.write l = B at *
      go_enter Tryd.func5, Tryd.ntmps5
      go_wp2_with fail
      refine hK.out.mono ?_
      rintro e w2 ⟨rfl, hb0⟩
      go_wp2_with fail
      refine (hRd.out _ (hL.below hb0)).mono ?_
      rintro e w3 ⟨⟨v3, rfl, hv3⟩, hb3⟩
      replace hv3 := Lib.hid hv3
      go_wp2_with fail
      refine (hW.out _ _ hv3.out).mono ?_
      rintro e w4 ⟨rfl, hb4⟩
      go_wp2_with fail
      refine (hR.out _ _ (hv3.out.below hb4)).mono ?_
      rintro e w5 ⟨v5, rfl, hv5, hb5⟩
      have hv5 : v5 = .nilIface := hv5
      subst hv5
      go_wp2
      go_ret
      exact ⟨rfl, by (repeat (first | exact Below.refl _ _ | assumption | refine bal ?_ _ | refine bdr ?_ | refine bdn ?_ _ | refine bst ?_ (by first | assumption | exact Nat.le_refl _ | omega) _ | refine bch ?_ (by assumption)))⟩
end Go.Proofs.YtajpoggkmjedpaaDoor
