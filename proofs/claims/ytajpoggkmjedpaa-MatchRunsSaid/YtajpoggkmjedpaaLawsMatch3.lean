/- Walks of the laws MatchCut, MatchRuns and MatchFar. -/
import Derived.Test.YtajpoggkmjedpaaWFound
import Derived.Test.YtajpoggkmjedpaaLib4
import Derived.Test.YtajpoggkmjedpaaShelf
import Derived.Test.YtajpoggkmjedpaaPlainMatch2
namespace Go.Proofs.Ytajpoggkmjedpaa
open Go.RowKit
set_option linter.unusedVariables false
set_option maxHeartbeats 1000000 in
set_option maxRecDepth 100000 in
theorem MatchCut_walk (v0 : Value) (l : List Match.Tok) (a1 : Int) (w : World) (L0 : TokIs w v0 l) (q0 : ∀ x ∈ l, x.own.size ≤ 140737488351232 ∧ (Lit.int .i64 x.back).wf = true ∧ (Lit.int .i64 x.size).wf = true) (z0 : l.length ≤ 140737488351232) (w1 : (Lit.int .i64 a1).wf = true) :
    Calls Try.prog 3 #[v0, .int .i64 a1] w fun e w' => e = .returned (.bool true) ∧ Below w.heap.size w w' := by
  clear w1
  obtain ⟨a, cap, rfl, hcap, hcell⟩ := L0.at tokCells_len
  have hnil : a = none → l.length = 0 := fun e => by
    rcases Nat.eq_zero_or_pos l.length with h | h
    · exact h
    · obtain ⟨b, off, e2, _⟩ := hcell 0 h; rw [e] at e2; cases e2
  clear hcell
  replace hnil := Lib.hid hnil
  have hq : ∀ t ∈ l, t.own.size ≤ 140737488351232 := fun t ht => (q0 t ht).1
  clear q0
  by_cases h : 60 < l.length
  · go_enter Try.func3, Try.ntmps3
    go_wp2_with (first | (go_at_call 9; go_must (refine (found _).mono ?_); rintro e w' ⟨rfl, hb⟩))
    go_ret
    exact ⟨rfl, by (repeat (first | exact Below.refl _ _ | assumption | refine bal ?_ _ | refine bdr ?_ | refine bdn ?_ _ | refine bst ?_ (by first | assumption | exact Nat.le_refl _ | omega) _ | refine bch ?_ (by assumption)))⟩
  · have hr := fun W hv => match_right (.slice a l.length cap) l W hv hq (by omega)
    cases ho : Match.right l 0 0 with
    | some p =>
      obtain ⟨x, i⟩ := p
      rw [ho] at hr
      replace hr := Lib.hid hr
      have hL := Lib.hid L0
      clear ho hcap L0
      go_enter Try.func3, Try.ntmps3
      go_wp2_with (first | (go_at_call 9; go_must (refine (found _).mono ?_); rintro e w' ⟨rfl, hb⟩))
      refine (hr.out _ (hL.out.below (by omega) (by (repeat (first | exact Below.refl _ _ | assumption | refine bal ?_ _ | refine bdr ?_ | refine bdn ?_ _ | refine bst ?_ (by first | assumption | exact Nat.le_refl _ | omega) _ | refine bch ?_ (by assumption)))))).mono ?_
      rintro e w2 ⟨u, rfl, ⟨g, rfl, hg⟩, hb2⟩
      go_wp2
      go_ret
      exact ⟨rfl, by (repeat (first | exact Below.refl _ _ | assumption | refine bal ?_ _ | refine bdr ?_ | refine bdn ?_ _ | refine bst ?_ (by first | assumption | exact Nat.le_refl _ | omega) _ | refine bch ?_ (by assumption)))⟩
    | none =>
      rw [ho] at hr
      have hp := pickN_lt a1 (l.length + 1) (by omega)
      have hpk := fun W => keep_pick a1 (l.length + 1) (l.length + 1) W rfl (by omega) (by omega)
      generalize pickN a1 (l.length + 1) = n at *
      have hL2 := L0.take tokCells_len n (by omega)
      have hlen : (l.take n).length = n := by simp; omega
      have ho2 : Match.right (l.take n) 0 0 = none := Match.right_append (l.take n) (l.drop n) 0 0 (by rw [List.take_append_drop]; exact ho)
      have ht1 := fun W hv => match_text_ok (.slice a n cap) (l.take n) W hv (fun t ht => hq t (List.mem_of_mem_take ht)) (by omega) ho2
      have ht2 := fun W hv => match_text_ok (.slice a l.length cap) l W hv hq (by omega) ho
      have hpre : Match.text [] (l.take n) <+: Match.text [] l := by
        have := Match.text_append [] (l.take n) (l.drop n)
        rw [List.take_append_drop] at this
        rw [this]; exact Match.text_pre _ _
      have hn1 := (Match.text_len (l.take n) [] 0 ho2 (by simp)).2
      have hn2 := (Match.text_len l [] 0 ho (by simp)).2
      generalize Match.text [] (l.take n) = A at *
      generalize Match.text [] l = B at *
      have hAB := hpre.length_le
      have hpb : Lib.hasPrefix B A = true := by
        unfold Lib.hasPrefix; simpa using hpre
      replace ht1 := Lib.hid ht1
      replace ht2 := Lib.hid ht2
      replace hr := Lib.hid hr
      replace hpk := Lib.hid hpk
      have hL := Lib.hid L0
      replace hL2 := Lib.hid hL2
      replace hlen := Lib.hid hlen
      replace ho := Lib.hid ho
      clear ho2 hpre L0
      have hn3 : n ≤ l.length := by omega
      have hnc : n ≤ cap := by omega
      clear hcap hp
      have hA : Hid (A.length = (ByteArray.mk A.toArray).size) := Lib.hid (ba_size A).symm
      cases a with
      | none =>
        have hl0 := hnil.out rfl
        obtain rfl : n = 0 := by omega
        replace hl0 := Lib.hid hl0
        go_enter Try.func3, Try.ntmps3
        go_wp2_with (first | (go_at_call 9; go_must (refine (found _).mono ?_); rintro e w' ⟨rfl, hb⟩))
        refine (hr.out _ (hL.out.below (by omega) (by (repeat (first | exact Below.refl _ _ | assumption | refine bal ?_ _ | refine bdr ?_ | refine bdn ?_ _ | refine bst ?_ (by first | assumption | exact Nat.le_refl _ | omega) _ | refine bch ?_ (by assumption)))))).mono ?_
        rintro e w2 ⟨u, rfl, hu, hb2⟩
        have hu : u = .nilIface := hu
        subst hu
        go_wp2_with fail
        refine (hpk.out _).mono ?_
        rintro e w3 ⟨rfl, rfl⟩
        go_wp2_with fail
        refine (ht1.out _ (hL2.out.below (by omega) (by (repeat (first | exact Below.refl _ _ | assumption | refine bal ?_ _ | refine bdr ?_ | refine bdn ?_ _ | refine bst ?_ (by first | assumption | exact Nat.le_refl _ | omega) _ | refine bch ?_ (by assumption)))))).mono ?_
        rintro e w4 ⟨rfl, hb4⟩
        go_wp2_with fail
        refine (ht2.out _ (hL.out.below (by omega) (by (repeat (first | exact Below.refl _ _ | assumption | refine bal ?_ _ | refine bdr ?_ | refine bdn ?_ _ | refine bst ?_ (by first | assumption | exact Nat.le_refl _ | omega) _ | refine bch ?_ (by assumption)))))).mono ?_
        rintro e w5 ⟨rfl, hb5⟩
        go_wp2_with fail
        refine (Try.strings_HasPrefix _ _ _).mono ?_
        rintro e w6 ⟨rfl, rfl⟩
        go_wp2
        go_ret
        exact ⟨ret_bool (by simp), by (repeat (first | exact Below.refl _ _ | assumption | refine bal ?_ _ | refine bdr ?_ | refine bdn ?_ _ | refine bst ?_ (by first | assumption | exact Nat.le_refl _ | omega) _ | refine bch ?_ (by assumption)))⟩
      | some ad =>
        clear hnil
        go_enter Try.func3, Try.ntmps3
        go_wp2_with (first | (go_at_call 9; go_must (refine (found _).mono ?_); rintro e w' ⟨rfl, hb⟩))
        refine (hr.out _ (hL.out.below (by omega) (by (repeat (first | exact Below.refl _ _ | assumption | refine bal ?_ _ | refine bdr ?_ | refine bdn ?_ _ | refine bst ?_ (by first | assumption | exact Nat.le_refl _ | omega) _ | refine bch ?_ (by assumption)))))).mono ?_
        rintro e w2 ⟨u, rfl, hu, hb2⟩
        have hu : u = .nilIface := hu
        subst hu
        go_wp2_with fail
        refine (hpk.out _).mono ?_
        rintro e w3 ⟨rfl, rfl⟩
        go_wp2_with fail
        refine (ht1.out _ (hL2.out.below (by omega) (by (repeat (first | exact Below.refl _ _ | assumption | refine bal ?_ _ | refine bdr ?_ | refine bdn ?_ _ | refine bst ?_ (by first | assumption | exact Nat.le_refl _ | omega) _ | refine bch ?_ (by assumption)))))).mono ?_
        rintro e w4 ⟨rfl, hb4⟩
        go_wp2_with fail
        refine (ht2.out _ (hL.out.below (by omega) (by (repeat (first | exact Below.refl _ _ | assumption | refine bal ?_ _ | refine bdr ?_ | refine bdn ?_ _ | refine bst ?_ (by first | assumption | exact Nat.le_refl _ | omega) _ | refine bch ?_ (by assumption)))))).mono ?_
        rintro e w5 ⟨rfl, hb5⟩
        go_wp2_with fail
        refine (Try.strings_HasPrefix _ _ _).mono ?_
        rintro e w6 ⟨rfl, rfl⟩
        go_wp2
        go_ret
        exact ⟨ret_bool (by simp), by (repeat (first | exact Below.refl _ _ | assumption | refine bal ?_ _ | refine bdr ?_ | refine bdn ?_ _ | refine bst ?_ (by first | assumption | exact Nat.le_refl _ | omega) _ | refine bch ?_ (by assumption)))⟩
end Go.Proofs.Ytajpoggkmjedpaa
