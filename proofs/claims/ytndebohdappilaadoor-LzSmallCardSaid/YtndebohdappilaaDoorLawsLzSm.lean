/- Walk of the law LzSmall. -/
import Derived.Test.YtndebohdappilaaDoorWLzS
import Derived.Test.YtndebohdappilaaDoorPlainSmall
namespace Go.Proofs.YtndebohdappilaaDoor
open Go.RowKit
set_option linter.unusedVariables false
set_option linter.unusedSimpArgs false
set_option maxHeartbeats 8000000 in
set_option maxRecDepth 20000 in
theorem LzSmall_walk (s : ByteArray) (w : World) (w0 : s.size ≤ 140737488351232) (hL : Laid w) :
    Calls Tryd.prog 7 #[.string s] w fun e w' => e = .returned (.bool true) ∧ Below w.heap.size w w' := by
  have hQ := squeezed w
  replace hQ := Lib.hid hQ
  by_cases h4 : 400 < s.size
  · go_enter Tryd.func7, Tryd.ntmps7
    go_wp2_with fail
    refine hQ.out.mono ?_
    rintro _ w2 ⟨rfl, hb2⟩
    go_wp2
    go_ret
    exact ⟨rfl, by (repeat (first | exact Below.refl _ _ | assumption | refine bal ?_ _ | refine bdr ?_ | refine bdn ?_ _ | refine bst ?_ (by first | assumption | exact Nat.le_refl _ | omega) _ | refine bch ?_ (by assumption)))⟩
  · by_cases h0 : s.size = 0
    · have hs : s = ⟨#[]⟩ := ba_ext (by
        have : s.data.toList.length = 0 := by rw [Array.length_toList]; exact h0
        rw [List.eq_nil_of_length_eq_zero this])
      subst hs
      clear h0 h4 w0
      go_enter Tryd.func7, Tryd.ntmps7
      go_wp2_with fail
      refine hQ.out.mono ?_
      rintro _ w2 ⟨rfl, hb2⟩
      go_wp2
      go_ret
      exact ⟨rfl, by (repeat (first | exact Below.refl _ _ | assumption | refine bal ?_ _ | refine bdr ?_ | refine bdn ?_ _ | refine bst ?_ (by first | assumption | exact Nat.le_refl _ | omega) _ | refine bch ?_ (by assumption)))⟩
    · have hne : (s.toList == []) = false := by
        rw [beq_eq_false_iff_ne, ByteArray.toList_eq]
        intro e
        have := congrArg List.length e
        rw [Array.length_toList] at this
        exact h0 this
      have hl : s.data.toList.length = s.size := Array.length_toList
      have hS1 := fun W => lz_squeeze s W (by omega)
      have hS2 := fun W => lz_squeeze (s ++ s) W (by rw [ByteArray.size_append]; omega)
      have q1 := Small.small_one s.data.toList (by omega)
      have q2 := fun h8 => Small.small_two s.data.toList (by omega) h8
      rw [ba_app] at hS2
      rw [hl] at q1 q2
      have e1 := ba_size (Lz.write (Match.tokens s.data.toList))
      have e2 := ba_size (Lz.write (Match.tokens (s.data.toList ++ s.data.toList)))
      rw [← e1] at q1 q2
      rw [← e2] at q2
      have b1 := squeezed_len s.data.toList (by omega)
      have b2 := squeezed_len (s.data.toList ++ s.data.toList) (by rw [List.length_append]; omega)
      rw [List.length_append, ← e2] at b2
      rw [← e1] at b1
      rw [hl] at b1 b2
      clear e1 e2
      generalize (⟨(Lz.write (Match.tokens s.data.toList)).toArray⟩ : ByteArray) = T at *
      generalize (⟨(Lz.write (Match.tokens (s.data.toList ++ s.data.toList))).toArray⟩ : ByteArray) = U at *
      replace hS1 := Lib.hid hS1
      replace hS2 := Lib.hid hS2
      replace q2 := Lib.hid q2
      clear hl
      by_cases h8 : s.size < 8
      · go_enter Tryd.func7, Tryd.ntmps7
        go_wp2_with fail
        refine hQ.out.mono ?_
        rintro _ w2 ⟨rfl, hb2⟩
        go_wp2_with fail
        refine (hS1.out _).mono ?_
        rintro _ w3 ⟨rfl, hb3⟩
        go_wp2_with fail
        refine (hS2.out _).mono ?_
        rintro _ w4 ⟨rfl, hb4⟩
        go_wp2
        go_ret
        exact ⟨rfl, by (repeat (first | exact Below.refl _ _ | assumption | refine bal ?_ _ | refine bdr ?_ | refine bdn ?_ _ | refine bst ?_ (by first | assumption | exact Nat.le_refl _ | omega) _ | refine bch ?_ (by assumption)))⟩
      · have q3 := q2.out (by omega)
        clear q2
        have d8 : decide ((s.size : Int) < 8) = false := by simp; omega
        have dU : decide ((U.size : Int) ≤ (T.size : Int) + 3 + 3 * ((s.size : Int) / 67 + 1)) = true := by simp; omega
        go_enter Tryd.func7, Tryd.ntmps7
        go_wp2_with fail
        refine hQ.out.mono ?_
        rintro _ w2 ⟨rfl, hb2⟩
        go_wp2_with fail
        refine (hS1.out _).mono ?_
        rintro _ w3 ⟨rfl, hb3⟩
        go_wp2_with fail
        refine (hS2.out _).mono ?_
        rintro _ w4 ⟨rfl, hb4⟩
        go_wp2
        go_ret
        exact ⟨rfl, by (repeat (first | exact Below.refl _ _ | assumption | refine bal ?_ _ | refine bdr ?_ | refine bdn ?_ _ | refine bst ?_ (by first | assumption | exact Nat.le_refl _ | omega) _ | refine bch ?_ (by assumption)))⟩
end Go.Proofs.YtndebohdappilaaDoor
