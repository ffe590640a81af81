/- Walks of the laws over match. -/
import Derived.Test.YthoaglemjleipaaWText
import Derived.Test.YthoaglemjleipaaWPick
namespace Go.Proofs.Ythoaglemjleipaa
open Go.RowKit
set_option linter.unusedVariables false
def abc3 : ByteArray := ⟨#[97, 98, 99, 97, 98, 99, 97, 98, 99]⟩
def twoToks : List Match.Tok := [⟨⟨#[97, 98]⟩, 0, 0⟩, ⟨⟨#[]⟩, 1, 4⟩]
theorem found_find : Match.find abc3.data.toList 3 = (3, 6) := by decide +kernel
theorem found_right : Match.right twoToks 0 0 = none := by decide +kernel
theorem found_text : Match.text [] twoToks = [97, 98, 98, 98, 98, 98] := by decide +kernel
theorem found_toks : (Match.tokens abc3.data.toList).length = 2 := by
  unfold Match.tokens
  rw [Match.toks_none (by decide) (by decide +kernel), Match.toks_none (by decide) (by decide +kernel), Match.toks_none (by decide) (by decide +kernel), Match.toks_rep (by decide) (by decide +kernel), found_find, Match.toks_end (by decide)]
  rfl
set_option maxHeartbeats 1000000 in
theorem found (w : World) : Calls Try.prog 9 #[] w fun e w' => e = .returned (.bool true) ∧ Below w.heap.size w w' := by
  have h1 := fun W => match_find abc3 3 W (by decide) (by decide)
  rw [found_find] at h1
  have h2 := fun W v hv => match_text_ok v twoToks W hv (by decide) (by decide) found_right
  rw [found_text] at h2
  have h3 := fun W => match_tokens abc3 W (by decide)
  have h4 := Lib.hid found_toks
  generalize Match.tokens abc3.data.toList = L at *
  unfold abc3 at h1 h3
  replace h1 := Lib.hid h1
  replace h2 := Lib.hid h2
  replace h3 := Lib.hid h3
  go_enter Try.func9, Try.ntmps9
  go_wp2_with fail
  refine (h1.out _).mono ?_
  rintro e w1 ⟨rfl, hb1⟩
  go_wp2_with fail
  refine (h2.out _ _ (ListIs.of_alloc _ _ twoToks _ rfl tokCells_len (by decide) 2 rfl)).mono ?_
  rintro e w2 ⟨rfl, hb2⟩
  go_wp2_with fail
  refine (h3.out _).mono ?_
  rintro e w3 ⟨v, rfl, hv, hb3⟩
  obtain ⟨a, cap, rfl, _, _⟩ := hv.at tokCells_len
  rw [h4.out]
  go_wp2
  go_ret
  exact ⟨rfl, by (repeat (first | exact Below.refl _ _ | assumption | refine bal ?_ _ | refine bdr ?_ | refine bdn ?_ _ | refine bst ?_ (by first | assumption | exact Nat.le_refl _ | omega) _ | refine bch ?_ (by assumption)))⟩
theorem isEmpty_of {s : ByteArray} (h : s.size = 0) : s.toList.isEmpty = true := empty_of_size h
set_option maxHeartbeats 1000000 in
set_option maxRecDepth 100000 in
theorem MatchReal_walk (a0 : ByteArray) (a1 : Int) (w : World) (w0 : a0.size ≤ 140737488351232) (w1 : (Lit.int .i64 a1).wf = true) :
    Calls Try.prog 3 #[.string a0, .int .i64 a1] w fun e w' => e = .returned (.bool true) ∧ Below w.heap.size w w' := by
  clear w1
  by_cases h : 1000 < a0.size
  · go_enter Try.func3, Try.ntmps3
    go_wp2_with (first | (go_at_call 9; go_must (refine (found _).mono ?_); rintro e w' ⟨rfl, hb⟩))
    go_ret
    exact ⟨rfl, by (repeat (first | exact Below.refl _ _ | assumption | refine bal ?_ _ | refine bdr ?_ | refine bdn ?_ _ | refine bst ?_ (by first | assumption | exact Nat.le_refl _ | omega) _ | refine bch ?_ (by assumption)))⟩
  · by_cases h0 : a0.size = 0
    · have he := empty_of_size h0
      go_enter Try.func3, Try.ntmps3
      go_wp2_with (first | (go_at_call 9; go_must (refine (found _).mono ?_); rintro e w' ⟨rfl, hb⟩))
      go_ret
      exact ⟨rfl, by (repeat (first | exact Below.refl _ _ | assumption | refine bal ?_ _ | refine bdr ?_ | refine bdn ?_ _ | refine bst ?_ (by first | assumption | exact Nat.le_refl _ | omega) _ | refine bch ?_ (by assumption)))⟩
    · have he := nonempty_of_size h0
      have hp := pickN_lt a1 a0.size (by omega)
      have hpk := fun W => keep_pick a1 a0.size a0.size W rfl (by omega) (by omega)
      generalize pickN a1 a0.size = p at *
      have hf := fun W => match_find a0 p W w0 hp
      have hsp := Match.find_spec a0.data.toList p
      have hin := Match.find_in a0.data.toList p (by rw [Match.ba_len]; omega)
      rw [Match.ba_len] at hin
      generalize Match.find a0.data.toList p = f at *
      obtain ⟨b, n⟩ := f
      simp only at hf hin
      replace hpk := Lib.hid hpk
      replace hf := Lib.hid hf
      rcases hsp with ⟨hbn, _⟩ | hF
      · simp only [Prod.mk.injEq] at hbn
        obtain ⟨rfl, rfl⟩ := hbn
        go_enter Try.func3, Try.ntmps3
        go_wp2_with (first | (go_at_call 9; go_must (refine (found _).mono ?_); rintro e w' ⟨rfl, hb⟩) | (go_at_call 10; go_must (refine (hpk.out _).mono ?_); rintro e w' ⟨rfl, rfl⟩) | (go_at_call 11; go_must (refine (hf.out _).mono ?_); rintro e w' ⟨rfl, hb2⟩))
        go_ret
        exact ⟨rfl, by (repeat (first | exact Below.refl _ _ | assumption | refine bal ?_ _ | refine bdr ?_ | refine bdn ?_ _ | refine bst ?_ (by first | assumption | exact Nat.le_refl _ | omega) _ | refine bch ?_ (by assumption)))⟩
      · obtain ⟨b1, bK, n4, hn, hmax⟩ := hF
        simp only at b1 bK n4 hn
        have n67 := Match.alike_le a0.data.toList (p - b) p 67
        rw [← hn] at n67
        have heq := fun i hi => Match.alike_eq a0.data.toList (p - b) p 67 i hi
        have hst := Match.alike_stop a0.data.toList (p - b) p 67
        rw [← hn] at heq hst
        rw [Match.ba_len] at hst
        clear hmax
        replace heq := Lib.hid heq
        replace hst := Lib.hid hst
        replace hn := Lib.hid hn
        have hbp : b ≤ p := by omega
        have hbm : b ≤ 1024 := by omega
        clear bK
        have hnz : ((n : Int) == 0) = false := by simp; omega
        have d1 : decide ((b : Int) < 1) = false := by simp; omega
        have d2 : decide ((p : Int) < (b : Int)) = false := by simp; omega
        have d3 : decide ((1024 : Int) < (b : Int)) = false := by simp; omega
        have d4 : decide ((n : Int) < 4) = false := by simp; omega
        have d5 : decide ((67 : Int) < (n : Int)) = false := by simp; omega
        have d7 : decide (p < b) = false := by simp; omega
        have d8 : decide ((1000 : Int) < (a0.size : Int)) = false := by simp; omega
        have d6 : decide ((a0.size : Int) < (p : Int) + (n : Int)) = false := by simp; omega
        go_enter Try.func3, Try.ntmps3
        go_wp2_with (first | (go_at_call 9; go_must (refine (found _).mono ?_); rintro e w' ⟨rfl, hb⟩) | (go_at_call 10; go_must (refine (hpk.out _).mono ?_); rintro e w' ⟨rfl, rfl⟩) | (go_at_call 11; go_must (refine (hf.out _).mono ?_); rintro e w' ⟨rfl, hb2⟩))
        go_loopw [7] (fun i wr => ∃ r : Nat, p ≤ r ∧ r ≤ p + n ∧ i = .int .i64 r ∧ Below w.heap.size w wr) (fun i _ => p + n - (intOf i).toNat)
        case atStart => exact ⟨p, by omega, by omega, rfl, by (repeat (first | exact Below.refl _ _ | assumption | refine bal ?_ _ | refine bdr ?_ | refine bdn ?_ _ | refine bst ?_ (by first | assumption | exact Nat.le_refl _ | omega) _ | refine bch ?_ (by assumption)))⟩
        case round =>
          obtain ⟨r, hr1, hr2, rfl, hbel⟩ := hrel
          have hsz := hbel.size
          obtain ⟨q, hq⟩ : ∃ q, q = r - b := ⟨_, rfl⟩
          have hqi : IntKind.i64.wrap ((r : Int) - (b : Int)) = (q : Int) := by rw [IntWalk.i64_in _ (by omega)]; omega
          have hq2 : q < a0.size ∨ r = p + n := by omega
          by_cases hlt : r < p + n
          · have n1 : r < a0.size := by omega
            have n2 : q < a0.size := by omega
            have hh := heq.out (r - p) (by omega)
            rw [show p - b + (r - p) = q by omega, show p + (r - p) = r by omega, getQ a0 _ n1, getQ a0 _ n2] at hh
            have hv : ((((a0[r]).toNat : Int) == ((a0[q]).toNat : Int))) = true := by
              simp only [Option.some.injEq] at hh; rw [hh]; simp
            have hv2 : ((((a0[r]).toNat : Int) != ((a0[q]).toNat : Int))) = false := by
              simp only [Option.some.injEq] at hh; rw [hh]; simp
            clear hh hq2
            replace hq := Lib.hid hq
            go_wp2
            go_quiet (fail)
            go_wp2
            go_roundw
            case rel => exact ⟨r + 1, by omega, by omega, by go_num, by (repeat (first | exact Below.refl _ _ | assumption | refine bal ?_ _ | refine bdr ?_ | refine bdn ?_ _ | refine bst ?_ (by first | assumption | exact Nat.le_refl _ | omega) _ | refine bch ?_ (by assumption)))⟩
            case measure => simp [intOf]; omega
          · have hr3 : r = p + n := by omega
            clear hq2
            have w3 : IntKind.i64.wrap ((p : Int) + (n : Int)) = (r : Int) := by rw [IntWalk.i64_in _ (by omega)]; omega
            have hin2 : r ≤ a0.size := by omega
            by_cases h67 : n = 67
            · have e67 : ((n : Int) == 67) = true := by simp; omega
              replace h67 := Lib.hid h67
              replace hq := Lib.hid hq
              replace hr3 := Lib.hid hr3
              clear hqi
              go_wp2
              go_quiet (fail)
              go_wp2
              go_ret
              exact ⟨rfl, by (repeat (first | exact Below.refl _ _ | assumption | refine bal ?_ _ | refine bdr ?_ | refine bdn ?_ _ | refine bst ?_ (by first | assumption | exact Nat.le_refl _ | omega) _ | refine bch ?_ (by assumption)))⟩
            · have e67 : ((n : Int) == 67) = false := by simp; omega
              by_cases hend : r = a0.size
              · have eend : ((r : Int) == (a0.size : Int)) = true := by simp; omega
                replace hend := Lib.hid hend
                replace hq := Lib.hid hq
                replace hr3 := Lib.hid hr3
                clear hqi
                go_wp2
                go_quiet (fail)
                go_wp2
                go_ret
                exact ⟨rfl, by (repeat (first | exact Below.refl _ _ | assumption | refine bal ?_ _ | refine bdr ?_ | refine bdn ?_ _ | refine bst ?_ (by first | assumption | exact Nat.le_refl _ | omega) _ | refine bch ?_ (by assumption)))⟩
              · have eend : ((r : Int) == (a0.size : Int)) = false := by simp; omega
                have n1 : r < a0.size := by omega
                have n2 : q < a0.size := by omega
                have hne : ¬ a0[r] = a0[q] := by
                  rcases hst.out with h | h | h
                  · exact absurd h h67
                  · omega
                  · intro e; rw [show p - b + n = q by omega, ← hr3, getQ a0 _ n1, getQ a0 _ n2, e] at h; exact h rfl
                have hv : ((((a0[r]).toNat : Int) == ((a0[q]).toNat : Int))) = false := by
                  rw [beq_eq_false_iff_ne]; intro e; exact hne (UInt8.toNat_inj.1 (by omega))
                have hv2 : ((((a0[r]).toNat : Int) != ((a0[q]).toNat : Int))) = true := by
                  rw [bne_iff_ne]; intro e; exact hne (UInt8.toNat_inj.1 (by omega))
                clear hne
                replace hq := Lib.hid hq
                replace hr3 := Lib.hid hr3
                go_wp2
                go_quiet (fail)
                go_wp2
                go_ret
                exact ⟨rfl, by (repeat (first | exact Below.refl _ _ | assumption | refine bal ?_ _ | refine bdr ?_ | refine bdn ?_ _ | refine bst ?_ (by first | assumption | exact Nat.le_refl _ | omega) _ | refine bch ?_ (by assumption)))⟩
end Go.Proofs.Ythoaglemjleipaa
