/- Walks of lz.Squeeze, lz.Swell, and of what the laws over lz share. -/
import Derived.Test.YtndebohdappilaaDoorWLzR
import Derived.Test.YtndebohdappilaaDoorLaid
namespace Go.Proofs.YtndebohdappilaaDoor
open Go.RowKit
set_option linter.unusedVariables false
set_option linter.unusedSimpArgs false
set_option maxHeartbeats 2000000 in
theorem lz_squeeze (s : ByteArray) (w : World) (hs : s.size ≤ 20000) :
    Calls Tryd.prog 26 #[.string s] w fun e w' => e = .returned (.tuple #[.string ⟨(Lz.write (Match.tokens s.data.toList)).toArray⟩, .nilIface]) ∧ Below w.heap.size w w' := by
  have hll : s.data.toList.length = s.size := Array.length_toList
  have hT := fun W => match_tokens s W (by omega)
  have htr := Match.tokens_right s.data.toList (by omega)
  have htl := Match.tokens_len s.data.toList
  have hW := fun v W hv => lz_write v (Match.tokens s.data.toList) W hv (by omega) htr
  generalize Match.tokens s.data.toList = ts at *
  generalize Lz.write ts = B at *
  replace hT := Lib.hid hT
  replace hW := Lib.hid hW
  clear hll htr htl
  go_enter Tryd.func26, Tryd.ntmps26
  go_wp2_with fail
  refine (hT.out _).mono ?_
  rintro _ w1 ⟨v, rfl, hv, hb1⟩
  replace hv := Lib.hid hv
  go_wp2_with fail
  refine (hW.out _ _ hv.out).mono ?_
  rintro _ w2 ⟨rfl, hb2⟩
  go_wp2
  go_ret2
  exact ⟨rfl, by (repeat (first | exact Below.refl _ _ | assumption | refine bal ?_ _ | refine bdr ?_ | refine bdn ?_ _ | refine bst ?_ (by first | assumption | exact Nat.le_refl _ | omega) _ | refine bch ?_ (by assumption)))⟩
set_option maxHeartbeats 2000000 in
theorem lz_swell (s : ByteArray) (ts : List Match.Tok) (w : World) (hs : s.size ≤ 700000) (hall : Lz.all s.data.toList = some ts) (hr : Match.right ts 0 0 = none) (hl : ts.length ≤ 1000000) :
    Calls Tryd.prog 63 #[.string s] w fun e w' => e = .returned (.tuple #[.string ⟨(Match.text [] ts).toArray⟩, .nilIface]) ∧ Below w.heap.size w w' := by
  have hR := fun W => lz_read s ts W hs hall hr
  have hgood := Lz.right_good ts 0 0 hr (by omega)
  have hT := fun v W hv => match_text_ok v ts W hv (fun t ht => by
    rcases hgood t ht with ⟨h1, h2, h3, h4⟩ | ⟨h1, h2, h3, h4, h5⟩
    · omega
    · rw [h1]; exact Nat.zero_le _) (by omega) hr
  generalize Match.text [] ts = B at *
  replace hR := Lib.hid hR
  replace hT := Lib.hid hT
  replace hgood := Lib.hid hgood
  clear hall hr
  go_enter Tryd.func63, Tryd.ntmps63
  go_wp2_with fail
  refine (hR.out _).mono ?_
  rintro _ w1 ⟨⟨v, rfl, hv⟩, hb1⟩
  replace hv := Lib.hid hv
  go_wp2_with fail
  refine (hT.out _ _ hv.out).mono ?_
  rintro _ w2 ⟨rfl, hb2⟩
  go_wp2
  go_ret2
  exact ⟨rfl, by (repeat (first | exact Below.refl _ _ | assumption | refine bal ?_ _ | refine bdr ?_ | refine bdn ?_ _ | refine bst ?_ (by first | assumption | exact Nat.le_refl _ | omega) _ | refine bch ?_ (by assumption)))⟩
/-- What is squeezed: its bytes, and how few they are. -/
theorem squeezed_len (s : List UInt8) (h : s.length ≤ 20000) : (Lz.write (Match.tokens s)).length ≤ 20 * s.length + 20000 := by
  have hr := Match.tokens_right s h
  have h1 := lzw_len (Match.tokens s) (Lz.right_good _ 0 0 hr (by omega))
  have h2 := right_sum (Match.tokens s) 0 0 hr (by omega)
  have h3 := Match.tokens_len s
  omega
def abcs : ByteArray := ⟨#[97, 98, 99, 97, 98, 99, 97, 98, 99]⟩
theorem abcs_find : Match.find abcs.data.toList 3 = (3, 6) := by decide +kernel
theorem abcs_toks : Match.tokens abcs.data.toList = [⟨⟨#[97, 98, 99]⟩, 0, 0⟩, ⟨⟨#[]⟩, 3, 6⟩] := by
  unfold Match.tokens
  rw [Match.toks_none (by decide) (by decide +kernel), Match.toks_none (by decide) (by decide +kernel), Match.toks_none (by decide) (by decide +kernel), Match.toks_rep (by decide) (by decide +kernel), abcs_find, Match.toks_end (by decide)]
  rfl
theorem abcs_write : Lz.write (Match.tokens abcs.data.toList) = [6, 97, 98, 99, 5, 2] := by
  rw [abcs_toks]
  have e1 : Lz.put ⟨⟨#[97, 98, 99]⟩, 0, 0⟩ = [6, 97, 98, 99] := by
    unfold Lz.put
    rw [if_pos (by decide)]
    show Vary.put 6 ++ [97, 98, 99] = _
    rw [Vary.put_small (by omega)]; rfl
  have e2 : Lz.put ⟨⟨#[]⟩, 3, 6⟩ = [5, 2] := by
    unfold Lz.put
    rw [if_neg (by decide)]
    show Vary.put 5 ++ Vary.put 2 = _
    rw [Vary.put_small (by omega), Vary.put_small (by omega)]; rfl
  unfold Lz.write
  rw [List.flatMap_cons, List.flatMap_cons, e1, e2]; rfl
set_option maxHeartbeats 2000000 in
theorem squeezed (w : World) : Calls Tryd.prog 25 #[] w fun e w' => e = .returned (.bool true) ∧ Below w.heap.size w w' := by
  have hS := fun W => lz_squeeze abcs W (by decide)
  have hr := Match.tokens_right abcs.data.toList (by decide)
  have ha := Lz.all_write' _ (Lz.right_good _ 0 0 hr (by omega))
  have ht := Match.tokens_text abcs.data.toList
  have hl := Match.tokens_len abcs.data.toList
  rw [abcs_write] at hS ha
  have hW := fun W => lz_swell ⟨#[6, 97, 98, 99, 5, 2]⟩ (Match.tokens abcs.data.toList) W (by decide) ha hr (Nat.le_trans hl (by decide))
  rw [ht] at hW
  have e1 : (⟨[6, 97, 98, 99, 5, 2].toArray⟩ : ByteArray) = ⟨#[6, 97, 98, 99, 5, 2]⟩ := rfl
  have e2 : (⟨abcs.data.toList.toArray⟩ : ByteArray) = ⟨#[97, 98, 99, 97, 98, 99, 97, 98, 99]⟩ := rfl
  rw [e1] at hS
  rw [e2] at hW
  have hS : ∀ W, Calls Tryd.prog 26 #[.string ⟨#[97, 98, 99, 97, 98, 99, 97, 98, 99]⟩] W fun e w' => e = .returned (.tuple #[.string ⟨#[6, 97, 98, 99, 5, 2]⟩, .nilIface]) ∧ Below W.heap.size W w' := hS
  replace hW := Lib.hid hW
  have hS2 := Lib.hid hS
  clear ha ht hl hr e1 e2 hS
  go_enter Tryd.func25, Tryd.ntmps25
  go_wp2_with fail
  refine (hS2.out _).mono ?_
  rintro _ w1 ⟨rfl, hb1⟩
  go_wp2_with fail
  refine (hW.out _).mono ?_
  rintro _ w2 ⟨rfl, hb2⟩
  go_wp2
  go_ret
  exact ⟨rfl, by (repeat (first | exact Below.refl _ _ | assumption | refine bal ?_ _ | refine bdr ?_ | refine bdn ?_ _ | refine bst ?_ (by first | assumption | exact Nat.le_refl _ | omega) _ | refine bch ?_ (by assumption)))⟩
end Go.Proofs.YtndebohdappilaaDoor
