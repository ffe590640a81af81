/- The walk of keep.squeezed. -/
import Derived.Test.YtdeepahaggkipaaDoorWLzBad
namespace Go.Proofs.YtdeepahaggkipaaDoor
open Go.RowKit
set_option linter.unusedVariables false
set_option linter.unusedSimpArgs false
def abcs : ByteArray := ⟨#[97, 98, 99, 97, 98, 99, 97, 98, 99]⟩
theorem abcs_find : Match.find abcs.data.toList 3 = (3, 6) := by decide +kernel
theorem abcs_toks : Match.tokens abcs.data.toList = [⟨⟨#[97, 98, 99]⟩, 0, 0⟩, ⟨⟨#[]⟩, 3, 6⟩] := by
  unfold Match.tokens
  rw [Match.toks_none (by decide) (by decide +kernel), Match.toks_none (by decide) (by decide +kernel), Match.toks_none (by decide) (by decide +kernel), Match.toks_rep (by decide) (by decide +kernel), abcs_find, Match.toks_end (by decide)]
  rfl
theorem abcs_write : Lz.write (Match.tokens abcs.data.toList) = [6, 97, 98, 99, 5, 2] := by
  rw [abcs_toks]
  have e1 : Lz.put ⟨⟨#[97, 98, 99]⟩, 0, 0⟩ = [6, 97, 98, 99] := by
    unfold Lz.put
    rw [if_pos (by decide)]
    show Vary.put 6 ++ [97, 98, 99] = _
    rw [Vary.put_small (by omega)]; rfl
  have e2 : Lz.put ⟨⟨#[]⟩, 3, 6⟩ = [5, 2] := by
    unfold Lz.put
    rw [if_neg (by decide)]
    show Vary.put 5 ++ Vary.put 2 = _
    rw [Vary.put_small (by omega), Vary.put_small (by omega)]; rfl
  unfold Lz.write
  rw [List.flatMap_cons, List.flatMap_cons, e1, e2]; rfl
set_option maxHeartbeats 2000000 in
theorem squeezed (w : World) : Calls Tryd.prog 22 #[] w fun e w' => e = .returned (.bool true) ∧ Below w.heap.size w w' := by
  have hS := fun W => lz_squeeze abcs W (by decide)
  have hr := Match.tokens_right abcs.data.toList (by decide)
  have ha := Lz.all_write' _ (Lz.right_good _ 0 0 hr (by omega))
  have ht := Match.tokens_text abcs.data.toList
  have hl := Match.tokens_len abcs.data.toList
  rw [abcs_write] at hS ha
  have hW := fun W => lz_swell ⟨#[6, 97, 98, 99, 5, 2]⟩ (Match.tokens abcs.data.toList) W (by decide) ha hr (Nat.le_trans hl (by decide))
  rw [ht] at hW
  have e1 : (⟨[6, 97, 98, 99, 5, 2].toArray⟩ : ByteArray) = ⟨#[6, 97, 98, 99, 5, 2]⟩ := rfl
  have e2 : (⟨abcs.data.toList.toArray⟩ : ByteArray) = ⟨#[97, 98, 99, 97, 98, 99, 97, 98, 99]⟩ := rfl
  rw [e1] at hS
  rw [e2] at hW
  have hS : ∀ W, Calls Tryd.prog 25 #[.string ⟨#[97, 98, 99, 97, 98, 99, 97, 98, 99]⟩] W fun e w' => e = .returned (.tuple #[.string ⟨#[6, 97, 98, 99, 5, 2]⟩, .nilIface]) ∧ Below W.heap.size W w' := hS
  replace hW := Lib.hid hW
  have hS2 := Lib.hid hS
  clear ha ht hl hr e1 e2 hS
  go_enter Tryd.func22, Tryd.ntmps22
  go_wp2_with fail
  refine (hS2.out _).mono ?_
  rintro _ w1 ⟨rfl, hb1⟩
  go_wp2_with fail
  refine (hW.out _).mono ?_
  rintro _ w2 ⟨rfl, hb2⟩
  go_wp2
  go_ret
  exact ⟨rfl, by (repeat (first | exact Below.refl _ _ | assumption | refine bal ?_ _ | refine bdr ?_ | refine bdn ?_ _ | refine bst ?_ (by first | assumption | exact Nat.le_refl _ | omega) _ | refine bch ?_ (by assumption)))⟩
end Go.Proofs.YtdeepahaggkipaaDoor
