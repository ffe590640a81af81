/- What the laws over match share: that it finds what is there. -/
import Derived.Test.YtajpoggkmjedpabDoorWText
namespace Go.Proofs.YtajpoggkmjedpabDoor
open Go.RowKit
set_option linter.unusedVariables false
def abc3 : ByteArray := ⟨#[97, 98, 99, 97, 98, 99, 97, 98, 99]⟩
def twoToks : List Match.Tok := [⟨⟨#[97, 98]⟩, 0, 0⟩, ⟨⟨#[]⟩, 1, 4⟩]
theorem found_find : Match.find abc3.data.toList 3 = (3, 6) := by decide +kernel
theorem found_right : Match.right twoToks 0 0 = none := by decide +kernel
theorem found_text : Match.text [] twoToks = [97, 98, 98, 98, 98, 98] := by decide +kernel
theorem found_toks : (Match.tokens abc3.data.toList).length = 2 := by
  unfold Match.tokens
  rw [Match.toks_none (by decide) (by decide +kernel), Match.toks_none (by decide) (by decide +kernel), Match.toks_none (by decide) (by decide +kernel), Match.toks_rep (by decide) (by decide +kernel), found_find, Match.toks_end (by decide)]
  rfl
set_option maxHeartbeats 1000000 in
theorem found (w : World) : Calls Tryd.prog 5 #[] w fun e w' => e = .returned (.bool true) ∧ Below w.heap.size w w' := by
  have h1 := fun W => match_find abc3 3 W (by decide) (by decide)
  rw [found_find] at h1
  have h2 := fun W v hv => match_text_ok v twoToks W hv (by decide) (by decide) found_right
  rw [found_text] at h2
  have h3 := fun W => match_tokens abc3 W (by decide)
  have h4 := Lib.hid found_toks
  generalize Match.tokens abc3.data.toList = L at *
  unfold abc3 at h1 h3
  replace h1 := Lib.hid h1
  replace h2 := Lib.hid h2
  replace h3 := Lib.hid h3
  go_enter Tryd.func5, Tryd.ntmps5
  go_wp2_with fail
  refine (h1.out _).mono ?_
  rintro e w1 ⟨rfl, hb1⟩
  go_wp2_with fail
  refine (h2.out _ _ (ListIs.of_alloc _ _ twoToks _ rfl tokCells_len (by decide) 2 rfl)).mono ?_
  rintro e w2 ⟨rfl, hb2⟩
  go_wp2_with fail
  refine (h3.out _).mono ?_
  rintro e w3 ⟨v, rfl, hv, hb3⟩
  obtain ⟨a, cap, rfl, _, _⟩ := hv.at tokCells_len
  rw [h4.out]
  go_wp2
  go_ret
  exact ⟨rfl, by (repeat (first | exact Below.refl _ _ | assumption | refine bal ?_ _ | refine bdr ?_ | refine bdn ?_ _ | refine bst ?_ (by first | assumption | exact Nat.le_refl _ | omega) _ | refine bch ?_ (by assumption)))⟩
theorem isEmpty_of {s : ByteArray} (h : s.size = 0) : s.toList.isEmpty = true := empty_of_size h
end Go.Proofs.YtajpoggkmjedpabDoor
