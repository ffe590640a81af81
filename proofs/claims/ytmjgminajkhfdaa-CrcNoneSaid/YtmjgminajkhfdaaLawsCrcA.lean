/- Walks of the laws over crc: the plain ones. -/
import Derived.Test.YtmjgminajkhfdaaWCrc1
import Derived.Test.YtmjgminajkhfdaaPlainCrc2
namespace Go.Proofs.Ytmjgminajkhfdaa
open Go.RowKit
set_option linter.unusedVariables false
set_option maxHeartbeats 400000 in
theorem CrcMore_walk (a0 a1 : ByteArray) (w : World) (w0 : a0.size ≤ 140737488351232) (w1 : a1.size ≤ 140737488351232) :
    Calls Try.prog 4 #[.string a0, .string a1] w fun e w' => e = .returned (.bool true) ∧ Below w.heap.size w w' := by
  have hsum := Crc.sum_lt a0.data.toList
  have heq := Crc.more_sum a0.data.toList a1.data.toList
  by_cases h : 500 < a0.size + a1.size
  all_goals
    go_enter Try.func4, Try.ntmps4
    go_wp2_with (first
      | (go_at_call 14; go_must (refine (summed _).mono ?_); rintro e w' ⟨rfl, rfl⟩)
      | (go_at_call 16; go_must (refine (crc_sum _ _ (by (try simp); unfold maxLen; omega)).mono ?_); rintro e w' ⟨rfl, rfl⟩)
      | (go_at_call 15; go_must (refine (crc_more _ _ _ hsum (by unfold maxLen; omega)).mono ?_); rintro e w' ⟨rfl, rfl⟩))
    go_ret
    exact ⟨rfl, Below.refl _ _⟩
theorem seal_len (l : List UInt8) : (Crc.seal_ l).length = l.length + 4 := by simp [Crc.seal_, Crc.four]
theorem open_seal (s : ByteArray) : openVal ⟨(Crc.seal_ s.data.toList).toArray⟩ = .tuple #[.string s, .nilIface] := by
  have hl := seal_len s.data.toList
  have ht : (Crc.seal_ s.data.toList).take (s.data.toList.length + 4 - 4) = s.data.toList := by
    rw [Nat.add_sub_cancel]; unfold Crc.seal_; exact List.take_left
  unfold openVal
  rw [ba_size, hl, if_neg (by omega)]
  simp only [ht]
  rw [if_pos trivial, ba_mk]
theorem open_ok (t : ByteArray) (h4 : ¬ t.size < 4) (h : Crc.seal_ (t.data.toList.take (t.size - 4)) = t.data.toList) : openVal t = .tuple #[.string (t.extract 0 (t.size - 4)), .nilIface] := by
  unfold openVal
  rw [if_neg h4, if_pos h]
  congr 3
  exact congrArg Value.string (ba_ext (by simp))
theorem open_bad (t : ByteArray) (h : ¬ (¬ t.size < 4 ∧ Crc.seal_ (t.data.toList.take (t.size - 4)) = t.data.toList)) : ∃ n : Int, openVal t = .tuple #[.string ⟨#[]⟩, err n] := by
  unfold openVal
  by_cases h4 : t.size < 4
  · exact ⟨7, by rw [if_pos h4]⟩
  · exact ⟨15, by rw [if_neg h4, if_neg (fun hq => h ⟨h4, hq⟩)]⟩
set_option maxHeartbeats 1000000 in
theorem CrcBack_walk (a0 a1 : ByteArray) (w : World) (w0 : a0.size ≤ 140737488351232) (w1 : a1.size ≤ 140737488351232) :
    Calls Try.prog 7 #[.string a0, .string a1] w fun e w' => e = .returned (.bool true) ∧ Below w.heap.size w w' := by
  have hos := open_seal a0
  have hso : Hid ((ByteArray.mk (Crc.seal_ a0.data.toList).toArray).size = a0.size + 4) := Lib.hid (by rw [ba_size, seal_len, Array.length_toList]; rfl)
  have hlen : (Crc.seal_ a0.data.toList).length = a0.size + 4 := by rw [seal_len, Array.length_toList]; rfl
  by_cases h : 500 < a0.size + a1.size
  · clear hos hlen
    go_enter Try.func7, Try.ntmps7
    go_wp2_with (go_at_call 14; go_must (refine (summed _).mono ?_); rintro e w' ⟨rfl, rfl⟩)
    go_ret
    exact ⟨rfl, Below.refl _ _⟩
  · by_cases hc : ¬ a1.size < 4 ∧ Crc.seal_ (a1.data.toList.take (a1.size - 4)) = a1.data.toList
    · have hv := open_ok a1 hc.1 hc.2
      have heq : (Crc.seal_ (a1.data.toList.take (a1.size - 4)) == a1.toList) = true := by rw [ByteArray.toList_eq, hc.2]; simp
      clear hc
      go_enter Try.func7, Try.ntmps7
      go_wp2_with (first
        | (go_at_call 14; go_must (refine (summed _).mono ?_); rintro e w' ⟨rfl, rfl⟩)
        | (go_at_call 19; go_must (refine (crc_seal _ _ (by first | (unfold maxLen; omega) | (simp; unfold maxLen; omega))).mono ?_); rintro e w' ⟨rfl, hb⟩)
        | (go_at_call 18; go_must (refine (crc_open _ _ (by first | (unfold maxLen; omega) | (rw [hso.out]; unfold maxLen; omega))).mono ?_); rintro e w' ⟨rfl, hb⟩))
      go_ret
      exact ⟨rfl, by (repeat (first | exact Below.refl _ _ | assumption | refine bal ?_ _ | refine bdr ?_ | refine bdn ?_ _ | refine bst ?_ (by first | assumption | exact Nat.le_refl _ | omega) _ | refine bch ?_ (by assumption)))⟩
    · obtain ⟨n, hv⟩ := open_bad a1 hc
      have hnn : err n = .iface 51 (.int .i64 n) := rfl
      clear hc
      go_enter Try.func7, Try.ntmps7
      go_wp2_with (first
        | (go_at_call 14; go_must (refine (summed _).mono ?_); rintro e w' ⟨rfl, rfl⟩)
        | (go_at_call 19; go_must (refine (crc_seal _ _ (by first | (unfold maxLen; omega) | (simp; unfold maxLen; omega))).mono ?_); rintro e w' ⟨rfl, hb⟩)
        | (go_at_call 18; go_must (refine (crc_open _ _ (by first | (unfold maxLen; omega) | (rw [hso.out]; unfold maxLen; omega))).mono ?_); rintro e w' ⟨rfl, hb⟩))
      go_ret
      exact ⟨rfl, by (repeat (first | exact Below.refl _ _ | assumption | refine bal ?_ _ | refine bdr ?_ | refine bdn ?_ _ | refine bst ?_ (by first | assumption | exact Nat.le_refl _ | omega) _ | refine bch ?_ (by assumption)))⟩
end Go.Proofs.Ytmjgminajkhfdaa
