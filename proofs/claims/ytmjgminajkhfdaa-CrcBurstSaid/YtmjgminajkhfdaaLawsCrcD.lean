/- Walk of the law CrcBurst: bits that are turned close together are seen. -/
import Derived.Test.YtmjgminajkhfdaaLawsCrcA
import Derived.Test.YtmjgminajkhfdaaWBurst
namespace Go.Proofs.Ytmjgminajkhfdaa
open Go.RowKit
set_option linter.unusedVariables false
set_option maxHeartbeats 1000000 in
theorem CrcBurst_walk (a0 : ByteArray) (a1 a2 : Int) (w : World) (w0 : a0.size ≤ 140737488351232) (w1 : (Lit.int .i64 a1).wf = true) (w2 : (Lit.int .u32 a2).wf = true) :
    Calls Try.prog 8 #[.string a0, .int .i64 a1, .int .u32 a2] w fun e w' => e = .returned (.bool true) ∧ Below w.heap.size w w' := by
  obtain ⟨b, rfl, hbb⟩ := nat_u32 w2
  clear w1 w2
  by_cases h : 300 < a0.size
  · go_enter Try.func8, Try.ntmps8
    go_wp2_with (go_at_call 14; go_must (refine (summed _).mono ?_); rintro e w' ⟨rfl, rfl⟩)
    go_ret
    exact ⟨rfl, by (repeat (first | exact Below.refl _ _ | assumption | refine bal ?_ _ | refine bdr ?_ | refine bdn ?_ _ | refine bst ?_ (by first | assumption | exact Nat.le_refl _ | omega) _ | refine bch ?_ (by assumption)))⟩
  · have hl : (Crc.seal_ a0.data.toList).length = a0.size + 4 := by rw [seal_len, Array.length_toList]; rfl
    have hf := pickN_lt a1 (8 * (a0.size + 4)) (by omega)
    have hts := Crc.turns_sealed a0.data.toList (pickN a1 (8 * (a0.size + 4))) b hbb (by rw [hl]; exact hf)
    have hso : Hid ((ByteArray.mk (Crc.seal_ a0.data.toList).toArray).size = a0.size + 4) := Lib.hid (by rw [ba_size, seal_len, Array.length_toList]; rfl)
    have hul := Crc.turns_len (Crc.seal_ a0.data.toList) (pickN a1 (8 * (a0.size + 4))) b 32
    have hne : (Crc.seal_ a0.data.toList).isEmpty = false := by
      rw [List.isEmpty_eq_false_iff]; intro e; rw [e] at hl; simp at hl
    by_cases hu : Crc.turns (Crc.seal_ a0.data.toList) (pickN a1 (8 * (a0.size + 4))) b 32 = Crc.seal_ a0.data.toList
    · have hos := open_seal a0
      clear hts hul
      have hul : (Crc.turns (Crc.seal_ a0.data.toList) (pickN a1 (8 * (a0.size + 4))) b 32).length = a0.size + 4 := by rw [hu, hl]
      go_enter Try.func8, Try.ntmps8
      go_wp2_with (first
        | (go_at_call 14; go_must (refine (summed _).mono ?_); rintro e w' ⟨rfl, rfl⟩)
        | (go_at_call 19; go_must (refine (crc_seal _ _ (by unfold maxLen; omega)).mono ?_); rintro e w' ⟨rfl, hb⟩)
        | (go_at_call 21; go_must (refine (keep_pick _ _ (8 * (a0.size + 4)) _ (by omega) (by omega) (by omega)).mono ?_); rintro e w' ⟨rfl, rfl⟩)
        | (go_at_call 20; go_must (refine (keep_turned _ _ _ _ (by rw [hso.out]; omega) (by omega) hbb).mono ?_); rintro e w' ⟨rfl, hb⟩)
        | (go_at_call 18; go_must (refine (crc_open _ _ (by rw [hso.out]; unfold maxLen; omega)).mono ?_); rintro e w' ⟨rfl, hb⟩))
      go_ret
      exact ⟨rfl, by (repeat (first | exact Below.refl _ _ | assumption | refine bal ?_ _ | refine bdr ?_ | refine bdn ?_ _ | refine bst ?_ (by first | assumption | exact Nat.le_refl _ | omega) _ | refine bch ?_ (by assumption)))⟩
    · have hx : ¬ Crc.seal_ ((Crc.turns (Crc.seal_ a0.data.toList) (pickN a1 (8 * (a0.size + 4))) b 32).take ((Crc.turns (Crc.seal_ a0.data.toList) (pickN a1 (8 * (a0.size + 4))) b 32).length - 4)) = Crc.turns (Crc.seal_ a0.data.toList) (pickN a1 (8 * (a0.size + 4))) b 32 := fun h => hu (hts.1 h)
      have hbe : (Crc.turns (Crc.seal_ a0.data.toList) (pickN a1 (8 * (a0.size + 4))) b 32 == Crc.seal_ a0.data.toList) = false := by simp [hu]
      rw [hl] at hul
      clear hts hu
      generalize hU : Crc.turns (Crc.seal_ a0.data.toList) (pickN a1 (8 * (a0.size + 4))) b 32 = U at *
      have hU' := Lib.hid hU
      clear hU
      obtain ⟨n, hv⟩ := open_bad ⟨U.toArray⟩ (fun h => hx (by have := h.2; rw [ba_size] at this; exact this))
      have hnn : err n = .iface 51 (.int .i64 n) := rfl
      have hus : Hid ((ByteArray.mk U.toArray).size = a0.size + 4) := Lib.hid (by rw [ba_size, hul])
      clear hx
      go_enter Try.func8, Try.ntmps8
      go_wp2_with (first
        | (go_at_call 14; go_must (refine (summed _).mono ?_); rintro e w' ⟨rfl, rfl⟩)
        | (go_at_call 19; go_must (refine (crc_seal _ _ (by unfold maxLen; omega)).mono ?_); rintro e w' ⟨rfl, hb⟩)
        | (go_at_call 21; go_must (refine (keep_pick _ _ (8 * (a0.size + 4)) _ (by omega) (by omega) (by omega)).mono ?_); rintro e w' ⟨rfl, rfl⟩)
        | (go_at_call 20; go_must (refine (keep_turned _ _ _ _ (by rw [hso.out]; omega) (by omega) hbb).mono ?_); rw [hU'.out]; rintro e w' ⟨rfl, hb⟩)
        | (go_at_call 18; go_must (refine (crc_open _ _ (by rw [hus.out]; unfold maxLen; omega)).mono ?_); rintro e w' ⟨rfl, hb⟩))
      go_ret
      exact ⟨rfl, by (repeat (first | exact Below.refl _ _ | assumption | refine bal ?_ _ | refine bdr ?_ | refine bdn ?_ _ | refine bst ?_ (by first | assumption | exact Nat.le_refl _ | omega) _ | refine bch ?_ (by assumption)))⟩
end Go.Proofs.Ytmjgminajkhfdaa
