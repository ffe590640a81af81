/- The walks of frame.Version, frame.Inside. -/
import Derived.Test.YtdeepahaggkipaaDoorPlainFrame
import Derived.Test.YtdeepahaggkipaaDoorWCrc1
import Derived.Test.YtdeepahaggkipaaDoorLib4
namespace Go.Proofs.YtdeepahaggkipaaDoor
open Go.RowKit
set_option linter.unusedVariables false
set_option linter.unusedSimpArgs false
def verVal : Nat ⊕ Nat → Value
  | .inl c => .tuple #[.int .i64 0, .iface 43 (.int .i64 c)]
  | .inr v => .tuple #[.int .i64 v, .nilIface]
theorem open_got (s : ByteArray) : openVal s = match Crc.opened s.data.toList with
    | .inl e => .tuple #[.string ⟨#[]⟩, .iface 43 (.int .i64 e)]
    | .inr t => .tuple #[.string ⟨t.toArray⟩, .nilIface] := by
  have hl : s.data.toList.length = s.size := Array.length_toList
  unfold openVal Crc.opened
  rw [hl]
  by_cases h : s.size < 4
  · rw [if_pos h, if_pos h]; rfl
  · rw [if_neg h, if_neg h]
    by_cases h2 : Crc.seal_ (s.data.toList.take (s.size - 4)) = s.data.toList
    · rw [if_pos h2, if_pos h2]
    · rw [if_neg h2, if_neg h2]; rfl
set_option maxHeartbeats 2000000 in
set_option maxRecDepth 20000 in
theorem frame_version (s : ByteArray) (w : World) (hs : s.size ≤ 1000000) :
    Calls Tryd.prog 18 #[.string s] w fun e w' => e = .returned (verVal (Frame.version s.data.toList)) ∧ Below w.heap.size w w' := by
  have hll : s.data.toList.length = s.size := Array.length_toList
  obtain ⟨RV, hRV⟩ : ∃ v, v = verVal (Frame.version s.data.toList) := ⟨_, rfl⟩
  rw [← hRV]
  unfold Frame.version at hRV
  rw [hll] at hRV
  by_cases h8 : s.size < 8
  · have h8I : (s.size : Int) < 8 := by omega
    rw [if_pos h8] at hRV
    replace hRV := Lib.hid hRV
    go_enter Tryd.func18, Tryd.ntmps18
    go_wp2
    go_ret2
    exact ⟨by rw [hRV.out]; rfl, Below.refl _ _⟩
  · rw [if_neg h8] at hRV
    have h8I : ¬ (s.size : Int) < 8 := by omega
    have h2I : (2 : Int) ≤ (s.size : Int) := by omega
    have hx : (s.extract 0 2).toList = s.data.toList.take 2 := by
      rw [ByteArray.toList_eq, ByteArray.data_extract, Array.toList_extract, List.extract_eq_take_drop, List.drop_zero]
    have hg : s.data.toList[2]?.getD 0 = s[2] := by
      rw [List.getElem?_eq_getElem (by omega)]
      rfl
    rw [hg] at hRV
    by_cases hpt : s.data.toList.take 2 = [80, 84]
    · rw [if_neg (by simp [hpt])] at hRV
      have hb : ((s.extract 0 2).toList == [80, 84]) = true := by rw [hx, hpt]; rfl
      obtain ⟨n, hn⟩ : ∃ n, n = s[2].toNat := ⟨_, rfl⟩
      have hix : s[2].toNat = n := hn.symm
      have hn8 : n < 256 := by rw [hn]; exact s[2].toNat_lt
      rw [hix] at hRV
      replace hn := Lib.hid hn
      clear hpt hx hg
      by_cases hv : n < 1 ∨ 3 < n
      · rw [if_pos hv] at hRV
        replace hRV := Lib.hid hRV
        by_cases h1 : n < 1
        · have t1 : decide ((n : Int) < 1) = true := decide_eq_true (by omega)
          clear hv
          go_enter Tryd.func18, Tryd.ntmps18
          go_wp2
          go_ret2
          exact ⟨by rw [hRV.out]; rfl, Below.refl _ _⟩
        · have t1 : decide ((n : Int) < 1) = false := decide_eq_false (by omega)
          have t2 : decide ((3 : Int) < (n : Int)) = true := decide_eq_true (by omega)
          clear hv h1
          go_enter Tryd.func18, Tryd.ntmps18
          go_wp2
          go_ret2
          exact ⟨by rw [hRV.out]; rfl, Below.refl _ _⟩
      · rw [if_neg hv] at hRV
        have t1 : decide ((n : Int) < 1) = false := decide_eq_false (by omega)
        have t2 : decide ((3 : Int) < (n : Int)) = false := decide_eq_false (by omega)
        have hO := crc_open s w (by unfold maxLen; omega)
        rw [open_got] at hO
        clear hv
        cases ho : Crc.opened s.data.toList with
        | inl e =>
          rw [ho] at hRV hO
          replace hRV := Lib.hid hRV
          replace hO := Lib.hid hO
          clear ho
          go_enter Tryd.func18, Tryd.ntmps18
          go_wp2_with fail
          refine hO.out.mono ?_
          rintro _ w2 ⟨rfl, hb2⟩
          go_wp2
          go_ret2
          exact ⟨by rw [hRV.out]; rfl, hb2⟩
        | inr t =>
          rw [ho] at hRV hO
          replace hRV := Lib.hid hRV
          replace hO := Lib.hid hO
          clear ho
          go_enter Tryd.func18, Tryd.ntmps18
          go_wp2_with fail
          refine hO.out.mono ?_
          rintro _ w2 ⟨rfl, hb2⟩
          go_wp2
          go_ret2
          exact ⟨by rw [hRV.out]; rfl, hb2⟩
    · rw [if_pos hpt] at hRV
      have hb : ((s.extract 0 2).toList == [80, 84]) = false := by rw [hx]; simpa using hpt
      replace hRV := Lib.hid hRV
      clear hx hg hpt
      go_enter Tryd.func18, Tryd.ntmps18
      go_wp2
      go_ret2
      exact ⟨by rw [hRV.out]; rfl, Below.refl _ _⟩
theorem text_ba (s : ByteArray) (h : 8 ≤ s.size) : (s.extract 3 (s.size - 4)).data.toList = Frame.text s.data.toList := by
  unfold Frame.text
  rw [ByteArray.data_extract, Array.toList_extract, List.extract_eq_take_drop, Array.length_toList]
  show (List.drop 3 s.data.toList).take (s.size - 4 - 3) = (List.drop 3 s.data.toList).take (s.size - 7)
  rw [show s.size - 4 - 3 = s.size - 7 by omega]
end Go.Proofs.YtdeepahaggkipaaDoor
