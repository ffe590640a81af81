/- The walk of the law FrameVersions. -/
import Derived.Test.YtopjaflclkdamaaDoorWFramed
import Derived.Test.YtopjaflclkdamaaDoorWSummed
namespace Go.Proofs.YtopjaflclkdamaaDoor
open Go.RowKit
set_option linter.unusedVariables false
set_option linter.unusedSimpArgs false
theorem str_byte_ (c : Nat) (h : c < 256) : strOfNums [(c : Int)] = ⟨#[UInt8.ofNat c]⟩ := ba_ext (by rw [strOfNums_data]; simp)
theorem ver_ba (c : UInt8) (a : ByteArray) : ((⟨#[80, 84]⟩ : ByteArray) ++ ⟨#[c]⟩ ++ a).data.toList = 80 :: 84 :: c :: a.data.toList := by
  rw [ba_app, ba_app]; simp
set_option maxHeartbeats 4000000 in
set_option maxRecDepth 20000 in
theorem FrameVersions_walk (a0 : ByteArray) (a1 : Int) (w : World) (w0 : a0.size ≤ 140737488351232) (w1 : (Lit.int .u8 a1).wf = true) (hL : Laid w) :
    Calls Tryd.prog 7 #[.string a0, .int .u8 a1] w fun e w' => e = .returned (.bool true) ∧ Below w.heap.size w w' := by
  obtain ⟨v, rfl, hv⟩ := nat_u8 w1
  have hG := Lib.hid (framed w hL)
  have hSm := Lib.hid (fun W => summed W)
  have hsz : (a0.size : Int) ≤ 140737488351232 := by omega
  by_cases hlong : (300 : Int) < (a0.size : Int)
  · go_enter Tryd.func7, Tryd.ntmps7
    go_wp2_with fail
    refine hG.out.mono ?_
    rintro _ w2 ⟨rfl, hb2⟩
    go_wp2_with fail
    refine (hSm.out _).mono ?_
    rintro _ w3 ⟨rfl, rfl⟩
    go_wp2
    go_ret
    exact ⟨rfl, hb2⟩
  by_cases hshort : (a0.size : Int) < 1
  · go_enter Tryd.func7, Tryd.ntmps7
    go_wp2_with fail
    refine hG.out.mono ?_
    rintro _ w2 ⟨rfl, hb2⟩
    go_wp2_with fail
    refine (hSm.out _).mono ?_
    rintro _ w3 ⟨rfl, rfl⟩
    go_wp2
    go_ret
    exact ⟨rfl, hb2⟩
  have hcv := fun W => str1 (P := Tryd.prog) 46 5 9 Tryd.underlying46 Tryd.underlying5 Tryd.underlying9 W (v : Int)
  rw [str_byte_ v hv] at hcv
  have hc : (UInt8.ofNat v).toNat = v := by rw [UInt8.toNat_ofNat_of_lt']; exact hv
  have hl1 : 1 ≤ a0.data.toList.length := by rw [ba_len]; omega
  have hS := fun W => crc_seal ((⟨#[80, 84]⟩ : ByteArray) ++ ⟨#[UInt8.ofNat v]⟩ ++ a0) W (by
    have e1 : ((⟨#[80, 84]⟩ : ByteArray) ++ ⟨#[UInt8.ofNat v]⟩ ++ a0).size = 3 + a0.size := by
      rw [← ba_len, ver_ba]
      simp only [List.length_cons, ba_len]
      omega
    rw [e1]; unfold maxLen; omega)
  rw [ver_ba] at hS
  have hal := Frame.around_len (UInt8.ofNat v) a0.data.toList
  have hV := fun W => frame_version ⟨(Frame.around (UInt8.ofNat v) a0.data.toList).toArray⟩ W (by rw [ba_size, hal, ba_len]; omega)
  rw [show (ByteArray.mk (Frame.around (UInt8.ofNat v) a0.data.toList).toArray).data.toList = Frame.around (UInt8.ofNat v) a0.data.toList from rfl] at hV
  have hva : Frame.version (Frame.around (UInt8.ofNat v) a0.data.toList) = if v < 1 ∨ 3 < v then .inl 8 else .inr v := by
    by_cases h : v < 1 ∨ 3 < v
    · rw [if_pos h]; exact Frame.version_none _ _ (by rw [hc]; exact h) hl1
    · rw [if_neg h, Frame.version_around _ _ (by omega) (by omega) hl1, hc]
  rw [hva] at hV
  rw [show Crc.seal_ (80 :: 84 :: UInt8.ofNat v :: a0.data.toList) = Frame.around (UInt8.ofNat v) a0.data.toList from rfl] at hS
  generalize Frame.around (UInt8.ofNat v) a0.data.toList = A at *
  generalize UInt8.ofNat v = c at *
  replace hS := Lib.hid hS
  clear hc hva hl1 hal
  by_cases h : v < 1 ∨ 3 < v
  · rw [if_pos h] at hV
    unfold verVal at hV
    replace hV := Lib.hid hV
    have hT := Lib.hid (fun W (hW : Below w.heap.size w W) => tell_errno 8 W (hL.below hW))
    by_cases h1 : v < 1
    · have t1 : decide ((1 : Int) ≤ (v : Int)) = false := decide_eq_false (by omega)
      clear h
      go_enter Tryd.func7, Tryd.ntmps7
      go_wp2_with fail
      refine hG.out.mono ?_
      rintro _ w2 ⟨rfl, hb2⟩
      go_wp2_with fail
      refine (hSm.out _).mono ?_
      rintro _ w3 ⟨rfl, rfl⟩
      go_wp2_with fail
      refine (hS.out _).mono ?_
      rintro _ w4 ⟨rfl, hb4⟩
      go_wp2_with fail
      refine (hV.out _).mono ?_
      rintro _ w5 ⟨rfl, hb5⟩
      replace hb2 := bch (bch (bal hb2 _) hb4) hb5
      go_wp2_with fail
      refine (hT.out _ hb2).mono ?_
      rintro _ w6 ⟨rfl, hb6⟩
      go_wp2
      go_ret
      exact ⟨rfl, bch hb2 hb6⟩
    · have t1 : decide ((1 : Int) ≤ (v : Int)) = true := decide_eq_true (by omega)
      have t2 : decide ((v : Int) ≤ 3) = false := decide_eq_false (by omega)
      clear h h1
      go_enter Tryd.func7, Tryd.ntmps7
      go_wp2_with fail
      refine hG.out.mono ?_
      rintro _ w2 ⟨rfl, hb2⟩
      go_wp2_with fail
      refine (hSm.out _).mono ?_
      rintro _ w3 ⟨rfl, rfl⟩
      go_wp2_with fail
      refine (hS.out _).mono ?_
      rintro _ w4 ⟨rfl, hb4⟩
      go_wp2_with fail
      refine (hV.out _).mono ?_
      rintro _ w5 ⟨rfl, hb5⟩
      replace hb2 := bch (bch (bal hb2 _) hb4) hb5
      go_wp2_with fail
      refine (hT.out _ hb2).mono ?_
      rintro _ w6 ⟨rfl, hb6⟩
      go_wp2
      go_ret
      exact ⟨rfl, bch hb2 hb6⟩
  · rw [if_neg h] at hV
    unfold verVal at hV
    replace hV := Lib.hid hV
    have t1 : decide ((1 : Int) ≤ (v : Int)) = true := decide_eq_true (by omega)
    have t2 : decide ((v : Int) ≤ 3) = true := decide_eq_true (by omega)
    clear h
    go_enter Tryd.func7, Tryd.ntmps7
    go_wp2_with fail
    refine hG.out.mono ?_
    rintro _ w2 ⟨rfl, hb2⟩
    go_wp2_with fail
    refine (hSm.out _).mono ?_
    rintro _ w3 ⟨rfl, rfl⟩
    go_wp2_with fail
    refine (hS.out _).mono ?_
    rintro _ w4 ⟨rfl, hb4⟩
    go_wp2_with fail
    refine (hV.out _).mono ?_
    rintro _ w5 ⟨rfl, hb5⟩
    replace hb2 := bch (bch (bal hb2 _) hb4) hb5
    go_wp2
    go_ret
    exact ⟨rfl, hb2⟩
end Go.Proofs.YtopjaflclkdamaaDoor
