/- The walks of old.Second, frame.Inside. -/
import Derived.Test.YtopjaflclkdamaaDoorWFrame
import Derived.Test.YtopjaflclkdamaaDoorWFrameV
namespace Go.Proofs.YtopjaflclkdamaaDoor
open Go.RowKit
set_option linter.unusedVariables false
set_option linter.unusedSimpArgs false
theorem two_ba (S : List UInt8) : ((⟨#[80, 84, 2]⟩ : ByteArray) ++ ⟨S.toArray⟩).data.toList = 80 :: 84 :: 2 :: S := by
  rw [ba_app]; simp
set_option maxHeartbeats 4000000 in
set_option maxRecDepth 20000 in
theorem old_second (vf vh vw : Value) (f h : List Vec.Entry) (ws : List WrB) (w : World) (hL : Laid w) (hf : VecIs w vf f) (hh : VecIs w vh h) (hw : WrsIs w vw ws) (hlf : f.length ≤ 140737488351232) (hlh : h.length ≤ 140737488351232) (hlw : ws.length ≤ 140737488351232) (hok : Bat.right f h (ws.map WrB.plain) = .ok) (hl : ¬ 20000 < (bodyOf f h ws).length) :
    Calls Tryd.prog 27 #[.agg #[vf, vh, vw]] w fun e w' => e = .returned (.tuple #[.string ⟨(Frame.around 2 (bodyOf f h ws)).toArray⟩, .nilIface]) ∧ Below w.heap.size w w' := by
  have hWo := fun W (hW : Below w.heap.size w W) => body_write_ok vf vh vw f h ws W (hL.below hW) (hf.below hW) (hh.below hW) (hw.below hW) hlf hlh hlw hok
  rw [if_neg hl] at hWo
  obtain ⟨o1, m1, e1, -, -⟩ := hf.list.at entCells_len
  obtain ⟨o2, m2, e2, -, -⟩ := hh.list.at entCells_len
  obtain ⟨o3, m3, e3, -, -⟩ := ListIs.at hw wrBCells_len
  clear hf hh hw
  subst e1 e2 e3
  have hb1 := bal (Below.refl w.heap.size w) (Obj.cells #[.slice o1 f.length m1, .slice o2 h.length m2, .slice o3 ws.length m3] 26)
  have hWr := hWo _ hb1
  have hS : (bodyOf f h ws).length ≤ 20000 := by omega
  generalize bodyOf f h ws = S at *
  have hSe := fun W => crc_seal ((⟨#[80, 84, 2]⟩ : ByteArray) ++ ⟨S.toArray⟩) W (by
    have e1 : ((⟨#[80, 84, 2]⟩ : ByteArray) ++ ⟨S.toArray⟩).size = 3 + S.length := by
      rw [← ba_len, two_ba]
      simp only [List.length_cons]
      omega
    rw [e1]; unfold maxLen; omega)
  rw [two_ba] at hSe
  rw [show Crc.seal_ (80 :: 84 :: 2 :: S) = Frame.around 2 S from rfl] at hSe
  generalize Frame.around 2 S = A at *
  replace hWr := Lib.hid hWr
  replace hSe := Lib.hid hSe
  clear hWo hl hok
  go_enter Tryd.func27, Tryd.ntmps27
  go_wp2_with fail
  refine hWr.out.mono ?_
  rintro _ w5 ⟨rfl, hb2⟩
  go_wp2_with fail
  refine (hSe.out _).mono ?_
  rintro _ w6 ⟨rfl, hb3⟩
  go_wp2
  go_ret2
  exact ⟨rfl, bch (bch hb1 hb2) hb3⟩
set_option maxHeartbeats 4000000 in
set_option maxRecDepth 20000 in
/-- frame.Inside of a frame. -/
theorem frame_inside (s : ByteArray) (v : Nat) (w : World) (hs : s.size ≤ 1000000) (hv : Frame.version s.data.toList = .inr v) :
    Calls Tryd.prog 28 #[.string s] w fun e w' => e = .returned (.tuple #[.string (s.extract 3 (s.size - 4)), .nilIface]) ∧ Below w.heap.size w w' := by
  have hV := fun W => frame_version s W hs
  rw [hv] at hV
  unfold verVal at hV
  obtain ⟨-, -, -, -, -, h8⟩ := Frame.version_inv hv
  rw [ba_len] at h8
  have e3 : (3 : Int) ≤ (s.size : Int) - 4 := by omega
  have e4 : (s.size : Int) - 4 ≤ (s.size : Int) := by omega
  replace hV := Lib.hid hV
  clear hv
  go_enter Tryd.func28, Tryd.ntmps28
  go_wp2_with fail
  refine (hV.out _).mono ?_
  rintro _ w2 ⟨rfl, hb2⟩
  go_wp2
  go_ret2
  exact ⟨rfl, hb2⟩
set_option maxHeartbeats 4000000 in
set_option maxRecDepth 20000 in
theorem old_second_long (vf vh vw : Value) (f h : List Vec.Entry) (ws : List WrB) (w : World) (hL : Laid w) (hf : VecIs w vf f) (hh : VecIs w vh h) (hw : WrsIs w vw ws) (hlf : f.length ≤ 140737488351232) (hlh : h.length ≤ 140737488351232) (hlw : ws.length ≤ 140737488351232) (hok : Bat.right f h (ws.map WrB.plain) = .ok) (hl : 20000 < (bodyOf f h ws).length) :
    Calls Tryd.prog 27 #[.agg #[vf, vh, vw]] w fun e w' => e = .returned (.tuple #[.string ⟨#[]⟩, .iface 42 (.int .i64 4)]) ∧ Below w.heap.size w w' := by
  have hWo := fun W (hW : Below w.heap.size w W) => body_write_ok vf vh vw f h ws W (hL.below hW) (hf.below hW) (hh.below hW) (hw.below hW) hlf hlh hlw hok
  rw [if_pos hl] at hWo
  unfold errV at hWo
  obtain ⟨o1, m1, e1, -, -⟩ := hf.list.at entCells_len
  obtain ⟨o2, m2, e2, -, -⟩ := hh.list.at entCells_len
  obtain ⟨o3, m3, e3, -, -⟩ := ListIs.at hw wrBCells_len
  clear hf hh hw
  subst e1 e2 e3
  have hb1 := bal (Below.refl w.heap.size w) (Obj.cells #[.slice o1 f.length m1, .slice o2 h.length m2, .slice o3 ws.length m3] 26)
  have hWr := Lib.hid (hWo _ hb1)
  clear hWo hl hok
  go_enter Tryd.func27, Tryd.ntmps27
  go_wp2_with fail
  refine hWr.out.mono ?_
  rintro _ w5 ⟨rfl, hb2⟩
  go_wp2
  go_ret2
  exact ⟨rfl, bch hb1 hb2⟩
theorem frame_inside_bad (s : ByteArray) (c : Nat) (w : World) (hs : s.size ≤ 1000000) (hv : Frame.version s.data.toList = .inl c) :
    Calls Tryd.prog 28 #[.string s] w fun e w' => e = .returned (.tuple #[.string ⟨#[]⟩, .iface 42 (.int .i64 c)]) ∧ Below w.heap.size w w' := by
  have hV := fun W => frame_version s W hs
  rw [hv] at hV
  unfold verVal at hV
  replace hV := Lib.hid hV
  clear hv
  go_enter Tryd.func28, Tryd.ntmps28
  go_wp2_with fail
  refine (hV.out _).mono ?_
  rintro _ w2 ⟨rfl, hb2⟩
  go_wp2
  go_ret2
  exact ⟨rfl, hb2⟩
/-- frame.Inside of a frame around a text. -/
theorem inside_around (b : UInt8) (I : List UInt8) (w : World) (h1 : 1 ≤ b.toNat) (h3 : b.toNat ≤ 3) (hI : 1 ≤ I.length) (hl : I.length ≤ 900000) :
    Calls Tryd.prog 28 #[.string ⟨(Frame.around b I).toArray⟩] w fun e w' => e = .returned (.tuple #[.string ⟨I.toArray⟩, .nilIface]) ∧ Below w.heap.size w w' := by
  have hal := Frame.around_len b I
  have h := frame_inside ⟨(Frame.around b I).toArray⟩ b.toNat w (by rw [ba_size]; omega) (Frame.version_around b I h1 h3 hI)
  have e : (ByteArray.mk (Frame.around b I).toArray).extract 3 ((ByteArray.mk (Frame.around b I).toArray).size - 4) = ⟨I.toArray⟩ := by
    apply ba_ext
    rw [text_ba _ (by rw [ba_size]; omega)]
    show Frame.text (Frame.around b I) = I
    exact Frame.text_around b I
  rw [e] at h
  exact h
end Go.Proofs.YtopjaflclkdamaaDoor
