/- The walks of frame.Write, frame.Version, frame.Inside. -/
import Derived.Test.YtdeepahaggkipaaDoorPlainFrame
import Derived.Test.YtdeepahaggkipaaDoorWBodyW
import Derived.Test.YtdeepahaggkipaaDoorWBodyR2
import Derived.Test.YtdeepahaggkipaaDoorWLzBad
import Derived.Test.YtdeepahaggkipaaDoorWCrc1
namespace Go.Proofs.YtdeepahaggkipaaDoor
open Go.RowKit
set_option linter.unusedVariables false
set_option linter.unusedSimpArgs false
/-- What Write tells, whatever it is given. -/
def FW (f h : List Vec.Entry) (ws : List WrB) (s : ByteArray) (E : Value) : Prop :=
  (E = .nilIface ∧ Bat.right f h (ws.map WrB.plain) = .ok ∧ (bodyOf f h ws).length ≤ 20000 ∧ s = ⟨(Frame.write f h (ws.map WrB.plain)).toArray⟩) ∨
  (s = ⟨#[]⟩ ∧ ¬ (Bat.right f h (ws.map WrB.plain) = .ok ∧ (bodyOf f h ws).length ≤ 20000) ∧ ∃ t u, E = .iface t u)
theorem inside_ba (fl : UInt8) (p K : List UInt8) : ((⟨#[80, 84, 3]⟩ : ByteArray) ++ ⟨#[fl]⟩ ++ ⟨p.toArray⟩ ++ ⟨K.toArray⟩).data.toList = 80 :: 84 :: 3 :: fl :: (p ++ K) := by
  rw [ba_app, ba_app, ba_app]
  simp
theorem frame_bytes (S : List UInt8) (fl : UInt8) (K : List UInt8) (hk : Frame.kept S = (fl, K)) : Crc.seal_ (80 :: 84 :: 3 :: fl :: (Vary.put S.length ++ K)) = Frame.around 3 (Frame.inside S) := by
  unfold Frame.around Frame.inside
  rw [hk]
set_option maxHeartbeats 4000000 in
set_option maxRecDepth 20000 in
theorem frame_write_all (vf vh vw : Value) (f h : List Vec.Entry) (ws : List WrB) (w : World) (hL : Laid w) (hf : VecIs w vf f) (hh : VecIs w vh h) (hw : WrsIs w vw ws) (hlf : f.length ≤ 140737488351232) (hlh : h.length ≤ 140737488351232) (hlw : ws.length ≤ 140737488351232) :
    Calls Tryd.prog 12 #[.agg #[vf, vh, vw]] w fun e w' => (∃ s E, e = .returned (.tuple #[.string s, E]) ∧ FW f h ws s E) ∧ Below w.heap.size w w' := by
  have hWb := fun W (hW : Below w.heap.size w W) hbad => body_write_bad vf vh vw f h ws W (hL.below hW) (hf.below hW) (hh.below hW) (hw.below hW) hlf hlh hlw hbad
  have hWo := fun W (hW : Below w.heap.size w W) hok => body_write_ok vf vh vw f h ws W (hL.below hW) (hf.below hW) (hh.below hW) (hw.below hW) hlf hlh hlw hok
  obtain ⟨o1, m1, e1, -, -⟩ := hf.list.at entCells_len
  obtain ⟨o2, m2, e2, -, -⟩ := hh.list.at entCells_len
  obtain ⟨o3, m3, e3, -, -⟩ := ListIs.at hw wrBCells_len
  clear hf hh hw
  subst e1 e2 e3
  have hb1 := bal (Below.refl w.heap.size w) (Obj.cells #[.slice o1 f.length m1, .slice o2 h.length m2, .slice o3 ws.length m3] 25)
  by_cases hok : Bat.right f h (ws.map WrB.plain) = .ok
  · have hWr := hWo _ hb1 hok
    by_cases hlong : 20000 < (bodyOf f h ws).length
    · rw [if_pos hlong] at hWr
      unfold errV at hWr
      have hR : ∀ t u, FW f h ws ⟨#[]⟩ (.iface t u) := fun t u => .inr ⟨rfl, fun hc => by omega, _, _, rfl⟩
      replace hR := Lib.hid hR
      replace hWr := Lib.hid hWr
      replace hWb := Lib.hid hWb
      replace hWo := Lib.hid hWo
      clear hlong hok
      go_enter Tryd.func12, Tryd.ntmps12
      go_wp2_with fail
      refine hWr.out.mono ?_
      rintro _ w5 ⟨rfl, hb2⟩
      go_wp2
      go_ret2
      exact ⟨⟨_, _, rfl, hR.out _ _⟩, bch hb1 hb2⟩
    · rw [if_neg hlong] at hWr
      have hS : (bodyOf f h ws).length ≤ 20000 := by omega
      have hfr : ∀ fl K, Frame.kept (bodyOf f h ws) = (fl, K) → FW f h ws ⟨(Crc.seal_ (80 :: 84 :: 3 :: fl :: (Vary.put (bodyOf f h ws).length ++ K))).toArray⟩ .nilIface := fun fl K hk =>
        .inl ⟨rfl, hok, hS, by rw [frame_bytes _ _ _ hk]; rfl⟩
      clear hlong hok hWb hWo
      generalize bodyOf f h ws = S at *
      have hSq := fun W => lz_squeeze ⟨S.toArray⟩ W (by rw [ba_size]; exact hS)
      have hZl := squeezed_len S hS
      rw [show (ByteArray.mk S.toArray).data.toList = S from rfl] at hSq
      change ∀ W, Calls Tryd.prog 25 #[.string ⟨S.toArray⟩] W fun e w' => e = .returned (.tuple #[.string ⟨(Frame.squeeze S).toArray⟩, .nilIface]) ∧ Below W.heap.size W w' at hSq
      change (Frame.squeeze S).length ≤ _ at hZl
      have hpl := Vary.put_len S.length (by omega)
      have hP := Lib.hid (fun W => vary_put S.length W (by omega))
      have hwS : IntKind.u64.wrap (S.length : Int) = (S.length : Int) := by rw [IntKind.wrap_u64]; omega
      have hSeal := Lib.hid (fun fl (K : List UInt8) (hK : K.length ≤ 420000) W => crc_seal ((⟨#[80, 84, 3]⟩ : ByteArray) ++ ⟨#[fl]⟩ ++ ⟨(Vary.put S.length).toArray⟩ ++ ⟨K.toArray⟩) W (by
        have e1 : ((⟨#[80, 84, 3]⟩ : ByteArray) ++ ⟨#[fl]⟩ ++ ⟨(Vary.put S.length).toArray⟩ ++ ⟨K.toArray⟩).size = 4 + ((Vary.put S.length).length + K.length) := by
          rw [← ba_len, inside_ba]
          simp only [List.length_cons, List.length_append]
          omega
        rw [e1]
        unfold maxLen; omega))
      replace hSq := Lib.hid hSq
      replace hWr := Lib.hid hWr
      by_cases hlt : (Frame.squeeze S).length < S.length
      · have hk : Frame.kept S = (1, Frame.squeeze S) := by unfold Frame.kept; rw [if_pos hlt]
        have hfin := Lib.hid (hfr _ _ hk)
        have hZ : (Frame.squeeze S).length ≤ 420000 := by omega
        have hltI : ((Frame.squeeze S).length : Int) < (S.length : Int) := by omega
        clear hk hfr hZl hlt
        generalize Frame.squeeze S = Z at *
        have hSe := Lib.hid (fun W => hSeal.out 1 Z hZ W)
        rw [inside_ba] at hSe
        clear hSeal
        generalize Vary.put S.length = p at *
        go_enter Tryd.func12, Tryd.ntmps12
        go_wp2_with fail
        refine hWr.out.mono ?_
        rintro _ w5 ⟨rfl, hb2⟩
        go_wp2_with fail
        refine (hSq.out _).mono ?_
        rintro _ w6 ⟨rfl, hb3⟩
        go_wp2_with fail
        refine (hP.out _).mono ?_
        rintro _ w7 ⟨rfl, hb4⟩
        go_wp2_with fail
        refine (hSe.out _).mono ?_
        rintro _ w8 ⟨rfl, hb5⟩
        go_wp2
        go_ret2
        exact ⟨⟨_, _, rfl, hfin.out⟩, bch (bch (bch (bch hb1 hb2) hb3) hb4) hb5⟩
      · have hk : Frame.kept S = (0, S) := by unfold Frame.kept; rw [if_neg hlt]
        have hfin := Lib.hid (hfr _ _ hk)
        have hZ : (Frame.squeeze S).length ≤ 420000 := by omega
        have hltI : ¬ ((Frame.squeeze S).length : Int) < (S.length : Int) := by omega
        clear hk hfr hZl hlt
        generalize Frame.squeeze S = Z at *
        have hSe := Lib.hid (fun W => hSeal.out 0 S (by omega) W)
        rw [inside_ba] at hSe
        clear hSeal
        generalize Vary.put S.length = p at *
        go_enter Tryd.func12, Tryd.ntmps12
        go_wp2_with fail
        refine hWr.out.mono ?_
        rintro _ w5 ⟨rfl, hb2⟩
        go_wp2_with fail
        refine (hSq.out _).mono ?_
        rintro _ w6 ⟨rfl, hb3⟩
        go_wp2_with fail
        refine (hP.out _).mono ?_
        rintro _ w7 ⟨rfl, hb4⟩
        go_wp2_with fail
        refine (hSe.out _).mono ?_
        rintro _ w8 ⟨rfl, hb5⟩
        go_wp2
        go_ret2
        exact ⟨⟨_, _, rfl, hfin.out⟩, bch (bch (bch (bch hb1 hb2) hb3) hb4) hb5⟩
  · have hWr := hWb _ hb1 hok
    have hR : ∀ t u, FW f h ws ⟨#[]⟩ (.iface t u) := fun t u => .inr ⟨rfl, fun hc => hok hc.1, _, _, rfl⟩
    replace hR := Lib.hid hR
    replace hWr := Lib.hid hWr
    clear hWb hWo
    go_enter Tryd.func12, Tryd.ntmps12
    go_wp2_with fail
    refine hWr.out.mono ?_
    rintro _ w5 ⟨⟨E, rfl, hE⟩, hb2⟩
    obtain ⟨t, u, rfl⟩ := err_some hE hok
    replace hE := Lib.hid hE
    replace hok := Lib.hid hok
    go_wp2
    go_ret2
    exact ⟨⟨_, _, rfl, hR.out _ _⟩, bch hb1 hb2⟩
end Go.Proofs.YtdeepahaggkipaaDoor
