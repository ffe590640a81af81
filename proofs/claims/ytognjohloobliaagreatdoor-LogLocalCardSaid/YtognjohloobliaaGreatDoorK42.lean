/- The walks of frame.Version, frame.Inside. -/
import Derived.Test.YtognjohloobliaaGreatDoorK24
import Derived.Test.YtognjohloobliaaGreatDoorK02
import Derived.Test.YtognjohloobliaaGreatDoorK01
import Derived.Test.YtognjohloobliaaGreatDoorK36
import Derived.Test.YtognjohloobliaaGreatDoorK38
import Derived.Test.YtognjohloobliaaGreatDoorK41
namespace Go.Proofs.YtognjohloobliaaGreatDoor
open Go.RowKit
set_option linter.unusedVariables false
set_option linter.unusedSimpArgs false
def verVal : Nat ⊕ Nat → Value
 | .inl c => .tuple #[.int .i64 0, .iface 67 (.int .i64 c)]
 | .inr v => .tuple #[.int .i64 v, .nilIface]
theorem open_got (s : ByteArray) : openVal s = match Crc.opened s.data.toList with
  | .inl e => .tuple #[.string ⟨#[]⟩, .iface 67 (.int .i64 e)]
  | .inr t => .tuple #[.string ⟨t.toArray⟩, .nilIface] := by
 have hl : s.data.toList.length = s.size := Array.length_toList
 unfold openVal Crc.opened
 rw [hl]
 by_cases h : s.size < 4
 ·rw [if_pos h, if_pos h]; rfl
 ·rw [if_neg h, if_neg h]
  by_cases h2 : Crc.seal_ (s.data.toList.take (s.size - 4)) = s.data.toList
  ·rw [if_pos h2, if_pos h2]
  ·rw [if_neg h2, if_neg h2]; rfl
set_option maxHeartbeats 2000000 in
set_option maxRecDepth 20000 in
theorem frame_version (s : ByteArray) (w : World) (hs : s.size ≤ 1000000) :
  Calls Tryz.prog 72 #[.string s] w fun e w' => e = .returned (verVal (Frame.version s.data.toList)) ∧ Below w.heap.size w w' := by
 have hll : s.data.toList.length = s.size := Array.length_toList
 obtain ⟨RV, hRV⟩ : ∃ v, v = verVal (Frame.version s.data.toList) := ⟨_, rfl⟩
 rw [← hRV]
 unfold Frame.version at hRV
 rw [hll] at hRV
 by_cases h8 : s.size < 8
 ·have h8I : (s.size : Int) < 8 := by omega
  rw [if_pos h8] at hRV
  replace hRV := Lib.hid hRV
  go_enter Tryz.func72, Tryz.ntmps72
  go_wp2
  go_ret2
  exact ⟨by rw [hRV.out]; rfl, Below.refl _ _⟩
 ·rw [if_neg h8] at hRV
  have h8I : ¬ (s.size : Int) < 8 := by omega
  have h2I : (2 : Int) ≤ (s.size : Int) := by omega
  have hx : (s.extract 0 2).toList = s.data.toList.take 2 := by
   rw [ByteArray.toList_eq, ByteArray.data_extract, Array.toList_extract, List.extract_eq_take_drop, List.drop_zero]
  have hg : s.data.toList[2]?.getD 0 = s[2] := by
   rw [List.getElem?_eq_getElem (by omega)]
   rfl
  rw [hg] at hRV
  by_cases hpt : s.data.toList.take 2 = [80, 84]
  ·rw [if_neg (by simp [hpt])] at hRV
   have hb : ((s.extract 0 2).toList == [80, 84]) = true := by rw [hx, hpt]; rfl
   obtain ⟨n, hn⟩ : ∃ n, n = s[2].toNat := ⟨_, rfl⟩
   have hix : s[2].toNat = n := hn.symm
   have hn8 : n < 256 := by rw [hn]; exact s[2].toNat_lt
   rw [hix] at hRV
   replace hn := Lib.hid hn
   clear hpt hx hg
   by_cases hv : n < 1 ∨ 3 < n
   ·rw [if_pos hv] at hRV
    replace hRV := Lib.hid hRV
    by_cases h1 : n < 1
    ·have t1 : decide ((n : Int) < 1) = true := decide_eq_true (by omega)
     clear hv
     go_enter Tryz.func72, Tryz.ntmps72
     go_wp2
     go_ret2
     exact ⟨by rw [hRV.out]; rfl, Below.refl _ _⟩
    ·have t1 : decide ((n : Int) < 1) = false := decide_eq_false (by omega)
     have t2 : decide ((3 : Int) < (n : Int)) = true := decide_eq_true (by omega)
     clear hv h1
     go_enter Tryz.func72, Tryz.ntmps72
     go_wp2
     go_ret2
     exact ⟨by rw [hRV.out]; rfl, Below.refl _ _⟩
   ·rw [if_neg hv] at hRV
    have t1 : decide ((n : Int) < 1) = false := decide_eq_false (by omega)
    have t2 : decide ((3 : Int) < (n : Int)) = false := decide_eq_false (by omega)
    have hO := crc_open s w (by unfold maxLen; omega)
    rw [open_got] at hO
    clear hv
    cases ho : Crc.opened s.data.toList with
    | inl e =>
     rw [ho] at hRV hO
     replace hRV := Lib.hid hRV
     replace hO := Lib.hid hO
     clear ho
     go_enter Tryz.func72, Tryz.ntmps72
     go_wp2_with fail
     refine hO.out.mono ?_
     rintro _ w2 ⟨rfl, hb2⟩
     go_wp2
     go_ret2
     exact ⟨by rw [hRV.out]; rfl, hb2⟩
    | inr t =>
     rw [ho] at hRV hO
     replace hRV := Lib.hid hRV
     replace hO := Lib.hid hO
     clear ho
     go_enter Tryz.func72, Tryz.ntmps72
     go_wp2_with fail
     refine hO.out.mono ?_
     rintro _ w2 ⟨rfl, hb2⟩
     go_wp2
     go_ret2
     exact ⟨by rw [hRV.out]; rfl, hb2⟩
  ·rw [if_pos hpt] at hRV
   have hb : ((s.extract 0 2).toList == [80, 84]) = false := by rw [hx]; simpa using hpt
   replace hRV := Lib.hid hRV
   clear hx hg hpt
   go_enter Tryz.func72, Tryz.ntmps72
   go_wp2
   go_ret2
   exact ⟨by rw [hRV.out]; rfl, Below.refl _ _⟩
theorem text_ba (s : ByteArray) (h : 8 ≤ s.size) : (s.extract 3 (s.size - 4)).data.toList = Frame.text s.data.toList := by
 unfold Frame.text
 rw [ByteArray.data_extract, Array.toList_extract, List.extract_eq_take_drop, Array.length_toList]
 show (List.drop 3 s.data.toList).take (s.size - 4 - 3) = (List.drop 3 s.data.toList).take (s.size - 7)
 rw [show s.size - 4 - 3 = s.size - 7 by omega]
end Go.Proofs.YtognjohloobliaaGreatDoor
/- The walks of frame.Write, frame.Version, frame.Inside. -/
namespace Go.Proofs.YtognjohloobliaaGreatDoor
open Go.RowKit
set_option linter.unusedVariables false
set_option linter.unusedSimpArgs false
/-- What Write tells, whatever it is given. -/
def FW (f h : List Vec.Entry) (ws : List WrB) (s : ByteArray) (E : Value) : Prop :=
 (E = .nilIface ∧ Bat.right f h (ws.map WrB.plain) = .ok ∧ (bodyOf f h ws).length ≤ 20000 ∧ s = ⟨(Frame.write f h (ws.map WrB.plain)).toArray⟩) ∨
 (s = ⟨#[]⟩ ∧ ¬ (Bat.right f h (ws.map WrB.plain) = .ok ∧ (bodyOf f h ws).length ≤ 20000) ∧ ∃ t u, E = .iface t u)
theorem inside_ba (fl : UInt8) (p K : List UInt8) : ((⟨#[80, 84, 3]⟩ : ByteArray) ++ ⟨#[fl]⟩ ++ ⟨p.toArray⟩ ++ ⟨K.toArray⟩).data.toList = 80 :: 84 :: 3 :: fl :: (p ++ K) := by
 rw [ba_app, ba_app, ba_app]
 simp
theorem frame_bytes (S : List UInt8) (fl : UInt8) (K : List UInt8) (hk : Frame.kept S = (fl, K)) : Crc.seal_ (80 :: 84 :: 3 :: fl :: (Vary.put S.length ++ K)) = Frame.around 3 (Frame.inside S) := by
 unfold Frame.around Frame.inside
 rw [hk]
theorem byWFrameR3 {p : Prop} (h : p := by
 rw [inside_ba] at hSe
 clear hSeal
 generalize Vary.put S.length = p at *
 go_enter Tryz.func52, Tryz.ntmps52
 go_wp2_with fail
 refine hWr.out.mono ?_
 rintro _ w5 ⟨rfl, hb2⟩
 go_wp2_with fail
 refine (hSq.out _).mono ?_
 rintro _ w6 ⟨rfl, hb3⟩
 go_wp2_with fail
 refine (hP.out _).mono ?_
 rintro _ w7 ⟨rfl, hb4⟩
 go_wp2_with fail
 refine (hSe.out _).mono ?_
 rintro _ w8 ⟨rfl, hb5⟩
 go_wp2
 go_ret2
 exact ⟨⟨_, _, rfl, hfin.out⟩, bch (bch (bch (bch hb1 hb2) hb3) hb4) hb5⟩) : p := h
set_option maxHeartbeats 4000000 in
set_option maxRecDepth 20000 in
theorem frame_write_all (vf vh vw : Value) (f h : List Vec.Entry) (ws : List WrB) (w : World) (hL : Laid w) (hf : VecIs w vf f) (hh : VecIs w vh h) (hw : WrsIs w vw ws) (hlf : f.length ≤ 140737488351232) (hlh : h.length ≤ 140737488351232) (hlw : ws.length ≤ 140737488351232) :
  Calls Tryz.prog 52 #[.agg #[vf, vh, vw]] w fun e w' => (∃ s E, e = .returned (.tuple #[.string s, E]) ∧ FW f h ws s E) ∧ Below w.heap.size w w' := by
 have hWb := fun W (hW : Below w.heap.size w W) hbad => body_write_bad vf vh vw f h ws W (hL.below hW) (hf.below hW) (hh.below hW) (hw.below hW) hlf hlh hlw hbad
 have hWo := fun W (hW : Below w.heap.size w W) hok => body_write_ok vf vh vw f h ws W (hL.below hW) (hf.below hW) (hh.below hW) (hw.below hW) hlf hlh hlw hok
 obtain ⟨o1, m1, e1, -, -⟩ := hf.list.at entCells_len
 obtain ⟨o2, m2, e2, -, -⟩ := hh.list.at entCells_len
 obtain ⟨o3, m3, e3, -, -⟩ := ListIs.at hw wrBCells_len
 clear hf hh hw
 subst e1 e2 e3
 have hb1 := bal (Below.refl w.heap.size w) (Obj.cells #[.slice o1 f.length m1, .slice o2 h.length m2, .slice o3 ws.length m3] 25)
 by_cases hok : Bat.right f h (ws.map WrB.plain) = .ok
 ·have hWr := hWo _ hb1 hok
  by_cases hlong : 20000 < (bodyOf f h ws).length
  ·rw [if_pos hlong] at hWr
   unfold errV at hWr
   have hR : ∀ t u, FW f h ws ⟨#[]⟩ (.iface t u) := fun t u => .inr ⟨rfl, fun hc => by omega, _, _, rfl⟩
   replace hR := Lib.hid hR
   replace hWr := Lib.hid hWr
   replace hWb := Lib.hid hWb
   replace hWo := Lib.hid hWo
   clear hlong hok
   go_enter Tryz.func52, Tryz.ntmps52
   go_wp2_with fail
   refine hWr.out.mono ?_
   rintro _ w5 ⟨rfl, hb2⟩
   go_wp2
   go_ret2
   exact ⟨⟨_, _, rfl, hR.out _ _⟩, bch hb1 hb2⟩
  ·rw [if_neg hlong] at hWr
   have hS : (bodyOf f h ws).length ≤ 20000 := by omega
   have hfr : ∀ fl K, Frame.kept (bodyOf f h ws) = (fl, K) → FW f h ws ⟨(Crc.seal_ (80 :: 84 :: 3 :: fl :: (Vary.put (bodyOf f h ws).length ++ K))).toArray⟩ .nilIface := fun fl K hk =>
    .inl ⟨rfl, hok, hS, by rw [frame_bytes _ _ _ hk]; rfl⟩
   clear hlong hok hWb hWo
   generalize bodyOf f h ws = S at *
   have hSq := fun W => lz_squeeze ⟨S.toArray⟩ W (by rw [ba_size]; exact hS)
   have hZl := squeezed_len S hS
   rw [show (ByteArray.mk S.toArray).data.toList = S from rfl] at hSq
   change ∀ W, Calls Tryz.prog 67 #[.string ⟨S.toArray⟩] W fun e w' => e = .returned (.tuple #[.string ⟨(Frame.squeeze S).toArray⟩, .nilIface]) ∧ Below W.heap.size W w' at hSq
   change (Frame.squeeze S).length ≤ _ at hZl
   have hpl := Vary.put_len S.length (by omega)
   have hP := Lib.hid (fun W => vary_put S.length W (by omega))
   have hwS : IntKind.u64.wrap (S.length : Int) = (S.length : Int) := by rw [IntKind.wrap_u64]; omega
   have hSeal := Lib.hid (fun fl (K : List UInt8) (hK : K.length ≤ 420000) W => crc_seal ((⟨#[80, 84, 3]⟩ : ByteArray) ++ ⟨#[fl]⟩ ++ ⟨(Vary.put S.length).toArray⟩ ++ ⟨K.toArray⟩) W (by
    have e1 : ((⟨#[80, 84, 3]⟩ : ByteArray) ++ ⟨#[fl]⟩ ++ ⟨(Vary.put S.length).toArray⟩ ++ ⟨K.toArray⟩).size = 4 + ((Vary.put S.length).length + K.length) := by
     rw [← ba_len, inside_ba]
     simp only [List.length_cons, List.length_append]
     omega
    rw [e1]
    unfold maxLen; omega))
   replace hSq := Lib.hid hSq
   replace hWr := Lib.hid hWr
   by_cases hlt : (Frame.squeeze S).length < S.length
   ·have hk : Frame.kept S = (1, Frame.squeeze S) := by unfold Frame.kept; rw [if_pos hlt]
    have hfin := Lib.hid (hfr _ _ hk)
    have hZ : (Frame.squeeze S).length ≤ 420000 := by omega
    have hltI : ((Frame.squeeze S).length : Int) < (S.length : Int) := by omega
    clear hk hfr hZl hlt
    generalize Frame.squeeze S = Z at *
    have hSe := Lib.hid (fun W => hSeal.out 1 Z hZ W)
    exact byWFrameR3
   ·have hk : Frame.kept S = (0, S) := by unfold Frame.kept; rw [if_neg hlt]
    have hfin := Lib.hid (hfr _ _ hk)
    have hZ : (Frame.squeeze S).length ≤ 420000 := by omega
    have hltI : ¬ ((Frame.squeeze S).length : Int) < (S.length : Int) := by omega
    clear hk hfr hZl hlt
    generalize Frame.squeeze S = Z at *
    have hSe := Lib.hid (fun W => hSeal.out 0 S (by omega) W)
    exact byWFrameR3
 ·have hWr := hWb _ hb1 hok
  have hR : ∀ t u, FW f h ws ⟨#[]⟩ (.iface t u) := fun t u => .inr ⟨rfl, fun hc => hok hc.1, _, _, rfl⟩
  replace hR := Lib.hid hR
  replace hWr := Lib.hid hWr
  clear hWb hWo
  go_enter Tryz.func52, Tryz.ntmps52
  go_wp2_with fail
  refine hWr.out.mono ?_
  rintro _ w5 ⟨⟨E, rfl, hE⟩, hb2⟩
  obtain ⟨t, u, rfl⟩ := err_some hE hok
  replace hE := Lib.hid hE
  replace hok := Lib.hid hok
  go_wp2
  go_ret2
  exact ⟨⟨_, _, rfl, hR.out _ _⟩, bch hb1 hb2⟩
end Go.Proofs.YtognjohloobliaaGreatDoor
/- The walk of frame.Read. -/
namespace Go.Proofs.YtognjohloobliaaGreatDoor
open Go.RowKit
set_option linter.unusedVariables false
set_option linter.unusedSimpArgs false
/-- What frame.Read tells. -/
def FrameGot (s : ByteArray) (w : World) (e : Ending) (w' : World) : Prop :=
 (match Frame.readB s.data.toList with
  | none => ∃ t u, e = .returned (.tuple #[.agg #[.slice none 0 0, .slice none 0 0, .slice none 0 0], .iface t u])
  | some x => if Frame.write x.1 x.2.1 x.2.2 = s.data.toList then ∃ vf vh vw, e = .returned (.tuple #[.agg #[vf, vh, vw], .nilIface]) ∧ VecIs w' vf x.1 ∧ VecIs w' vh x.2.1 ∧ WrsIs w' vw (x.2.2.map WrB.of)
   else e = .returned (.tuple #[.agg #[.slice none 0 0, .slice none 0 0, .slice none 0 0], errV 13])) ∧ Below w.heap.size w w'
theorem frame_ret (R : Ending → World → Prop) (a : Act) (w : World) (n0 : Nat) (x0 x1 x2 y : Value) (hd : a.defers = []) (h2 : a.tmps[2]? = some (.pointer (some ⟨n0, 0, none⟩))) (h3 : a.tmps[3]? = some y)
  (hb : Row w n0 25 [x0, x1, x2]) (hR : R (.returned (.tuple #[.agg #[x0, x1, x2], y])) w) : bodyPost Tryz.prog Tryz.f73 R .ret a w := by
 obtain ⟨c0, c1, c2⟩ := hb.c3
 simp [bodyPost, results, Tryz.results73, go_sem, h2, h3, c0, c1, c2, hd]
 exact hR
theorem frame_fail (s : ByteArray) (w0 w : World) (a : Act) (t : TypeId) (u : Value) (hn : Frame.readB s.data.toList = none) (hd : a.defers = []) (h2 : a.tmps[2]? = some (.pointer (some ⟨w0.heap.size, 0, none⟩))) (h3 : a.tmps[3]? = some (.iface t u))
  (hb : Row w w0.heap.size 25 [.slice none 0 0, .slice none 0 0, .slice none 0 0]) (hB : Below w0.heap.size w0 w) :
  bodyPost Tryz.prog Tryz.f73 (FrameGot s w0) .ret a (((w.setCell ⟨w0.heap.size, 0, none⟩ (.slice none 0 0)).setCell ⟨w0.heap.size, 1, none⟩ (.slice none 0 0)).setCell ⟨w0.heap.size, 2, none⟩ (.slice none 0 0)) := by
 refine frame_ret _ a _ _ _ _ _ _ hd h2 h3 (((hb.set 0 _).set 1 _).set 2 _) ?_
 unfold FrameGot
 rw [hn]
 exact ⟨⟨_, _, rfl⟩, ((hB.setCell (by show w0.heap.size ≤ w0.heap.size; omega) _).setCell (by show w0.heap.size ≤ w0.heap.size; omega) _).setCell (by show w0.heap.size ≤ w0.heap.size; omega) _⟩
theorem plains_of' (ws : List Wr) : (ws.map WrB.of).map WrB.plain = ws := by
 rw [List.map_map]
 exact (List.map_congr_left (g := id) fun x _ => WrB.plain_of x).trans (List.map_id ws)
/-- A list whose first cell is no slice does not lie in a block of slices. -/
theorem slice_apart {w w' : World} {v : Value} {n sz g : Nat} {e : TypeId} {cs xs : List Value} (h : SliceIs w v n sz cs) (hsz : 0 < sz) (hq : Row w g e xs) (hxs : ∀ x ∈ xs, ∃ o k c, x = .slice o k c) (hc : ∀ o k c, cs[0]? ≠ some (.slice o k c)) (ho : Only (fun j => j = g) w w') : SliceIs w' v n sz cs := by
 refine ⟨h.1, ?_⟩
 rcases h.2 with h2 | ⟨h0, b, off, cap, rfl, h3, h4, h5⟩
 ·exact .inl h2
 ·have hl : 0 < cs.length := by rw [h.1]; exact Nat.mul_pos h0 hsz
  have hbg : b ≠ g := fun ebg => by
   subst ebg
   have h6 := h5 0 hl
   rw [Nat.add_zero, hq.cell] at h6
   obtain ⟨o, k, c, hx⟩ := hxs _ (List.mem_of_getElem? h6)
   exact hc o k c (by rw [List.getElem?_eq_getElem hl, hx])
  exact .inr ⟨h0, b, off, cap, rfl, h3, h4, fun j hj => ho.cell (h5 j hj) hbg⟩
theorem toks_le (l : List Match.Tok) : l.length ≤ (Lz.write l).length := by
 induction l with
 | nil => simp
 | cons t l ih =>
  have := List.length_pos_iff.2 (Lz.put_ne t)
  unfold Lz.write at ih ⊢
  rw [List.flatMap_cons, List.length_append, List.length_cons]
  omega
/-- lz.Swell, whatever it is given. -/
theorem lz_swell_any (X : ByteArray) (w : World) (hX : X.size ≤ 700000) (hL : Laid w) :
  Calls Tryz.prog 92 #[.string X] w fun e w' => (match Lz.read X.data.toList with
   | none => ∃ g n, e = .returned (.tuple #[.string ⟨#[]⟩, .iface 82 (.pointer (some ⟨g, 0, none⟩))]) ∧ w'.cell? ⟨g, 0, none⟩ = some (.int .i64 n)
   | some ts => e = .returned (.tuple #[.string ⟨(Match.text [] ts).toArray⟩, .nilIface])) ∧ Below w.heap.size w w' := by
 cases hr : Lz.read X.data.toList with
 | none => exact lz_swell_bad X w hX hr hL
 | some ts =>
  obtain ⟨h1, h2⟩ := Lz.read_ok _ _ hr
  have hg := Lz.right_good ts 0 0 h1 (by omega)
  have ha := Lz.all_write' ts hg
  rw [h2] at ha
  have hl := toks_le ts
  rw [h2, ba_len] at hl
  exact lz_swell X ts w hX ha h1 (by omega)
theorem byWFrameR1 {p : Prop} (h : p := by
 obtain ⟨f, h, ws⟩ := x
 obtain ⟨hrt, hwr⟩ := Body.read_ok hbr
 have hsome : Frame.readB s.data.toList = some (f, h, ws) := by rw [hR1, hbr]
 rw [hbr] at hRd
 simp only at hRd
 have hF := (Bat.right_iff _ _ _).1 hrt
 have hlf := ((Vec.right_iff f).1 hF.from_).len
 have hlh := ((Vec.right_iff h).1 hF.have_).len
 have hlw := hF.len
 have hbo : (bodyOf f h (ws.map WrB.of)).length ≤ 20000 := by unfold bodyOf; rw [plains_of', hwr, ← hzL]; omega
 have hrt2 : Bat.right f h ((ws.map WrB.of).map WrB.plain) = .ok := by rw [plains_of']; exact hrt
 have hFw := fun vf vh vw W hW h1 h2 h3 => frame_write_all vf vh vw f h (ws.map WrB.of) W hW h1 h2 h3 (by omega) (by omega) (by rw [List.length_map]; omega)
 have hFW : ∀ u E, FW f h (ws.map WrB.of) u E → E = .nilIface ∧ u = ⟨(Frame.write f h ws).toArray⟩ := fun u E hf => by
  rcases hf with ⟨h1, -, -, h4⟩ | ⟨-, h2, -⟩
  ·rw [plains_of'] at h4; exact ⟨h1, h4⟩
  ·exact absurd ⟨hrt2, hbo⟩ h2
 replace hRd := Lib.hid hRd
 replace hsome := Lib.hid hsome
 replace hFw := Lib.hid hFw
 replace hFW := Lib.hid hFW
 clear hR1 hY hbr hzL hrt hwr hF hbo hrt2
 generalize hLL : ws.map WrB.of = L at *
 replace hLL := Lib.hid hLL
 go_wp2_with fail
 refine hRd.out.mono ?_
 rintro _ w5 ⟨⟨vf, vh, vw, rfl, h1, h2, h3⟩, hb5⟩
 obtain ⟨o4, c4, rfl, -, -⟩ := h1.list.at entCells_len
 obtain ⟨o5, c5, rfl, -, -⟩ := h2.list.at entCells_len
 obtain ⟨o6, c6, rfl, -, -⟩ := ListIs.at h3 wrBCells_len
 replace hB1 := bch hB1 hb5
 have hA := bal (Below.refl w5.heap.size w5) (Obj.cells #[.slice o4 f.length c4, .slice o5 h.length c5, .slice o6 L.length c6] 25)
 have q2 := row_at #[.slice o4 f.length c4, .slice o5 h.length c5, .slice o6 L.length c6] 25 (rfl : w5.heap.size = w5.heap.size)
 have hn5 := (q1.below hb5).lt
 replace q1 := (q1.below hb5).below hA
 replace h1 := h1.below hA
 replace h2 := h2.below hA
 replace h3 := h3.below hA
 replace hB1 := bch hB1 hA
 obtain ⟨d0, d1, d2⟩ := q2.c3
 replace q1 := Lib.hid q1
 replace q2 := Lib.hid q2
 replace h1 := Lib.hid h1
 replace h2 := Lib.hid h2
 replace h3 := Lib.hid h3
 replace hB1 := Lib.hid hB1
 clear hA hb5
 go_wp2_with fail
 have hn0 := hn5
 obtain ⟨g5, hg5⟩ : ∃ g, g = w5.heap.size := ⟨_, rfl⟩
 rw [← hg5] at q2 hn0 ⊢
 replace hg5 := Lib.hid hg5
 generalize w5.alloc (Obj.cells #[.slice o4 f.length c4, .slice o5 h.length c5, .slice o6 L.length c6] 25) = w6 at *
 refine (hFw.out _ _ _ _ (hL.below hB1.out) h1.out h2.out h3.out).mono ?_
 rintro _ w7 ⟨⟨u, E, rfl, hfw⟩, hb7⟩
 obtain ⟨rfl, rfl⟩ := hFW.out u E hfw
 replace q1 := q1.out.below hb7
 replace q2 := q2.out.below hb7
 replace h1 := h1.out.below hb7
 replace h2 := h2.out.below hb7
 replace h3 := h3.out.below hb7
 replace hB1 := bch hB1.out hb7
 clear d0 d1 d2
 replace hfw := Lib.hid hfw
 obtain ⟨c0, c1, c2⟩ := q1.c3
 (have z0 := q1.frozen 0 (by simp); have z1 := q1.frozen 1 (by simp); have z2 := q1.frozen 2 (by simp))
 by_cases hws : Frame.write f h ws = s.data.toList
 ·have hu : (⟨(Frame.write f h ws).toArray⟩ : ByteArray) = s := by rw [hws]
  rw [hu]
  obtain ⟨d0, d1, d2⟩ := q2.c3
  have hOz := (((Only.refl (fun j => j = w.heap.size) w7).set (p := ⟨w.heap.size, 0, none⟩) (.inl rfl) (.slice o4 f.length c4)).set (p := ⟨w.heap.size, 1, none⟩) (.inl rfl) (.slice o5 h.length c5)).set (p := ⟨w.heap.size, 2, none⟩) (.inl rfl) (.slice o6 L.length c6)
  have hxs : ∀ x ∈ [Value.slice none 0 0, .slice none 0 0, .slice none 0 0], ∃ o k c, x = .slice o k c := fun x hx => by
   simp only [List.mem_cons, List.not_mem_nil, or_false, or_self] at hx
   exact ⟨_, _, _, hx⟩
  have g1 := Lib.hid (slice_apart h1 (by decide) q1 hxs (by cases f <;> simp [entryCells]) hOz)
  have g2 := Lib.hid (slice_apart h2 (by decide) q1 hxs (by cases h <;> simp [entryCells]) hOz)
  have g3 := Lib.hid (slice_apart h3 (by decide) q1 hxs (by cases L <;> simp [wrBCells]) hOz)
  have hBf := Lib.hid (hB1.trans (hOz.below (fun k' hk' => by omega) hB1.size))
  have q3 := Lib.hid (((q1.set 0 (.slice o4 f.length c4)).set 1 (.slice o5 h.length c5)).set 2 (.slice o6 L.length c6))
  replace hws := Lib.hid hws
  clear q1 q2 h1 h2 h3 hB1 hOz hxs hu
  go_wp2_with fail
  refine frame_ret _ _ _ _ _ _ _ _ rfl rfl rfl q3.out ?_
  unfold FrameGot
  rw [hsome.out]
  simp only
  rw [if_pos hws.out, hLL.out]
  exact ⟨⟨_, _, _, rfl, g1.out, g2.out, g3.out⟩, hBf.out⟩
 ·have hne : (Frame.write f h ws == s.toList) = false := by rw [ByteArray.toList_eq]; simpa using hws
  have hOz := (((Only.refl (fun j => j = w.heap.size) w7).set (p := ⟨w.heap.size, 0, none⟩) (.inl rfl) (.slice none 0 0)).set (p := ⟨w.heap.size, 1, none⟩) (.inl rfl) (.slice none 0 0)).set (p := ⟨w.heap.size, 2, none⟩) (.inl rfl) (.slice none 0 0)
  have hBf := Lib.hid (hB1.trans (hOz.below (fun k' hk' => by omega) hB1.size))
  have q3 := Lib.hid (((q1.set 0 (.slice none 0 0)).set 1 (.slice none 0 0)).set 2 (.slice none 0 0))
  replace hws := Lib.hid hws
  clear q1 q2 h1 h2 h3 hB1 hOz
  go_wp2_with fail
  refine frame_ret _ _ _ _ _ _ _ _ rfl rfl rfl q3.out ?_
  unfold FrameGot
  rw [hsome.out]
  simp only
  rw [if_neg hws.out]
  exact ⟨rfl, hBf.out⟩) : p := h
theorem byWFrameR2 {p : Prop} (h : p := by
 have hnone : Frame.readB s.data.toList = none := by rw [hR1, hbr]
 rw [hbr] at hRd
 replace hRd := Lib.hid hRd
 replace hnone := Lib.hid hnone
 clear hR1 hY hbr hzL
 go_wp2_with fail
 refine hRd.out.mono ?_
 rintro _ w5 ⟨⟨g, rfl, hg⟩, hb5⟩
 replace q1 := (q1.below hb5).alloc (.cells #[.slice none 0 0, .slice none 0 0, .slice none 0 0] 25)
 replace hB1 := bal (bch hB1 hb5) (.cells #[.slice none 0 0, .slice none 0 0, .slice none 0 0] 25)
 replace hg := Lib.hid hg
 obtain ⟨c0, c1, c2⟩ := q1.c3
 (have z0 := q1.frozen 0 (by simp); have z1 := q1.frozen 1 (by simp); have z2 := q1.frozen 2 (by simp))
 go_wp2_with fail
 exact hfail.out _ _ _ _ hnone.out rfl rfl rfl q1 hB1) : p := h
set_option maxHeartbeats 8000000 in
set_option maxRecDepth 20000 in
theorem frame_read (s : ByteArray) (w : World) (hs : s.size ≤ 700000) (hL : Laid w) :
  Calls Tryz.prog 73 #[.string s] w (FrameGot s w) := by
 have hV := fun W => frame_version s W (by omega)
 have hfail := frame_fail s w
 have hll : s.data.toList.length = s.size := Array.length_toList
 have q1 := row_alloc w #[.slice none 0 0, .slice none 0 0, .slice none 0 0] 25
 have hB1 := bal (Below.refl w.heap.size w) (.cells #[.slice none 0 0, .slice none 0 0, .slice none 0 0] 25)
 replace hfail := Lib.hid hfail
 cases hv : Frame.version s.data.toList with
 | inl c =>
  have hnone : Frame.readB s.data.toList = none := by unfold Frame.readB; rw [hv]
  rw [hv] at hV
  unfold verVal at hV
  replace hV := Lib.hid hV
  replace hnone := Lib.hid hnone
  replace q1 := Lib.hid q1
  clear hv
  go_enter Tryz.func73, Tryz.ntmps73
  go_wp2_with fail
  refine (hV.out _).mono ?_
  rintro _ w2 ⟨rfl, hb2⟩
  replace q1 := q1.out.below hb2
  obtain ⟨c0, c1, c2⟩ := q1.c3
  (have z0 := q1.frozen 0 (by simp); have z1 := q1.frozen 1 (by simp); have z2 := q1.frozen 2 (by simp))
  go_wp2_with fail
  exact hfail.out _ _ _ _ hnone.out rfl rfl rfl q1 (bch hB1 hb2)
 | inr v =>
 rw [hv] at hV
 unfold verVal at hV
 replace hV := Lib.hid hV
 by_cases hv3 : v = 3
 rotate_left
 ·have hnone : Frame.readB s.data.toList = none := by unfold Frame.readB; rw [hv]; simp only; rw [if_pos hv3]
  have hvI : ((v : Int) == 3) = false := by simp; omega
  replace hnone := Lib.hid hnone
  replace q1 := Lib.hid q1
  clear hv
  go_enter Tryz.func73, Tryz.ntmps73
  go_wp2_with fail
  refine (hV.out _).mono ?_
  rintro _ w2 ⟨rfl, hb2⟩
  replace q1 := q1.out.below hb2
  obtain ⟨c0, c1, c2⟩ := q1.c3
  (have z0 := q1.frozen 0 (by simp); have z1 := q1.frozen 1 (by simp); have z2 := q1.frozen 2 (by simp))
  go_wp2_with fail
  exact hfail.out _ _ _ _ hnone.out rfl rfl rfl q1 (bch hB1 hb2)
 subst hv3
 obtain ⟨-, -, -, -, -, h8⟩ := Frame.version_inv hv
 rw [hll] at h8
 have hR0 : Frame.readB s.data.toList = match Frame.unpack (Frame.text s.data.toList) with
   | none => none
   | some y => match Body.read y with
    | .error _ => none
    | .ok b => some b := by unfold Frame.readB; rw [hv]; simp only; rw [if_neg (by decide)]; rfl
 have htx := text_ba s h8
 obtain ⟨TB, hTB⟩ : ∃ TB, TB = s.extract 3 (s.size - 4) := ⟨_, rfl⟩
 rw [← hTB] at htx
 rw [← htx] at hR0
 have hTs : TB.size = s.size - 7 := by rw [hTB]; simp only [ByteArray.size_extract]; omega
 have e3 : (3 : Int) ≤ (s.size : Int) - 4 := by omega
 have e4 : (s.size : Int) - 4 ≤ (s.size : Int) := by omega
 have hTn : 0 < TB.size := by omega
 clear hv
 go_enter Tryz.func73, Tryz.ntmps73
 go_wp2_with fail
 refine (hV.out _).mono ?_
 rintro _ w2 ⟨rfl, hb2⟩
 replace q1 := q1.below hb2
 replace hB1 := bch hB1 hb2
 replace htx := Lib.hid htx
 cases hT : TB.data.toList with
 | nil => rw [← ba_len, hT] at hTn; exact absurd hTn (by decide)
 | cons b r =>
 obtain ⟨n, hn⟩ : ∃ n, n = b.toNat := ⟨_, rfl⟩
 have hix : TB[0].toNat = n := by
  rw [hn]
  have : TB.data.toList[0]? = some TB[0] := by
   rw [List.getElem?_eq_getElem (by rw [ba_len]; exact hTn)]; rfl
  rw [hT] at this
  injection this with this
  rw [this]
 have hn8 : n < 256 := by rw [hn]; exact b.toNat_lt
 have hTI : (0 : Int) < (TB.size : Int) := by omega
 rw [hT] at hR0
 subst hTB
 replace hR0 := Lib.hid hR0
 by_cases hb1 : 1 < n
 ·have hnone : Frame.readB s.data.toList = none := by rw [hR0.out]; unfold Frame.unpack; simp only; rw [if_pos (by omega)]
  have t1 : decide ((1 : Int) < (n : Int)) = true := decide_eq_true (by omega)
  replace hnone := Lib.hid hnone
  replace hT := Lib.hid hT
  replace hn := Lib.hid hn
  obtain ⟨c0, c1, c2⟩ := q1.c3
  (have z0 := q1.frozen 0 (by simp); have z1 := q1.frozen 1 (by simp); have z2 := q1.frozen 2 (by simp))
  go_wp2_with fail
  exact hfail.out _ _ _ _ hnone.out rfl rfl rfl q1 hB1
 ·have t1 : decide ((1 : Int) < (n : Int)) = false := decide_eq_false (by omega)
  have hT1 : (1 : Int) ≤ ((s.extract 3 (s.size - 4)).size : Int) := by omega
  have hTsz := Lib.hid hTs
  replace hT := Lib.hid hT
  replace hn := Lib.hid hn
  go_wp2_with fail
  replace hT := hT.out
  replace hn := hn.out
  rw [← hTs]
  clear hTs
  generalize s.extract 3 (s.size - 4) = TB at *
  have hTs := hTsz.out
  have hVI := vary_at TB 1 20000 w2 (by omega) (by omega) (by omega)
  rw [show TB.data.toList.drop 1 = r by rw [hT]; rfl] at hVI
  cases hi : Vary.int r 20000 with
  | bad e =>
   have hnone : Frame.readB s.data.toList = none := by rw [hR0.out]; unfold Frame.unpack; simp only; rw [if_neg (by omega), hi]
   rw [hi] at hVI
   have hvb : intVal (.bad e) = .tuple #[.int .i64 0, .int .i64 0, .iface 67 (.int .i64 e)] := rfl
   rw [hvb] at hVI
   replace hVI := Lib.hid hVI
   replace hnone := Lib.hid hnone
   clear hTs hvb hi
   replace hT := Lib.hid hT
   replace hn := Lib.hid hn
   refine hVI.out.mono ?_
   rintro _ w3 ⟨rfl, rfl⟩
   obtain ⟨c0, c1, c2⟩ := q1.c3
   (have z0 := q1.frozen 0 (by simp); have z1 := q1.frozen 1 (by simp); have z2 := q1.frozen 2 (by simp))
   go_wp2_with fail
   exact hfail.out _ _ _ _ hnone.out rfl rfl rfl q1 hB1
  | ok m k =>
   obtain ⟨k1, k2, k3⟩ := int_le hi
   have hrl : TB.size = r.length + 1 := by rw [← ba_len, hT]; rfl
   rw [hi] at hVI
   have hvb : intVal (.ok m k) = .tuple #[.int .i64 m, .int .i64 k, .nilIface] := rfl
   rw [hvb] at hVI
   replace hVI := Lib.hid hVI
   obtain ⟨j, hj⟩ : ∃ j, j = 1 + k := ⟨_, rfl⟩
   have hk1 : (1 : Int) + (k : Int) = (j : Int) := by omega
   have hkI : (j : Int) ≤ (TB.size : Int) := by omega
   have hXl : (TB.extract j TB.size).data.toList = r.drop k := by
    rw [extract_drop, hT, hj, Nat.add_comm 1 k]; rfl
   have hXs : (TB.extract j TB.size).size ≤ 700000 := by simp only [ByteArray.size_extract]; omega
   have hjb : j ≤ 1000000 := by omega
   replace hj := Lib.hid hj
   replace hXl := Lib.hid hXl
   replace hXs := Lib.hid hXs
   replace hrl := Lib.hid hrl
   clear hTs
   refine hVI.out.mono ?_
   rintro _ w3 ⟨rfl, rfl⟩
   replace hT := Lib.hid hT
   replace hn := Lib.hid hn
   clear hVI hvb
   -- TEXT
   by_cases hn1 : n = 1
   ·have t2 : ((n : Int) == 1) = true := by simp; omega
    have hSw := lz_swell_any (TB.extract j TB.size) w2 hXs.out (hL.below hB1)
    rw [hXl.out] at hSw
    have hR1' : Frame.readB s.data.toList = match (match (Lz.read (r.drop k)).map (Match.text []) with
      | none => none
      | some z => if z.length ≠ m then none else some z) with
      | none => none
      | some y => match Body.read y with
       | .error _ => none
       | .ok b => some b := by
     have hnn := hn.out
     rw [hR0.out]; unfold Frame.unpack; simp only; rw [if_neg (by omega), hi]; simp only; rw [if_pos (by omega)]
     rfl
    replace hn1 := Lib.hid hn1
    cases hz : Lz.read (r.drop k) with
    | none =>
     have hnone : Frame.readB s.data.toList = none := by rw [hR1', hz]; rfl
     rw [hz] at hSw
     replace hSw := Lib.hid hSw
     replace hnone := Lib.hid hnone
     clear hR1' hz hi
     go_wp2_with fail
     refine hSw.out.mono ?_
     rintro _ w4 ⟨⟨g, c, rfl, hg⟩, hb4⟩
     have hB4 := bch hB1 hb4
     have hTl := Lib.hid (tell_at c g w4 (hL.below hB4) hg)
     replace hg := Lib.hid hg
     replace q1 := Lib.hid (q1.below hb4)
     go_wp2_with fail
     refine hTl.out.mono ?_
     rintro _ w5 ⟨rfl, hb5⟩
     replace q1 := q1.out.below hb5
     obtain ⟨c0, c1, c2⟩ := q1.c3
     (have z0 := q1.frozen 0 (by simp); have z1 := q1.frozen 1 (by simp); have z2 := q1.frozen 2 (by simp))
     go_wp2_with fail
     exact hfail.out _ _ _ _ hnone.out rfl rfl rfl q1 (bch hB4 hb5)
    | some ts =>
     rw [hz] at hSw hR1'
     simp only [Option.map_some] at hR1'
     simp only at hSw
     obtain ⟨z, hzz⟩ : ∃ z, z = Match.text [] ts := ⟨_, rfl⟩
     rw [← hzz] at hSw hR1'
     replace hSw := Lib.hid hSw
     obtain ⟨Y, hYY⟩ : ∃ Y : ByteArray, Y = ⟨z.toArray⟩ := ⟨_, rfl⟩
     rw [← hYY] at hSw
     have hY : Y.data.toList = z := by rw [hYY]
     have hR1 : Frame.readB s.data.toList = if z.length ≠ m then none else match Body.read z with
       | .error _ => none
       | .ok b => some b := by rw [hR1']; by_cases c : z.length ≠ m <;> simp [c]
     replace hzz := Lib.hid hzz
     replace hYY := Lib.hid hYY
     clear hR1' hz hi
     go_wp2_with fail
     refine hSw.out.mono ?_
     rintro _ w4 ⟨rfl, hb4⟩
     replace q1 := q1.below hb4
     replace hB1 := bch hB1 hb4
     replace hTn := Lib.hid hTn
     clear hXs
     obtain ⟨L, hLz⟩ : ∃ L, L = (z).length := ⟨_, rfl⟩
     have hYs : (Y).size = L := by rw [← ba_len, hY, hLz]
     rw [← hLz] at hR1
     by_cases hm : L = m
     rotate_left
     ·have hnone : Frame.readB s.data.toList = none := by rw [hR1, if_pos hm]
      have t3 : ((L : Int) == (m : Int)) = false := by simp; omega
      replace hnone := Lib.hid hnone
      replace hLz := Lib.hid hLz
      clear hR1 hY
      obtain ⟨c0, c1, c2⟩ := q1.c3
      (have z0 := q1.frozen 0 (by simp); have z1 := q1.frozen 1 (by simp); have z2 := q1.frozen 2 (by simp))
      go_wp2_with fail
      exact hfail.out _ _ _ _ hnone.out rfl rfl rfl q1 hB1
     rw [if_neg (fun e => e hm)] at hR1
     have hY2 : (Y).size ≤ 20000 := by omega
     have t3 : ((L : Int) == (m : Int)) = true := by simp; omega
     have hRd := body_read (Y) w4 hY2 (hL.below hB1)
     unfold BodyGot at hRd
     rw [hY] at hRd
     have hL2 : L ≤ 20000 := by omega
     have hzL := hLz
     replace hLz := Lib.hid hLz
     clear hY2
     cases hbr : Body.read (z) with
     | error x =>
      exact byWFrameR2
     | ok x =>
      exact byWFrameR1
   ·have t2 : ((n : Int) == 1) = false := by simp; omega
    have hR1 : Frame.readB s.data.toList = if (r.drop k).length ≠ m then none else match Body.read (r.drop k) with
      | .error _ => none
      | .ok b => some b := by
     have hnn := hn.out
     rw [hR0.out]; unfold Frame.unpack; simp only; rw [if_neg (by omega), hi]; simp only; rw [if_neg (by omega)]
     generalize r.drop k = z
     by_cases c : z.length ≠ m <;> simp [c]
    have hY := hXl.out
    replace hn1 := Lib.hid hn1
    clear hi
    obtain ⟨L, hLz⟩ : ∃ L, L = (r.drop k).length := ⟨_, rfl⟩
    have hYs : (TB.extract j TB.size).size = L := by rw [← ba_len, hY, hLz]
    have hTj : TB.size - j = L := by have := hrl.out; have := hj.out; rw [hLz, List.length_drop]; omega
    rw [← hLz] at hR1
    by_cases hm : L = m
    rotate_left
    ·have hnone : Frame.readB s.data.toList = none := by rw [hR1, if_pos hm]
     have t3 : ((L : Int) == (m : Int)) = false := by simp; omega
     replace hnone := Lib.hid hnone
     replace hLz := Lib.hid hLz
     clear hR1 hY
     obtain ⟨c0, c1, c2⟩ := q1.c3
     (have z0 := q1.frozen 0 (by simp); have z1 := q1.frozen 1 (by simp); have z2 := q1.frozen 2 (by simp))
     go_wp2_with fail
     exact hfail.out _ _ _ _ hnone.out rfl rfl rfl q1 hB1
    rw [if_neg (fun e => e hm)] at hR1
    have hY2 : (TB.extract j TB.size).size ≤ 20000 := by omega
    have t3 : ((L : Int) == (m : Int)) = true := by simp; omega
    have hRd := body_read (TB.extract j TB.size) w2 hY2 (hL.below hB1)
    unfold BodyGot at hRd
    rw [hY] at hRd
    have hL2 : L ≤ 20000 := by omega
    have hzL := hLz
    replace hLz := Lib.hid hLz
    clear hY2
    cases hbr : Body.read (r.drop k) with
    | error x =>
     exact byWFrameR2
    | ok x =>
     exact byWFrameR1
end Go.Proofs.YtognjohloobliaaGreatDoor
/- The walks of old.Second, frame.Inside. -/
namespace Go.Proofs.YtognjohloobliaaGreatDoor
open Go.RowKit
set_option linter.unusedVariables false
set_option linter.unusedSimpArgs false
theorem two_ba (S : List UInt8) : ((⟨#[80, 84, 2]⟩ : ByteArray) ++ ⟨S.toArray⟩).data.toList = 80 :: 84 :: 2 :: S := by
 rw [ba_app]; simp
set_option maxHeartbeats 4000000 in
set_option maxRecDepth 20000 in
theorem old_second (vf vh vw : Value) (f h : List Vec.Entry) (ws : List WrB) (w : World) (hL : Laid w) (hf : VecIs w vf f) (hh : VecIs w vh h) (hw : WrsIs w vw ws) (hlf : f.length ≤ 140737488351232) (hlh : h.length ≤ 140737488351232) (hlw : ws.length ≤ 140737488351232) (hok : Bat.right f h (ws.map WrB.plain) = .ok) (hl : ¬ 20000 < (bodyOf f h ws).length) :
  Calls Tryz.prog 54 #[.agg #[vf, vh, vw]] w fun e w' => e = .returned (.tuple #[.string ⟨(Frame.around 2 (bodyOf f h ws)).toArray⟩, .nilIface]) ∧ Below w.heap.size w w' := by
 have hWo := fun W (hW : Below w.heap.size w W) => body_write_ok vf vh vw f h ws W (hL.below hW) (hf.below hW) (hh.below hW) (hw.below hW) hlf hlh hlw hok
 rw [if_neg hl] at hWo
 obtain ⟨o1, m1, e1, -, -⟩ := hf.list.at entCells_len
 obtain ⟨o2, m2, e2, -, -⟩ := hh.list.at entCells_len
 obtain ⟨o3, m3, e3, -, -⟩ := ListIs.at hw wrBCells_len
 clear hf hh hw
 subst e1 e2 e3
 have hb1 := bal (Below.refl w.heap.size w) (Obj.cells #[.slice o1 f.length m1, .slice o2 h.length m2, .slice o3 ws.length m3] 25)
 have hWr := hWo _ hb1
 have hS : (bodyOf f h ws).length ≤ 20000 := by omega
 generalize bodyOf f h ws = S at *
 have hSe := fun W => crc_seal ((⟨#[80, 84, 2]⟩ : ByteArray) ++ ⟨S.toArray⟩) W (by
  have e1 : ((⟨#[80, 84, 2]⟩ : ByteArray) ++ ⟨S.toArray⟩).size = 3 + S.length := by
   rw [← ba_len, two_ba]
   simp only [List.length_cons]
   omega
  rw [e1]; unfold maxLen; omega)
 rw [two_ba] at hSe
 rw [show Crc.seal_ (80 :: 84 :: 2 :: S) = Frame.around 2 S from rfl] at hSe
 generalize Frame.around 2 S = A at *
 replace hWr := Lib.hid hWr
 replace hSe := Lib.hid hSe
 clear hWo hl hok
 go_enter Tryz.func54, Tryz.ntmps54
 go_wp2_with fail
 refine hWr.out.mono ?_
 rintro _ w5 ⟨rfl, hb2⟩
 go_wp2_with fail
 refine (hSe.out _).mono ?_
 rintro _ w6 ⟨rfl, hb3⟩
 go_wp2
 go_ret2
 exact ⟨rfl, bch (bch hb1 hb2) hb3⟩
set_option maxHeartbeats 4000000 in
set_option maxRecDepth 20000 in
/-- frame.Inside of a frame. -/
theorem frame_inside (s : ByteArray) (v : Nat) (w : World) (hs : s.size ≤ 1000000) (hv : Frame.version s.data.toList = .inr v) :
  Calls Tryz.prog 94 #[.string s] w fun e w' => e = .returned (.tuple #[.string (s.extract 3 (s.size - 4)), .nilIface]) ∧ Below w.heap.size w w' := by
 have hV := fun W => frame_version s W hs
 rw [hv] at hV
 unfold verVal at hV
 obtain ⟨-, -, -, -, -, h8⟩ := Frame.version_inv hv
 rw [ba_len] at h8
 have e3 : (3 : Int) ≤ (s.size : Int) - 4 := by omega
 have e4 : (s.size : Int) - 4 ≤ (s.size : Int) := by omega
 replace hV := Lib.hid hV
 clear hv
 go_enter Tryz.func94, Tryz.ntmps94
 go_wp2_with fail
 refine (hV.out _).mono ?_
 rintro _ w2 ⟨rfl, hb2⟩
 go_wp2
 go_ret2
 exact ⟨rfl, hb2⟩
set_option maxHeartbeats 4000000 in
set_option maxRecDepth 20000 in
theorem old_second_long (vf vh vw : Value) (f h : List Vec.Entry) (ws : List WrB) (w : World) (hL : Laid w) (hf : VecIs w vf f) (hh : VecIs w vh h) (hw : WrsIs w vw ws) (hlf : f.length ≤ 140737488351232) (hlh : h.length ≤ 140737488351232) (hlw : ws.length ≤ 140737488351232) (hok : Bat.right f h (ws.map WrB.plain) = .ok) (hl : 20000 < (bodyOf f h ws).length) :
  Calls Tryz.prog 54 #[.agg #[vf, vh, vw]] w fun e w' => e = .returned (.tuple #[.string ⟨#[]⟩, .iface 67 (.int .i64 4)]) ∧ Below w.heap.size w w' := by
 have hWo := fun W (hW : Below w.heap.size w W) => body_write_ok vf vh vw f h ws W (hL.below hW) (hf.below hW) (hh.below hW) (hw.below hW) hlf hlh hlw hok
 rw [if_pos hl] at hWo
 unfold errV at hWo
 obtain ⟨o1, m1, e1, -, -⟩ := hf.list.at entCells_len
 obtain ⟨o2, m2, e2, -, -⟩ := hh.list.at entCells_len
 obtain ⟨o3, m3, e3, -, -⟩ := ListIs.at hw wrBCells_len
 clear hf hh hw
 subst e1 e2 e3
 have hb1 := bal (Below.refl w.heap.size w) (Obj.cells #[.slice o1 f.length m1, .slice o2 h.length m2, .slice o3 ws.length m3] 25)
 have hWr := Lib.hid (hWo _ hb1)
 clear hWo hl hok
 go_enter Tryz.func54, Tryz.ntmps54
 go_wp2_with fail
 refine hWr.out.mono ?_
 rintro _ w5 ⟨rfl, hb2⟩
 go_wp2
 go_ret2
 exact ⟨rfl, bch hb1 hb2⟩
end Go.Proofs.YtognjohloobliaaGreatDoor
