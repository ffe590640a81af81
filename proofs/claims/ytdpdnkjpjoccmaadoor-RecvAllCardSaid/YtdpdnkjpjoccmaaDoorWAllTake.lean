/- The closure of RecvAll: a piece is taken, and all is looked at.  -/
import Derived.Test.YtdpdnkjpjoccmaaDoorWPieceT
namespace Go.Proofs.YtdpdnkjpjoccmaaDoor
open Go.RowKit
set_option linter.unusedVariables false
set_option linter.unusedSimpArgs false
/-- What the closure of RecvAll has captured: five boxes, the flags' row, and who gets the pieces. -/
structure AllEnv (w : World) (bl bc br bs bn ca p : Nat) (o : Option Addr) (cp : Nat) (Z : Nat → Prop) (s : ByteArray) (n : Nat) (P : List Bool) (R : Recv.Rec) : Prop where
  l : w.cell? ⟨bl, 0, none⟩ = some (.slice o (Chunk.cuts s.size n) cp)
  c : w.cell? ⟨bc, 0, none⟩ = some (.slice (some ⟨ca, 0, none⟩) (Chunk.cuts s.size n) (Chunk.cuts s.size n))
  r : w.cell? ⟨br, 0, none⟩ = some (.pointer (some ⟨p, 0, none⟩))
  s_ : w.cell? ⟨bs, 0, none⟩ = some (.string s)
  n_ : w.cell? ⟨bn, 0, none⟩ = some (.int .i64 n)
  row : Row w ca 4 (flags P)
  len : P.length = Chunk.cuts s.size n
  recv : RecvZ w p Z 0 R
  has : Recv.Has s R (fun j => P.getD (j / n) false)
  pcs : ∀ k, k < Chunk.cuts s.size n → ∃ b off, o = some ⟨b, off, none⟩ ∧ ¬ Z b ∧ b ≠ ca ∧ w.cell? ⟨b, off + k * 4, none⟩ = some (.int .u32 (Crc.sum s.data.toList)) ∧ w.cell? ⟨b, off + k * 4 + 1, none⟩ = some (.int .i64 s.size) ∧ w.cell? ⟨b, off + k * 4 + 2, none⟩ = some (.int .i64 (k * n : Nat)) ∧ w.cell? ⟨b, off + k * 4 + 3, none⟩ = some (.string (Chunk.pieceAt s n k).data)
  zl : ¬ Z bl ∧ bl ≠ ca
  zc : ¬ Z bc ∧ bc ≠ ca
  zr : ¬ Z br ∧ br ≠ ca
  zs : ¬ Z bs ∧ bs ≠ ca
  zn : ¬ Z bn ∧ bn ≠ ca
  za : ¬ Z ca
theorem AllEnv.all {w : World} {bl bc br bs bn ca p : Nat} {o : Option Addr} {cp : Nat} {Z : Nat → Prop} {s : ByteArray} {n : Nat} {P : List Bool} {R : Recv.Rec} (h : AllEnv w bl bc br bs bn ca p o cp Z s n P R) (hn : 1 ≤ n) : R.offer = min s.size (Recv.offer P * n) := Recv.pieces_offer s R n P hn h.len h.has
theorem AllEnv.step {w w' : World} {bl bc br bs bn ca p : Nat} {o : Option Addr} {cp : Nat} {Z : Nat → Prop} {s : ByteArray} {n : Nat} {P : List Bool} {R R' : Recv.Rec} {i : Nat} (h : AllEnv w bl bc br bs bn ca p o cp Z s n P R)
    (ho : Only (fun k => Z k ∨ k = ca) w w') (hR : RecvZ w' p Z 0 R') (hh : Recv.Has s R' (fun j => (P.set i true).getD (j / n) false)) (hr : Row w' ca 4 (flags (P.set i true))) (hi : i < Chunk.cuts s.size n) : AllEnv w' bl bc br bs bn ca p o cp Z s n (P.set i true) R' :=
  { h with
    l := ho.cell h.l (fun e => e.elim h.zl.1 h.zl.2)
    c := ho.cell h.c (fun e => e.elim h.zc.1 h.zc.2)
    r := ho.cell h.r (fun e => e.elim h.zr.1 h.zr.2)
    s_ := ho.cell h.s_ (fun e => e.elim h.zs.1 h.zs.2)
    n_ := ho.cell h.n_ (fun e => e.elim h.zn.1 h.zn.2)
    row := hr
    len := by rw [List.length_set]; exact h.len
    recv := hR
    has := hh
    pcs := fun k hk => by
      obtain ⟨b, off, e, hb, hc, k0, k1, k2, k3⟩ := h.pcs k hk
      exact ⟨b, off, e, hb, hc, ho.cell k0 (fun e => e.elim hb hc), ho.cell k1 (fun e => e.elim hb hc), ho.cell k2 (fun e => e.elim hb hc), ho.cell k3 (fun e => e.elim hb hc)⟩ }
theorem recv_textZ (w : World) (p m : Nat) (Z : Nat → Prop) (R : Recv.Rec) (hR : RecvZ w p Z m R) (s : ByteArray) (hI : Recv.Inv s.data.toList R) (h2 : s.size ≤ 4096) :
    Calls Tryd.prog 17 #[.pointer (some ⟨p, 0, none⟩)] w fun e w' => e = .returned (if R.came = [] then .tuple #[.string ⟨#[]⟩, errN 8] else if R.offer = s.size then .tuple #[.string s, .nilIface] else .tuple #[.string ⟨#[]⟩, errN 7]) ∧ Below w.heap.size w w' :=
  recv_textB w p 0 m R (hR.toB (fun _ _ => Nat.zero_le _)) s hI h2
set_option maxHeartbeats 4000000 in
set_option maxRecDepth 20000 in
theorem all_take (w : World) (bl bc br bs bn ca p : Nat) (o : Option Addr) (cp : Nat) (Z : Nat → Prop) (s : ByteArray) (n : Nat) (P : List Bool) (R : Recv.Rec) (E : AllEnv w bl bc br bs bn ca p o cp Z s n P R) (h1 : s.size ≠ 0) (h2 : s.size ≤ 4096) (h3 : 1 ≤ n) (h4 : n ≤ 256) (i : Nat) (hi : i < Chunk.cuts s.size n) (hZ : ∀ k, w.heap.size ≤ k → Z k) :
    Calls Tryd.prog 14 #[.int .i64 i, .pointer (some ⟨bl, 0, none⟩), .pointer (some ⟨bc, 0, none⟩), .pointer (some ⟨br, 0, none⟩), .pointer (some ⟨bs, 0, none⟩), .pointer (some ⟨bn, 0, none⟩)] w fun e w' => e = .returned (.bool true) ∧ AllEnv w' bl bc br bs bn ca p o cp Z s n (P.set i true) (Link.got s n R i) ∧ Only (fun k => Z k ∨ k = ca) w w' := by
  have hin := (Chunk.lt_cuts h3).1 hi
  have hcl := cuts_le' s n h2 h3
  obtain ⟨b, off, hoo, hbZ, hbc, k0, k1, k2, k3⟩ := E.pcs i hi
  have hW := Lib.hid (fun W => piece_written s n i hin h2 h3 h4 W)
  have cl := E.l
  have cc := E.c
  have cr := E.r
  have cs := E.s_
  have cn := E.n_
  obtain ⟨g1, g2, g3, g4⟩ := Recv.has_got s R _ E.has h1 n i h3 hin
  have hPl : (P.set i true).length = Chunk.cuts s.size n := by rw [List.length_set]; exact E.len
  have hhas : Recv.Has s (Link.got s n R i) (fun j => (P.set i true).getD (j / n) false) := Recv.has_congr g1 (fun j hj => (Recv.set_getD P i (j / n) (by rw [E.len]; exact hi)).symm)
  have hoff := Recv.pieces_offer s _ n _ h3 hPl hhas
  have hqc := Recv.offer_le (P.set i true)
  rw [hPl] at hqc
  subst hoo
  have hrowl := E.row.lt
  have ca0 : w.cell? ⟨ca, i, none⟩ = some (.bool (P[i]'(by rw [E.len]; exact hi))) := by rw [E.row.cell, flags, List.getElem?_map, List.getElem?_eq_getElem (by rw [E.len]; exact hi)]; rfl
  have cf0 := E.row.frozen i (by rw [flags, List.length_map, E.len]; exact hi)
  generalize (P[i]'(by rw [E.len]; exact hi)) = old at *
  have hTk := Lib.hid (fun W (hR : RecvZ W p Z 0 R) => recv_takeZ W p 0 Z R hR s n i E.has.inv h1 h2 h3 h4 hin)
  have hset : Hid (flags (P.set i true) = (flags P).set i (.bool true)) := Lib.hid (by simp [flags, List.map_set])
  obtain ⟨q, hq⟩ : ∃ q, q = Recv.offer (P.set i true) := ⟨_, rfl⟩
  rw [← hq] at hoff hqc
  have htr := Lib.hid (Recv.offer_true (P.set i true))
  have hst := Lib.hid (Recv.offer_stop (P.set i true))
  rw [← hq] at htr hst
  rw [hPl] at hst
  have hin' : ((i : Int)) < ((Chunk.cuts s.size n : Nat) : Int) := by omega
  replace hq := Lib.hid hq
  replace g1 := Lib.hid g1
  replace g2 := Lib.hid g2
  replace g3 := Lib.hid g3
  replace g4 := Lib.hid g4
  replace hhas := Lib.hid hhas
  replace hPl := Lib.hid hPl
  replace hoff := Lib.hid hoff
  have hE := Lib.hid E
  clear E
  generalize hcu : Chunk.cuts s.size n = c at *
  replace hcu := Lib.hid hcu
  generalize i * n = kn at *
  go_enter Tryd.func14, Tryd.ntmps14
  go_wp2_with fail
  refine (hW.out _).mono ?_
  rintro e wa ⟨rfl, hba⟩
  have hrA := hE.out.row.below hba
  have c1 := cell_below hba cc
  have c2 := cell_below hba ca0
  have cfa := hrA.frozen i (by rw [flags, List.length_map, hE.out.len, hcu.out]; exact hi)
  have hrB : Row (wa.setCell ⟨ca, i, none⟩ (.bool true)) ca 4 (flags (P.set i true)) := by rw [hset.out]; exact hrA.set i _
  have hoB : Only (fun k => k = ca) wa (wa.setCell ⟨ca, i, none⟩ (.bool true)) := (Only.refl (fun k => k = ca) wa).set (p := ⟨ca, i, none⟩) (Or.inl rfl) _
  have hcc2 : (wa.setCell ⟨ca, i, none⟩ (.bool true)).cell? ⟨bc, 0, none⟩ = some (.slice (some ⟨ca, 0, none⟩) c c) := hoB.cell c1 hE.out.zc.2
  replace hrA := Lib.hid hrA
  replace hrB := Lib.hid hrB
  replace hoB := Lib.hid hoB
  replace hcc2 := Lib.hid hcc2
  clear k0 k1 k2 k3 cr cs cn cl cc
  have hlen : Hid ((Link.got s n R i).came.length ≤ 4096) := Lib.hid (by

    have := (hhas.out.inv.some_ g2.out).2.len2
    rw [Link.size_len] at this
    have this : (Link.got s n R i).came.length = s.size := this
    omega)
  go_wp2_with fail
  generalize wa.setCell ⟨ca, i, none⟩ (.bool true) = wb at *
  go_loopw [10] (fun k wr => ∃ m : Nat, m ≤ q ∧ k = .int .i64 m ∧ Below wb.heap.size wb wr) (fun k _ => c - (intOf k).toNat)
  case atStart => exact ⟨0, by omega, rfl, by (repeat (first | exact Below.refl _ _ | assumption | refine bal ?_ _ | refine bdr ?_ | refine bdn ?_ _ | refine bst ?_ (by first | assumption | exact Nat.le_refl _ | omega) _ | refine bch ?_ (by assumption)))⟩
  case round =>
    obtain ⟨m, hm, rfl, hbel⟩ := hrel
    have e1 : wr.cell? ⟨bc, 0, none⟩ = some (.slice (some ⟨ca, 0, none⟩) c c) := cell_below hbel hcc2.out
    by_cases hmq : m < q
    · have d1 : decide ((m : Int) < (c : Int)) = true := by simp; omega
      have c0 : wr.cell? ⟨ca, m, none⟩ = some (.bool true) := cell_below hbel (by rw [hrB.out.cell, flags, List.getElem?_map, htr.out m hmq]; rfl)
      have d2 : m < c := by omega
      go_wp2
      go_roundw
      case rel => exact ⟨m + 1, by omega, by go_num, hbel⟩
      case measure => simp [intOf]; omega
    · obtain rfl : m = q := by omega
      by_cases hqc2 : m < c
      · have d1 : decide ((m : Int) < (c : Int)) = true := by simp; omega
        have c0 : wr.cell? ⟨ca, m, none⟩ = some (.bool false) := cell_below hbel (by rw [hrB.out.cell, flags, List.getElem?_map, hst.out hqc2]; rfl)

        have hoa : Only (fun k => k = ca) w wr := ((Only.of_below _ hba).trans hoB.out).chain hbel
        have hZr := hE.out.recv.only hoa (fun k hk e => hE.out.za (e ▸ hk))
        have hfs : m * n < s.size := (Chunk.lt_cuts h3).1 (by rw [hcu.out]; exact hqc2)
        have hf : (Link.got s n R i).offer = m * n := by rw [hoff.out]; omega
        generalize hz : m * n = z at *
        have z1 : (m : Int) * (n : Int) = (z : Int) := by rw [← hz]; simp
        have z2 : IntKind.i64.wrap (z : Int) = (z : Int) := by rw [IntKind.wrap_i64]; omega
        have z3 : min (s.size : Int) (z : Int) = (z : Int) := by omega
        have z4 : ((z : Int) == (z : Int)) = true := by simp
        have z5 : ((m : Int) == (c : Int)) = false := by simp; omega
        have hT := Lib.hid (hTk.out wr hZr)
        have r1 : wr.cell? ⟨br, 0, none⟩ = some (.pointer (some ⟨p, 0, none⟩)) := hoa.cell hE.out.r hE.out.zr.2
        have hsz := hoa.size
        have hcf := Lib.hid (hrB.out.below hbel)
        clear hZr c2 cfa
        go_wp2_with fail
        refine hT.out.mono ?_
        rintro e wt ⟨rfl, hRt, hot⟩
        have hRt2 := hRt.mono (Z' := Z) (fun k hk => hk.elim id (fun h => hZ k (by omega)))
        have hot2 : Only (fun k => Z k ∨ k = ca) w wt := (hoa.mono (fun k _ h => Or.inr h)).trans (hot.mono (fun k _ h => Or.inl h))
        have r2 : wt.cell? ⟨br, 0, none⟩ = some (.pointer (some ⟨p, 0, none⟩)) := hot2.cell hE.out.r (fun h => h.elim hE.out.zr.1 hE.out.zr.2)
        have hrT := Lib.hid (hcf.out.only hot hE.out.za)
        have hTx := recv_textZ wt p 0 _ _ hRt2 s hhas.out.inv h2
        rw [if_neg g2.out, hf, if_neg (by omega)] at hTx
        have hTx := Lib.hid hTx
        replace hot2 := Lib.hid hot2
        replace hRt2 := Lib.hid hRt2
        clear hRt hot
        go_wp2_with fail
        refine hTx.out.mono ?_
        rintro e wx ⟨rfl, hbx⟩
        have hox := hot2.out.chain hbx
        have r3 := Old.cell (hox.cell hE.out.r (fun h => h.elim hE.out.zr.1 hE.out.zr.2))
        have l3 := Old.cell (hox.cell hE.out.l (fun h => h.elim hE.out.zl.1 hE.out.zl.2))
        have s3 := Old.cell (hox.cell hE.out.s_ (fun h => h.elim hE.out.zs.1 hE.out.zs.2))
        have n3 := Old.cell (hox.cell hE.out.n_ (fun h => h.elim hE.out.zn.1 hE.out.zn.2))
        rw [hcu.out] at l3
        have hRx := hRt2.out.below hbx
        have hOf := Lib.hid (fun (y : Kept (Old wx.heap.size wx)) => recv_offerB y.val p 0 0 _ ((hRx.below y.ok.2).toB (fun _ _ => Nat.zero_le _)) hlen.out)
        rw [hf] at hOf
        have hfin := Lib.hid (fun (y : Kept (Old wx.heap.size wx)) => (show AllEnv y.val bl bc br bs bn ca p (some ⟨b, off, none⟩) cp Z s n (P.set i true) (Link.got s n R i) ∧ Only (fun k => Z k ∨ k = ca) w y.val from
          ⟨hE.out.step (hox.chain y.ok.2) (hRx.below y.ok.2) hhas.out ((hrT.out.below hbx).below y.ok.2) (by rw [hcu.out]; exact hi), hox.chain y.ok.2⟩))
        replace hox := Lib.hid hox
        replace hRx := Lib.hid hRx
        clear r1 r2
        unfold errN
        go_wp2_with fail
        (have hN := Old.ne wx; refine wp_region_kept (Old wx.heap.size wx) (by kernel_rfl) (by kernel_rfl) (Old.start wx) ?_; (repeat (first | go_big_quiet_step ((first | (go_at_call 18; go_must (exact calls_kept (hOf.out _) Old.below)))) | quiet_step ((first | (go_at_call 18; go_must (exact calls_kept (hOf.out _) Old.below)))))); refine wpQuiet_nil ?_; rintro _ ⟨X, rfl⟩)
        have hend := Lib.hid (hfin.out X)
        clear r3 l3 s3 n3
        go_wp2
        go_ret
        exact ⟨rfl, hend.out.1, hend.out.2⟩
      · obtain rfl : m = c := by omega
        have d1 : decide ((m : Int) < (m : Int)) = false := by simp

        have hoa : Only (fun k => k = ca) w wr := ((Only.of_below _ hba).trans hoB.out).chain hbel
        have hZr := hE.out.recv.only hoa (fun k hk e => hE.out.za (e ▸ hk))
        have hf : (Link.got s n R i).offer = s.size := by rw [hoff.out]; have := Recv.cuts_all s.size n h3; rw [hcu.out] at this; omega
        have hqs : s.size ≤ m * n := by have := Recv.cuts_all s.size n h3; rw [hcu.out] at this; exact this
        have hzz : m * n ≤ 9000000 := by have := Nat.mul_le_mul (show m ≤ 4096 by omega) h4; omega
        generalize hz : m * n = z at *
        have z1 : (m : Int) * (n : Int) = (z : Int) := by rw [← hz]; simp
        have z2 : IntKind.i64.wrap (z : Int) = (z : Int) := by rw [IntKind.wrap_i64]; omega
        have z3 : min (s.size : Int) (z : Int) = (s.size : Int) := by omega
        have z4 : ((s.size : Int) == (s.size : Int)) = true := by simp
        have z5 : ((m : Int) == (m : Int)) = true := by simp
        have z7 : (if (z : Int) < (s.size : Int) then (z : Int) else (s.size : Int)) = (s.size : Int) := by split <;> omega
        have z8 : (if (s.size : Int) < (z : Int) then (s.size : Int) else (z : Int)) = (s.size : Int) := by split <;> omega
        have z6 : (s.toList == s.toList) = true := by simp
        have hT := Lib.hid (hTk.out wr hZr)
        have r1 : wr.cell? ⟨br, 0, none⟩ = some (.pointer (some ⟨p, 0, none⟩)) := hoa.cell hE.out.r hE.out.zr.2
        have hsz := hoa.size
        have hcf := Lib.hid (hrB.out.below hbel)
        clear hZr c2 cfa
        go_wp2_with fail
        refine hT.out.mono ?_
        rintro e wt ⟨rfl, hRt, hot⟩
        have hRt2 := hRt.mono (Z' := Z) (fun k hk => hk.elim id (fun h => hZ k (by omega)))
        have hot2 : Only (fun k => Z k ∨ k = ca) w wt := (hoa.mono (fun k _ h => Or.inr h)).trans (hot.mono (fun k _ h => Or.inl h))
        have r2 : wt.cell? ⟨br, 0, none⟩ = some (.pointer (some ⟨p, 0, none⟩)) := hot2.cell hE.out.r (fun h => h.elim hE.out.zr.1 hE.out.zr.2)
        have hrT := Lib.hid (hcf.out.only hot hE.out.za)
        have hTx := recv_textZ wt p 0 _ _ hRt2 s hhas.out.inv h2
        rw [if_neg g2.out, hf, if_pos rfl] at hTx
        have hTx := Lib.hid hTx
        replace hot2 := Lib.hid hot2
        replace hRt2 := Lib.hid hRt2
        clear hRt hot
        go_wp2_with fail
        refine hTx.out.mono ?_
        rintro e wx ⟨rfl, hbx⟩
        have hox := hot2.out.chain hbx
        have r3 := Old.cell (hox.cell hE.out.r (fun h => h.elim hE.out.zr.1 hE.out.zr.2))
        have l3 := Old.cell (hox.cell hE.out.l (fun h => h.elim hE.out.zl.1 hE.out.zl.2))
        have s3 := Old.cell (hox.cell hE.out.s_ (fun h => h.elim hE.out.zs.1 hE.out.zs.2))
        have n3 := Old.cell (hox.cell hE.out.n_ (fun h => h.elim hE.out.zn.1 hE.out.zn.2))
        rw [hcu.out] at l3
        have hRx := hRt2.out.below hbx
        have hOf := Lib.hid (fun (y : Kept (Old wx.heap.size wx)) => recv_offerB y.val p 0 0 _ ((hRx.below y.ok.2).toB (fun _ _ => Nat.zero_le _)) hlen.out)
        rw [hf] at hOf
        have hfin := Lib.hid (fun (y : Kept (Old wx.heap.size wx)) => (show AllEnv y.val bl bc br bs bn ca p (some ⟨b, off, none⟩) cp Z s n (P.set i true) (Link.got s n R i) ∧ Only (fun k => Z k ∨ k = ca) w y.val from
          ⟨hE.out.step (hox.chain y.ok.2) (hRx.below y.ok.2) hhas.out ((hrT.out.below hbx).below y.ok.2) (by rw [hcu.out]; exact hi), hox.chain y.ok.2⟩))
        replace hox := Lib.hid hox
        replace hRx := Lib.hid hRx
        clear r1 r2

        go_wp2_with fail
        (have hN := Old.ne wx; refine wp_region_kept (Old wx.heap.size wx) (by kernel_rfl) (by kernel_rfl) (Old.start wx) ?_; (repeat (first | go_big_quiet_step ((first | (go_at_call 18; go_must (exact calls_kept (hOf.out _) Old.below)))) | quiet_step ((first | (go_at_call 18; go_must (exact calls_kept (hOf.out _) Old.below)))))); refine wpQuiet_nil ?_; rintro _ ⟨X, rfl⟩)
        have hend := Lib.hid (hfin.out X)
        clear r3 l3 s3 n3
        go_wp2
        go_ret
        exact ⟨rfl, hend.out.1, hend.out.2⟩
end Go.Proofs.YtdpdnkjpjoccmaaDoor
