/- The walk of a log's Accept. -/
import Derived.Test.YtognjohloobliaaGreatDoorJ27
import Derived.Test.YtognjohloobliaaGreatDoorJ25
import Derived.Test.YtognjohloobliaaGreatDoorJ11
import Derived.Test.YtognjohloobliaaGreatDoorJ18
import Derived.Test.YtognjohloobliaaGreatDoorJ19
namespace Go.Proofs.YtognjohloobliaaGreatDoor
open Go.RowKit
set_option linter.unusedVariables false
set_option linter.unusedSimpArgs false
/-- What Accept answers: how many were new, and the log as it is then; or an error, and the log as it was. -/
def AcceptRet (base p : Nat) (m : Lg) (f h : List Vec.Entry) (ws : List WrB) (hv wv : Value) (w : World) (e : Ending) (w' : World) : Prop :=
 match Lg.accept m f h ws with
 | .inl x => (∃ v, e = .returned (.tuple #[.int .i64 0, v]) ∧ ErrRep w' v x) ∧ Below w.heap.size w w'
 | .inr (m', n) => e = .returned (.tuple #[.int .i64 (n : Nat), .nilIface]) ∧ ∃ hv' wv', LogIs w' base p m' hv' wv' ∧ Only (fun j => j = p) w w' ∧ (∀ j, LMine p hv' wv' j → LMine p hv wv j ∨ w.heap.size ≤ j)
theorem accept_bad {base p : Nat} {m : Lg} {f h : List Vec.Entry} {ws : List WrB} {hv wv v : Value} {w w' : World} {x : Err} (ha : Lg.accept m f h ws = .inl x) (hx : ErrRep w' v x) (hb : Below w.heap.size w w') : AcceptRet base p m f h ws hv wv w (.returned (.tuple #[.int .i64 0, v])) w' := by
 unfold AcceptRet; rw [ha]; exact ⟨⟨_, rfl, hx⟩, hb⟩
theorem wrs_take (l : List WrB) (k : Nat) : (l.flatMap wrBCells).take (k * 6) = (l.take k).flatMap wrBCells := by
 induction l generalizing k with
 | nil => simp
 | cons x l ih =>
  cases k with
  | zero => simp
  | succ k => rw [List.flatMap_cons, Nat.add_mul, Nat.one_mul, Nat.add_comm, List.take_append, wrBCells_len, List.take_of_length_le (by rw [wrBCells_len]; omega), Nat.add_sub_cancel_left, ih, List.take_succ_cons, List.flatMap_cons]
theorem wrs_drop (l : List WrB) (k : Nat) : (l.flatMap wrBCells).drop (k * 6) = (l.drop k).flatMap wrBCells := by
 induction l generalizing k with
 | nil => simp
 | cons x l ih =>
  cases k with
  | zero => simp
  | succ k => rw [List.flatMap_cons, Nat.add_mul, Nat.one_mul, Nat.add_comm, List.drop_append, wrBCells_len, List.drop_of_length_le (by rw [wrBCells_len]; omega), Nat.add_sub_cancel_left, ih, List.drop_succ_cons, List.nil_append]
theorem ba_inj {x y : ByteArray} (h : x.toList = y.toList) : x = y := by
 rw [ByteArray.toList_eq, ByteArray.toList_eq] at h
 exact ba_ext h
theorem wrs_one (l : List WrB) : ∀ u ∈ l.flatMap wrBCells, u.oneCell' = true := fun u hu => by
 obtain ⟨x, -, hx⟩ := List.mem_flatMap.1 hu
 simp only [wrBCells, List.mem_cons, List.not_mem_nil, or_false] at hx
 rcases hx with rfl | rfl | rfl | rfl | rfl | rfl <;> rfl
/-- The round over a batch's writes: what is to come is what the whole comes to. -/
def Taking (w : World) (ho : Value) (H' : List Vec.Entry) (W ws : List WrB) (k n : Nat) (v : Value) (wr : World) : Prop := ∃ nx : List WrB, Lg.acc W ws 0 0 = Lg.acc nx (ws.drop k) k n ∧ (nx.Pairwise fun a b => cmpW a b < 0) ∧ nx.length ≤ 300 + k ∧ n ≤ k ∧ wr.ownsRow w.heap.size 33 6 v nx.length (nx.flatMap wrBCells) ∧ wr.ownsRow w.heap.size 45 2 ho H'.length (H'.flatMap entCells) ∧ Below w.heap.size w wr
set_option maxHeartbeats 8000000 in
set_option maxRecDepth 20000 in
theorem log_accept (base p : Nat) (m : Lg) (hv wv vf vh vw : Value) (f h : List Vec.Entry) (ws : List WrB) (w : World) (hL : Laid w) (hI : LogIs w base p m hv wv) (hok : m.Ok) (hs : m.W.Pairwise fun a b => cmpW a b < 0)
  (hf : VecIs w vf f) (hh : VecIs w vh h) (hw : WrsIs w vw ws) (hlf : f.length ≤ 140737488351232) (hlh : h.length ≤ 140737488351232) (hlw : ws.length ≤ 140737488351232) :
  Calls Tryz.prog 16 #[.pointer (some ⟨p, 0, none⟩), .agg #[vf, vh, vw]] w (AcceptRet base p m f h ws hv wv w) := by
 obtain ⟨rep, H, W⟩ := m
 have hH := hok.have_
 have hlW := hok.len
 (try simp only at hI hH hlW hs)
 have hHF := (Vec.right_iff _).1 hH
 have hH16 := hHF.len
 obtain ⟨oh, ch, rfl⟩ := owns_slice_ hI.hav
 obtain ⟨ow, cw, rfl⟩ := owns_slice_ hI.wri
 have hVH : VecIs w (.slice oh H.length ch) H := ListIs.of_owns hI.hav
 have hVW : WrsIs w (.slice ow W.length cw) W := ListIs.of_owns hI.wri
 obtain ⟨o1, m1, rfl, -, -⟩ := hf.list.at entCells_len
 obtain ⟨o2, m2, rfl, -, -⟩ := hh.list.at entCells_len
 obtain ⟨o3, m3, rfl, -, hcell⟩ := ListIs.at hw wrBCells_len
 have hp := hI.row.lt
 have hR := Lib.hid (fun W (hW : Below w.heap.size w W) => batch_right _ _ _ f h ws W (hL.below hW) (hf.below hW) (hh.below hW) (hw.below hW) hlf hlh hlw)
 have hCv := Lib.hid (fun W (hW : Below w.heap.size w W) => vector_covers _ _ H f W (hVH.below hW) (hf.below hW) (by omega) hlf)
 have hJ := Lib.hid (fun W (hW : Below w.heap.size w W) hr => vector_join_own _ _ H h W (hL.below hW) (hVH.below hW) (hh.below hW) (by omega) hlh hH hr)
 have hCl := Lib.hid (fun V (hV : Below w.heap.size w V) => clone_wrs _ W V (hVW.below hV) (by omega))
 replace hI := Lib.hid hI
 replace hok := Lib.hid hok
 replace hHF := Lib.hid hHF
 replace hs := Lib.hid hs
 replace hcell := Lib.hid hcell
 clear hf hh hw hVH hVW
 go_enter Tryz.func16, Tryz.ntmps16
 go_wp2_with fail
 have q0 := row_at (w := w) (g := w.heap.size) #[.slice o1 f.length m1, .slice o2 h.length m2, .slice o3 ws.length m3] 25 rfl
 have hb0 : Below w.heap.size w (w.alloc (Obj.cells #[.slice o1 f.length m1, .slice o2 h.length m2, .slice o3 ws.length m3] 25)) := by exact blw
 generalize w.alloc (Obj.cells #[.slice o1 f.length m1, .slice o2 h.length m2, .slice o3 ws.length m3] 25) = w1 at *
 refine (hR.out _ hb0).mono ?_
 rintro _ w2 ⟨v2, rfl, hv2, hb12⟩
 have hb2 := bch hb0 hb12
 have q2 := q0.below hb12
 clear hb12 q0 hb0 hR
 by_cases hr : Bat.right f h (ws.map WrB.plain) = .ok
 ·rw [hr] at hv2
  have hv2 : v2 = .nilIface := hv2
  subst hv2
  have hBF := (Bat.right_iff _ _ _).1 hr
  have hw60 : ws.length ≤ 60 := by have := hBF.len; rwa [List.length_map] at this
  have hfr : Vec.right f = .ok := hBF.from_
  have hhr : Vec.right h = .ok := hBF.have_
  have h16 := ((Vec.right_iff _).1 hhr).len
  replace hBF := Lib.hid hBF
  replace hr := Lib.hid hr
  have qL := (hI.out.below hb2).row
  obtain ⟨c0, c1, c2⟩ := qL.c3
  obtain ⟨b0, b1, b2⟩ := q2.c3
  go_wp2_with fail
  have hS0 : Below w2.heap.size w2 w2.drew ∧ w2.drew.cell? ⟨p, 1, none⟩ = some (.slice oh H.length ch) ∧ w2.drew.cell? ⟨w.heap.size, 0, none⟩ = some (.slice o1 f.length m1) := ⟨bdr (Below.refl _ _), c1, b0⟩
  (refine wp_region_held_drew (S := (fun W => Below w2.heap.size w2 W ∧ W.cell? ⟨p, 1, none⟩ = some (.slice oh H.length ch) ∧ W.cell? ⟨w.heap.size, 0, none⟩ = some (.slice o1 f.length m1))) (by kernel_rfl) ?_ (fun hHeld => ?_); ((try dsimp only); exact hS0))
  clear hS0
  (refine tkO 0 ?_; refine tkO 1 ?_; refine tkO 2 ?_; refine tkO 3 ?_; refine tkO 4 ?_; refine tkO 5 ?_)
  (refine tdoO 6 (fun K hK => ?_); ((go_simp; refine (hCv.out _ (bdr hb2)).mono ?_; rintro _ w3 ⟨rfl, hb3⟩); refine hK.out _ _ ?_ (fun hHeld => ?_); ((try dsimp only); exact ⟨bch hHeld.1 hb3, cell_below hb3 hHeld.2.1, cell_below hb3 hHeld.2.2⟩); clear hK K; (try clear hHeld0); (try rename_i hHeld0)))
  (refine tkO 7 ?_)
  (refine wpAnyH_done (by kernel_rfl) ?_ _)
  have hb23 := hHeld.1
  have hbw3 := bch hb2 hb23
  have q3 := q2.below hb23
  have qL3 := qL.below hb23
  clear hHeld hHeld0 hb3 c0 c1 c2 b0 b1 b2 qL q2 hb23
  cases hcv : coversB H f with
  | false =>
   have ha : Lg.accept ⟨rep, H, W⟩ f h ws = .inl (.no 10) := by
    unfold Lg.accept; rw [if_neg (by simp [hr.out]), if_pos hcv]
   replace hcv := Lib.hid hcv
   replace ha := Lib.hid ha
   go_wp2
   go_ret2
   exact accept_bad (v := errV 10) ha.out rfl hbw3
  | true =>
   have ha : Lg.accept ⟨rep, H, W⟩ f h ws = match joined H h with | .inl e => .inl e | .inr H' => match Lg.acc W ws 0 0 with | .inl e => .inl e | .inr (W', n) => if 300 < W'.length then .inl (.no 12) else .inr (⟨rep, H', W'⟩, n) := by
    unfold Lg.accept; rw [if_neg (by simp [hr.out]), if_neg (by simp [hcv])]; rfl
   replace hcv := Lib.hid hcv
   have hje : ∀ e, joined H h = .inl e → e = .no 4 := fun e he => by
    unfold joined at he
    rw [if_neg (by simp [hH]), if_neg (by simp [hhr])] at he
    split at he
    ·injection he with he; exact he.symm
    ·cases he
   have hJ1 := hJ.out w3.drew (bdr hbw3) hhr
   generalize joined H h = jn at *
   replace ha := Lib.hid ha
   replace hje := Lib.hid hje
   replace hJ1 := Lib.hid hJ1
   obtain ⟨c0, c1, c2⟩ := qL3.c3
   obtain ⟨b0, b1, b2⟩ := q3.c3
   go_wp2_with fail
   have hS0 : Below w3.heap.size w3 w3.drew ∧ w3.drew.cell? ⟨p, 1, none⟩ = some (.slice oh H.length ch) ∧ w3.drew.cell? ⟨w.heap.size, 1, none⟩ = some (.slice o2 h.length m2) := ⟨bdr (Below.refl _ _), c1, b1⟩
   (refine wp_region_held_drew (S := (fun W => Below w3.heap.size w3 W ∧ W.cell? ⟨p, 1, none⟩ = some (.slice oh H.length ch) ∧ W.cell? ⟨w.heap.size, 1, none⟩ = some (.slice o2 h.length m2))) (by kernel_rfl) ?_ (fun hHeld => ?_); ((try dsimp only); exact hS0))
   clear hS0 c0 c1 c2 b0 b1 b2 hJ
   (refine tkO 0 ?_; refine tkO 1 ?_; refine tkO 2 ?_; refine tkO 3 ?_; refine tkO 4 ?_; refine tkO 5 ?_)
   cases jn with
   | inl e =>
    have he := hje.out e rfl
    subst he
    (refine tdoO 6 (fun K hK => ?_); ((go_simp; refine hJ1.out.mono ?_; rintro _ w4 ⟨he4, hb4⟩; replace he4 : _ = Ending.returned (.tuple #[.slice none 0 0, .iface 67 (.int .i64 4)]) := he4; subst he4); refine hK.out _ _ ?_ (fun hHeld => ?_); ((try dsimp only); exact ⟨bch hHeld.1 hb4, cell_below hb4 hHeld.2.1, cell_below hb4 hHeld.2.2⟩); clear hK K; (try clear hHeld0); (try rename_i hHeld0)))
    (refine tkO 7 ?_; refine tkO 8 ?_; refine tkO 9 ?_; refine tkO 10 ?_; refine tkO 11 ?_)
    (refine wpAnyH_done (by kernel_rfl) ?_ _)
    have hb4' := bch hbw3 hHeld.1
    clear hHeld hHeld0 hb4
    go_wp2
    go_ret2
    exact accept_bad (v := errV 4) ha.out rfl hb4'
   | inr H' =>
    (refine tdoO 6 (fun K hK => ?_); ((go_simp; refine hJ1.out.mono ?_; rintro _ w4 ⟨⟨v4, rfl, hO4⟩, hb4⟩); refine hK.out _ _ ?_ (fun hHeld => ?_); ((try dsimp only); exact ⟨bch hHeld.1 hb4, cell_below hb4 hHeld.2.1, cell_below hb4 hHeld.2.2⟩); clear hK K; (try clear hHeld0); (try rename_i hHeld0)))
    obtain ⟨o4, m4, rfl⟩ := owns_slice_ hO4
    (refine tkO 7 ?_; refine tkO 8 ?_; refine tkO 9 ?_; refine tkO 10 ?_; refine tkO 11 ?_)
    (refine wpAnyH_done (by kernel_rfl) ?_ _)
    have hb34 := hHeld.1
    have hbw4 := bch hbw3 hb34
    have hO4' := owns_base hO4 (show w.heap.size ≤ w3.drew.heap.size from hbw3.size)
    have q4 := q3.below hb34
    have qL4 := qL3.below hb34
    clear hHeld hHeld0 hb4 hO4 hb34 q3 qL3
    obtain ⟨c0, c1, c2⟩ := qL4.c3
    obtain ⟨b0, b1, b2⟩ := q4.c3
    go_wp2_with fail
    refine (hCl.out _ hbw4).mono ?_
    rintro _ w5 ⟨⟨v5, rfl, hO5⟩, hb45⟩
    have hbw5 := bch hbw4 hb45
    have q5 := q4.below hb45
    have hT5 : Taking w (.slice o4 H'.length m4) H' W ws 0 0 v5 w5 := ⟨W, rfl, hs.out, by omega, by omega, owns_base hO5 hbw4.size, owns_below hO4' hb45, hbw5⟩
    clear hO5 hO4' hb45 q4 qL4 c0 c1 c2 b0 b1 b2
    obtain ⟨b0, b1, b2⟩ := q5.c3
    replace hT5 := Lib.hid hT5
    go_wp2
    go_loopw [9, 10, 50] (fun v many i wr => ∃ k n : Nat, k ≤ ws.length ∧ i = .int .i64 k ∧ many = .int .i64 n ∧ Taking w (.slice o4 H'.length m4) H' W ws k n v wr) (fun _ _ i _ => ws.length - (intOf i).toNat)
    case atStart => exact ⟨0, 0, by omega, rfl, rfl, hT5.out⟩
    case round =>
     clear hT5 b0 b1 b2
     obtain ⟨k, n, hk, rfl, rfl, hT⟩ := hrel
     by_cases hlt : k < ws.length
     ·obtain ⟨b1, f1, e1, hb1, hc1⟩ := hcell.out k hlt
      subst e1
      have hb1 := hb1 (by omega)
      obtain ⟨nx, hacc, hsx, hnl, hn, hO, hE, hbw⟩ := hT
      have hs5 := hbw.size
      have g1 : ∀ (j : Nat) (u : Value), (wrBCells ws[k])[j]? = some u → wr.cell? ⟨b1, f1 + k * 6 + j, none⟩ = some u := fun j u hu => (hbw.cell (p := ⟨b1, f1 + k * 6 + j, none⟩) hb1).trans (hc1 j u hu)
      rw [List.drop_eq_getElem_cons hlt] at hacc
      obtain ⟨y, hy⟩ : ∃ y, y = ws[k] := ⟨_, rfl⟩
      rw [← hy] at g1 hacc
      have a0 : wr.cell? ⟨b1, f1 + k * 6, none⟩ = _ := g1 0 _ rfl
      have a1 := g1 1 _ rfl
      have a2 := g1 2 _ rfl
      have a3 := g1 3 _ rfl
      have a4 := g1 4 _ rfl
      have a5 := g1 5 _ rfl
      have hb1w : b1 < wr.heap.size := by omega
      obtain ⟨ox, cx, rfl⟩ := owns_slice_ hO
      have hbY : Below wr.heap.size wr (wr.alloc (Obj.cells #[.int .i64 y.t, .int .i64 y.r, .int .i64 y.k, .string y.key, .string y.val, .int .i64 y.n] 33)) := bal (Below.refl _ _) _
      have hF := Lib.hid (find_wr (.slice ox nx.length cx) nx y (wr.alloc (Obj.cells #[.int .i64 y.t, .int .i64 y.r, .int .i64 y.k, .string y.key, .string y.val, .int .i64 y.n] 33)) (ListIs.of_owns (owns_below hO hbY)) (by omega) hsx)
      have qy := row_at (w := wr) (g := wr.heap.size) #[.int .i64 y.t, .int .i64 y.r, .int .i64 y.k, .string y.key, .string y.val, .int .i64 y.n] 33 rfl
      replace qy := Lib.hid qy
      replace hbY := Lib.hid hbY
      replace hy := Lib.hid hy
      replace hacc := Lib.hid hacc
      replace hsx := Lib.hid hsx
      clear g1 hc1
      go_wp2_with fail
      refine hF.out.mono ?_
      rintro _ w8 ⟨⟨at_, rfl, hpl⟩, hb8⟩
      have hb18 := bch hbY.out hb8
      have hbw8 := bch hbw hb18
      have hO8 := owns_below hO hb18
      have hE8 := owns_below hE hb18
      have qy8 := qy.out.below hb8
      obtain ⟨gy, hgy⟩ : ∃ g, g = wr.heap.size := ⟨_, rfl⟩
      rw [← hgy] at qy8 ⊢
      replace hgy := Lib.hid hgy
      have hat := Lg.place_at hpl
      clear hF hO hE hb8 a0 a1 a2 a3 a4 a5 qy
      by_cases hfo : ∃ h : at_ < nx.length, cmpW nx[at_] y = 0
      ·rw [decide_eq_true hfo]
       obtain ⟨hatl, hz⟩ := hfo
       obtain ⟨o5, m5, e5, -, hcn⟩ := ListIs.at (ListIs.of_owns hO8 : WrsIs w8 _ nx) wrBCells_len
       injection e5 with e5 _ e6
       subst e5; subst e6
       obtain ⟨b2, f2, e7, hb2, hc2⟩ := hcn at_ hatl
       subst e7
       have hb2 := hb2 (by omega)
       obtain ⟨x, hx⟩ : ∃ x, x = nx[at_] := ⟨_, rfl⟩
       rw [← hx] at hz hc2
       obtain ⟨d0, d1, d2, d3, d4, d5⟩ := qy8.c6
       have hS0 : MC b2 (f2 + at_ * 6) gy x y w8.drew := ⟨hc2 0 _ rfl, hc2 1 _ rfl, hc2 2 _ rfl, hc2 3 _ rfl, hc2 4 _ rfl, hc2 5 _ rfl, d0, d1, d2, d3, d4, d5⟩
       clear d0 d1 d2 d3 d4 d5 hc2 hcn
       by_cases hxy : x = y
       ·subst hxy
        have haccs : Lg.acc W ws 0 0 = Lg.acc nx (ws.drop (k + 1)) (k + 1) n := by
         have he : ∃ h : at_ < nx.length, cmpW nx[at_] x = 0 := ⟨hatl, by rw [← hx]; exact hz⟩
         rw [hacc.out, Lg.acc, if_pos (by rw [← hat]; exact he), if_pos (by rw [← hat, List.getElem?_eq_getElem hatl, ← hx])]
        replace haccs := Lib.hid haccs
        replace hx := Lib.hid hx
        replace hz := Lib.hid hz
        replace hat := Lib.hid hat
        replace hpl := Lib.hid hpl
        replace hO8 := Lib.hid hO8
        replace hE8 := Lib.hid hE8
        go_wp2_with fail
        (refine wp_region_held_drew (S := (MC b2 (f2 + at_ * 6) gy x x)) (by kernel_rfl) ?_ (fun hHeld => ?_); ((try dsimp only); exact hS0))
        clear hS0
        (refine tkO 0 ?_; refine tkO 1 ?_; refine tkO 2 ?_; refine tkO 3 ?_; refine tkO 4 ?_; refine tkO 5 ?_; refine tkO 6 ?_; refine tkO 7 ?_; refine tkO 8 ?_; refine tkO 9 ?_)
        (refine wpAnyH_done (by kernel_rfl) ?_ _)
        (try clear hHeld); (try clear hHeld0)
        go_wp2
        go_roundw
        case rel => exact ⟨k + 1, n, by omega, by go_num, rfl, nx, haccs.out, hsx.out, by omega, by omega, hO8.out, hE8.out, bdr hbw8⟩
        case measure => simp [intOf]; omega
       ·have hbad : Lg.acc W ws 0 0 = .inl (.at_ 9 k) := by
         have he : ∃ h : at_ < nx.length, cmpW nx[at_] y = 0 := ⟨hatl, by rw [← hx]; exact hz⟩
         rw [hacc.out, Lg.acc, if_pos (by rw [← hat]; exact he), if_neg (by rw [← hat, List.getElem?_eq_getElem hatl, ← hx]; intro e; injection e with e; exact hxy e)]
        have ha2 : Lg.accept ⟨rep, H, W⟩ f h ws = .inl (.at_ 9 k) := by
         rw [ha.out]; show (match Lg.acc W ws 0 0 with | .inl e => _ | .inr (W', n) => _) = _
         rw [hbad]
        obtain ⟨et, er⟩ := cmpW_zero.1 hz
        replace hx := Lib.hid hx
        replace hz := Lib.hid hz
        replace hat := Lib.hid hat
        replace hpl := Lib.hid hpl
        replace hO8 := Lib.hid hO8
        replace hE8 := Lib.hid hE8
        replace ha2 := Lib.hid ha2
        replace hxy := Lib.hid hxy
        replace et := Lib.hid et
        replace er := Lib.hid er
        replace hbad := Lib.hid hbad
        go_wp2_with fail
        (refine wp_region_held_drew (S := (MC b2 (f2 + at_ * 6) gy x y)) (by kernel_rfl) ?_ (fun hHeld => ?_); ((try dsimp only); exact hS0))
        clear hS0
        (refine tkO 0 ?_; refine tkO 1 ?_; refine tkO 2 ?_; refine tkO 3 ?_; refine tkO 4 ?_; refine tkO 5 ?_; refine tkO 6 ?_)
        refine held_take (i := 7) (v := .bool true) rfl (by kernel_rfl) (by kernel_rfl) (by kernel_rfl) (fun _ _ _ h => h) (by kernel_rfl) (by assumption) ?_ ?_
        ·intro w hSw
         unfold MC at hSw
         go_simp
         intro e1 e2 e3 e4 e5 e6
         exact hxy.out (wrb_ext ⟨e1, e2, e3, ba_inj e4, ba_inj e5, e6⟩)
        (simp only [Act.put, List.setIfInBounds_toArray, List.set_cons_zero, List.set_cons_succ])
        (refine tkO 8 ?_; refine tkO 9 ?_)
        (refine wpAnyH_done (by kernel_rfl) ?_ _)
        (try clear hHeld); (try clear hHeld0)
        go_wp2
        go_ret2
        exact accept_bad ha2.out ⟨_, rfl, row_at #[.int .i64 9, .int .i64 k] 84 (by simp)⟩ (bal (bdr hbw8) _)
      ·rw [decide_eq_false hfo]
       have haccs : Lg.acc W ws 0 0 = Lg.acc (nx.take at_ ++ [y] ++ nx.drop at_) (ws.drop (k + 1)) (k + 1) (n + 1) := by
        rw [hacc.out, Lg.acc, if_neg (by rw [← hat]; exact hfo), ← hat]
       have hsn := Lg.put_sorted hsx.out hpl hfo
       have hatl := hpl.1
       replace haccs := Lib.hid haccs
       replace hsn := Lib.hid hsn
       replace hpl := Lib.hid hpl
       replace hat := Lib.hid hat
       replace hfo := Lib.hid hfo
       go_wp2_with fail
       (refine wp_region_held_drew (S := (fun W => Below w8.heap.size w8 W)) (by kernel_rfl) ?_ (fun hHeld => ?_); ((try dsimp only); exact bdr (Below.refl _ _)))
       (refine tkO 0 ?_; refine tkO 1 ?_)
       (refine tofO 2 ?_; refine tofO 3 ?_; refine tofO 4 ?_; refine tofO 5 ?_; refine tofO 6 ?_; refine tofO 7 ?_)
       (refine tkO 8 ?_; refine tkO 9 ?_)
       (refine wpAnyH_done (by kernel_rfl) ?_ _)
       (try clear hHeld); (try clear hHeld0)
       have hgv : (w8.drew.alloc (Obj.cells #[.int .i64 y.t, .int .i64 y.r, .int .i64 y.k, .string y.key, .string y.val, .int .i64 y.n] 33)).heap[w8.heap.size]? = some (.cells #[.int .i64 y.t, .int .i64 y.r, .int .i64 y.k, .string y.key, .string y.val, .int .i64 y.n] 33 (0, 0)) := heap_alloc_new w8.drew _
       have hv2 := (show w8.drew.ownsRow w.heap.size 33 6 (.slice ox nx.length cx) nx.length (nx.flatMap wrBCells) from hO8).alloc (Obj.cells #[.int .i64 y.t, .int .i64 y.r, .int .i64 y.k, .string y.key, .string y.val, .int .i64 y.n] 33)
       have hE2 := (show w8.drew.ownsRow w.heap.size 45 2 (.slice o4 H'.length m4) H'.length (H'.flatMap entCells) from hE8).alloc (Obj.cells #[.int .i64 y.t, .int .i64 y.r, .int .i64 y.k, .string y.key, .string y.val, .int .i64 y.n] 33)
       have hne := owns_lt hO8 w8.heap.size (Nat.le_refl _)
       have hb9 : Below w.heap.size w (w8.drew.alloc (Obj.cells #[.int .i64 y.t, .int .i64 y.r, .int .i64 y.k, .string y.key, .string y.val, .int .i64 y.n] 33)) := bal (bdr hbw8) _
       have hIn := Lib.hid (insert_wr (.slice ox nx.length cx) nx.length at_ (nx.flatMap wrBCells) ([.int .i64 y.t, .int .i64 y.r, .int .i64 y.k, .string y.key, .string y.val, .int .i64 y.n] : List Value) w8.heap.size 1 w.heap.size _ hv2 hatl (by omega) rfl (wrs_one nx) (by intro u hu; simp only [List.mem_cons, List.not_mem_nil, or_false] at hu; rcases hu with rfl | rfl | rfl | rfl | rfl | rfl <;> rfl) hgv hne hb9.size)
       have hnE := own_ne_own hE2 hv2 (by decide)
       have hlo := fun j hj => (hO8.lt j hj).1
       obtain ⟨d0, d1, d2, d3, d4, d5⟩ := qy8.c6
       have hgyl := qy8.lt
       replace hE2 := Lib.hid hE2
       replace hb9 := Lib.hid hb9
       replace hnE := Lib.hid hnE
       replace hlo := Lib.hid hlo
       clear hgv hv2 hne hO8 hE8 hb18
       go_wp2_with fail
       refine hIn.out.mono ?_
       rintro _ wm ⟨v3, rfl, hv3, hgr, hbk, hnil⟩
       have eL : (nx.flatMap wrBCells).take (at_ * 6) ++ ([.int .i64 y.t, .int .i64 y.r, .int .i64 y.k, .string y.key, .string y.val, .int .i64 y.n] : List Value) ++ (nx.flatMap wrBCells).drop (at_ * 6) = (nx.take at_ ++ [y] ++ nx.drop at_).flatMap wrBCells := by rw [wrs_take, wrs_drop, List.flatMap_append, List.flatMap_append, List.flatMap_singleton]; rfl
       have eN : nx.length + 1 = (nx.take at_ ++ [y] ++ nx.drop at_).length := by simp only [List.length_append, List.length_take, List.length_drop, List.length_singleton]; omega
       rw [eL, eN] at hv3
       have hEm := hE2.out.kept hgr (by
        cases ho : (Value.slice o4 H'.length m4).ownBlock with
        | none => exact .inl rfl
        | some j => exact .inr fun e => hnE.out j ho e.symm)
       have hbm := hb9.out.grown hgr hb9.out.size hlo.out
       have hnn : IntKind.i64.wrap ((n : Int) + 1) = ((n + 1 : Nat) : Int) := by rw [IntKind.wrap_i64]; omega
       replace hv3 := Lib.hid hv3
       replace hEm := Lib.hid hEm
       replace hbm := Lib.hid hbm
       replace eN := Lib.hid eN
       clear eL hgr hbk hnil hIn d0 d1 d2 d3 d4 d5 qy8
       go_wp2
       go_roundw
       case rel => exact ⟨k + 1, n + 1, by omega, by go_num, by first | rfl | go_num, nx.take at_ ++ [y] ++ nx.drop at_, haccs.out, hsn.out, by rw [← eN.out]; omega, by omega, hv3.out, hEm.out, hbm.out⟩
       case measure => simp [intOf]; omega
     ·obtain rfl : k = ws.length := by omega
      obtain ⟨nx, hacc, -, hnl, hn, hO, hE, hbw⟩ := hT
      rw [List.drop_length] at hacc
      have hacc2 : Lg.acc W ws 0 0 = .inr (nx, n) := by rw [hacc]; unfold Lg.acc; rfl
      obtain ⟨ox, cx, rfl⟩ := owns_slice_ hO
      have hs5 := hbw.size
      by_cases hfull : 300 < nx.length
      ·have hfl : decide (300 < (nx.length : Int)) = true := by simp; omega
       have ha2 : Lg.accept ⟨rep, H, W⟩ f h ws = .inl (.no 12) := by
        rw [ha.out]; show (match Lg.acc W ws 0 0 with | .inl e => _ | .inr (W', n) => _) = _
        rw [hacc2]; exact if_pos hfull
       replace ha2 := Lib.hid ha2
       replace hacc := Lib.hid hacc
       replace hacc2 := Lib.hid hacc2
       replace hfull := Lib.hid hfull
       go_wp2
       go_ret2
       exact accept_bad (v := errV 12) ha2.out rfl hbw
      ·have hfl : decide (300 < (nx.length : Int)) = false := by simp; omega
       have ha2 : Lg.accept ⟨rep, H, W⟩ f h ws = .inr (⟨rep, H', nx⟩, n) := by
        rw [ha.out]; show (match Lg.acc W ws 0 0 with | .inl e => _ | .inr (W', n) => _) = _
        rw [hacc2]; exact if_neg hfull
       have qP := (hI.out.below hbw).row
       have nE := row_ne_own qP hE (by decide)
       have nO := row_ne_own qP hO (by decide)
       have qP2 := (qP.set 1 (.slice o4 H'.length m4)).set 2 (.slice ox nx.length cx)
       have hE2 := owns_set_ (owns_set_ hE (p := ⟨p, 1, none⟩) nE (.slice o4 H'.length m4)) (p := ⟨p, 2, none⟩) nE (.slice ox nx.length cx)
       have hO2 := owns_set_ (owns_set_ hO (p := ⟨p, 1, none⟩) nO (.slice o4 H'.length m4)) (p := ⟨p, 2, none⟩) nO (.slice ox nx.length cx)
       have hon := ((Only.of_below (fun j => j = p) hbw).set (p := ⟨p, 1, none⟩) (.inl rfl) (.slice o4 H'.length m4)).set (p := ⟨p, 2, none⟩) (.inl rfl) (.slice ox nx.length cx)
       have hElo := fun j hj => (hE.lt j hj).1
       have hOlo := fun j hj => (hO.lt j hj).1
       simp only [List.set_cons_succ, List.set_cons_zero] at qP2
       obtain ⟨c0, c1, c2⟩ := qP.c3
       (have z1 := qP.frozen 1 (by simp); have z2 := qP.frozen 2 (by simp))
       replace ha2 := Lib.hid ha2
       replace hacc := Lib.hid hacc
       replace hacc2 := Lib.hid hacc2
       replace hfull := Lib.hid hfull
       replace qP2 := Lib.hid qP2
       replace hE2 := Lib.hid hE2
       replace hO2 := Lib.hid hO2
       replace hon := Lib.hid hon
       replace hElo := Lib.hid hElo
       replace hOlo := Lib.hid hOlo
       clear qP nE nO hE hO
       go_wp2
       go_ret2
       unfold AcceptRet
       rw [ha2.out]
       have hbl : base ≤ w.heap.size := Nat.le_trans hI.out.lo (Nat.le_of_lt hp)
       refine ⟨rfl, .slice o4 H'.length m4, .slice ox nx.length cx, ⟨qP2.out, owns_base hE2.out hbl, owns_base hO2.out hbl, hI.out.lo⟩, hon.out, fun j hj => ?_⟩
       rcases hj with rfl | hj | hj
       ·exact .inl (.inl rfl)
       ·exact .inr (hElo.out j hj)
       ·exact .inr (hOlo.out j hj)
 ·obtain ⟨te, xe, rfl⟩ := errNe hv2 hr
  have ha : Lg.accept ⟨rep, H, W⟩ f h ws = .inl (Bat.right f h (ws.map WrB.plain)) := by
   unfold Lg.accept; rw [if_pos hr]
  replace hr := Lib.hid hr
  replace ha := Lib.hid ha
  replace hv2 := Lib.hid hv2
  go_wp2
  go_ret2
  exact accept_bad ha.out hv2.out hb2
end Go.Proofs.YtognjohloobliaaGreatDoor
