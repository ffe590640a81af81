/- The walk of a log's Since (printed by gen_since.py). -/
import Derived.Test.YtognjohloobliaaGreatDoorJ26
namespace Go.Proofs.YtognjohloobliaaGreatDoor
open Go.RowKit
set_option linter.unusedVariables false
set_option linter.unusedSimpArgs false
def Sent (w : World) (f h : List Vec.Entry) (l : List WrB) (e : Ending) (w' : World) : Prop :=
 ∃ vf vh vw, e = .returned (.tuple #[.agg #[vf, vh, vw], .nilIface]) ∧ w'.ownsRow w.heap.size 45 2 vf f.length (f.flatMap entCells) ∧ w'.ownsRow w.heap.size 45 2 vh h.length (h.flatMap entCells) ∧ w'.ownsRow w.heap.size 33 6 vw l.length (l.flatMap wrBCells)
def Going (w : World) (g : Nat) (va vb : Value) (f H : List Vec.Entry) (W : List WrB) (k : Nat) (wr : World) : Prop := ∃ vw, ((W.take k).filter (Lg.new_ f)).length ≤ 60 ∧ Row wr g 25 [va, vb, vw] ∧ wr.ownsRow w.heap.size 45 2 va f.length (f.flatMap entCells) ∧ wr.ownsRow w.heap.size 45 2 vb H.length (H.flatMap entCells) ∧ wr.ownsRow w.heap.size 33 6 vw ((W.take k).filter (Lg.new_ f)).length (((W.take k).filter (Lg.new_ f)).flatMap wrBCells) ∧ Below w.heap.size w wr ∧ Row wr w.heap.size 25 [.slice none 0 0, .slice none 0 0, .slice none 0 0]
theorem Going.below {w w1 w2 : World} {g : Nat} {va vb : Value} {f H : List Vec.Entry} {W : List WrB} {k : Nat} (h : Going w g va vb f H W k w1) (hb : Below w1.heap.size w1 w2) : Going w g va vb f H W k w2 := by
 obtain ⟨vw, h1, h2, h3, h4, h5, h6, h7⟩ := h
 exact ⟨vw, h1, h2.below hb, owns_below h3 hb, owns_below h4 hb, owns_below h5 hb, bch h6 hb, h7.below hb⟩
def Telling (w : World) (g : Nat) (va vN : Value) (f : List Vec.Entry) (N : List WrB) (k : Nat) (wr : World) : Prop := ∃ vh, Row wr g 25 [va, vh, vN] ∧ wr.ownsRow w.heap.size 45 2 va f.length (f.flatMap entCells) ∧ wr.ownsRow w.heap.size 45 2 vh (Lg.told f (N.take k)).length ((Lg.told f (N.take k)).flatMap entCells) ∧ wr.ownsRow w.heap.size 33 6 vN N.length (N.flatMap wrBCells) ∧ Below w.heap.size w wr ∧ Row wr w.heap.size 25 [.slice none 0 0, .slice none 0 0, .slice none 0 0]
theorem cell_set_ne {W : World} {a q : Addr} {v : Value} (h : W.cell? a = some v) (hn : a.block ≠ q.block) (u : Value) : (W.setCell q u).cell? a = some v := ((Only.refl (fun j => j = q.block) W).set (.inl rfl) u).cell h hn
theorem Going.same {w w1 : World} {g : Nat} {va vb : Value} {f H : List Vec.Entry} {W : List WrB} {k : Nat} (hk : k < W.length) (hn : Lg.new_ f W[k] = false) (h : Going w g va vb f H W k w1) : Going w g va vb f H W (k + 1) w1 := by
 unfold Going
 rw [Lg.news_snoc hk, if_neg (by simp [hn])]
 exact h
def SinceRet (m : Lg) (f : List Vec.Entry) (w : World) (e : Ending) (w' : World) : Prop :=
 (if Vec.right f ≠ .ok then e = .returned (.tuple #[.agg #[.slice none 0 0, .slice none 0 0, .slice none 0 0], errV (Vec.right f).code])
 else if coversB m.H f = false then e = .returned (.tuple #[.agg #[.slice none 0 0, .slice none 0 0, .slice none 0 0], errV 13])
 else Sent w f (Lg.sentHave m f) (Lg.sent m f) e w') ∧ Below w.heap.size w w'
theorem since_bad {m : Lg} {f : List Vec.Entry} {w w' : World} (h : Vec.right f ≠ .ok) (hb : Below w.heap.size w w') : SinceRet m f w (.returned (.tuple #[.agg #[.slice none 0 0, .slice none 0 0, .slice none 0 0], errV (Vec.right f).code])) w' := by
 unfold SinceRet; rw [if_pos h]; exact ⟨rfl, hb⟩
theorem since_false {m : Lg} {f : List Vec.Entry} {w w' : World} (h : Vec.right f = .ok) (h2 : coversB m.H f = false) (hb : Below w.heap.size w w') : SinceRet m f w (.returned (.tuple #[.agg #[.slice none 0 0, .slice none 0 0, .slice none 0 0], errV 13])) w' := by
 unfold SinceRet; rw [if_neg (by simp [h]), if_pos h2]; exact ⟨rfl, hb⟩
theorem since_sent {m : Lg} {f : List Vec.Entry} {w w' : World} {e : Ending} (h : Vec.right f = .ok) (h2 : coversB m.H f = true) (hs : Sent w f (Lg.sentHave m f) (Lg.sent m f) e w') (hb : Below w.heap.size w w') : SinceRet m f w e w' := by
 unfold SinceRet; rw [if_neg (by simp [h]), if_neg (by simp [h2])]; exact ⟨hs, hb⟩
set_option maxRecDepth 200000 in
theorem byWLogS1 {p : Prop} (h : p := by
 (try clear hOa); (try clear hba); (try clear hOb); (try clear hbb); (try clear hbwa); (try clear hbwb); (try clear hpb); (try clear hb3d)
 obtain ⟨o1, m1, e1, -, hcW⟩ := ListIs.at (ListIs.of_owns h.out.wri : WrsIs w _ W) wrBCells_len
 injection e1 with e1 _ e2
 subst e1; subst e2
 replace hcW := Lib.hid hcW
 have qL := (h.out.below hb6).row
 obtain ⟨c0, c1, c2⟩ := qL.c3
 have hG6 : Going w g (.slice oa f.length ca) (.slice ob H.length cb) f H W 0 w6 := ⟨_, by simp, q6, hO6, hP6, World.ownsRow_nil _ _ _ _, hb6, q46⟩
 clear qL q6 hO6 hP6 q46 hb6
 replace hG6 := Lib.hid hG6
 go_wp2
 go_loopw [42] (fun i wr => ∃ k : Nat, k ≤ W.length ∧ i = .int .i64 k ∧ Going w g (.slice oa f.length ca) (.slice ob H.length cb) f H W k wr) (fun i _ => W.length - (intOf i).toNat)
 case atStart => exact ⟨0, by omega, rfl, hG6.out⟩
 case round =>
  clear c0 c1 c2
  obtain ⟨k, hk, rfl, hG⟩ := hrel
  by_cases hlt : k < W.length
  ·obtain ⟨b1, f1, rfl, hbl, hc1⟩ := hcW.out k hlt
   have hbl := hbl (by omega)
   have hbw : Below w.heap.size w wr := by obtain ⟨-, -, -, -, -, -, hb, -⟩ := hG; exact hb
   have g1 : ∀ (j : Nat) (u : Value), (wrBCells W[k])[j]? = some u → wr.cell? ⟨b1, f1 + k * 6 + j, none⟩ = some u := fun j u hu => (hbw.cell (p := ⟨b1, f1 + k * 6 + j, none⟩) hbl).trans (hc1 j u hu)
   have hs1 := hbw.size
   obtain ⟨x, hx⟩ : ∃ x, x = W[k] := ⟨_, rfl⟩
   rw [← hx] at g1
   obtain ⟨xt, xr, xk, xkey, xval, xn⟩ := x
   have a0 : wr.cell? ⟨b1, f1 + k * 6, none⟩ = _ := g1 0 _ rfl
   have a1 := g1 1 _ rfl
   have a2 := g1 2 _ rfl
   have a3 := g1 3 _ rfl
   have a4 := g1 4 _ rfl
   have a5 := g1 5 _ rfl
   have hb1w : b1 < wr.heap.size := by omega
   replace hG := Lib.hid hG
   replace hx := Lib.hid hx
   clear g1 hc1
   go_wp2_with fail
   have qx := row_at (w := wr) (g := wr.heap.size) #[.int .i64 xt, .int .i64 xr, .int .i64 xk, .string xkey, .string xval, .int .i64 xn] 33 rfl
   have hbx : Below wr.heap.size wr (wr.alloc (Obj.cells #[.int .i64 xt, .int .i64 xr, .int .i64 xk, .string xkey, .string xval, .int .i64 xn] 33)) := bal (Below.refl _ _) _
   obtain ⟨gx, hgx⟩ : ∃ g, g = wr.heap.size := ⟨_, rfl⟩
   rw [← hgx] at qx ⊢
   generalize wr.alloc (Obj.cells #[.int .i64 xt, .int .i64 xr, .int .i64 xk, .string xkey, .string xval, .int .i64 xn] 33) = w7 at *
   replace hgx := Lib.hid hgx
   clear a0 a1 a2 a3 a4 a5
   have hbw7 := bch hbw hbx
   obtain ⟨a0, a1, a2, a3, a4, a5⟩ := qx.c6
   have hS0 : Below w7.heap.size w7 w7.drew ∧ w7.drew.cell? ⟨gx, 0, none⟩ = some (.int .i64 xt) ∧ w7.drew.cell? ⟨gx, 1, none⟩ = some (.int .i64 xr) := ⟨bdr (Below.refl _ _), a0, a1⟩
   clear a0 a1 a2 a3 a4 a5
   replace qx := Lib.hid qx
   (refine wp_region_held_drew (S := (fun W => Below w7.heap.size w7 W ∧ W.cell? ⟨gx, 0, none⟩ = some (.int .i64 xt) ∧ W.cell? ⟨gx, 1, none⟩ = some (.int .i64 xr))) (by kernel_rfl) ?_ (fun hHeld => ?_); ((try dsimp only); exact hS0))
   clear hS0
   (refine tkO 0 ?_; refine tkO 1 ?_; refine tkO 2 ?_; refine tkO 3 ?_; refine tkO 4 ?_; refine tkO 5 ?_; refine tkO 6 ?_)
   (refine tdoO 7 (fun K hK => ?_); ((go_simp; refine (hOfc.out _ (bdr hbw7) _).mono ?_; rintro _ w8 ⟨rfl, hb8⟩); refine hK.out _ _ ?_ (fun hHeld => ?_); ((try dsimp only); exact ⟨bch hHeld.1 hb8, cell_below hb8 hHeld.2.1, cell_below hb8 hHeld.2.2⟩); clear hK K; (try clear hHeld0); (try rename_i hHeld0)))
   (refine tkO 8 ?_)
   (refine wpAnyH_done (by kernel_rfl) ?_ _)
   have hb78 := hHeld.1
   have hG8 := (hG.out.below hbx).below hb78
   have qx8 := qx.out.below hb78
   clear hHeld hHeld0 hG hb78 hbw7 hb8
   by_cases hn : Vec.of f xr < xt
   ·have hle : decide (xt ≤ Vec.of f xr) = false := by simp; omega
    have hnew : Hid (Lg.new_ f W[k] = true) := Lib.hid (by rw [← hx.out]; unfold Lg.new_; simp only; exact decide_eq_true hn)
    obtain ⟨vw, hN60, qg, hva, hvb, hvw, hbw8, qr⟩ := hG8
    obtain ⟨N, hN⟩ : ∃ N, N = (W.take k).filter (Lg.new_ f) := ⟨_, rfl⟩
    rw [← hN] at hN60 hvw
    replace hN := Lib.hid hN
    obtain ⟨oN, cN, rfl⟩ := owns_slice_ hvw
    by_cases h60 : N.length = 60
    ·have h6 : ((N.length : Int) == 60) = true := by rw [h60]; rfl
     have hsent := Lib.hid (Lg.sent_full (m := ⟨rep, H, W⟩) (f := f) hlt hnew.out hN.out h60)
     have hkn : ∀ y ∈ N, Right_ y ∧ y.t ≤ Vec.of H y.r := fun y hy => by
      rw [hN.out] at hy
      have hy := List.mem_of_mem_take (List.mem_filter.1 hy).1
      exact ⟨hok.out.right_ y hy, hok.out.known y hy⟩
     replace hkn := Lib.hid hkn
     replace h60 := Lib.hid h60
     obtain ⟨c0, c1, c2⟩ := qg.c3
     clear c0 c1
     have hVN : WrsIs w8 (.slice oN N.length cN) N := ListIs.of_owns hvw
     obtain ⟨o2, m2, e2, -, hcN⟩ := ListIs.at hVN wrBCells_len
     injection e2 with e2 _ e3
     subst e2; subst e3
     replace hcN := Lib.hid hcN
     replace hVN := Lib.hid hVN
     replace qg := Lib.hid qg
     replace hva := Lib.hid hva
     replace hvw := Lib.hid hvw
     replace qr := Lib.hid qr
     clear hvb
     go_wp2_with fail
     refine (hCf.out _ hbw8).mono ?_
     rintro _ w9 ⟨⟨u9', rfl, hO9⟩, hb89⟩
     obtain ⟨o9, c9, rfl⟩ := owns_slice_ hO9
     have hb9 := bch hbw8 hb89
     have q9 := qg.out.below hb89
     have r9 := qr.out.below hb89
     have a9 := owns_below hva.out hb89
     have n9 := owns_below hvw.out hb89
     have hO9' := owns_base hO9 hbw8.size
     have hVN9 := Lib.hid (hVN.out.below hb89)
     have qA := q9.set 1 (.slice o9 f.length c9)
     have rA := r9.other (p := ⟨g, 1, none⟩) (show g ≠ w.heap.size by omega) (.slice o9 f.length c9)
     have aA := owns_set_ a9 (p := ⟨g, 1, none⟩) (row_ne_own q9 a9 (by decide)) (.slice o9 f.length c9)
     have nA := owns_set_ n9 (p := ⟨g, 1, none⟩) (row_ne_own q9 n9 (by decide)) (.slice o9 f.length c9)
     have oA := owns_set_ hO9' (p := ⟨g, 1, none⟩) (row_ne_own q9 hO9' (by decide)) (.slice o9 f.length c9)
     have hbA := Below.setCell hb9 (p := ⟨g, 1, none⟩) (Nat.le_of_lt hgw) (.slice o9 f.length c9)
     simp only [List.set_cons_succ, List.set_cons_zero] at qA
     have hTA : Telling w g (.slice oa f.length ca) (.slice oN N.length cN) f N 0 (w9.setCell ⟨g, 1, none⟩ (.slice o9 f.length c9)) := ⟨_, qA, aA, oA, nA, hbA, rA⟩
     have hOnA : Only (fun j => j = g) w8 (w9.setCell ⟨g, 1, none⟩ (.slice o9 f.length c9)) := Only.set (S := fun j => j = g) (Only.of_below _ hb89) (p := ⟨g, 1, none⟩) (.inl rfl) _
     clear c2 hO9 hO9' a9 n9 r9 aA nA oA hbA rA qA
     obtain ⟨c0, c1, c2⟩ := q9.c3
     (have z1 := q9.frozen 1 (by simp))
     clear q9 hb9 hb89
     replace hTA := Lib.hid hTA
     replace hOnA := Lib.hid hOnA
     go_wp2
     go_loopw [65] (fun i wr => ∃ j : Nat, j ≤ N.length ∧ i = .int .i64 j ∧ Telling w g (.slice oa f.length ca) (.slice oN N.length cN) f N j wr ∧ Only (fun j => j = g) w8 wr) (fun i _ => N.length - (intOf i).toNat)
     case atStart => exact ⟨0, by omega, rfl, hTA.out, hOnA.out⟩
     case round =>
      clear hTA hOnA hVN9
      (try clear c0 c1 c2 z1)
      obtain ⟨j, hj, rfl, hT, hon⟩ := hrel
      by_cases hltj : j < N.length
      ·obtain ⟨b2, f2, rfl, hb2', hc2⟩ := hcN.out j hltj
       have hb2' := hb2' (by omega)
       have hbg : b2 ≠ g := fun e => row_ne_own qg.out hvw.out (by decide) (show (Value.slice (some ⟨b2, f2, none⟩) N.length cN).ownBlock = some g by rw [e]; rfl)
       have g2 : ∀ (i : Nat) (u : Value), (wrBCells N[j])[i]? = some u → wr.cell? ⟨b2, f2 + j * 6 + i, none⟩ = some u := fun i u hu => hon.cell (p := ⟨b2, f2 + j * 6 + i, none⟩) (hc2 i u hu) hbg
       have hsn : Lg.told f (N.take (j + 1)) = Lg.step_ (Lg.told f (N.take j)) N[j] := by rw [List.take_succ_eq_append_getElem hltj, Lg.told_snoc]
       have htk := Lg.told_ok hHF.out hfF.out hcov.out (N.take j) (fun y hy => hkn.out y (List.mem_of_mem_take hy))
       have hstp := Lg.step_ok hHF.out htk.1 htk.2 (hkn.out _ (List.getElem_mem hltj)).1 (hkn.out _ (List.getElem_mem hltj)).2
       have hr1 := right_one (hkn.out _ (List.getElem_mem hltj)).1
       obtain ⟨vh, qT, aT, oT, nT, hbT, rT⟩ := hT
       have hB16 := htk.1.len
       generalize Lg.told f (N.take j) = B at *
       obtain ⟨y, hy⟩ : ∃ y, y = N[j] := ⟨_, rfl⟩
       rw [← hy] at g2 hsn hstp hr1
       obtain ⟨yt, yr, yk, ykey, yval, yn⟩ := y
       have d0 : wr.cell? ⟨b2, f2 + j * 6, none⟩ = _ := g2 0 _ rfl
       have d1 := g2 1 _ rfl
       have d2 := g2 2 _ rfl
       have d3 := g2 3 _ rfl
       have d4 := g2 4 _ rfl
       have d5 := g2 5 _ rfl
       (try simp only at hr1 hstp)
       have hb2w : b2 < wr.heap.size := Nat.lt_of_lt_of_le hb2' hon.size
       obtain ⟨oB, cB, rfl⟩ := owns_slice_ oT
       obtain ⟨e0, e1, e2⟩ := qT.c3
       have hgl := qT.lt
       replace hy := Lib.hid hy
       replace hsn := Lib.hid hsn
       have hszY : (wr.alloc (Obj.cells #[.int .i64 yt, .int .i64 yr, .int .i64 yk, .string ykey, .string yval, .int .i64 yn] 33)).heap.size = wr.heap.size + 1 := by simp
       have hbY : Below wr.heap.size wr ((wr.alloc (Obj.cells #[.int .i64 yt, .int .i64 yr, .int .i64 yk, .string ykey, .string yval, .int .i64 yn] 33)).alloc (Obj.cells #[.int .i64 yr, .int .i64 yt] 45)) := bal (bal (Below.refl _ _) _) _
       have hone1 : VecIs ((wr.alloc (Obj.cells #[.int .i64 yt, .int .i64 yr, .int .i64 yk, .string ykey, .string yval, .int .i64 yn] 33)).alloc (Obj.cells #[.int .i64 yr, .int .i64 yt] 45)) (.slice (some ⟨wr.heap.size + 1, 0, none⟩) 1 1) [⟨yr, yt⟩] := by
        have h0 : VecIs ((wr.alloc (Obj.cells #[.int .i64 yt, .int .i64 yr, .int .i64 yk, .string ykey, .string yval, .int .i64 yn] 33)).alloc (Obj.cells #[.int .i64 yr, .int .i64 yt] 45)) (.slice (some ⟨(wr.alloc (Obj.cells #[.int .i64 yt, .int .i64 yr, .int .i64 yk, .string ykey, .string yval, .int .i64 yn] 33)).heap.size, 0, none⟩) 1 1) [⟨yr, yt⟩] := ListIs.of_alloc (f := entCells) (wr.alloc (Obj.cells #[.int .i64 yt, .int .i64 yr, .int .i64 yk, .string ykey, .string yval, .int .i64 yn] 33)) 45 [⟨yr, yt⟩] _ rfl entCells_len (by simp [maxLen]) 1 rfl
        rw [hszY] at h0; exact h0
       have hJ := vector_join_own (.slice oB B.length cB) _ B [⟨yr, yt⟩] _ (hL.below (bch hbT hbY)) (ListIs.of_owns (owns_below oT hbY)) hone1 (by omega) (by simp) ((Vec.right_iff _).2 htk.1) (one_right hr1.1 hr1.2.1 hr1.2.2.1 hr1.2.2.2)
       rw [hstp.1] at hJ
       replace hJ := Lib.hid hJ
       have hbwY := bch hbT hbY
       replace hbwY := Lib.hid hbwY
       clear hszY hone1 oT
       replace hbY := Lib.hid hbY
       replace qT := Lib.hid qT
       replace aT := Lib.hid aT
       replace nT := Lib.hid nT
       replace rT := Lib.hid rT
       replace hbT := Lib.hid hbT
       replace hon := Lib.hid hon
       clear g2 hc2 e0 e2
       go_wp2_with fail
       refine hJ.out.mono ?_
       rintro _ wj ⟨⟨vj, rfl, hOj⟩, hbj⟩
       obtain ⟨oj, cj, rfl⟩ := owns_slice_ hOj
       have hbj2 : Below wr.heap.size wr wj := bch hbY.out hbj
       have qJ := qT.out.below hbj2
       have hOj' := owns_base hOj hbwY.out.size
       obtain ⟨e0, e1, e2⟩ := qJ.c3
       (have z1 := qJ.frozen 1 (by simp))
       clear e0 e2 d0 d1 d2 d3 d4 d5 e1 hOj hJ
       replace qJ := Lib.hid qJ
       replace hOj' := Lib.hid hOj'
       replace hbj2 := Lib.hid hbj2
       (try obtain ⟨e0, e1, e2⟩ := qJ.out.c3)
       go_wp2
       go_roundw
       case rel =>
        refine ⟨j + 1, by omega, by go_num, ?_, ?_⟩
        ·have aJ := owns_below aT.out hbj2.out
         have nJ := owns_below nT.out hbj2.out
         have q9 := qJ.out.set 1 (.slice oj (Lg.step_ B ⟨yt, yr, yk, ykey, yval, yn⟩).length cj)
         simp only [List.set_cons_succ, List.set_cons_zero] at q9
         unfold Telling
         rw [hsn.out]
         exact ⟨_, q9, owns_set_ aJ (row_ne_own qJ.out aJ (by decide)) _, owns_set_ hOj'.out (row_ne_own qJ.out hOj'.out (by decide)) _, owns_set_ nJ (row_ne_own qJ.out nJ (by decide)) _, Below.setCell (bch hbT.out hbj2.out) (p := ⟨g, 1, none⟩) (Nat.le_of_lt hgw) _, (rT.out.below hbj2.out).other (p := ⟨g, 1, none⟩) (show g ≠ w.heap.size by omega) _⟩
        ·exact Only.set (S := fun j => j = g) (hon.out.chain hbj2.out) (p := ⟨g, 1, none⟩) (.inl rfl) _
       case measure => simp [intOf]; omega
      ·obtain rfl : j = N.length := by omega
       obtain ⟨vh, qg', hva', hvb', hvw', hbw', qr'⟩ := hT
       rw [List.take_length] at hvb'
       obtain ⟨oB, cB, rfl⟩ := owns_slice_ hvb'
       clear qg hva hvw qr hcN hon hbw hbw8
       have qg := qg'
       have qr := qr'
       have hva := hva'
       have hvb := hvb'
       have hvw := hvw'
       have hbw := hbw'
       clear qg' qr' hva' hvb' hvw' hbw'
       replace hsent := hsent.out
       have q9 := ((qr.set 0 (.slice oa f.length ca)).set 1 (.slice oB (Lg.told f N).length cB)).set 2 (.slice oN N.length cN)
       have nva := row_ne_own qr hva (by decide)
       have nvb := row_ne_own qr hvb (by decide)
       have nvw := row_ne_own qr hvw (by decide)
       have k9 := owns_set_ (owns_set_ (owns_set_ hva (p := ⟨w.heap.size, 0, none⟩) nva (.slice oa f.length ca)) (p := ⟨w.heap.size, 1, none⟩) nva (.slice oB (Lg.told f N).length cB)) (p := ⟨w.heap.size, 2, none⟩) nva (.slice oN N.length cN)
       have l9 := owns_set_ (owns_set_ (owns_set_ hvb (p := ⟨w.heap.size, 0, none⟩) nvb (.slice oa f.length ca)) (p := ⟨w.heap.size, 1, none⟩) nvb (.slice oB (Lg.told f N).length cB)) (p := ⟨w.heap.size, 2, none⟩) nvb (.slice oN N.length cN)
       have m9 := owns_set_ (owns_set_ (owns_set_ hvw (p := ⟨w.heap.size, 0, none⟩) nvw (.slice oa f.length ca)) (p := ⟨w.heap.size, 1, none⟩) nvw (.slice oB (Lg.told f N).length cB)) (p := ⟨w.heap.size, 2, none⟩) nvw (.slice oN N.length cN)
       have hb9 := Below.setCell (Below.setCell (Below.setCell hbw (p := ⟨w.heap.size, 0, none⟩) (Nat.le_refl _) (.slice oa f.length ca)) (p := ⟨w.heap.size, 1, none⟩) (Nat.le_refl _) (.slice oB (Lg.told f N).length cB)) (p := ⟨w.heap.size, 2, none⟩) (Nat.le_refl _) (.slice oN N.length cN)
       simp only [List.set_cons_succ, List.set_cons_zero] at q9
       obtain ⟨c0, c1, c2⟩ := qg.c3
       obtain ⟨b0, b1, b2⟩ := qr.c3
       (have z0 := qr.frozen 0 (by simp); have z1 := qr.frozen 1 (by simp); have z2 := qr.frozen 2 (by simp))
       replace q9 := Lib.hid q9
       replace k9 := Lib.hid k9
       replace l9 := Lib.hid l9
       replace m9 := Lib.hid m9
       replace hb9 := Lib.hid hb9
       replace hsent := Lib.hid hsent
       clear qg qr hva hvb hvw nva nvb nvw hbw
       go_wp2
       (try simp only [Exit.inBlock, Exit.then])
       obtain ⟨fr, hg, -⟩ := q9.out
       refine bodyPost_ret (v := .tuple #[.agg #[.slice oa f.length ca, (.slice oB (Lg.told f N).length cB), (.slice oN N.length cN)], .nilIface]) (results_row_tmp Tryz.results27 _ _ w.heap.size 25 _ fr _ _ rfl hg Tryz.underlying25 rfl hsz.out rfl) rfl ?_
       refine since_sent hfr.out hcv.out ?_ hb9.out
       rw [hsent.out.1, hsent.out.2]
       exact ⟨_, _, _, rfl, k9.out, l9.out, m9.out⟩
    ·have h6 : ((N.length : Int) == 60) = false := by simp; omega
     replace h60 := Lib.hid h60
     have hs8 := hbw8.size
     have hgl := qg.lt
     have hxl := qx8.lt
     have hng : (Value.slice oN N.length cN).ownBlock ≠ some g := row_ne_own qg hvw (by decide)
     have hnr : (Value.slice oN N.length cN).ownBlock ≠ some w.heap.size := row_ne_own qr hvw (by decide)
     have hnva := own_ne_own hva hvw (by decide)
     have hnvb := own_ne_own hvb hvw (by decide)
     have hlo := fun j hj => (hvw.lt j hj).1
     obtain ⟨c0, c1, c2⟩ := qg.c3
     obtain ⟨a0, a1, a2, a3, a4, a5⟩ := qx8.c6
     clear c0 c1
     replace qg := Lib.hid qg
     replace hva := Lib.hid hva
     replace hvb := Lib.hid hvb
     replace hvw := Lib.hid hvw
     replace hbw8 := Lib.hid hbw8
     replace qr := Lib.hid qr
     replace hlo := Lib.hid hlo
     replace hng := Lib.hid hng
     replace hnr := Lib.hid hnr
     go_wp2_with ((at_builtin; go_must (refine app_one rfl _ _ 23 33 rfl (w.heap.size) (Value.agg #[.int .i64 0, .int .i64 0, .int .i64 0, .string ⟨#[]⟩, .string ⟨#[]⟩, .int .i64 0]) 6 64 Tryz.underlying23 (by kernel_rfl) rfl _ _ _ rfl hvw.out _ rfl rfl ?_ (by omega) (by omega) hs8 ?_)); ((focus (intro u hu; simp only [List.mem_cons, List.not_mem_nil, or_false] at hu; rcases hu with rfl | rfl | rfl | rfl | rfl | rfl <;> rfl)); intro v5 w5 hO5 hg5 hbk5 hne5 hb5; obtain ⟨g5, m5, rfl⟩ := owns_addr hO5 hne5; have q5 := qg.out.grown hg5 hng.out; have hgn := row_ne_own q5 hO5 (by decide); have hc5 := q5.cell 2; have hf5 := q5.frozen 2 (by simp); simp only [List.getElem?_cons_zero, List.getElem?_cons_succ] at hc5; have hO5' := Lib.hid hO5; have hg5' := Lib.hid (show w8.grownBy w5 (Value.slice oN N.length cN).ownBlock from hg5); have q5' := Lib.hid q5; have hgn' := Lib.hid hgn; clear hO5 hg5 q5 hgn hbk5 hne5 hb5))
     go_roundw
     case rel =>
      refine ⟨k + 1, by omega, by go_num, ?_⟩
      unfold Going
      rw [Lg.news_snoc hlt, if_pos hnew.out, ← hN.out, ← hx.out]
      have hb5 := (hbw8.out.grown hg5'.out hs8 hlo.out).setCell (p := ⟨g, 2, none⟩) (Nat.le_of_lt hgw) (.slice (some ⟨g5, 0, none⟩) (N.length + 1) m5)
      have kva := hva.out.kept hg5'.out (by
       cases ho : (Value.slice oa f.length ca).ownBlock with
       | none => exact .inl rfl
       | some j => exact .inr fun e => hnva j ho e.symm)
      have kvb := hvb.out.kept hg5'.out (by
       cases ho : (Value.slice ob H.length cb).ownBlock with
       | none => exact .inl rfl
       | some j => exact .inr fun e => hnvb j ho e.symm)
      have q9 := q5'.out.set 2 (.slice (some ⟨g5, 0, none⟩) (N.length + 1) m5)
      simp only [List.set_cons_succ, List.set_cons_zero] at q9
      refine ⟨_, ?_, q9, owns_set_ kva (row_ne_own q5'.out kva (by decide)) _, owns_set_ kvb (row_ne_own q5'.out kvb (by decide)) _, ?_, hb5, (qr.out.grown hg5'.out hnr.out).other (p := ⟨g, 2, none⟩) (show g ≠ w.heap.size by omega) _⟩
      ·rw [List.length_append, List.length_singleton]; have := h60.out; omega
      ·rw [List.length_append, List.flatMap_append, List.flatMap_singleton]
       exact owns_set_ hO5'.out hgn'.out _
     case measure => simp [intOf]; omega
   ·have hle : decide (xt ≤ Vec.of f xr) = true := by simp; omega
    have hold : Hid (Lg.new_ f W[k] = false) := Lib.hid (by rw [← hx.out]; unfold Lg.new_; simp only; exact decide_eq_false hn)
    replace hG8 := Lib.hid hG8
    replace hn := Lib.hid hn
    go_wp2
    go_roundw
    case rel => exact ⟨k + 1, by omega, by go_num, hG8.out.same hlt hold.out⟩
    case measure => simp [intOf]; omega
  ·obtain rfl : k = W.length := by omega
   obtain ⟨vw, hN60, qg, hva, hvb, hvw, hbw, qr⟩ := hG
   rw [List.take_length] at hN60 hvw
   obtain ⟨oN, cN, rfl⟩ := owns_slice_ hvw
   have hsent := Lg.sent_all (m := ⟨rep, H, W⟩) (f := f) hN60
   have q9 := ((qr.set 0 (.slice oa f.length ca)).set 1 (.slice ob H.length cb)).set 2 (.slice oN (W.filter (Lg.new_ f)).length cN)
   have nva := row_ne_own qr hva (by decide)
   have nvb := row_ne_own qr hvb (by decide)
   have nvw := row_ne_own qr hvw (by decide)
   have k9 := owns_set_ (owns_set_ (owns_set_ hva (p := ⟨w.heap.size, 0, none⟩) nva (.slice oa f.length ca)) (p := ⟨w.heap.size, 1, none⟩) nva (.slice ob H.length cb)) (p := ⟨w.heap.size, 2, none⟩) nva (.slice oN (W.filter (Lg.new_ f)).length cN)
   have l9 := owns_set_ (owns_set_ (owns_set_ hvb (p := ⟨w.heap.size, 0, none⟩) nvb (.slice oa f.length ca)) (p := ⟨w.heap.size, 1, none⟩) nvb (.slice ob H.length cb)) (p := ⟨w.heap.size, 2, none⟩) nvb (.slice oN (W.filter (Lg.new_ f)).length cN)
   have m9 := owns_set_ (owns_set_ (owns_set_ hvw (p := ⟨w.heap.size, 0, none⟩) nvw (.slice oa f.length ca)) (p := ⟨w.heap.size, 1, none⟩) nvw (.slice ob H.length cb)) (p := ⟨w.heap.size, 2, none⟩) nvw (.slice oN (W.filter (Lg.new_ f)).length cN)
   have hb9 := Below.setCell (Below.setCell (Below.setCell hbw (p := ⟨w.heap.size, 0, none⟩) (Nat.le_refl _) (.slice oa f.length ca)) (p := ⟨w.heap.size, 1, none⟩) (Nat.le_refl _) (.slice ob H.length cb)) (p := ⟨w.heap.size, 2, none⟩) (Nat.le_refl _) (.slice oN (W.filter (Lg.new_ f)).length cN)
   simp only [List.set_cons_succ, List.set_cons_zero] at q9
   obtain ⟨c0, c1, c2⟩ := qg.c3
   obtain ⟨b0, b1, b2⟩ := qr.c3
   (have z0 := qr.frozen 0 (by simp); have z1 := qr.frozen 1 (by simp); have z2 := qr.frozen 2 (by simp))
   replace q9 := Lib.hid q9
   replace k9 := Lib.hid k9
   replace l9 := Lib.hid l9
   replace m9 := Lib.hid m9
   replace hb9 := Lib.hid hb9
   replace hsent := Lib.hid hsent
   clear qg qr hva hvb hvw nva nvb nvw hbw
   go_wp2
   (try simp only [Exit.inBlock, Exit.then])
   obtain ⟨fr, hg, -⟩ := q9.out
   refine bodyPost_ret (v := .tuple #[.agg #[.slice oa f.length ca, (.slice ob H.length cb), (.slice oN (W.filter (Lg.new_ f)).length cN)], .nilIface]) (results_row_tmp Tryz.results27 _ _ w.heap.size 25 _ fr _ _ rfl hg Tryz.underlying25 rfl hsz.out rfl) rfl ?_
   refine since_sent hfr.out hcv.out ?_ hb9.out
   rw [hsent.out.1, hsent.out.2]
   exact ⟨_, _, _, rfl, k9.out, l9.out, m9.out⟩) : p := h
set_option maxHeartbeats 8000000 in
set_option maxRecDepth 20000 in
theorem log_since (base p : Nat) (m : Lg) (hv wv fv : Value) (f : List Vec.Entry) (w : World) (hL : Laid w) (h : LogIs w base p m hv wv) (hok : m.Ok) (hf : VecIs w fv f) (hlf : f.length ≤ 140737488351232) :
  Calls Tryz.prog 27 #[.pointer (some ⟨p, 0, none⟩), fv] w (SinceRet m f w) := by
 obtain ⟨rep, H, W⟩ := m
 have hH := hok.have_
 have hlW := hok.len
 (try simp only at h hH hlW)
 have hHF := (Vec.right_iff _).1 hH
 have hH16 := hHF.len
 obtain ⟨oh, ch, rfl⟩ := owns_slice_ h.hav
 obtain ⟨ow, cw, rfl⟩ := owns_slice_ h.wri
 have hVH : VecIs w (.slice oh H.length ch) H := ListIs.of_owns h.hav
 obtain ⟨of, cf, rfl, -, -⟩ := hf.list.at entCells_len
 have q := h.row
 have hp := q.lt
 have hR := Lib.hid (fun W hW => vector_right _ f W (hf.below hW) hlf)
 have hCv := Lib.hid (fun W (hW : Below w.heap.size w W) => vector_covers _ _ H f W (hVH.below hW) (hf.below hW) (by omega) hlf)
 have hCf := Lib.hid (fun W (hW : Below w.heap.size w W) hl => clone_ents _ f W (hf.below hW) hl)
 have hCh := Lib.hid (fun W (hW : Below w.heap.size w W) => clone_ents _ H W (hVH.below hW) (by omega))
 have hOfc := Lib.hid (fun W (hW : Below w.heap.size w W) r => vector_of _ f r W (hf.below hW))
 replace h := Lib.hid h
 replace hH := Lib.hid hH
 replace hok := Lib.hid hok
 replace hVH := Lib.hid hVH
 replace hHF := Lib.hid hHF
 replace hf := Lib.hid hf
 clear q
 have hsz : (Tryz.prog.info? 25).map (·.size) = some 3 := by kernel_rfl
 replace hsz := Lib.hid hsz
 go_enter Tryz.func27, Tryz.ntmps27
 go_wp2_with fail
 have q0 := row_at (w := w) (g := w.heap.size) #[.slice none 0 0, .slice none 0 0, .slice none 0 0] 25 rfl
 have hb0 : Below w.heap.size w (w.alloc (Obj.cells #[.slice none 0 0, .slice none 0 0, .slice none 0 0] 25)) := by exact blw
 generalize w.alloc (Obj.cells #[.slice none 0 0, .slice none 0 0, .slice none 0 0] 25) = w1 at *
 refine (hR.out _ hb0).mono ?_
 rintro _ w2 ⟨v2, rfl, hv2, hb12⟩
 have hb2 := bch hb0 hb12
 have q2 := q0.below hb12
 have hw2 := q2.lt
 clear hb12 q0 hb0 hR
 by_cases hfr : Vec.right f = .ok
 ·rw [hfr] at hv2
  have hv2 : v2 = .nilIface := hv2
  subst hv2
  have q3 := (h.out.below hb2).row
  obtain ⟨c0, c1, c2⟩ := q3.c3
  go_wp2_with fail
  refine (hCv.out _ hb2).mono ?_
  rintro _ w3 ⟨rfl, hb23⟩
  have hb3 := bch hb2 hb23
  have q4 := q2.below hb23
  have hL3 := (h.out.below hb3).row
  clear q3 c0 c1 c2 hb23 q2
  cases hcv : coversB H f with
  | false =>
   replace hcv := Lib.hid hcv
   have q9 := ((q4.set 0 (.slice none 0 0)).set 1 (.slice none 0 0)).set 2 (.slice none 0 0)
   have hb9 := Below.setCell (Below.setCell (Below.setCell hb3 (p := ⟨w.heap.size, 0, none⟩) (Nat.le_refl _) (.slice none 0 0)) (p := ⟨w.heap.size, 1, none⟩) (Nat.le_refl _) (.slice none 0 0)) (p := ⟨w.heap.size, 2, none⟩) (Nat.le_refl _) (.slice none 0 0)
   simp only [List.set_cons_succ, List.set_cons_zero] at q9
   replace q9 := Lib.hid q9
   replace hb9 := Lib.hid hb9
   obtain ⟨b0, b1, b2⟩ := q4.c3
   (have z0 := q4.frozen 0 (by simp); have z1 := q4.frozen 1 (by simp); have z2 := q4.frozen 2 (by simp))
   go_wp2
   (try simp only [Exit.inBlock, Exit.then])
   obtain ⟨fr, hg, -⟩ := q9.out
   refine bodyPost_ret (v := .tuple #[.agg #[.slice none 0 0, .slice none 0 0, .slice none 0 0], errV 13]) (results_row_tmp Tryz.results27 _ _ w.heap.size 25 _ fr _ _ rfl hg Tryz.underlying25 rfl hsz.out rfl) rfl ?_
   exact since_false hfr hcv.out hb9.out
  | true =>
   replace hcv := Lib.hid hcv
   have hfF := (Vec.right_iff _).1 hfr
   have hf16 := hfF.len
   have hcov : Vec.Covers H f := by
    have h0 := hcv.out
    unfold coversB at h0
    simp only [Bool.and_eq_true, decide_eq_true_eq, List.all_eq_true] at h0
    exact (Vec.covers_iff hfF.sorted hHF.out.pos).1 h0.2.2
   replace hfF := Lib.hid hfF
   replace hcov := Lib.hid hcov
   replace hfr := Lib.hid hfr
   replace hCf := Lib.hid (fun W hW => hCf.out W hW (by omega))
   obtain ⟨c0, c1, c2⟩ := hL3.c3
   clear c0 c2
   replace q4 := Lib.hid q4
   replace hL3 := Lib.hid hL3
   go_wp2_with fail
   have hS0 : w3.drew.cell? ⟨p, 1, none⟩ = some (.slice oh H.length ch) := c1
   have hb3d := bdr hb3
   (refine wp_region_held_drew (S := (fun W => W.cell? ⟨p, 1, none⟩ = some (.slice oh H.length ch))) (by kernel_rfl) ?_ (fun hHeld => ?_); ((try dsimp only); exact hS0))
   clear hS0 c1
   (refine tkO 0 ?_; refine tkO 2 ?_; refine tkO 3 ?_; refine tkO 4 ?_; refine tkO 5 ?_)
   refine wpAnyH_ready (P := Tryz.prog) (md := .any) (rs := [1, 8]) (by kernel_rfl) (by simp) ?_
   refine held_cons rfl (by kernel_rfl) (fun K hK => ?_) (held_cons rfl (by kernel_rfl) (fun K hK => ?_) AllReadyH.nil)
   ·((go_simp; refine (hCf.out _ hb3d).mono ?_; rintro _ wa ⟨⟨va, rfl, hOa⟩, hba⟩); refine hK.out _ _ ?_ (fun hHeld => ?_); ((try dsimp only); exact cell_below hba hHeld); clear hK K; (try clear hHeld0); (try rename_i hHeld0))
    obtain ⟨oa, ca, rfl⟩ := owns_slice_ hOa
    have hbwa := bch hb3d hba
    refine wpAnyH_ready (P := Tryz.prog) (md := .any) (rs := [6, 8]) (by kernel_rfl) (by simp) ?_
    refine held_cons rfl (by kernel_rfl) (fun K hK => ?_) (held_cons rfl (by kernel_rfl) (fun K hK => ?_) AllReadyH.nil)
    ·((go_simp; refine (hCh.out _ hbwa).mono ?_; rintro _ wb ⟨⟨vb, rfl, hOb⟩, hbb⟩); refine hK.out _ _ ?_ (fun hHeld => ?_); ((try dsimp only); exact cell_below hbb hHeld); clear hK K; (try clear hHeld0); (try rename_i hHeld0))
     obtain ⟨ob, cb, rfl⟩ := owns_slice_ hOb
     have hbwb := bch hbwa hbb
     (refine tkO 7 ?_)
     (refine tdoO 8 (fun K hK => ?_); (go_simp; refine hK.out _ _ ?_ (fun hHeld => ?_); ((try dsimp only); exact cell_alloc hHeld _); clear hK K; (try clear hHeld0); (try rename_i hHeld0)))
     have qz := row_at (w := wb) (g := wb.heap.size) #[.slice none 0 0, .slice none 0 0, .slice none 0 0] 25 rfl
     obtain ⟨b0, b1, b2⟩ := qz.c3
     (have z0 := qz.frozen 0 (by simp); have z1 := qz.frozen 1 (by simp); have z2 := qz.frozen 2 (by simp))
     have hpb : p ≠ wb.heap.size := by have := hbwb.size; omega
     (refine tdoO 9 (fun K hK => ?_); (go_simp; refine hK.out _ _ ?_ (fun hHeld => ?_); ((try dsimp only); exact cell_alloc hHeld0 _); clear hK K; (try clear hHeld0); (try rename_i hHeld0)))
     (refine wpAnyH_done (by kernel_rfl) ?_ _)
     clear b0 b1 b2 z0 z1 z2 hHeld hHeld0 qz
     have q6 := row_at (w := wb) (g := wb.heap.size) #[.slice oa f.length ca, .slice ob H.length cb, .slice none 0 0] 25 rfl
     have hO6 := owns_base ((owns_below hOa hbb).alloc (Obj.cells #[.slice oa f.length ca, .slice ob H.length cb, .slice none 0 0] 25)) (show w.heap.size ≤ w3.drew.heap.size from hb3.size)
     have hP6 := owns_base (hOb.alloc (Obj.cells #[.slice oa f.length ca, .slice ob H.length cb, .slice none 0 0] 25)) hbwa.size
     have hb6 := bal hbwb (Obj.cells #[.slice oa f.length ca, .slice ob H.length cb, .slice none 0 0] 25)
     have q46 := ((Row.below (Row.drew q4.out) hba).below hbb).alloc (Obj.cells #[.slice oa f.length ca, .slice ob H.length cb, .slice none 0 0] 25)
     have hgw : w.heap.size < wb.heap.size := Nat.lt_of_lt_of_le (Row.below (Row.drew q4.out) hba).lt hbb.size
     obtain ⟨g, hge⟩ : ∃ g, g = wb.heap.size := ⟨_, rfl⟩
     rw [← hge] at q6 hgw ⊢
     generalize wb.alloc (Obj.cells #[.slice oa f.length ca, .slice ob H.length cb, .slice none 0 0] 25) = w6 at *
     replace hge := Lib.hid hge
     exact byWLogS1
    ·(go_simp; refine hK.out _ _ ?_ (fun hHeld => ?_); ((try dsimp only); exact cell_alloc hHeld _); clear hK K; (try clear hHeld0); (try rename_i hHeld0))
     have qz := row_at (w := wa) (g := wa.heap.size) #[.slice none 0 0, .slice none 0 0, .slice none 0 0] 25 rfl
     have hbz := bal hbwa (Obj.cells #[.slice none 0 0, .slice none 0 0, .slice none 0 0] 25)
     have hgw : w.heap.size < wa.heap.size := (Row.below (Row.drew q4.out) hba).lt
     (refine tdoO 6 (fun K hK => ?_); ((go_simp; refine (hCh.out _ hbz).mono ?_; rintro _ wb ⟨⟨vb, rfl, hOb⟩, hbb⟩); refine hK.out _ _ ?_ (fun hHeld => ?_); ((try dsimp only); exact cell_below hbb hHeld); clear hK K; (try clear hHeld0); (try rename_i hHeld0)))
     obtain ⟨ob, cb, rfl⟩ := owns_slice_ hOb
     (refine tkO 7 ?_)
     have qz2 := qz.below hbb
     have hbwb := bch hbz hbb
     have hpb : p ≠ wa.heap.size := by omega
     obtain ⟨g, hge⟩ : ∃ g, g = wa.heap.size := ⟨_, rfl⟩
     rw [← hge] at qz2 hgw hpb ⊢
     replace hge := Lib.hid hge
     obtain ⟨b0, b1, b2⟩ := qz2.c3
     (have z0 := qz2.frozen 0 (by simp); have z1 := qz2.frozen 1 (by simp); have z2 := qz2.frozen 2 (by simp))
     (refine tdoO 9 (fun K hK => ?_); (go_simp; refine hK.out _ _ ?_ (fun hHeld => ?_); ((try dsimp only); exact cell_set_ne (cell_set_ne (cell_set_ne hHeld (show p ≠ g from hpb) _) (show p ≠ g from hpb) _) (show p ≠ g from hpb) _); clear hK K; (try clear hHeld0); (try rename_i hHeld0)))
     (refine wpAnyH_done (by kernel_rfl) ?_ _)
     clear b0 b1 b2 z0 z1 z2 hHeld hHeld0
     have q6 := ((qz2.set 0 (.slice oa f.length ca)).set 1 (.slice ob H.length cb)).set 2 (.slice none 0 0)
     have hOx := owns_base (owns_below (hOa.alloc (Obj.cells #[.slice none 0 0, .slice none 0 0, .slice none 0 0] 25)) hbb) (show w.heap.size ≤ w3.drew.heap.size from hb3.size)
     have hPx := owns_base hOb hbz.size
     have nO := row_ne_own qz2 hOx (by decide)
     have nP := row_ne_own qz2 hPx (by decide)
     have hO6 := owns_set_ (owns_set_ (owns_set_ hOx (p := ⟨g, 0, none⟩) nO (.slice oa f.length ca)) (p := ⟨g, 1, none⟩) nO (.slice ob H.length cb)) (p := ⟨g, 2, none⟩) nO (.slice none 0 0)
     have hP6 := owns_set_ (owns_set_ (owns_set_ hPx (p := ⟨g, 0, none⟩) nP (.slice oa f.length ca)) (p := ⟨g, 1, none⟩) nP (.slice ob H.length cb)) (p := ⟨g, 2, none⟩) nP (.slice none 0 0)
     have hb6 := Below.setCell (Below.setCell (Below.setCell hbwb (p := ⟨g, 0, none⟩) (Nat.le_of_lt hgw) (.slice oa f.length ca)) (p := ⟨g, 1, none⟩) (Nat.le_of_lt hgw) (.slice ob H.length cb)) (p := ⟨g, 2, none⟩) (Nat.le_of_lt hgw) (.slice none 0 0)
     have hgr : g ≠ w.heap.size := by omega
     have q46 := (((((Row.below (Row.drew q4.out) hba).alloc (Obj.cells #[.slice none 0 0, .slice none 0 0, .slice none 0 0] 25)).below hbb).other (p := ⟨g, 0, none⟩) hgr (.slice oa f.length ca)).other (p := ⟨g, 1, none⟩) hgr (.slice ob H.length cb)).other (p := ⟨g, 2, none⟩) hgr (.slice none 0 0)
     simp only [List.set_cons_succ, List.set_cons_zero] at q6
     clear hOx hPx nO nP qz2
     generalize (((wb.setCell ⟨g, 0, none⟩ (.slice oa f.length ca)).setCell ⟨g, 1, none⟩ (.slice ob H.length cb)).setCell ⟨g, 2, none⟩ (.slice none 0 0)) = w6 at *
     exact byWLogS1
   ·(go_simp; refine hK.out _ _ ?_ (fun hHeld => ?_); ((try dsimp only); exact cell_alloc hHeld _); clear hK K; (try clear hHeld0); (try rename_i hHeld0))
    have qz := row_at (w := w3.drew) (g := w3.heap.size) #[.slice none 0 0, .slice none 0 0, .slice none 0 0] 25 rfl
    have hbz := bal hb3d (Obj.cells #[.slice none 0 0, .slice none 0 0, .slice none 0 0] 25)
    have hgw : w.heap.size < w3.heap.size := q4.out.lt
    (refine tdoO 1 (fun K hK => ?_); ((go_simp; refine (hCf.out _ hbz).mono ?_; rintro _ wa ⟨⟨va, rfl, hOa⟩, hba⟩); refine hK.out _ _ ?_ (fun hHeld => ?_); ((try dsimp only); exact cell_below hba hHeld); clear hK K; (try clear hHeld0); (try rename_i hHeld0)))
    obtain ⟨oa, ca, rfl⟩ := owns_slice_ hOa
    have hbwa := bch hbz hba
    (refine tdoO 6 (fun K hK => ?_); ((go_simp; refine (hCh.out _ hbwa).mono ?_; rintro _ wb ⟨⟨vb, rfl, hOb⟩, hbb⟩); refine hK.out _ _ ?_ (fun hHeld => ?_); ((try dsimp only); exact cell_below hbb hHeld); clear hK K; (try clear hHeld0); (try rename_i hHeld0)))
    obtain ⟨ob, cb, rfl⟩ := owns_slice_ hOb
    (refine tkO 7 ?_)
    have qz2 := (qz.below hba).below hbb
    have hbwb := bch hbwa hbb
    have hpb : p ≠ w3.heap.size := by omega
    obtain ⟨g, hge⟩ : ∃ g, g = w3.heap.size := ⟨_, rfl⟩
    rw [← hge] at qz2 hgw hpb ⊢
    replace hge := Lib.hid hge
    obtain ⟨b0, b1, b2⟩ := qz2.c3
    (have z0 := qz2.frozen 0 (by simp); have z1 := qz2.frozen 1 (by simp); have z2 := qz2.frozen 2 (by simp))
    (refine tdoO 9 (fun K hK => ?_); (go_simp; refine hK.out _ _ ?_ (fun hHeld => ?_); ((try dsimp only); exact cell_set_ne (cell_set_ne (cell_set_ne hHeld (show p ≠ g from hpb) _) (show p ≠ g from hpb) _) (show p ≠ g from hpb) _); clear hK K; (try clear hHeld0); (try rename_i hHeld0)))
    (refine wpAnyH_done (by kernel_rfl) ?_ _)
    clear b0 b1 b2 z0 z1 z2 hHeld hHeld0
    have q6 := ((qz2.set 0 (.slice oa f.length ca)).set 1 (.slice ob H.length cb)).set 2 (.slice none 0 0)
    have hOx := owns_base (owns_below hOa hbb) hbz.size
    have hPx := owns_base hOb hbwa.size
    have nO := row_ne_own qz2 hOx (by decide)
    have nP := row_ne_own qz2 hPx (by decide)
    have hO6 := owns_set_ (owns_set_ (owns_set_ hOx (p := ⟨g, 0, none⟩) nO (.slice oa f.length ca)) (p := ⟨g, 1, none⟩) nO (.slice ob H.length cb)) (p := ⟨g, 2, none⟩) nO (.slice none 0 0)
    have hP6 := owns_set_ (owns_set_ (owns_set_ hPx (p := ⟨g, 0, none⟩) nP (.slice oa f.length ca)) (p := ⟨g, 1, none⟩) nP (.slice ob H.length cb)) (p := ⟨g, 2, none⟩) nP (.slice none 0 0)
    have hb6 := Below.setCell (Below.setCell (Below.setCell hbwb (p := ⟨g, 0, none⟩) (Nat.le_of_lt hgw) (.slice oa f.length ca)) (p := ⟨g, 1, none⟩) (Nat.le_of_lt hgw) (.slice ob H.length cb)) (p := ⟨g, 2, none⟩) (Nat.le_of_lt hgw) (.slice none 0 0)
    have hgr : g ≠ w.heap.size := by omega
    have q46 := ((((((Row.drew q4.out).alloc (Obj.cells #[.slice none 0 0, .slice none 0 0, .slice none 0 0] 25)).below hba).below hbb).other (p := ⟨g, 0, none⟩) hgr (.slice oa f.length ca)).other (p := ⟨g, 1, none⟩) hgr (.slice ob H.length cb)).other (p := ⟨g, 2, none⟩) hgr (.slice none 0 0)
    simp only [List.set_cons_succ, List.set_cons_zero] at q6
    clear hOx hPx nO nP qz2
    generalize (((wb.setCell ⟨g, 0, none⟩ (.slice oa f.length ca)).setCell ⟨g, 1, none⟩ (.slice ob H.length cb)).setCell ⟨g, 2, none⟩ (.slice none 0 0)) = w6 at *
    exact byWLogS1
 ·obtain ⟨te, xe, rfl⟩ := errNe hv2 hfr
  have hT := Lib.hid (tell_err (.iface te xe) _ w2 (hL.below hb2) hv2)
  replace hfr := Lib.hid hfr
  clear hv2
  go_wp2_with fail
  refine hT.out.mono ?_
  rintro _ w3 ⟨rfl, hb23⟩
  have hb3 := bch hb2 hb23
  have q4 := q2.below hb23
  have q9 := ((q4.set 0 (.slice none 0 0)).set 1 (.slice none 0 0)).set 2 (.slice none 0 0)
  have hb9 := Below.setCell (Below.setCell (Below.setCell hb3 (p := ⟨w.heap.size, 0, none⟩) (Nat.le_refl _) (.slice none 0 0)) (p := ⟨w.heap.size, 1, none⟩) (Nat.le_refl _) (.slice none 0 0)) (p := ⟨w.heap.size, 2, none⟩) (Nat.le_refl _) (.slice none 0 0)
  simp only [List.set_cons_succ, List.set_cons_zero] at q9
  replace q9 := Lib.hid q9
  replace hb9 := Lib.hid hb9
  obtain ⟨b0, b1, b2⟩ := q4.c3
  (have z0 := q4.frozen 0 (by simp); have z1 := q4.frozen 1 (by simp); have z2 := q4.frozen 2 (by simp))
  clear hT q2
  go_wp2
  (try simp only [Exit.inBlock, Exit.then])
  obtain ⟨fr, hg, -⟩ := q9.out
  refine bodyPost_ret (v := .tuple #[.agg #[.slice none 0 0, .slice none 0 0, .slice none 0 0], errV (Vec.right f).code]) (results_row_tmp Tryz.results27 _ _ w.heap.size 25 _ fr _ _ rfl hg Tryz.underlying25 rfl hsz.out rfl) rfl ?_
  exact since_bad hfr.out hb9.out
end Go.Proofs.YtognjohloobliaaGreatDoor
