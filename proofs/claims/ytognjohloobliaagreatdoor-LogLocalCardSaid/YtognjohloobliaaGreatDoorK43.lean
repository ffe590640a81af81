/- The walks of old's taker. -/
import Derived.Test.YtognjohloobliaaGreatDoorK25
import Derived.Test.YtognjohloobliaaGreatDoorK42
import Derived.Test.YtognjohloobliaaGreatDoorK02
namespace Go.Proofs.YtognjohloobliaaGreatDoor
open Go.RowKit
set_option linter.unusedVariables false
set_option linter.unusedSimpArgs false
/-- The taker at q has those bytes left; whether something was wrong. -/
def TkIs (w : World) (q : Nat) (t : Fst.Tk) : Prop := ∃ (s : ByteArray) (E : Value), Row w q 166 [.string s, E] ∧ s.data.toList = t.s ∧ s.size ≤ 1000000 ∧ (if t.e = true then ∃ c : Nat, E = errV c else E = .nilIface)
theorem TkIs.below {w w' : World} {q : Nat} {t : Fst.Tk} (h : TkIs w q t) (hb : Below w.heap.size w w') : TkIs w' q t := by
  obtain ⟨s, E, h1, h2⟩ := h
  exact ⟨s, E, h1.below hb, h2⟩
theorem TkIs.only {S : Nat → Prop} {w w' : World} {q : Nat} {t : Fst.Tk} (h : TkIs w q t) (ho : Only S w w') (hn : ¬ S q) : TkIs w' q t := by
  obtain ⟨s, E, h1, h2⟩ := h
  exact ⟨s, E, h1.only ho hn, h2⟩
theorem TkIs.drew {w : World} {q : Nat} {t : Fst.Tk} (h : TkIs w q t) : TkIs w.drew q t := h
theorem TkIs.lt {w : World} {q : Nat} {t : Fst.Tk} (h : TkIs w q t) : q < w.heap.size := by
  obtain ⟨s, E, h1, h2⟩ := h
  exact h1.lt
theorem TkIs.other {w : World} {q : Nat} {t : Fst.Tk} (h : TkIs w q t) {p : Addr} (hp : p.block ≠ q) (v : Value) : TkIs (w.setCell p v) q t := by
  obtain ⟨s, E, h1, h2⟩ := h
  exact ⟨s, E, h1.other hp v, h2⟩
theorem TkIs.grown {w w' : World} {q : Nat} {t : Fst.Tk} (h : TkIs w q t) {row : Option Nat} (hg : w.grownBy w' row) (hne : row ≠ some q) : TkIs w' q t := by
  obtain ⟨s, E, h1, h2⟩ := h
  exact ⟨s, E, h1.grown hg hne, h2⟩
/-- Behind both stores. -/
theorem tk_store {w0 w : World} {q : Nat} {cs : List Value} {s : ByteArray} {E : Value} {t : Fst.Tk} (hR : Row w q 166 cs) (h2 : cs.length = 2) (hB : Below w0.heap.size w0 w) (hs : s.data.toList = t.s) (hz : s.size ≤ 1000000) (hE : if t.e = true then ∃ c : Nat, E = errV c else E = .nilIface) :
    TkIs ((w.setCell ⟨q, 0, none⟩ (.string s)).setCell ⟨q, 1, none⟩ E) q t ∧ Only (fun k => k = q) w0 ((w.setCell ⟨q, 0, none⟩ (.string s)).setCell ⟨q, 1, none⟩ E) := by
  refine ⟨⟨s, E, ?_, hs, hz, hE⟩, ?_⟩
  · have := (hR.set 0 (.string s)).set 1 E
    match cs, h2 with
    | [a, b], _ => exact this
  · exact Only.set (S := fun k => k = q) (Only.set (S := fun k => k = q) (Only.of_below _ hB) (p := ⟨q, 0, none⟩) (.inl rfl) (.string s)) (p := ⟨q, 1, none⟩) (.inl rfl) E
theorem extract_len (s : ByteArray) (k : Nat) : (s.extract k s.size).size ≤ s.size := by simp only [ByteArray.size_extract]; omega
set_option maxHeartbeats 2000000 in
set_option maxRecDepth 20000 in
theorem tk_number (q : Nat) (t : Fst.Tk) (most : Int) (w : World) (hm : most ≤ 9223372036854775807) (hq : TkIs w q t) :
    Calls Tryz.prog 96 #[.pointer (some ⟨q, 0, none⟩), .int .i64 most] w fun e w' => (e = .returned (.int .i64 (Fst.num t most).1) ∧ TkIs w' q (Fst.num t most).2) ∧ Only (fun k => k = q) w w' := by
  obtain ⟨s, E, hR, hs, hz, hE⟩ := hq
  obtain ⟨c0, c1⟩ := hR.c2
  (have f0 := hR.frozen 0 (by simp); have f1 := hR.frozen 1 (by simp))
  by_cases he : t.e = true
  · have hn : Fst.num t most = (0, t) := by unfold Fst.num; rw [if_pos he]
    have hq0 : TkIs w q t := ⟨s, E, hR, hs, hz, hE⟩
    rw [if_pos he] at hE
    obtain ⟨c, rfl⟩ := hE
    rw [hn]
    replace hq0 := Lib.hid hq0
    clear hn hR hs
    unfold errV at c1
    go_enter Tryz.func96, Tryz.ntmps96
    go_wp2
    go_ret
    exact ⟨⟨rfl, hq0.out⟩, Only.refl _ _⟩
  · rw [if_neg he] at hE
    subst hE
    have hV := fun W => vary_int s most W (by unfold maxLen; omega) hm
    have hn : Fst.num t most = match Vary.int s.data.toList most with
      | .ok n k => (n, ⟨t.s.drop k, false⟩)
      | .bad _ => (0, ⟨t.s, true⟩) := by unfold Fst.num; rw [if_neg he, hs]; rfl
    rw [hn]
    clear hn
    cases hi : Vary.int s.data.toList most with
    | bad c =>
      rw [hi] at hV
      have hvb : intVal (.bad c) = .tuple #[.int .i64 0, .int .i64 0, errV c] := rfl
      rw [hvb] at hV
      have hfin := tk_store (s := s.extract 0 s.size) (E := errV c) (t := ⟨t.s, true⟩) (w0 := w) hR rfl (Below.refl _ _) (by rw [extract_drop, List.drop_zero]; exact hs) (Nat.le_trans (extract_len _ _) hz) (by rw [if_pos rfl]; exact ⟨c, rfl⟩)
      rw [show s.extract 0 s.size = s by apply ba_ext; rw [extract_drop, List.drop_zero]] at hfin
      unfold errV at hfin hV
      replace hfin := Lib.hid hfin
      replace hV := Lib.hid hV
      clear hvb hi hR hs
      go_enter Tryz.func96, Tryz.ntmps96
      go_wp2_with fail
      refine (hV.out _).mono ?_
      rintro _ w1 ⟨rfl, rfl⟩
      go_wp2
      go_ret
      exact ⟨⟨rfl, hfin.out.1⟩, hfin.out.2⟩
    | ok n k =>
      obtain ⟨k1, k2, k3⟩ := int_le hi
      rw [show s.data.toList.length = s.size from Array.length_toList] at k2
      rw [hi] at hV
      have hvb : intVal (.ok n k) = .tuple #[.int .i64 n, .int .i64 k, .nilIface] := rfl
      rw [hvb] at hV
      have hfin := tk_store (s := s.extract k s.size) (E := .nilIface) (t := ⟨t.s.drop k, false⟩) (w0 := w) hR rfl (Below.refl _ _) (by rw [extract_drop]; show List.drop k _ = List.drop k _; rw [hs]) (Nat.le_trans (extract_len _ _) hz) (by rw [if_neg (by simp)])
      have hk2 : (k : Int) ≤ (s.size : Int) := by omega
      replace hfin := Lib.hid hfin
      replace hV := Lib.hid hV
      clear hvb hi hR hs
      go_enter Tryz.func96, Tryz.ntmps96
      go_wp2_with fail
      refine (hV.out _).mono ?_
      rintro _ w1 ⟨rfl, rfl⟩
      go_wp2
      go_ret
      exact ⟨⟨rfl, hfin.out.1⟩, hfin.out.2⟩
set_option maxHeartbeats 4000000 in
set_option maxRecDepth 20000 in
theorem tk_vector (q : Nat) (t : Fst.Tk) (w : World) (hq : TkIs w q t) :
    Calls Tryz.prog 95 #[.pointer (some ⟨q, 0, none⟩)] w fun e w' => (∃ v, e = .returned v ∧ w'.ownsRow w.heap.size 45 2 v (Fst.vec t).1.length ((Fst.vec t).1.flatMap entCells) ∧ TkIs w' q (Fst.vec t).2) ∧ Only (fun k => k = q) w w' := by
  have hlt := hq.lt
  have hN := fun (t : Fst.Tk) (most : Int) W (hW : TkIs W q t) (hm : most ≤ 9223372036854775807) => tk_number q t most W hm hW
  have h1 := hN t 16 w hq (by omega)
  have hn16 := Fst.num_le t 16 (by omega)
  obtain ⟨R, hR⟩ : ∃ R, R = Fst.vec t := ⟨_, rfl⟩
  rw [← hR]
  unfold Fst.vec at hR
  generalize (Fst.num t 16).1 = n at *
  generalize (Fst.num t 16).2 = t1 at *
  replace hN := Lib.hid hN
  replace hR := Lib.hid hR
  go_enter Tryz.func95, Tryz.ntmps95
  go_wp2_with fail
  refine h1.mono ?_
  rintro _ w1 ⟨⟨rfl, hq1⟩, hO1⟩
  go_wp2
  go_loopw [3, 7] (fun o i wr => ∃ (k : Nat) (acc : List Vec.Entry) (tk : Fst.Tk), k ≤ n ∧ i = .int .i64 k ∧ acc.length = k ∧ Hid (acc ++ (Fst.ents (n - k) tk).1 = R.1 ∧ (Fst.ents (n - k) tk).2 = R.2) ∧ wr.ownsRow w.heap.size 45 2 o k (acc.flatMap entCells) ∧ TkIs wr q tk ∧ Only (fun k => k = q) w wr) (fun _ i _ => n - (intOf i).toNat)
  case atStart => exact ⟨0, [], t1, by omega, rfl, rfl, Lib.hid (by rw [hR.out]; exact ⟨rfl, rfl⟩), World.ownsRow_nil _ _ _ _, hq1, hO1⟩
  case round =>
    obtain ⟨k, acc, tk, hk, rfl, hal, hrest, hown, hqr, hOr⟩ := hrel
    by_cases hlt2 : k < n
    · have hnk : n - k = (n - (k + 1)) + 1 := by omega
      rw [hnk, Fst.ents] at hrest
      have hA := hN.out tk 200 wr hqr (by omega)
      have hrb := Fst.num_le tk 200 (by omega)
      have hmb := Fst.num_le (Fst.num tk 200).2 1099511627776 (by omega)
      have hB := fun W hW => hN.out (Fst.num tk 200).2 1099511627776 W hW (by omega)
      generalize (Fst.num tk 200).1 = r at *
      generalize (Fst.num tk 200).2 = tk1 at *
      generalize (Fst.num tk1 1099511627776).1 = m at *
      generalize (Fst.num tk1 1099511627776).2 = tk2 at *
      have hfr := Lib.hid (owns_fresh hown)
      replace hB := Lib.hid hB
      go_wp2_with fail
      refine hA.mono ?_
      rintro _ w2 ⟨⟨rfl, hq2⟩, hO2⟩
      have hw2 := hO2.size
      have hsr := hOr.size
      have hne : u3.ownBlock ≠ some w2.heap.size := owns_lt (owns_only hown hO2 (fun j hj e => by have := hfr.out j hj; omega)) _ (Nat.le_refl _)
      have hown2 := (owns_only hown hO2 (fun j hj e => by have := hfr.out j hj; omega)).alloc (.cells #[.int .i64 r, .int .i64 0] 45)
      have hq3 := hq2.below (bal (Below.refl _ w2) (.cells #[.int .i64 r, .int .i64 0] 45))
      have qx := row_alloc w2 #[.int .i64 r, .int .i64 0] 45
      have hO3 := (hOr.trans hO2).alloc (.cells #[.int .i64 r, .int .i64 0] 45)
      have hC := Lib.hid (hB.out _ hq3)
      replace qx := Lib.hid qx
      replace hown2 := Lib.hid hown2
      replace hO3 := Lib.hid hO3
      clear hown hqr hOr hA hO2 hq2 hq3
      go_wp2_with fail
      refine hC.out.mono ?_
      rintro _ w3 ⟨⟨rfl, hq3⟩, hO4⟩
      have hw3 := hO4.size
      have hgb : w2.heap.size < (w2.alloc (.cells #[.int .i64 r, .int .i64 0] 45)).heap.size := by simp
      replace qx := qx.out.only hO4 (by omega)
      have hown3 := owns_only hown2.out hO4 (fun j hj e => by have := hfr.out j hj; omega)
      obtain ⟨c0, c1⟩ := qx.c2
      (have f1 := qx.frozen 1 (by simp))
      have hown4 := owns_set hown3 (p := ⟨w2.heap.size, 1, none⟩) hne (.int .i64 m)
      have hq4 := hq3.other (p := ⟨w2.heap.size, 1, none⟩) (by show w2.heap.size ≠ q; omega) (.int .i64 m)
      have hO5 := Only.set (S := fun k => k = q) (hO3.out.trans hO4) (p := ⟨w2.heap.size, 1, none⟩) (.inr (by show w.heap.size ≤ w2.heap.size; omega)) (.int .i64 m)
      have hsz := hO5.size
      have hgz : w3.heap.size = (w3.setCell ⟨w2.heap.size, 1, none⟩ (.int .i64 m)).heap.size := by simp
      replace hgz := Lib.hid hgz
      replace hq4 := Lib.hid hq4
      replace hO5 := Lib.hid hO5
      clear hown2 hO3 hown3 hC hO4 qx hq3
      go_wp2_with (at_builtin; go_must (refine app_one_g rfl _ _ 22 45 rfl (w.heap.size) (.agg #[.int .i64 0, .int .i64 0]) 2 16 Tryz.underlying22 (by kernel_rfl) rfl _ _ _ rfl hown4 _ _ hgz.out rfl rfl ?_ (by omega) (by omega) hsz ?_))
      · first | exact ⟨rfl, rfl⟩ | rfl | simp [Value.oneCell']
      intro v5 w5 hown5 hg5 _ _ hb5
      have hown6 := own_snoc (x := ⟨(r : Int), (m : Int)⟩) (by rw [hal]; exact hown5)
      have hq6 := hq4.out.grown hg5 (fun e => by have := hfr.out _ e; omega)
      have hO6 := hO5.out.grown hg5 (fun j hj => .inr (hfr.out j hj))
      replace hown6 := Lib.hid hown6
      replace hq6 := Lib.hid hq6
      replace hO6 := Lib.hid hO6
      clear hown5 hown4 hg5 hb5 hq4 hO5
      go_wp2
      go_roundw
      case rel => exact ⟨k + 1, acc ++ [⟨(r : Int), (m : Int)⟩], tk2, by omega, by go_num, by rw [List.length_append, hal]; rfl, Lib.hid (by rw [← hrest.out.1, ← hrest.out.2, List.append_assoc]; exact ⟨rfl, rfl⟩), by have := hown6.out; rw [List.length_append, hal] at this; exact this, hq6.out, hO6.out⟩
      case measure => simp [intOf]; omega
    · obtain rfl : n = k := by omega
      rw [Nat.sub_self, Fst.ents, List.append_nil] at hrest
      have hl : R.1.length = n := by rw [← hrest.out.1]; exact hal
      rw [hrest.out.1] at hown
      have hqr : TkIs wr q R.2 := by rw [← hrest.out.2]; exact hqr
      replace hown := Lib.hid hown
      replace hqr := Lib.hid hqr
      go_wp2
      go_ret
      exact ⟨⟨_, rfl, by (try rw [hl]); exact hown.out, hqr.out⟩, hOr⟩
end Go.Proofs.YtognjohloobliaaGreatDoor
/- The walk of the taker's write. -/
namespace Go.Proofs.YtognjohloobliaaGreatDoor
open Go.RowKit
set_option linter.unusedVariables false
set_option linter.unusedSimpArgs false
theorem row_set6 {w : World} {g : Nat} {e : TypeId} {cs : List Value} (h : Row w g e cs) (h6 : cs.length = 6) (x0 x1 x2 x3 x4 x5 : Value) :
    Row ((((((w.setCell ⟨g, 0, none⟩ x0).setCell ⟨g, 1, none⟩ x1).setCell ⟨g, 2, none⟩ x2).setCell ⟨g, 3, none⟩ x3).setCell ⟨g, 4, none⟩ x4).setCell ⟨g, 5, none⟩ x5) g e [x0, x1, x2, x3, x4, x5] := by
  have := (((((h.set 0 x0).set 1 x1).set 2 x2).set 3 x3).set 4 x4).set 5 x5
  match cs, h6 with
  | [a, b, c, d, f, k], _ => exact this
theorem only_set6 {S : Nat → Prop} {w0 w : World} (h : Only S w0 w) {g : Nat} (hg : S g ∨ w0.heap.size ≤ g) (x0 x1 x2 x3 x4 x5 : Value) :
    Only S w0 ((((((w.setCell ⟨g, 0, none⟩ x0).setCell ⟨g, 1, none⟩ x1).setCell ⟨g, 2, none⟩ x2).setCell ⟨g, 3, none⟩ x3).setCell ⟨g, 4, none⟩ x4).setCell ⟨g, 5, none⟩ x5) :=
  (((((h.set (p := ⟨g, 0, none⟩) hg x0).set (p := ⟨g, 1, none⟩) hg x1).set (p := ⟨g, 2, none⟩) hg x2).set (p := ⟨g, 3, none⟩) hg x3).set (p := ⟨g, 4, none⟩) hg x4).set (p := ⟨g, 5, none⟩) hg x5
theorem tk_set6 {w : World} {q g : Nat} {t : Fst.Tk} (h : TkIs w q t) (hne : g ≠ q) (x0 x1 x2 x3 x4 x5 : Value) :
    TkIs ((((((w.setCell ⟨g, 0, none⟩ x0).setCell ⟨g, 1, none⟩ x1).setCell ⟨g, 2, none⟩ x2).setCell ⟨g, 3, none⟩ x3).setCell ⟨g, 4, none⟩ x4).setCell ⟨g, 5, none⟩ x5) q t :=
  (((((h.other (p := ⟨g, 0, none⟩) hne x0).other (p := ⟨g, 1, none⟩) hne x1).other (p := ⟨g, 2, none⟩) hne x2).other (p := ⟨g, 3, none⟩) hne x3).other (p := ⟨g, 4, none⟩) hne x4).other (p := ⟨g, 5, none⟩) hne x5
theorem Row.other6 {w : World} {q g' : Nat} {e : TypeId} {cs : List Value} (h : Row w q e cs) (hne : g' ≠ q) (x0 x1 x2 x3 x4 x5 : Value) :
    Row ((((((w.setCell ⟨g', 0, none⟩ x0).setCell ⟨g', 1, none⟩ x1).setCell ⟨g', 2, none⟩ x2).setCell ⟨g', 3, none⟩ x3).setCell ⟨g', 4, none⟩ x4).setCell ⟨g', 5, none⟩ x5) q e cs :=
  (((((h.other (p := ⟨g', 0, none⟩) hne x0).other (p := ⟨g', 1, none⟩) hne x1).other (p := ⟨g', 2, none⟩) hne x2).other (p := ⟨g', 3, none⟩) hne x3).other (p := ⟨g', 4, none⟩) hne x4).other (p := ⟨g', 5, none⟩) hne x5
/-- Two blocks alone have changed, and new ones are there. -/
def OT (q g : Nat) (w W : World) : Prop := Only (fun j => j = q ∨ j = g) w W
theorem OT.refl' (q g : Nat) (w : World) : OT q g w w.drew := (Only.refl _ w).drew
theorem OT.chain {q g : Nat} {w W W' : World} (h : OT q g w W) (hb : Below W.heap.size W W') : OT q g w W' := Only.chain h hb
def TkRet (w0 : World) (q : Nat) (r : Wr × Fst.Tk) (e : Ending) (w' : World) : Prop := (e = .returned (wrVal r.1) ∧ TkIs w' q r.2) ∧ Only (fun k => k = q) w0 w'
theorem wrt_ret (w0 : World) (q : Nat) (r : Wr × Fst.Tk) (a : Act) (w : World) (n0 : Nat) (x0 x1 x2 x3 x4 x5 : Value) (cs : List Value) (hd : a.defers = []) (h2 : a.tmps[2]? = some (.pointer (some ⟨n0, 0, none⟩)))
    (hb : Row w n0 33 cs) (h6 : cs.length = 6) (hn : w0.heap.size ≤ n0) (hne : n0 ≠ q) (hx : wrVal r.1 = .agg #[x0, x1, x2, x3, x4, x5]) (hq : TkIs w q r.2) (hO : Only (fun k => k = q) w0 w) :
    bodyPost Tryz.prog Tryz.f97 (TkRet w0 q r) .ret a ((((((w.setCell ⟨n0, 0, none⟩ x0).setCell ⟨n0, 1, none⟩ x1).setCell ⟨n0, 2, none⟩ x2).setCell ⟨n0, 3, none⟩ x3).setCell ⟨n0, 4, none⟩ x4).setCell ⟨n0, 5, none⟩ x5) := by
  have hb := row_set6 hb h6 x0 x1 x2 x3 x4 x5
  have hR : TkRet w0 q r (.returned (.agg #[x0, x1, x2, x3, x4, x5])) _ := ⟨⟨by rw [hx], tk_set6 hq hne x0 x1 x2 x3 x4 x5⟩, only_set6 hO (.inr hn) x0 x1 x2 x3 x4 x5⟩
  generalize (((((w.setCell ⟨n0, 0, none⟩ x0).setCell ⟨n0, 1, none⟩ x1).setCell ⟨n0, 2, none⟩ x2).setCell ⟨n0, 3, none⟩ x3).setCell ⟨n0, 4, none⟩ x4).setCell ⟨n0, 5, none⟩ x5 = W at *
  obtain ⟨c0, c1, c2, c3, c4, c5⟩ := hb.c6
  simp [bodyPost, results, Tryz.results97, go_sem, h2, c0, c1, c2, c3, c4, c5, hd]
  exact hR
theorem wrt_ret0 (w0 : World) (q : Nat) (r : Wr × Fst.Tk) (a : Act) (W : World) (n0 : Nat) (x0 x1 x2 x3 x4 x5 : Value) (hd : a.defers = []) (h2 : a.tmps[2]? = some (.pointer (some ⟨n0, 0, none⟩)))
    (hb : Row W n0 33 [x0, x1, x2, x3, x4, x5]) (hx : wrVal r.1 = .agg #[x0, x1, x2, x3, x4, x5]) (hq : TkIs W q r.2) (hO : Only (fun k => k = q) w0 W) :
    bodyPost Tryz.prog Tryz.f97 (TkRet w0 q r) .ret a W := by
  have hR : TkRet w0 q r (.returned (.agg #[x0, x1, x2, x3, x4, x5])) W := ⟨⟨by rw [hx], hq⟩, hO⟩
  obtain ⟨c0, c1, c2, c3, c4, c5⟩ := hb.c6
  simp [bodyPost, results, Tryz.results97, go_sem, h2, c0, c1, c2, c3, c4, c5, hd]
  exact hR
theorem byWOldA2 {p : Prop} (h : p := by
  clear c0 c1 c2 c3 c4 c5 d0
  (refine tdoO 6 (fun K hK => ?_); ((go_simp; refine (hF.out _ (bdr hB7.out)).mono ?_; rintro _ wn ⟨rfl, hbn⟩); refine hK.out _ _ ?_ (fun hHeld => ?_); ((try dsimp only); exact OT.chain hHeld hbn); clear hK K; (try clear hHeld0); (try rename_i hHeld0)))
  (refine tkO 7 ?_; refine tkO 8 ?_; refine tkO 9 ?_; refine tkO 10 ?_)
  have hwn := hbn.size
  have RN := (Row.drew R7.out).below hbn
  have xN := (Row.drew x7.out).below hbn
  have qN := (Row.drew q7.out).below hbn
  obtain ⟨d0, d1⟩ := RN.c2
  (have f0 := RN.frozen 0 (by simp); have f1 := RN.frozen 1 (by simp))
  obtain ⟨c0, c1, c2, c3, c4, c5⟩ := xN.c6
  (have h0 := xN.frozen 0 (by simp); have h1 := xN.frozen 1 (by simp); have h2 := xN.frozen 2 (by simp); have h3 := xN.frozen 3 (by simp); have h4 := xN.frozen 4 (by simp); have h5 := xN.frozen 5 (by simp))
  obtain ⟨z0, z1, z2, z3, z4, z5⟩ := qN.c6
  (have y0 := qN.frozen 0 (by simp); have y1 := qN.frozen 1 (by simp); have y2 := qN.frozen 2 (by simp); have y3 := qN.frozen 3 (by simp); have y4 := qN.frozen 4 (by simp); have y5 := qN.frozen 5 (by simp))
  have RF := (RN.other6 (g' := w.heap.size + 1) hxq (.int .i64 x.t) (.int .i64 x.r) (.int .i64 x.k) (.string ⟨x.key.toArray⟩) (.string ⟨x.val.toArray⟩) (.int .i64 x.n)).set 1 (.nilIface)
  have xF := (row_set6 xN rfl (.int .i64 x.t) (.int .i64 x.r) (.int .i64 x.k) (.string ⟨x.key.toArray⟩) (.string ⟨x.val.toArray⟩) (.int .i64 x.n)).other (p := ⟨q, 1, none⟩) hqx (.nilIface)
  have qF := (qN.other6 (g' := w.heap.size + 1) (by omega) (.int .i64 x.t) (.int .i64 x.r) (.int .i64 x.k) (.string ⟨x.key.toArray⟩) (.string ⟨x.val.toArray⟩) (.int .i64 x.n)).other (p := ⟨q, 1, none⟩) (by show q ≠ w.heap.size; omega) (.nilIface)
  replace RF := Lib.hid RF
  replace xF := Lib.hid xF
  replace qF := Lib.hid qF
  (refine tdoO 11 (fun K hK => ?_); (go_simp; refine hK.out _ _ ?_ (fun hHeld => ?_); ((try dsimp only); exact only_set6 (S := fun j => j = q ∨ j = w.heap.size + 1) hHeld (.inl (.inr rfl)) _ _ _ _ _ _); clear hK K; (try clear hHeld0); (try rename_i hHeld0)))
  (refine tdoO 12 (fun K hK => ?_); (go_simp; refine hK.out _ _ ?_ (fun hHeld => ?_); ((try dsimp only); exact hHeld); clear hK K; (try clear hHeld0); (try rename_i hHeld0)))
  (refine tkO 13 ?_; refine tkO 14 ?_)
  (refine tdoO 15 (fun K hK => ?_); (go_simp; refine hK.out _ _ ?_ (fun hHeld => ?_); ((try dsimp only); exact Only.set (S := fun j => j = q ∨ j = w.heap.size + 1) hHeld (p := ⟨q, 1, none⟩) (.inl (.inl rfl)) _); clear hK K; (try clear hHeld0); (try rename_i hHeld0)))
  (refine wpAnyH_done (by kernel_rfl) ?_ _)
  have hOf := hHeld
  clear hHeld
  clear d0 d1 f0 f1 c0 c1 c2 c3 c4 c5 h0 h1 h2 h3 h4 h5 z0 z1 z2 z3 z4 z5 y0 y1 y2 y3 y4 y5
  generalize (((((((wn.setCell ⟨w.heap.size + 1, 0, none⟩ (.int .i64 x.t)).setCell ⟨w.heap.size + 1, 1, none⟩ (.int .i64 x.r)).setCell ⟨w.heap.size + 1, 2, none⟩ (.int .i64 x.k)).setCell ⟨w.heap.size + 1, 3, none⟩ (.string ⟨x.key.toArray⟩)).setCell ⟨w.heap.size + 1, 4, none⟩ (.string ⟨x.val.toArray⟩)).setCell ⟨w.heap.size + 1, 5, none⟩ (.int .i64 x.n)).setCell ⟨q, 1, none⟩ (.nilIface)) = wf at *
  have R8 : Row wf q 166 [.string s3, .nilIface] := RF.out
  have x8 : Row wf (w.heap.size + 1) 33 [.int .i64 x.t, .int .i64 x.r, .int .i64 x.k, .string ⟨x.key.toArray⟩, .string ⟨x.val.toArray⟩, .int .i64 x.n] := xF.out
  have q8 := qF.out
  obtain ⟨d0, d1⟩ := R8.c2
  (have f0 := R8.frozen 0 (by simp); have f1 := R8.frozen 1 (by simp))
  obtain ⟨c0, c1, c2, c3, c4, c5⟩ := x8.c6
  obtain ⟨z0, z1, z2, z3, z4, z5⟩ := q8.c6
  (have y0 := q8.frozen 0 (by simp); have y1 := q8.frozen 1 (by simp); have y2 := q8.frozen 2 (by simp); have y3 := q8.frozen 3 (by simp); have y4 := q8.frozen 4 (by simp); have y5 := q8.frozen 5 (by simp))
  have q9 := Lib.hid (q8.other (p := ⟨q, 0, none⟩) (by show q ≠ w.heap.size; omega) (.string (s3.extract j s3.size)))
  have t9 : TkIs (wf.setCell ⟨q, 0, none⟩ (.string (s3.extract j s3.size))) q ⟨s3.data.toList.drop j, false⟩ := ⟨s3.extract j s3.size, _, R8.set 0 _, extract_drop _ _, Nat.le_trans (extract_len _ _) hz3, by rw [if_neg (by simp)]⟩
  have hO10 : Only (fun k => k = q) w wf := ((hO7.out.mono (S' := fun j => j = q ∨ j = w.heap.size + 1) (fun j _ h => .inl h)).trans hOf).mono fun j hj hj2 => by
    rcases hj2 with h | h
    · exact h
    · omega
  have O9 := Lib.hid (Only.set (S := fun k => k = q) hO10 (p := ⟨q, 0, none⟩) (.inl rfl) (.string (s3.extract j s3.size)))
  replace t9 := Lib.hid t9
  clear R8 x8 q8 RF xF qF hOf RN xN qN hbn
  go_wp2
  rw [hRES.out]
  have hzv : wrVal (x, (⟨s3.data.toList.drop j, false⟩ : Fst.Tk)).1 = .agg #[.int .i64 x.t, .int .i64 x.r, .int .i64 x.k, .string ⟨x.key.toArray⟩, .string ⟨x.val.toArray⟩, .int .i64 x.n] := rfl
  with_reducible exact wrt_ret (x0 := .int .i64 x.t) (x1 := .int .i64 x.r) (x2 := .int .i64 x.k) (x3 := .string ⟨x.key.toArray⟩) (x4 := .string ⟨x.val.toArray⟩) (x5 := .int .i64 x.n) w q _ _ _ _ _ rfl rfl q9.out rfl (Nat.le_refl _) (by omega) hzv t9.out O9.out) : p := h
theorem byWOldA3 {p : Prop} (h : p := by
  clear c0 c1 c2 c3 c4 c5 d0
  (refine tdoO 6 (fun K hK => ?_); ((go_simp; refine (hF.out _ (bdr hB7.out)).mono ?_; rintro _ wn ⟨rfl, hbn⟩); refine hK.out _ _ ?_ (fun hHeld => ?_); ((try dsimp only); exact OT.chain hHeld hbn); clear hK K; (try clear hHeld0); (try rename_i hHeld0)))
  (refine tkO 7 ?_; refine tkO 8 ?_; refine tkO 9 ?_; refine tkO 10 ?_)
  have hwn := hbn.size
  have RN := (Row.drew R7.out).below hbn
  have xN := (Row.drew x7.out).below hbn
  have qN := (Row.drew q7.out).below hbn
  obtain ⟨d0, d1⟩ := RN.c2
  (have f0 := RN.frozen 0 (by simp); have f1 := RN.frozen 1 (by simp))
  obtain ⟨c0, c1, c2, c3, c4, c5⟩ := xN.c6
  (have h0 := xN.frozen 0 (by simp); have h1 := xN.frozen 1 (by simp); have h2 := xN.frozen 2 (by simp); have h3 := xN.frozen 3 (by simp); have h4 := xN.frozen 4 (by simp); have h5 := xN.frozen 5 (by simp))
  obtain ⟨z0, z1, z2, z3, z4, z5⟩ := qN.c6
  (have y0 := qN.frozen 0 (by simp); have y1 := qN.frozen 1 (by simp); have y2 := qN.frozen 2 (by simp); have y3 := qN.frozen 3 (by simp); have y4 := qN.frozen 4 (by simp); have y5 := qN.frozen 5 (by simp))
  have RF := (RN.other6 (g' := w.heap.size + 1) hxq (.int .i64 0) (.int .i64 0) (.int .i64 0) (.string ⟨#[]⟩) (.string ⟨#[]⟩) (.int .i64 0)).set 1 (.iface 67 (.int .i64 er2))
  have xF := (row_set6 xN rfl (.int .i64 0) (.int .i64 0) (.int .i64 0) (.string ⟨#[]⟩) (.string ⟨#[]⟩) (.int .i64 0)).other (p := ⟨q, 1, none⟩) hqx (.iface 67 (.int .i64 er2))
  have qF := (qN.other6 (g' := w.heap.size + 1) (by omega) (.int .i64 0) (.int .i64 0) (.int .i64 0) (.string ⟨#[]⟩) (.string ⟨#[]⟩) (.int .i64 0)).other (p := ⟨q, 1, none⟩) (by show q ≠ w.heap.size; omega) (.iface 67 (.int .i64 er2))
  replace RF := Lib.hid RF
  replace xF := Lib.hid xF
  replace qF := Lib.hid qF
  (refine tdoO 11 (fun K hK => ?_); (go_simp; refine hK.out _ _ ?_ (fun hHeld => ?_); ((try dsimp only); exact only_set6 (S := fun j => j = q ∨ j = w.heap.size + 1) hHeld (.inl (.inr rfl)) _ _ _ _ _ _); clear hK K; (try clear hHeld0); (try rename_i hHeld0)))
  (refine tdoO 12 (fun K hK => ?_); (go_simp; refine hK.out _ _ ?_ (fun hHeld => ?_); ((try dsimp only); exact hHeld); clear hK K; (try clear hHeld0); (try rename_i hHeld0)))
  (refine tkO 13 ?_; refine tkO 14 ?_)
  (refine tdoO 15 (fun K hK => ?_); (go_simp; refine hK.out _ _ ?_ (fun hHeld => ?_); ((try dsimp only); exact Only.set (S := fun j => j = q ∨ j = w.heap.size + 1) hHeld (p := ⟨q, 1, none⟩) (.inl (.inl rfl)) _); clear hK K; (try clear hHeld0); (try rename_i hHeld0)))
  (refine wpAnyH_done (by kernel_rfl) ?_ _)
  have hOf := hHeld
  clear hHeld
  clear d0 d1 f0 f1 c0 c1 c2 c3 c4 c5 h0 h1 h2 h3 h4 h5 z0 z1 z2 z3 z4 z5 y0 y1 y2 y3 y4 y5
  generalize (((((((wn.setCell ⟨w.heap.size + 1, 0, none⟩ (.int .i64 0)).setCell ⟨w.heap.size + 1, 1, none⟩ (.int .i64 0)).setCell ⟨w.heap.size + 1, 2, none⟩ (.int .i64 0)).setCell ⟨w.heap.size + 1, 3, none⟩ (.string ⟨#[]⟩)).setCell ⟨w.heap.size + 1, 4, none⟩ (.string ⟨#[]⟩)).setCell ⟨w.heap.size + 1, 5, none⟩ (.int .i64 0)).setCell ⟨q, 1, none⟩ (.iface 67 (.int .i64 er2))) = wf at *
  have R8 : Row wf q 166 [.string s3, .iface 67 (.int .i64 er2)] := RF.out
  have x8 : Row wf (w.heap.size + 1) 33 [.int .i64 0, .int .i64 0, .int .i64 0, .string ⟨#[]⟩, .string ⟨#[]⟩, .int .i64 0] := xF.out
  have q8 := qF.out
  obtain ⟨d0, d1⟩ := R8.c2
  (have f0 := R8.frozen 0 (by simp); have f1 := R8.frozen 1 (by simp))
  obtain ⟨c0, c1, c2, c3, c4, c5⟩ := x8.c6
  obtain ⟨z0, z1, z2, z3, z4, z5⟩ := q8.c6
  (have y0 := q8.frozen 0 (by simp); have y1 := q8.frozen 1 (by simp); have y2 := q8.frozen 2 (by simp); have y3 := q8.frozen 3 (by simp); have y4 := q8.frozen 4 (by simp); have y5 := q8.frozen 5 (by simp))
  have q9 := Lib.hid (q8.other (p := ⟨q, 0, none⟩) (by show q ≠ w.heap.size; omega) (.string (s3)))
  have t9 : TkIs (wf.setCell ⟨q, 0, none⟩ (.string (s3))) q ⟨s3.data.toList, true⟩ := ⟨s3, _, R8.set 0 _, rfl, hz3, by rw [if_pos rfl]; exact ⟨er2, rfl⟩⟩
  have hO10 : Only (fun k => k = q) w wf := ((hO7.out.mono (S' := fun j => j = q ∨ j = w.heap.size + 1) (fun j _ h => .inl h)).trans hOf).mono fun j hj hj2 => by
    rcases hj2 with h | h
    · exact h
    · omega
  have O9 := Lib.hid (Only.set (S := fun k => k = q) hO10 (p := ⟨q, 0, none⟩) (.inl rfl) (.string (s3)))
  replace t9 := Lib.hid t9
  clear R8 x8 q8 RF xF qF hOf RN xN qN hbn
  go_wp2
  rw [hRES.out]
  have hzv : wrVal (Fst.zero, (⟨s3.data.toList, true⟩ : Fst.Tk)).1 = .agg #[.int .i64 0, .int .i64 0, .int .i64 0, .string ⟨#[]⟩, .string ⟨#[]⟩, .int .i64 0] := rfl
  with_reducible exact wrt_ret (x0 := .int .i64 0) (x1 := .int .i64 0) (x2 := .int .i64 0) (x3 := .string ⟨#[]⟩) (x4 := .string ⟨#[]⟩) (x5 := .int .i64 0) w q _ _ _ _ _ rfl rfl q9.out rfl (Nat.le_refl _) (by omega) hzv t9.out O9.out) : p := h
set_option maxHeartbeats 8000000 in
set_option maxRecDepth 20000 in
theorem tk_write (q : Nat) (t : Fst.Tk) (w wa : World) (hL : Laid wa) (hBa : Below wa.heap.size wa w) (hqa : wa.heap.size ≤ q) (hq : TkIs w q t) :
    Calls Tryz.prog 97 #[.pointer (some ⟨q, 0, none⟩)] w (TkRet w q (Fst.wrt t)) := by
  have hlt := hq.lt
  obtain ⟨s, E, hR, hs, hz, hE⟩ := hq
  have hq0 : TkIs w q t := ⟨s, E, hR, hs, hz, hE⟩
  obtain ⟨c0, c1⟩ := hR.c2
  (have f0 := hR.frozen 0 (by simp); have f1 := hR.frozen 1 (by simp))
  by_cases he : t.e = true
  · rw [if_pos he] at hE
    obtain ⟨c, rfl⟩ := hE
    unfold errV at c1
    have hw : Fst.wrt t = (Fst.zero, t) := by unfold Fst.wrt; rw [if_pos he]
    rw [hw]
    have hB := bal (Below.refl w.heap.size w) (.cells #[.int .i64 0, .int .i64 0, .int .i64 0, .string ⟨#[]⟩, .string ⟨#[]⟩, .int .i64 0] 33)
    have hq1 := Lib.hid (hq0.below hB)
    have q1 := Lib.hid (row_alloc w #[.int .i64 0, .int .i64 0, .int .i64 0, .string ⟨#[]⟩, .string ⟨#[]⟩, .int .i64 0] 33)
    have hO1 := Lib.hid ((Only.refl (fun k => k = q) w).alloc (.cells #[.int .i64 0, .int .i64 0, .int .i64 0, .string ⟨#[]⟩, .string ⟨#[]⟩, .int .i64 0] 33))
    clear hR hs hw hB hq0
    go_enter Tryz.func97, Tryz.ntmps97
    go_wp2
    with_reducible exact wrt_ret0 w q (Fst.zero, t) _ _ _ _ _ _ _ _ _ rfl rfl q1.out rfl hq1.out hO1.out
  · rw [if_neg he] at hE
    subst hE
    have he0 : t.e = false := by simpa using he
    cases hts : t.s with
    | nil =>
      have hw : Fst.wrt t = (Fst.zero, ⟨[], true⟩) := by unfold Fst.wrt; rw [if_neg he, hts]
      rw [hw]
      have hse : s.toList.isEmpty = true := by rw [ByteArray.toList_eq, hs, hts]; rfl
      have hq3 : TkIs (w.setCell ⟨q, 1, none⟩ (.iface 67 (.int .i64 7))) q ⟨[], true⟩ := ⟨s, _, hR.set 1 _, by rw [hs, hts], hz, by rw [if_pos rfl]; exact ⟨7, rfl⟩⟩
      have hO3 := Only.set (S := fun k => k = q) (Only.refl _ w) (p := ⟨q, 1, none⟩) (.inl rfl) (.iface 67 (.int .i64 7))
      have q3 := Lib.hid (row_at (w := w.setCell ⟨q, 1, none⟩ (.iface 67 (.int .i64 7))) (g := w.heap.size) #[.int .i64 0, .int .i64 0, .int .i64 0, .string ⟨#[]⟩, .string ⟨#[]⟩, .int .i64 0] 33 (by simp))
      replace hq3 := Lib.hid (hq3.below (bal (Below.refl _ _) (.cells #[.int .i64 0, .int .i64 0, .int .i64 0, .string ⟨#[]⟩, .string ⟨#[]⟩, .int .i64 0] 33)))
      replace hO3 := Lib.hid (hO3.alloc (.cells #[.int .i64 0, .int .i64 0, .int .i64 0, .string ⟨#[]⟩, .string ⟨#[]⟩, .int .i64 0] 33))
      clear hR hs hw hq0
      go_enter Tryz.func97, Tryz.ntmps97
      go_wp2
      with_reducible exact wrt_ret0 w q (Fst.zero, ⟨[], true⟩) _ _ _ _ _ _ _ _ _ rfl rfl q3.out rfl hq3.out hO3.out
    | cons b r =>
      have hls : s.size = r.length + 1 := by
        have : s.data.toList.length = s.size := Array.length_toList
        rw [← this, hs, hts, List.length_cons]
      have hse : s.toList.isEmpty = false := by rw [ByteArray.toList_eq, hs, hts]; rfl
      obtain ⟨n, hn⟩ : ∃ n, n = b.toNat := ⟨_, rfl⟩
      have hix : ∀ h : 0 < s.size, s[0].toNat = n := fun h => by
        have : s.data.toList[0]? = some b := by rw [hs, hts]; rfl
        rw [List.getElem?_eq_getElem (by rw [Array.length_toList]; exact h)] at this
        injection this with this
        rw [hn, ← this]; rfl
      have hs00 : 0 < s.size := by omega
      have hix0 := hix hs00
      have hb8 : n < 256 := by rw [hn]; exact b.toNat_lt
      have hs0 : (0 : Int) < (s.size : Int) := by omega
      by_cases hbr : n < 1 ∨ 4 < n
      · have hw : Fst.wrt t = (Fst.zero, ⟨b :: r, true⟩) := by unfold Fst.wrt; rw [if_neg he, hts]; simp only; rw [if_pos (by rw [← hn]; exact hbr)]
        rw [hw]
        have hq3 : TkIs (w.setCell ⟨q, 1, none⟩ (.iface 67 (.int .i64 1))) q ⟨b :: r, true⟩ := ⟨s, _, hR.set 1 _, by rw [hs, hts], hz, by rw [if_pos rfl]; exact ⟨1, rfl⟩⟩
        have hO3 := Only.set (S := fun k => k = q) (Only.refl _ w) (p := ⟨q, 1, none⟩) (.inl rfl) (.iface 67 (.int .i64 1))
        have q3 := (row_at (w := (w.setCell ⟨q, 1, none⟩ (.iface 67 (.int .i64 1)))) (g := w.heap.size) #[.int .i64 0, .int .i64 0, .int .i64 0, .string ⟨#[]⟩, .string ⟨#[]⟩, .int .i64 0] 33 (by simp)).alloc (.cells #[.int .i64 0, .int .i64 0, .int .i64 n, .string ⟨#[]⟩, .string ⟨#[]⟩, .int .i64 0] 33)
        have qx := row_at (w := (w.setCell ⟨q, 1, none⟩ (.iface 67 (.int .i64 1))).alloc (.cells #[.int .i64 0, .int .i64 0, .int .i64 0, .string ⟨#[]⟩, .string ⟨#[]⟩, .int .i64 0] 33)) (g := w.heap.size + 1) #[.int .i64 0, .int .i64 0, .int .i64 n, .string ⟨#[]⟩, .string ⟨#[]⟩, .int .i64 0] 33 (by simp)
        have hq4 := (hq3.below (bal (Below.refl _ _) (.cells #[.int .i64 0, .int .i64 0, .int .i64 0, .string ⟨#[]⟩, .string ⟨#[]⟩, .int .i64 0] 33))).below (bal (Below.refl _ _) (.cells #[.int .i64 0, .int .i64 0, .int .i64 n, .string ⟨#[]⟩, .string ⟨#[]⟩, .int .i64 0] 33))
        have hO4 := (hO3.alloc (.cells #[.int .i64 0, .int .i64 0, .int .i64 0, .string ⟨#[]⟩, .string ⟨#[]⟩, .int .i64 0] 33)).alloc (.cells #[.int .i64 0, .int .i64 0, .int .i64 n, .string ⟨#[]⟩, .string ⟨#[]⟩, .int .i64 0] 33)
        replace hn := Lib.hid hn
        replace q3 := Lib.hid q3
        replace hq4 := Lib.hid hq4
        replace hO4 := Lib.hid hO4
        clear hR hs hw hq0 hix qx hq3 hO3
        by_cases hb1 : n < 1
        · have t1 : decide ((n : Int) < 1) = true := decide_eq_true (by omega)
          clear hbr hb1
          go_enter Tryz.func97, Tryz.ntmps97
          go_wp2
          with_reducible exact wrt_ret0 w q (Fst.zero, ⟨b :: r, true⟩) _ _ _ _ _ _ _ _ _ rfl rfl q3.out rfl hq4.out hO4.out
        · have t1 : decide ((n : Int) < 1) = false := decide_eq_false (by omega)
          have t2 : decide ((4 : Int) < (n : Int)) = true := decide_eq_true (by omega)
          clear hbr hb1
          go_enter Tryz.func97, Tryz.ntmps97
          go_wp2
          with_reducible exact wrt_ret0 w q (Fst.zero, ⟨b :: r, true⟩) _ _ _ _ _ _ _ _ _ rfl rfl q3.out rfl hq4.out hO4.out
      · have hw : Fst.wrt t = Fst.rest n (Fst.num ⟨r, false⟩ 1099511627776).1 (Fst.num (Fst.num ⟨r, false⟩ 1099511627776).2 200).1 (Fst.num (Fst.num ⟨r, false⟩ 1099511627776).2 200).2 := by
          unfold Fst.wrt; rw [if_neg he, hts]; simp only; rw [if_neg (by rw [← hn]; exact hbr), ← hn]
        rw [hw]
        have t1 : decide ((n : Int) < 1) = false := decide_eq_false (by omega)
        have t2 : decide ((4 : Int) < (n : Int)) = false := decide_eq_false (by omega)
        have hs1 : (1 : Int) ≤ (s.size : Int) := by omega
        have hq3 : TkIs (w.setCell ⟨q, 0, none⟩ (.string (s.extract 1 s.size))) q ⟨r, false⟩ := ⟨_, _, hR.set 0 _, by rw [extract_drop, hs, hts]; rfl, Nat.le_trans (extract_len _ _) hz, by rw [if_neg (by simp)]⟩
        have hO3 := Only.set (S := fun k => k = q) (Only.refl _ w) (p := ⟨q, 0, none⟩) (.inl rfl) (.string (s.extract 1 s.size))
        have q3 := (row_at (w := (w.setCell ⟨q, 0, none⟩ (.string (s.extract 1 s.size)))) (g := w.heap.size) #[.int .i64 0, .int .i64 0, .int .i64 0, .string ⟨#[]⟩, .string ⟨#[]⟩, .int .i64 0] 33 (by simp)).alloc (.cells #[.int .i64 0, .int .i64 0, .int .i64 n, .string ⟨#[]⟩, .string ⟨#[]⟩, .int .i64 0] 33)
        have qx := row_at (w := (w.setCell ⟨q, 0, none⟩ (.string (s.extract 1 s.size))).alloc (.cells #[.int .i64 0, .int .i64 0, .int .i64 0, .string ⟨#[]⟩, .string ⟨#[]⟩, .int .i64 0] 33)) (g := w.heap.size + 1) #[.int .i64 0, .int .i64 0, .int .i64 n, .string ⟨#[]⟩, .string ⟨#[]⟩, .int .i64 0] 33 (by simp)
        have hq4 := (hq3.below (bal (Below.refl _ _) (.cells #[.int .i64 0, .int .i64 0, .int .i64 0, .string ⟨#[]⟩, .string ⟨#[]⟩, .int .i64 0] 33))).below (bal (Below.refl _ _) (.cells #[.int .i64 0, .int .i64 0, .int .i64 n, .string ⟨#[]⟩, .string ⟨#[]⟩, .int .i64 0] 33))
        have hO4 := (hO3.alloc (.cells #[.int .i64 0, .int .i64 0, .int .i64 0, .string ⟨#[]⟩, .string ⟨#[]⟩, .int .i64 0] 33)).alloc (.cells #[.int .i64 0, .int .i64 0, .int .i64 n, .string ⟨#[]⟩, .string ⟨#[]⟩, .int .i64 0] 33)
        have hA := tk_number q ⟨r, false⟩ 1099511627776 _ (by omega) hq4
        have hm1 := Fst.num_le ⟨r, false⟩ 1099511627776 (by omega)
        generalize (Fst.num ⟨r, false⟩ 1099511627776).1 = m at *
        generalize (Fst.num ⟨r, false⟩ 1099511627776).2 = tk1 at *
        have hBn := fun W hW => tk_number q tk1 200 W (by omega) hW
        have hm2 := Fst.num_le tk1 200 (by omega)
        generalize (Fst.num tk1 200).1 = rp at *
        generalize (Fst.num tk1 200).2 = tk2 at *
        obtain ⟨RES, hRES⟩ : ∃ R, R = Fst.rest n m rp tk2 := ⟨_, rfl⟩
        rw [← hRES]
        replace hn := Lib.hid hn
        replace hBn := Lib.hid hBn
        have hqx : q ≠ w.heap.size + 1 := by omega
        have hxq : w.heap.size + 1 ≠ q := by omega
        replace hA := Lib.hid hA
        replace hO4 := Lib.hid hO4
        replace q3 := Lib.hid q3
        replace qx := Lib.hid qx
        clear hR hs hw hq0 hix hq3 hO3 hbr hts hls hq4
        go_enter Tryz.func97, Tryz.ntmps97
        go_wp2_with fail
        refine hA.out.mono ?_
        clear hA
        rintro _ w2 ⟨⟨rfl, hq5⟩, hO5⟩
        have q3 := q3.out.only hO5 (by omega)
        have qx := qx.out.only hO5 (by omega)
        have hO6 := Only.set (S := fun k => k = q) (hO4.out.trans hO5) (p := ⟨w.heap.size + 1, 0, none⟩) (.inr (by show w.heap.size ≤ w.heap.size + 1; omega)) (.int .i64 m)
        clear hO4 hO5 c0 c1 f0 f1
        obtain ⟨c0, c1, c2, c3, c4, c5⟩ := qx.c6
        (have f0 := qx.frozen 0 (by simp); have f1 := qx.frozen 1 (by simp); have f2 := qx.frozen 2 (by simp); have f3 := qx.frozen 3 (by simp); have f4 := qx.frozen 4 (by simp); have f5 := qx.frozen 5 (by simp))
        have qx3 := Lib.hid (qx.set 0 (.int .i64 m))
        have q4 := Lib.hid (q3.other (p := ⟨w.heap.size + 1, 0, none⟩) (by show w.heap.size + 1 ≠ w.heap.size; omega) (.int .i64 m))
        have hq6 := Lib.hid (hq5.other (p := ⟨w.heap.size + 1, 0, none⟩) (by show w.heap.size + 1 ≠ q; omega) (.int .i64 m))
        replace hO6 := Lib.hid hO6
        clear q3 qx hq5
        go_wp2_with fail
        generalize w2.setCell ⟨w.heap.size + 1, 0, none⟩ (.int .i64 m) = w3 at *
        refine (hBn.out _ hq6.out).mono ?_
        rintro _ w4 ⟨⟨rfl, hq7⟩, hO7⟩
        clear c0 c1 c2 c3 c4 c5 f0 f1 f2 f3 f4 f5
        have q4 := q4.out.only hO7 (by omega)
        have qx := qx3.out.only hO7 (by omega)
        simp only [List.set_cons_succ, List.set_cons_zero] at qx
        obtain ⟨c0, c1, c2, c3, c4, c5⟩ := qx.c6
        (have f0 := qx.frozen 0 (by simp); have f1 := qx.frozen 1 (by simp); have f2 := qx.frozen 2 (by simp); have f3 := qx.frozen 3 (by simp); have f4 := qx.frozen 4 (by simp); have f5 := qx.frozen 5 (by simp))
        obtain ⟨z0, z1, z2, z3, z4, z5⟩ := q4.c6
        (have y0 := q4.frozen 0 (by simp); have y1 := q4.frozen 1 (by simp); have y2 := q4.frozen 2 (by simp); have y3 := q4.frozen 3 (by simp); have y4 := q4.frozen 4 (by simp); have y5 := q4.frozen 5 (by simp))
        have hO8 := Lib.hid (Only.set (S := fun k => k = q) (hO6.out.trans hO7) (p := ⟨w.heap.size + 1, 1, none⟩) (.inr (by show w.heap.size ≤ w.heap.size + 1; omega)) (.int .i64 rp))
        have q5 := q4.other (p := ⟨w.heap.size + 1, 1, none⟩) (by show w.heap.size + 1 ≠ w.heap.size; omega) (.int .i64 rp)
        have hq8 := hq7.other (p := ⟨w.heap.size + 1, 1, none⟩) (by show w.heap.size + 1 ≠ q; omega) (.int .i64 rp)
        have qx5 := qx.set 1 (.int .i64 rp)
        simp only [List.set_cons_succ, List.set_cons_zero] at qx5
        clear hO6 hO7 q4 hq6 hq7 qx3 hBn
        obtain ⟨s2, E2, hR2, hs2, hz2, hE2⟩ := hq8
        have hq9 : TkIs (w4.setCell ⟨w.heap.size + 1, 1, none⟩ (.int .i64 rp)) q tk2 := ⟨s2, E2, hR2, hs2, hz2, hE2⟩
        obtain ⟨d0, d1⟩ := hR2.c2
        by_cases he2 : tk2.e = true
        · have hw : RES = (Fst.zero, tk2) := by rw [hRES]; unfold Fst.rest; rw [if_pos he2]
          replace hw := Lib.hid hw
          clear hRES
          rw [if_pos he2] at hE2
          obtain ⟨c, rfl⟩ := hE2
          unfold errV at d1
          clear hR2 hs2 qx5
          replace q5 := Lib.hid q5
          replace hq9 := Lib.hid hq9
          go_wp2
          rw [hw.out]
          have hzv : wrVal (Fst.zero, tk2).1 = .agg #[.int .i64 0, .int .i64 0, .int .i64 0, .string ⟨#[]⟩, .string ⟨#[]⟩, .int .i64 0] := rfl
          with_reducible exact wrt_ret (x0 := .int .i64 0) (x1 := .int .i64 0) (x2 := .int .i64 0) (x3 := .string ⟨#[]⟩) (x4 := .string ⟨#[]⟩) (x5 := .int .i64 0) w q (Fst.zero, tk2) _ _ _ _ rfl rfl q5.out rfl (Nat.le_refl _) (by omega) hzv hq9.out hO8.out
        · rw [if_neg he2] at hE2
          subst hE2
          have hG := fun W hW => span_get s2 W (by unfold maxLen; omega) hW
          unfold Fst.rest at hRES
          rw [if_neg he2, ← hs2] at hRES
          have hBw := hBa.trans (hO8.out.below (fun k hk => by omega) hBa.size)
          have hG1 := hG _ (hL.below hBw)
          cases hg : Span.get s2.data.toList with
          | bad e =>
            rw [hg] at hG1
            have hsv : spanVal (.bad e) = .tuple #[.string ⟨#[]⟩, .int .i64 0, .iface 67 (.int .i64 e)] := rfl
            rw [hsv] at hG1
            rw [hg] at hRES
            simp only at hRES
            replace hRES := Lib.hid hRES
            replace hG1 := Lib.hid hG1
            replace hg := Lib.hid hg
            clear hsv hG
            go_wp2_with fail
            refine hG1.out.mono ?_
            rintro _ w6 ⟨rfl, hb6⟩
            have hw6 := hb6.size
            have R6 := hR2.below hb6
            have x6 := qx5.below hb6
            have q6 := q5.below hb6
            have hO9 := hO8.out.chain hb6
            clear z0 z1 z2 z3 z4 z5 y0 y1 y2 y3 y4 y5 c0 c1 c2 c3 c4 c5 f0 f1 f2 f3 f4 f5 d0 d1 hR2 qx5 q5 hq9
            obtain ⟨d0, d1⟩ := R6.c2
            (have f0 := R6.frozen 0 (by simp); have f1 := R6.frozen 1 (by simp))
            obtain ⟨c0, c1, c2, c3, c4, c5⟩ := x6.c6
            (have e0 := x6.frozen 0 (by simp); have e1 := x6.frozen 1 (by simp); have e2 := x6.frozen 2 (by simp); have e3 := x6.frozen 3 (by simp); have e4 := x6.frozen 4 (by simp); have e5 := x6.frozen 5 (by simp))
            obtain ⟨z0, z1, z2, z3, z4, z5⟩ := q6.c6
            (have y0 := q6.frozen 0 (by simp); have y1 := q6.frozen 1 (by simp); have y2 := q6.frozen 2 (by simp); have y3 := q6.frozen 3 (by simp); have y4 := q6.frozen 4 (by simp); have y5 := q6.frozen 5 (by simp))
            obtain ⟨w7, hw7⟩ : ∃ w7, w7 = ((w6.setCell ⟨w.heap.size + 1, 3, none⟩ (.string ⟨#[]⟩)).setCell ⟨q, 1, none⟩ (.iface 67 (.int .i64 e))).setCell ⟨q, 0, none⟩ (.string s2) := ⟨_, rfl⟩
            have q7 : Row w7 w.heap.size 33 [.int .i64 0, .int .i64 0, .int .i64 0, .string ⟨#[]⟩, .string ⟨#[]⟩, .int .i64 0] := by
              rw [hw7]
              exact ((q6.other (p := ⟨w.heap.size + 1, 3, none⟩) (by show w.heap.size + 1 ≠ w.heap.size; omega) _).other (p := ⟨q, 1, none⟩) (by show q ≠ w.heap.size; omega) _).other (p := ⟨q, 0, none⟩) (by show q ≠ w.heap.size; omega) _
            have t7 : TkIs w7 q ⟨tk2.s, true⟩ := by
              rw [hw7]
              exact ⟨s2, _, ((R6.other (p := ⟨w.heap.size + 1, 3, none⟩) (by show w.heap.size + 1 ≠ q; omega) _).set 1 _).set 0 _, hs2, hz2, by rw [if_pos rfl]; exact ⟨e, rfl⟩⟩
            have O7 : Only (fun k => k = q) w w7 := by
              rw [hw7]
              exact Only.set (S := fun k => k = q) (Only.set (S := fun k => k = q) (Only.set (S := fun k => k = q) hO9 (p := ⟨w.heap.size + 1, 3, none⟩) (.inr (by show w.heap.size ≤ w.heap.size + 1; omega)) _) (p := ⟨q, 1, none⟩) (.inl rfl) _) (p := ⟨q, 0, none⟩) (.inl rfl) _
            replace hw7 := Lib.hid hw7
            replace q7 := Lib.hid q7
            replace t7 := Lib.hid t7
            replace O7 := Lib.hid O7
            clear R6 x6 q6 hO9
            replace hs2 := Lib.hid hs2
            go_wp2
            rw [← hw7.out, hRES.out, hs2.out]
            have hzv : wrVal (Fst.zero, (⟨tk2.s, true⟩ : Fst.Tk)).1 = .agg #[.int .i64 0, .int .i64 0, .int .i64 0, .string ⟨#[]⟩, .string ⟨#[]⟩, .int .i64 0] := rfl
            with_reducible exact wrt_ret (x0 := .int .i64 0) (x1 := .int .i64 0) (x2 := .int .i64 0) (x3 := .string ⟨#[]⟩) (x4 := .string ⟨#[]⟩) (x5 := .int .i64 0) w q (Fst.zero, ⟨tk2.s, true⟩) _ w7 _ _ rfl rfl q7.out rfl (Nat.le_refl _) (by omega) hzv t7.out O7.out
          | ok key i =>
            rw [hg] at hG1
            obtain ⟨g1, g2, g3, g4, g5⟩ := Span.get_ok hg
            rw [show s2.data.toList.length = s2.size from Array.length_toList] at g3
            have hsv : spanVal (.ok key i) = .tuple #[.string ⟨key.toArray⟩, .int .i64 i, .nilIface] := rfl
            rw [hsv] at hG1
            rw [hg] at hRES
            simp only at hRES
            replace hRES := Lib.hid hRES
            replace hG1 := Lib.hid hG1
            replace hg := Lib.hid hg
            have hi0 : (i : Int) ≤ (s2.size : Int) := by omega
            clear hsv hG g1 g4 g5
            obtain ⟨s3, hs3⟩ : ∃ s3, s3 = s2.extract i s2.size := ⟨_, rfl⟩
            have hl3 : s3.data.toList = s2.data.toList.drop i := by rw [hs3, extract_drop]
            have hz3 : s3.size ≤ 1000000 := by rw [hs3]; exact Nat.le_trans (extract_len _ _) hz2
            replace hRES := hRES.out
            rw [← hl3] at hRES
            replace hRES := Lib.hid hRES
            replace hs3 := Lib.hid hs3
            replace hl3 := Lib.hid hl3
            go_wp2_with fail
            refine hG1.out.mono ?_
            rintro _ w6 ⟨rfl, hb6⟩
            have hw6 := hb6.size
            have R6 := hR2.below hb6
            have x6 := qx5.below hb6
            have q6 := q5.below hb6
            have hO9 := hO8.out.chain hb6
            clear z0 z1 z2 z3 z4 z5 y0 y1 y2 y3 y4 y5 c0 c1 c2 c3 c4 c5 f0 f1 f2 f3 f4 f5 d0 d1 hR2 qx5 q5 hq9
            obtain ⟨d0, d1⟩ := R6.c2
            (have f0 := R6.frozen 0 (by simp); have f1 := R6.frozen 1 (by simp))
            obtain ⟨c0, c1, c2, c3, c4, c5⟩ := x6.c6
            (have e0 := x6.frozen 0 (by simp); have e1 := x6.frozen 1 (by simp); have e2 := x6.frozen 2 (by simp); have e3 := x6.frozen 3 (by simp); have e4 := x6.frozen 4 (by simp); have e5 := x6.frozen 5 (by simp))
            -- REGION 20
            obtain ⟨w7, hw7⟩ : ∃ w7, w7 = ((w6.setCell ⟨w.heap.size + 1, 3, none⟩ (.string ⟨key.toArray⟩)).setCell ⟨q, 1, none⟩ .nilIface).setCell ⟨q, 0, none⟩ (.string s3) := ⟨_, rfl⟩
            have R7 : Row w7 q 166 [.string s3, .nilIface] := by
              rw [hw7]
              exact ((R6.other (p := ⟨w.heap.size + 1, 3, none⟩) hxq _).set 1 _).set 0 _
            have x7 : Row w7 (w.heap.size + 1) 33 [.int .i64 m, .int .i64 rp, .int .i64 n, .string ⟨key.toArray⟩, .string ⟨#[]⟩, .int .i64 0] := by
              rw [hw7]
              exact ((x6.set 3 _).other (p := ⟨q, 1, none⟩) hqx _).other (p := ⟨q, 0, none⟩) hqx _
            have q7 := (((q6.other (p := ⟨w.heap.size + 1, 3, none⟩) (by show w.heap.size + 1 ≠ w.heap.size; omega) (.string ⟨key.toArray⟩)).other (p := ⟨q, 1, none⟩) (by show q ≠ w.heap.size; omega) .nilIface)).other (p := ⟨q, 0, none⟩) (by show q ≠ w.heap.size; omega) (.string s3)
            rw [← hw7] at q7
            have hO7 : Only (fun k => k = q) w w7 := by
              rw [hw7]
              exact Only.set (S := fun k => k = q) (Only.set (S := fun k => k = q) (Only.set (S := fun k => k = q) hO9 (p := ⟨w.heap.size + 1, 3, none⟩) (.inr (by show w.heap.size ≤ w.heap.size + 1; omega)) _) (p := ⟨q, 1, none⟩) (.inl rfl) _) (p := ⟨q, 0, none⟩) (.inl rfl) _
            have hB7 := hBa.trans (hO7.below (fun k hk => by omega) hBa.size)
            have hF := fun W (hW : Below wa.heap.size wa W) => write_fill m rp n ⟨key.toArray⟩ ⟨#[]⟩ 0 s3 W (by unfold maxLen; omega) (hL.below hW)
            have hs7 := x7.lt
            rw [show wr m rp n ⟨key.toArray⟩ ⟨#[]⟩ 0 = ⟨m, rp, n, key, [], 0⟩ from rfl] at hF
            unfold wrV at hF
            replace hw7 := Lib.hid hw7
            replace R7 := Lib.hid R7
            replace x7 := Lib.hid x7
            replace q7 := Lib.hid q7
            replace hO7 := Lib.hid hO7
            replace hB7 := Lib.hid hB7
            replace hs7 := Lib.hid hs7
            clear R6 x6 q6 hO9 hg
            cases hf : Wr.fill ⟨m, rp, n, key, [], 0⟩ s3.data.toList with
            | bad er2 =>
              rw [hf] at hF
              rw [show fillVal (.bad er2) = .tuple #[.agg #[.int .i64 0, .int .i64 0, .int .i64 0, .string ⟨#[]⟩, .string ⟨#[]⟩, .int .i64 0], .int .i64 0, .iface 67 (.int .i64 er2)] from rfl] at hF
              replace hRES := hRES.out
              rw [hf] at hRES
              simp only at hRES
              replace hRES := Lib.hid hRES
              replace hF := Lib.hid hF
              clear hf
              go_wp2_with fail
              rw [← hs3.out, ← hw7.out]
              clear c0 c1 c2 c3 c4 c5 e0 e1 e2 e3 e4 e5 d0 d1 f0 f1
              have d0 := R7.out.cell 0
              simp only [List.getElem?_cons_zero] at d0
              have hx := x7.out
              obtain ⟨c0, c1, c2, c3, c4, c5⟩ := hx.c6
              replace hx := Lib.hid hx
              have hS0 : OT q (w.heap.size + 1) w7 w7.drew := OT.refl' _ _ _
              (refine wp_region_held_drew (S := (OT q (w.heap.size + 1) w7)) (by kernel_rfl) ?_ (fun hHeld => ?_); ((try dsimp only); exact hS0))
              clear hS0
              (refine tkO 0 ?_; refine tkO 2 ?_; refine tkO 3 ?_; refine tkO 4 ?_)
              refine wpAnyH_ready (P := Tryz.prog) (md := .any) (rs := [1, 5]) (by kernel_rfl) (by simp) ?_
              refine held_cons rfl (by kernel_rfl) (fun K hK => ?_) (held_cons rfl (by kernel_rfl) (fun K hK => ?_) AllReadyH.nil)
              · (go_simp; refine hK.out _ _ ?_ (fun hHeld => ?_); ((try dsimp only); exact hHeld); clear hK K; (try clear hHeld0); (try rename_i hHeld0))
                (refine tdoO 5 (fun K hK => ?_); (go_simp; refine hK.out _ _ ?_ (fun hHeld => ?_); ((try dsimp only); exact hHeld); clear hK K; (try clear hHeld0); (try rename_i hHeld0)))
                exact byWOldA3
              · (go_simp; refine hK.out _ _ ?_ (fun hHeld => ?_); ((try dsimp only); exact hHeld); clear hK K; (try clear hHeld0); (try rename_i hHeld0))
                (refine tdoO 1 (fun K hK => ?_); (go_simp; refine hK.out _ _ ?_ (fun hHeld => ?_); ((try dsimp only); exact hHeld); clear hK K; (try clear hHeld0); (try rename_i hHeld0)))
                exact byWOldA3
            | ok x j =>
              obtain ⟨-, hj, -⟩ := Wr.fill_ok hf
              rw [show s3.data.toList.length = s3.size from Array.length_toList] at hj
              have hj2 : (j : Int) ≤ (s3.size : Int) := by omega
              rw [hf] at hF
              rw [show fillVal (.ok x j) = .tuple #[.agg #[.int .i64 x.t, .int .i64 x.r, .int .i64 x.k, .string ⟨x.key.toArray⟩, .string ⟨x.val.toArray⟩, .int .i64 x.n], .int .i64 j, .nilIface] from rfl] at hF
              replace hRES := hRES.out
              rw [hf] at hRES
              simp only at hRES
              replace hRES := Lib.hid hRES
              replace hF := Lib.hid hF
              clear hf
              go_wp2_with fail
              rw [← hs3.out, ← hw7.out]
              clear c0 c1 c2 c3 c4 c5 e0 e1 e2 e3 e4 e5 d0 d1 f0 f1
              have d0 := R7.out.cell 0
              simp only [List.getElem?_cons_zero] at d0
              have hx := x7.out
              obtain ⟨c0, c1, c2, c3, c4, c5⟩ := hx.c6
              replace hx := Lib.hid hx
              have hS0 : OT q (w.heap.size + 1) w7 w7.drew := OT.refl' _ _ _
              (refine wp_region_held_drew (S := (OT q (w.heap.size + 1) w7)) (by kernel_rfl) ?_ (fun hHeld => ?_); ((try dsimp only); exact hS0))
              clear hS0
              (refine tkO 0 ?_; refine tkO 2 ?_; refine tkO 3 ?_; refine tkO 4 ?_)
              refine wpAnyH_ready (P := Tryz.prog) (md := .any) (rs := [1, 5]) (by kernel_rfl) (by simp) ?_
              refine held_cons rfl (by kernel_rfl) (fun K hK => ?_) (held_cons rfl (by kernel_rfl) (fun K hK => ?_) AllReadyH.nil)
              · (go_simp; refine hK.out _ _ ?_ (fun hHeld => ?_); ((try dsimp only); exact hHeld); clear hK K; (try clear hHeld0); (try rename_i hHeld0))
                (refine tdoO 5 (fun K hK => ?_); (go_simp; refine hK.out _ _ ?_ (fun hHeld => ?_); ((try dsimp only); exact hHeld); clear hK K; (try clear hHeld0); (try rename_i hHeld0)))
                exact byWOldA2
              · (go_simp; refine hK.out _ _ ?_ (fun hHeld => ?_); ((try dsimp only); exact hHeld); clear hK K; (try clear hHeld0); (try rename_i hHeld0))
                (refine tdoO 1 (fun K hK => ?_); (go_simp; refine hK.out _ _ ?_ (fun hHeld => ?_); ((try dsimp only); exact hHeld); clear hK K; (try clear hHeld0); (try rename_i hHeld0)))
                exact byWOldA2
end Go.Proofs.YtognjohloobliaaGreatDoor
/- The walk of old.Read: a batch in a frame of version 1 or 2. -/
namespace Go.Proofs.YtognjohloobliaaGreatDoor
open Go.RowKit
set_option linter.unusedVariables false
set_option linter.unusedSimpArgs false
namespace Fst
/-- What is read of version 1 or 2. -/
def readB (s : List UInt8) : Option (List Vec.Entry × List Vec.Entry × List Wr) := match Frame.version s with
  | .inl _ => none
  | .inr v => if v = 2 then (if 20000 < (Frame.text s).length then none else match Body.read (Frame.text s) with
      | .error _ => none
      | .ok b => some b)
    else if v = 3 then none else Fst.read (Frame.text s)
end Fst
def OldRes (r : Option (List Vec.Entry × List Vec.Entry × List Wr)) (w : World) (e : Ending) (w' : World) : Prop :=
  (match r with
    | none => ∃ t u, e = .returned (.tuple #[.agg #[.slice none 0 0, .slice none 0 0, .slice none 0 0], .iface t u])
    | some x => ∃ vf vh vw, e = .returned (.tuple #[.agg #[vf, vh, vw], .nilIface]) ∧ VecIs w' vf x.1 ∧ VecIs w' vh x.2.1 ∧ WrsIs w' vw (x.2.2.map WrB.of)) ∧ Below w.heap.size w w'
def OldGot (s : ByteArray) (w : World) (e : Ending) (w' : World) : Prop := OldRes (Fst.readB s.data.toList) w e w'
theorem old_none (w w' : World) (t : TypeId) (u : Value) (h : Below w.heap.size w w') : OldRes none w (.returned (.tuple #[.agg #[.slice none 0 0, .slice none 0 0, .slice none 0 0], .iface t u])) w' := ⟨⟨t, u, rfl⟩, h⟩
theorem oldr_ret (R : Ending → World → Prop) (a : Act) (w : World) (n0 : Nat) (x0 x1 x2 y : Value) (hd : a.defers = []) (h2 : a.tmps[2]? = some (.pointer (some ⟨n0, 0, none⟩))) (h3 : a.tmps[3]? = some y)
    (hb : Row w n0 25 [x0, x1, x2]) (hR : R (.returned (.tuple #[.agg #[x0, x1, x2], y])) w) : bodyPost Tryz.prog Tryz.f74 R .ret a w := by
  obtain ⟨c0, c1, c2⟩ := hb.c3
  simp [bodyPost, results, Tryz.results74, go_sem, h2, h3, c0, c1, c2, hd]
  exact hR
theorem row_set3 {w : World} {g : Nat} {e : TypeId} {cs : List Value} (h : Row w g e cs) (h6 : cs.length = 3) (x0 x1 x2 : Value) :
    Row (((w.setCell ⟨g, 0, none⟩ x0).setCell ⟨g, 1, none⟩ x1).setCell ⟨g, 2, none⟩ x2) g e [x0, x1, x2] := by
  have := ((h.set 0 x0).set 1 x1).set 2 x2
  match cs, h6 with
  | [a, b, c], _ => exact this
theorem below_set3 {w0 w : World} (h : Below w0.heap.size w0 w) {g : Nat} (hg : w0.heap.size ≤ g) (x0 x1 x2 : Value) :
    Below w0.heap.size w0 (((w.setCell ⟨g, 0, none⟩ x0).setCell ⟨g, 1, none⟩ x1).setCell ⟨g, 2, none⟩ x2) :=
  bst (bst (bst h (p := ⟨g, 0, none⟩) hg x0) (p := ⟨g, 1, none⟩) hg x1) (p := ⟨g, 2, none⟩) hg x2
theorem ErrRep.tk {w : World} {v : Value} {x : Err} {q : Nat} {e : TypeId} {s : ByteArray} {y : Value} (h : ErrRep w v x) (hq : Row w q e [.string s, y]) (u : Value) : ErrRep (w.setCell ⟨q, 1, none⟩ u) v x := by
  cases x with
  | ok => exact h
  | no n => exact h
  | at_ n i =>
    obtain ⟨g, hv, hr⟩ := h
    refine ⟨g, hv, hr.other (p := ⟨q, 1, none⟩) (fun e => ?_) u⟩
    have e : q = g := e
    subst e
    have h1 := hr.cell 0
    have h2 := hq.cell 0
    rw [h1] at h2
    simp at h2
set_option maxHeartbeats 4000000 in
set_option maxRecDepth 20000 in
/-- Of no version. -/
theorem old_read_none (s : ByteArray) (c : Nat) (w : World) (hs : s.size ≤ 1000000) (hv : Frame.version s.data.toList = .inl c) :
    Calls Tryz.prog 74 #[.string s] w fun e w' => e = .returned (.tuple #[.agg #[.slice none 0 0, .slice none 0 0, .slice none 0 0], .iface 67 (.int .i64 c)]) ∧ Below w.heap.size w w' := by
  have hV := fun W => frame_version s W hs
  rw [hv] at hV
  rw [show verVal (.inl c) = .tuple #[.int .i64 0, .iface 67 (.int .i64 c)] from rfl] at hV
  replace hV := Lib.hid hV
  go_enter Tryz.func74, Tryz.ntmps74
  go_wp2_with fail
  have q0 := row_at #[.slice none 0 0, .slice none 0 0, .slice none 0 0] 25 (rfl : w.heap.size = w.heap.size)
  have hb1 := bal (Below.refl w.heap.size w) (Obj.cells #[.slice none 0 0, .slice none 0 0, .slice none 0 0] 25)
  generalize w.alloc (Obj.cells #[.slice none 0 0, .slice none 0 0, .slice none 0 0] 25) = w1 at *
  refine (hV.out _).mono ?_
  rintro _ w2 ⟨rfl, hb2⟩
  replace q0 := q0.below hb2
  replace hb1 := bch hb1 hb2
  obtain ⟨c0, c1, c2⟩ := q0.c3
  (have f0 := q0.frozen 0 (by simp); have f1 := q0.frozen 1 (by simp); have f2 := q0.frozen 2 (by simp))
  have qF := Lib.hid (row_set3 q0 rfl (.slice none 0 0) (.slice none 0 0) (.slice none 0 0))
  have hF := Lib.hid (below_set3 hb1 (Nat.le_refl _) (.slice none 0 0) (.slice none 0 0) (.slice none 0 0))
  clear q0 hb2
  go_wp2
  exact oldr_ret _ _ _ _ _ _ _ _ rfl rfl rfl qF.out ⟨rfl, hF.out⟩
set_option maxHeartbeats 4000000 in
set_option maxRecDepth 20000 in
/-- Of version 3. -/
theorem old_read_three (s : ByteArray) (w : World) (hs : s.size ≤ 1000000) (hv : Frame.version s.data.toList = .inr 3) :
    Calls Tryz.prog 74 #[.string s] w fun e w' => e = .returned (.tuple #[.agg #[.slice none 0 0, .slice none 0 0, .slice none 0 0], .iface 67 (.int .i64 6)]) ∧ Below w.heap.size w w' := by
  have hI := Lib.hid (fun W => frame_inside s 3 W hs hv)
  have hV := fun W => frame_version s W hs
  rw [hv] at hV
  rw [show verVal (.inr 3) = .tuple #[.int .i64 3, .nilIface] from rfl] at hV
  replace hV := Lib.hid hV
  go_enter Tryz.func74, Tryz.ntmps74
  go_wp2_with fail
  have q0 := row_at #[.slice none 0 0, .slice none 0 0, .slice none 0 0] 25 (rfl : w.heap.size = w.heap.size)
  have hb1 := bal (Below.refl w.heap.size w) (Obj.cells #[.slice none 0 0, .slice none 0 0, .slice none 0 0] 25)
  generalize w.alloc (Obj.cells #[.slice none 0 0, .slice none 0 0, .slice none 0 0] 25) = w1 at *
  refine (hV.out _).mono ?_
  rintro _ w2 ⟨rfl, hb2⟩
  replace q0 := q0.below hb2
  replace hb1 := bch hb1 hb2
  clear hb2
  go_wp2_with fail
  refine (hI.out _).mono ?_
  rintro _ w3 ⟨rfl, hb2⟩
  replace q0 := q0.below hb2
  replace hb1 := bch hb1 hb2
  obtain ⟨c0, c1, c2⟩ := q0.c3
  (have f0 := q0.frozen 0 (by simp); have f1 := q0.frozen 1 (by simp); have f2 := q0.frozen 2 (by simp))
  have qF := Lib.hid (row_set3 q0 rfl (.slice none 0 0) (.slice none 0 0) (.slice none 0 0))
  have hF := Lib.hid (below_set3 hb1 (Nat.le_refl _) (.slice none 0 0) (.slice none 0 0) (.slice none 0 0))
  clear q0 hb2
  go_wp2
  exact oldr_ret _ _ _ _ _ _ _ _ rfl rfl rfl qF.out ⟨rfl, hF.out⟩
theorem byWOldA1 {p : Prop} (h : p := by
  have hwn := hOn.size
  have hwd : wr.drew.heap.size = wr.heap.size := rfl
  have qbn := (Row.drew qb).only hOn (by omega)
  have hownA := Lib.hid (owns_only (w := wr.drew) (show wr.drew.ownsRow _ _ _ _ _ _ from hown) hOn (fun j hj e => by have := hfA.out j hj; omega))
  have hszA : w8.heap.size ≤ wn.heap.size := by omega
  have hneA : (Value.slice o3 k m3).ownBlock ≠ some gb := fun e => by have := hfA.out _ e; omega
  have hneQ : (Value.slice o3 k m3).ownBlock ≠ some q := fun e => by have := hfA.out _ e; omega
  clear c2 hown
  (refine wpAnyH_ready (P := Tryz.prog) (md := .any) (rs := [5]) (by kernel_rfl) (by simp) ?_; refine held_cons_if rfl (fun K hK => ?_) AllReadyH.nil; ((refine step_app_one (by rfl) _ _ 23 33 (by rfl) w8.heap.size (Value.agg #[.int .i64 0, .int .i64 0, .int .i64 0, .string ⟨#[]⟩, .string ⟨#[]⟩, .int .i64 0]) 6 64 Tryz.underlying23 (by kernel_rfl) rfl _ _ _ (by rfl) hownA.out _ _ rfl (by rfl) rfl ?_ (by omega) (by omega) hszA ?_; (focus (first | exact ⟨rfl, rfl⟩ | rfl | simp [Value.oneCell'])); intro v6 w6 hown6 hg6 hbk6 hne6 hb6; obtain ⟨g6, m6, rfl⟩ := owns_addr hown6 hne6); refine hK.out _ _ ?_ (fun hHeld => ?_); ((try dsimp only); exact Only.grown hHn hg6 (fun j hj => .inr (hfA.out j hj))); clear hK K; (try clear hHeld0); (try rename_i hHeld0)); (try simp only [Act.put, List.setIfInBounds_toArray, List.set_cons_zero, List.set_cons_succ]))
  (refine tkO 6 ?_)
  have qb6 := qbn.grown hg6 hneA
  have tq6 := hqn.grown hg6 hneQ
  have hfB := owns_fresh hown6
  have c26 := qb6.cell 2
  have f26 := qb6.frozen 2 (by simp)
  simp only [List.getElem?_cons_zero, List.getElem?_cons_succ] at c26
  (refine tdoO 7 (fun K hK => ?_); (go_simp; refine hK.out _ _ ?_ (fun hHeld => ?_); ((try dsimp only); exact Only.set (S := fun j => j = q ∨ j = gb) hHeld (p := ⟨gb, 2, none⟩) (.inl (.inr rfl)) _); clear hK K; (try clear hHeld0); (try rename_i hHeld0)))
  (refine wpAnyH_done (by kernel_rfl) ?_ _)
  have hOf := Lib.hid hHeld
  have qb7 := Lib.hid (qb6.set 2 (.slice (some ⟨g6, 0, none⟩) (k + 1) m6))
  have tq7 := Lib.hid (tq6.other (p := ⟨gb, 2, none⟩) (by show gb ≠ q; omega) (.slice (some ⟨g6, 0, none⟩) (k + 1) m6))
  have hown7 := Lib.hid (owns_set hown6 (p := ⟨gb, 2, none⟩) (fun e => by have : w8.heap.size ≤ gb := hfB _ e; omega) (.slice (some ⟨g6, 0, none⟩) (k + 1) m6))
  clear hHeld hHeld0 hHn c26 f26 qb6 tq6 hown6 hg6 hbk6 hne6 hb6 hfB hownA hqn qbn
  go_wp2
  go_roundw
  case rel =>
    refine ⟨k + 1, tk2, acc ++ [x], _, by omega, by go_num, by rw [List.length_append, hal]; rfl, Lib.hid (by rw [← hrS.out.1, ← hrS.out.2, List.append_assoc]; exact ⟨rfl, rfl⟩), ?_, qb7.out, tq7.out, hOf.out⟩
    have := hown7.out
    rw [List.map_append, List.flatMap_append]
    exact this
  case measure => simp [intOf]; omega) : p := h
set_option maxHeartbeats 8000000 in
set_option maxRecDepth 20000 in
/-- Of version 1. -/
theorem old_read_one (s : ByteArray) (w : World) (hs : s.size ≤ 1000000) (hL : Laid w) (hv : Frame.version s.data.toList = .inr 1) :
    Calls Tryz.prog 74 #[.string s] w (OldGot s w) := by
  have h8 : 8 ≤ s.size := by
    obtain ⟨_, _, _, _, _, h⟩ := Frame.version_inv hv
    rwa [show s.data.toList.length = s.size from Array.length_toList] at h
  have hI := Lib.hid (fun W => frame_inside s 1 W hs hv)
  have hV := fun W => frame_version s W hs
  rw [hv] at hV
  rw [show verVal (.inr 1) = .tuple #[.int .i64 1, .nilIface] from rfl] at hV
  have htx := text_ba s h8
  have hxs : (s.extract 3 (s.size - 4)).size ≤ 1000000 := by simp only [ByteArray.size_extract]; omega
  have hB : Fst.readB s.data.toList = Fst.read (Frame.text s.data.toList) := by unfold Fst.readB; rw [hv]; rfl
  unfold OldGot
  rw [hB, ← htx]
  clear hB h8 hv htx
  generalize s.extract 3 (s.size - 4) = tx at *
  replace hV := Lib.hid hV
  obtain ⟨RES, hRES⟩ : ∃ R, R = Fst.read tx.data.toList := ⟨_, rfl⟩
  rw [← hRES]
  unfold Fst.read at hRES
  simp only at hRES
  replace hRES := Lib.hid hRES
  go_enter Tryz.func74, Tryz.ntmps74
  go_wp2_with fail
  have q0 := row_at #[.slice none 0 0, .slice none 0 0, .slice none 0 0] 25 (rfl : w.heap.size = w.heap.size)
  have hb1 := bal (Below.refl w.heap.size w) (Obj.cells #[.slice none 0 0, .slice none 0 0, .slice none 0 0] 25)
  generalize w.alloc (Obj.cells #[.slice none 0 0, .slice none 0 0, .slice none 0 0] 25) = w1 at *
  refine (hV.out _).mono ?_
  rintro _ w2 ⟨rfl, hb2⟩
  replace q0 := q0.below hb2
  replace hb1 := bch hb1 hb2
  clear hb2
  go_wp2_with fail
  refine (hI.out _).mono ?_
  rintro _ w3 ⟨rfl, hb2⟩
  replace q0 := q0.below hb2
  replace hb1 := bch hb1 hb2
  clear hb2
  go_wp2_with fail
  have hq1 : TkIs (w3.alloc (.cells #[.string tx, .nilIface] 166)) w3.heap.size ⟨tx.data.toList, false⟩ := ⟨tx, .nilIface, row_alloc w3 #[.string tx, .nilIface] 166, rfl, hxs, by rw [if_neg (by simp)]⟩
  have hb4 := bal hb1 (.cells #[.string tx, .nilIface] 166)
  have hq0l := q0.lt
  replace q0 := q0.alloc (.cells #[.string tx, .nilIface] 166)
  obtain ⟨q, hqe⟩ : ∃ q, q = w3.heap.size := ⟨_, rfl⟩
  obtain ⟨w4, hw4⟩ : ∃ w4, w4 = w3.alloc (.cells #[.string tx, .nilIface] 166) := ⟨_, rfl⟩
  have hs4 : w4.heap.size = q + 1 := by rw [hw4, hqe]; simp
  rw [← hw4] at hq1 hb4 q0 ⊢
  rw [← hqe] at hq1 hq0l ⊢
  have hgq : w.heap.size ≤ q := by omega
  replace hqe := Lib.hid hqe
  replace hw4 := Lib.hid hw4
  clear hb1
  have hA := tk_vector q ⟨tx.data.toList, false⟩ w4 hq1
  have hfl := Fst.vec_len ⟨tx.data.toList, false⟩
  generalize Fst.vec ⟨tx.data.toList, false⟩ = A at *
  obtain ⟨f, tk1⟩ := A
  simp only at hA hRES hfl
  refine hA.mono ?_
  clear hA
  rintro _ w5 ⟨⟨vf, rfl, hof, hq2⟩, hO1⟩
  have hs5 := hO1.size
  obtain ⟨o1, m1, rfl⟩ := owns_slice hof
  have hbf : ∀ j, (Value.slice o1 f.length m1).ownBlock = some j → w4.heap.size ≤ j ∧ j < w5.heap.size := fun j hj => ⟨owns_fresh hof j hj, Nat.lt_of_not_le fun hc => owns_lt hof j hc hj⟩
  have hvf := ListIs.of_owns hof
  replace q0 := q0.only hO1 (by omega)
  have hB5 := hb4.trans (hO1.below (fun j hj => by omega) hb4.size)
  replace hbf := Lib.hid hbf
  go_wp2_with fail
  obtain ⟨gb, hgb⟩ : ∃ g, g = w5.heap.size := ⟨_, rfl⟩
  obtain ⟨w6, hw6⟩ : ∃ x, x = w5.alloc (.cells #[.slice o1 f.length m1, .slice none 0 0, .slice none 0 0] 25) := ⟨_, rfl⟩
  have hs6 : w6.heap.size = gb + 1 := by rw [hw6, hgb]; simp
  have hb6 : Below w5.heap.size w5 w6 := by rw [hw6]; exact bal (Below.refl _ _) _
  have qb := row_at (w := w5) (g := gb) #[.slice o1 f.length m1, .slice none 0 0, .slice none 0 0] 25 hgb
  rw [← hw6] at qb ⊢
  rw [← hgb] at ⊢
  have hgbq : q < gb := by omega
  replace hvf := hvf.below (by decide) hb6
  replace q0 := q0.below hb6
  have hB6 := bch hB5 hb6
  have hA := tk_vector q tk1 w6 (hq2.below hb6)
  have hgb5 := Lib.hid hgb
  clear hgb hq2 hof hB5 hb4 hb6 hq1
  replace hw6 := Lib.hid hw6
  have hhl := Fst.vec_len tk1
  generalize Fst.vec tk1 = A at *
  obtain ⟨h, tk2⟩ := A
  simp only at hA hRES hhl
  refine hA.mono ?_
  clear hA
  rintro _ w7 ⟨⟨vh, rfl, hoh, hq3⟩, hO2⟩
  have hs7 := hO2.size
  obtain ⟨o2, m2, rfl⟩ := owns_slice hoh
  have hbh : ∀ j, (Value.slice o2 h.length m2).ownBlock = some j → w6.heap.size ≤ j := fun j hj => owns_fresh hoh j hj
  have hvh := ListIs.of_owns hoh
  replace q0 := q0.only hO2 (by omega)
  replace qb := qb.only hO2 (by omega)
  have hbf2 : ∀ j, (Value.slice o1 f.length m1).ownBlock = some j → j ≠ q ∧ j ≠ gb := fun j hj => by have := hbf.out j hj; have := hgb5.out; omega
  replace hvf := SliceIs.only hvf hO2 (fun j hj => (hbf2 j hj).1)
  have hB7 := hB6.trans (hO2.below (fun j hj => by omega) hB6.size)
  replace hbf2 := Lib.hid hbf2
  replace hbh := Lib.hid hbh
  obtain ⟨c0, c1, c2⟩ := qb.c3
  (have f0 := qb.frozen 0 (by simp); have f1 := qb.frozen 1 (by simp); have f2 := qb.frozen 2 (by simp))
  have hOs := Only.set (S := fun j => j = gb) (Only.refl _ w7) (p := ⟨gb, 1, none⟩) (.inl rfl) (.slice o2 h.length m2)
  have qb1 := qb.set 1 (.slice o2 h.length m2)
  simp only [List.set_cons_succ, List.set_cons_zero] at qb1
  have q01 := q0.only hOs (by omega)
  have hq4 := hq3.only hOs (by omega)
  have hvf1 := SliceIs.only hvf hOs (fun j hj => (hbf2.out j hj).2)
  have hvh1 := SliceIs.only hvh hOs (fun j hj => by have := hbh.out j hj; omega)
  have hB71 := hB7.trans (hOs.below (fun j hj => by omega) hB7.size)
  have hs71 := hOs.size
  replace hvf1 := Lib.hid hvf1
  replace hvh1 := Lib.hid hvh1
  replace qb1 := Lib.hid qb1
  replace q01 := Lib.hid q01
  replace hB71 := Lib.hid hB71
  replace hq4 := Lib.hid hq4
  clear hvf hvh qb q0 hB6 hB7 hq3 hoh hOs hO1 hO2
  go_wp2_with fail
  generalize w7.setCell ⟨gb, 1, none⟩ (.slice o2 h.length m2) = w71 at *
  have hA := tk_number q tk2 60 w71 (by omega) hq4.out
  have hm60 := Fst.num_le tk2 60 (by omega)
  generalize Fst.num tk2 60 = A at *
  obtain ⟨m, tk3⟩ := A
  simp only at hA hRES hm60
  refine hA.mono ?_
  clear hA
  rintro _ w8 ⟨⟨rfl, hq5⟩, hO3⟩
  have hs8 := hO3.size
  have qb := qb1.out.only hO3 (by omega)
  have q0 := q01.out.only hO3 (by omega)
  have hvf := Lib.hid (SliceIs.only hvf1.out hO3 (fun j hj => (hbf2.out j hj).1))
  have hvh := Lib.hid (SliceIs.only hvh1.out hO3 (fun j hj => by have := hbh.out j hj; omega))
  have hB8 := hB71.out.trans (hO3.below (fun j hj => by omega) hB71.out.size)
  clear hvf1 hvh1 qb1 q01 hB71 hq4 c0 c1 c2 f0 f1 f2 hO3
  obtain ⟨C, hC⟩ : ∃ C, C = Fst.wrts m tk3 := ⟨_, rfl⟩
  rw [← hC] at hRES
  have hCl : C.1.length = m := by rw [hC]; exact Fst.wrts_len m tk3
  replace hC := Lib.hid hC
  go_wp2
  go_loopw [46] (fun i wr => ∃ (k : Nat) (tk : Fst.Tk) (acc : List Wr) (vw : Value), k ≤ m ∧ i = .int .i64 k ∧ acc.length = k ∧ Hid (acc ++ (Fst.wrts (m - k) tk).1 = C.1 ∧ (Fst.wrts (m - k) tk).2 = C.2) ∧ wr.ownsRow w8.heap.size 33 6 vw k ((acc.map WrB.of).flatMap wrBCells) ∧ Row wr gb 25 [.slice o1 f.length m1, .slice o2 h.length m2, vw] ∧ TkIs wr q tk ∧ Only (fun j => j = q ∨ j = gb) w8 wr) (fun i _ => m - (intOf i).toNat)
  case atStart => exact ⟨0, tk3, [], .slice none 0 0, by omega, rfl, rfl, Lib.hid (by rw [hC.out]; exact ⟨rfl, rfl⟩), World.ownsRow_nil _ _ _ _, qb, hq5, Only.refl _ _⟩
  case round =>
   replace q0 := Lib.hid q0
   clear qb hq5
   obtain ⟨k, tk, acc, vw, hk, rfl, hal, hrest, hown, qb, hqr, hOl⟩ := hrel
   obtain ⟨o3, m3, rfl⟩ := owns_slice hown
   by_cases hlt : k < m
   ·
    -- ROUND
    have hTk := Lib.hid (fun W (hB : Below w.heap.size w W) (hQ : TkIs W q tk) => tk_write q tk W w hL hB hgq hQ)
    have hrS := hrest.out
    rw [show m - k = (m - (k + 1)) + 1 by omega, Fst.wrts] at hrS
    simp only at hrS
    replace hrS := Lib.hid hrS
    generalize Fst.wrt tk = R1 at *
    obtain ⟨x, tk2⟩ := R1
    have c2 := qb.cell 2
    simp only [List.getElem?_cons_zero, List.getElem?_cons_succ] at c2
    have hfA := Lib.hid (owns_fresh hown)
    have hbel := hB8.trans (hOl.below (fun j hj => by rcases hj with h | h <;> omega) hB8.size)
    have hszr := hOl.size
    have hS0 : OT q gb w8 wr.drew := hOl.drew
    unfold TkRet wrVal at hTk
    clear hrest
    go_wp2_with fail
    (refine wp_region_held_drew (S := (OT q gb w8)) (by kernel_rfl) ?_ (fun hHeld => ?_); ((try dsimp only); exact hS0))
    clear hS0
    (refine tkO 0 ?_; refine tkO 2 ?_)
    refine wpAnyH_ready (P := Tryz.prog) (md := .any) (rs := [1, 3]) (by kernel_rfl) (by simp) ?_
    refine held_cons rfl (by kernel_rfl) (fun K hK => ?_) (held_cons rfl (by kernel_rfl) (fun K hK => ?_) AllReadyH.nil)
    · (go_simp; refine hK.out _ _ ?_ (fun hHeld => ?_); ((try dsimp only); exact hHeld); clear hK K; (try clear hHeld0); (try rename_i hHeld0))
      (refine tdoO 3 (fun K hK => ?_); ((go_simp; refine (hTk.out _ (bdr hbel) (TkIs.drew hqr)).mono ?_; rintro _ wn ⟨⟨rfl, hqn⟩, hOn⟩); refine hK.out _ _ ?_ (fun hHeld => ?_); ((try dsimp only); exact Only.trans hHeld (hOn.mono (fun j _ h => .inl h))); clear hK K; (try clear hHeld0); (try rename_i hHeld0)))
      have hHn := hHeld
      (refine tdoO 4 (fun K hK => ?_); (go_simp; refine hK.out _ _ ?_ (fun hHeld => ?_); ((try dsimp only); exact Only.alloc hHeld _); clear hK K; (try clear hHeld0); (try rename_i hHeld0)))
      exact byWOldA1
    · ((go_simp; refine (hTk.out _ (bdr hbel) (TkIs.drew hqr)).mono ?_; rintro _ wn ⟨⟨rfl, hqn⟩, hOn⟩); refine hK.out _ _ ?_ (fun hHeld => ?_); ((try dsimp only); exact Only.trans hHeld (hOn.mono (fun j _ h => .inl h))); clear hK K; (try clear hHeld0); (try rename_i hHeld0))
      have hHn := hHeld
      have c2n := ((Row.drew qb).only hOn (by omega)).cell 2
      simp only [List.getElem?_cons_zero, List.getElem?_cons_succ] at c2n
      refine wpAnyH_ready (P := Tryz.prog) (md := .any) (rs := [1, 4]) (by kernel_rfl) (by simp) ?_
      refine held_cons rfl (by kernel_rfl) (fun K hK => ?_) (held_cons rfl (by kernel_rfl) (fun K hK => ?_) AllReadyH.nil)
      · (go_simp; refine hK.out _ _ ?_ (fun hHeld => ?_); ((try dsimp only); exact hHeld); clear hK K; (try clear hHeld0); (try rename_i hHeld0))
        clear c2n
        (refine tdoO 4 (fun K hK => ?_); (go_simp; refine hK.out _ _ ?_ (fun hHeld => ?_); ((try dsimp only); exact Only.alloc hHeld _); clear hK K; (try clear hHeld0); (try rename_i hHeld0)))
        exact byWOldA1
      · (go_simp; refine hK.out _ _ ?_ (fun hHeld => ?_); ((try dsimp only); exact Only.alloc hHeld _); clear hK K; (try clear hHeld0); (try rename_i hHeld0))
        have c2m := cell_alloc c2n (.cells #[.int .i64 x.t, .int .i64 x.r, .int .i64 x.k, .string ⟨x.key.toArray⟩, .string ⟨x.val.toArray⟩, .int .i64 x.n] 33)
        (refine tdoO 1 (fun K hK => ?_); (go_simp; refine hK.out _ _ ?_ (fun hHeld => ?_); ((try dsimp only); exact hHeld); clear hK K; (try clear hHeld0); (try rename_i hHeld0)))
        clear c2n c2m
        exact byWOldA1
    -- ROUND END
   · obtain rfl : k = m := by omega
     rw [Nat.sub_self, Fst.wrts, List.append_nil] at hrest
     have hacc := hrest.out.1
     have htk : tk = C.2 := hrest.out.2
     subst htk
     have hBl := hB8.trans (hOl.below (fun j hj => by rcases hj with h | h <;> omega) hB8.size)
     have hszr := hOl.size
     have hvf2 := Lib.hid (SliceIs.only hvf.out hOl (fun j hj => by have := hbf2.out j hj; rintro (h | h) <;> omega))
     have hvh2 := Lib.hid (SliceIs.only hvh.out hOl (fun j hj => by have := hbh.out j hj; rintro (h | h) <;> omega))
     have q1 := q0.out.only hOl (by rintro (h | h) <;> omega)
     obtain ⟨ts, E, qt, hts, htz, hE⟩ := hqr
     clear q0 hvf hvh hOl
     by_cases he : C.2.e = true
     · have hnone : RES = none := by rw [hRES.out, if_pos he]
       rw [if_pos he] at hE
       obtain ⟨c, rfl⟩ := hE
       unfold errV at qt
       have hTl := Lib.hid (fun W (hW : Below w.heap.size w W) => tell_errno c W (hL.below hW))
       obtain ⟨d0, d1⟩ := qt.c2
       obtain ⟨z0, z1, z2⟩ := q1.c3
       (have y0 := q1.frozen 0 (by simp); have y1 := q1.frozen 1 (by simp); have y2 := q1.frozen 2 (by simp))
       replace hnone := Lib.hid hnone
       replace hrest := Lib.hid hrest
       replace hacc := Lib.hid hacc
       clear hown qb qt hts
       go_wp2_with fail
       refine (hTl.out _ hBl).mono ?_
       rintro _ w9 ⟨rfl, hb9⟩
       replace q1 := q1.below hb9
       clear z0 z1 z2 y0 y1 y2 d0 d1
       obtain ⟨z0, z1, z2⟩ := q1.c3
       (have y0 := q1.frozen 0 (by simp); have y1 := q1.frozen 1 (by simp); have y2 := q1.frozen 2 (by simp))
       have qF := Lib.hid (row_set3 q1 rfl (.slice none 0 0) (.slice none 0 0) (.slice none 0 0))
       have hF := Lib.hid (below_set3 (bch hBl hb9) (Nat.le_refl _) (.slice none 0 0) (.slice none 0 0) (.slice none 0 0))
       clear q1 hb9
       go_wp2
       rw [hnone.out]
       exact oldr_ret _ _ _ _ _ _ _ _ rfl rfl rfl qF.out (old_none _ _ _ _ hF.out)
     rw [if_neg he] at hE
     subst hE
     by_cases hse : C.2.s = []
     · have hte : ts.toList.isEmpty = true := by rw [ByteArray.toList_eq, hts, hse]; rfl
       have hRS : RES = if Bat.right f h C.1 = .ok then some (f, h, C.1) else none := by rw [hRES.out, if_neg he, if_neg (by simpa using hse)]
       have hws : ListIs wrBCells 6 wr (.slice o3 k m3) (C.1.map WrB.of) := by
         rw [← hacc]
         refine ListIs.of_owns (e := 33) (base := w8.heap.size) ?_
         rw [List.length_map, hal]; exact hown
       have hwo : ∀ j, (Value.slice o3 k m3).ownBlock = some j → w8.heap.size ≤ j := owns_fresh hown
       have hR := Lib.hid (batch_right (.slice o1 f.length m1) (.slice o2 h.length m2) (.slice o3 k m3) f h (C.1.map WrB.of) wr (hL.below hBl) hvf2.out hvh2.out hws (by omega) (by omega) (by rw [List.length_map]; omega))
       rw [plains_of'] at hR
       obtain ⟨d0, d1⟩ := qt.c2
       (have x0 := qt.frozen 0 (by simp); have x1 := qt.frozen 1 (by simp))
       obtain ⟨c0, c1, c2⟩ := qb.c3
       replace hRS := Lib.hid hRS
       replace hrest := Lib.hid hrest
       replace hacc := Lib.hid hacc
       replace hws := Lib.hid hws
       replace hwo := Lib.hid hwo
       replace hse := Lib.hid hse
       clear hown hts
       go_wp2_with fail
       refine hR.out.mono ?_
       rintro _ w9 ⟨v, rfl, hv, hb9⟩
       have hw9 := hb9.size
       have hszq := qt.lt
       replace qt := qt.below hb9
       replace q1 := q1.below hb9
       replace qb := qb.below hb9
       have hB9 := bch hBl hb9
       clear d0 d1 x0 x1 c0 c1 c2
       obtain ⟨d0, d1⟩ := qt.c2
       (have x0 := qt.frozen 0 (by simp); have x1 := qt.frozen 1 (by simp))
       obtain ⟨c0, c1, c2⟩ := qb.c3
       obtain ⟨z0, z1, z2⟩ := q1.c3
       (have y0 := q1.frozen 0 (by simp); have y1 := q1.frozen 1 (by simp); have y2 := q1.frozen 2 (by simp))
       by_cases hok : Bat.right f h C.1 = .ok
       · rw [hok] at hv
         have hv : v = .nilIface := hv
         subst hv
         have hsome : RES = some (f, h, C.1) := by rw [hRS.out, if_pos hok]
         have hO1 := Only.set (S := fun j => j = q ∨ j = w.heap.size) (Only.refl _ w9) (p := ⟨q, 1, none⟩) (.inl (.inl rfl)) .nilIface
         have hO2 := ((hO1.set (p := ⟨w.heap.size, 0, none⟩) (.inl (.inr rfl)) (.slice o1 f.length m1)).set (p := ⟨w.heap.size, 1, none⟩) (.inl (.inr rfl)) (.slice o2 h.length m2)).set (p := ⟨w.heap.size, 2, none⟩) (.inl (.inr rfl)) (.slice o3 k m3)
         have q3 := Lib.hid (row_set3 (q1.other (p := ⟨q, 1, none⟩) (by show q ≠ w.heap.size; omega) .nilIface) rfl (.slice o1 f.length m1) (.slice o2 h.length m2) (.slice o3 k m3))
         have g1 := Lib.hid (SliceIs.only (hvf2.out.below (by decide) hb9) hO2 (fun j hj => by have := hbf.out j hj; have := hbf2.out j hj; rintro (h | h) <;> omega))
         have g2 := Lib.hid (SliceIs.only (hvh2.out.below (by decide) hb9) hO2 (fun j hj => by have := hbh.out j hj; rintro (h | h) <;> omega))
         have g3 := Lib.hid (SliceIs.only (SliceIs.below hws.out (by decide) hb9) hO2 (fun j hj => by have := hwo.out j hj; rintro (h | h) <;> omega))
         have hBf := Lib.hid (hB9.trans (hO2.below (fun j hj => by rcases hj with h | h <;> omega) hB9.size))
         replace hsome := Lib.hid hsome
         replace hok := Lib.hid hok
         clear qt qb q1 hO1 hO2
         go_wp2
         rw [hsome.out]
         exact oldr_ret _ _ _ _ _ _ _ _ rfl rfl rfl q3.out ⟨⟨_, _, _, rfl, g1.out, g2.out, g3.out⟩, hBf.out⟩
       · have hnone : RES = none := by rw [hRS.out, if_neg hok]
         obtain ⟨t, u, rfl⟩ := err_some hv hok
         have hv2 := hv.tk qt (.iface t u)
         have q2 := q1.other (p := ⟨q, 1, none⟩) (by show q ≠ w.heap.size; omega) (.iface t u)
         have hB2 := Below.setCell hB9 (p := ⟨q, 1, none⟩) hgq (.iface t u)
         have hTl := Lib.hid (tell_err (.iface t u) _ (w9.setCell ⟨q, 1, none⟩ (.iface t u)) (hL.below hB2) hv2)
         replace q2 := Lib.hid q2
         replace hB2 := Lib.hid hB2
         replace hnone := Lib.hid hnone
         replace hok := Lib.hid hok
         clear qt qb q1 hv hv2
         go_wp2_with fail
         have q2 := q2.out
         have hB2 := hB2.out
         clear d0 d1 x0 x1 z0 z1 z2 y0 y1 y2 c0 c1 c2
         refine hTl.out.mono ?_
         clear hTl
         rintro _ wa ⟨rfl, hb9⟩
         replace q2 := q2.below hb9
         obtain ⟨z0, z1, z2⟩ := q2.c3
         (have y0 := q2.frozen 0 (by simp); have y1 := q2.frozen 1 (by simp); have y2 := q2.frozen 2 (by simp))
         have qF := Lib.hid (row_set3 q2 rfl (.slice none 0 0) (.slice none 0 0) (.slice none 0 0))
         have hF := Lib.hid (below_set3 (bch hB2 hb9) (Nat.le_refl _) (.slice none 0 0) (.slice none 0 0) (.slice none 0 0))
         clear q2 hb9
         go_wp2
         rw [hnone.out]
         exact oldr_ret _ _ _ _ _ _ _ _ rfl rfl rfl qF.out (old_none _ _ _ _ hF.out)
     · have hnone : RES = none := by rw [hRES.out, if_neg he, if_pos hse]
       have hte : ts.toList.isEmpty = false := by
         rw [ByteArray.toList_eq, hts]
         cases hc : C.2.s with
         | nil => exact absurd hc hse
         | cons a l => rfl
       have hTl := Lib.hid (fun W (hW : Below w.heap.size w W) => tell_errno 3 W (hL.below hW))
       obtain ⟨d0, d1⟩ := qt.c2
       (have x0 := qt.frozen 0 (by simp); have x1 := qt.frozen 1 (by simp))
       have qt2 := qt.set 1 (.iface 67 (.int .i64 3))
       have q2 := q1.other (p := ⟨q, 1, none⟩) (by show q ≠ w.heap.size; omega) (.iface 67 (.int .i64 3))
       have hB2 := Below.setCell hBl (p := ⟨q, 1, none⟩) hgq (.iface 67 (.int .i64 3))
       replace hnone := Lib.hid hnone
       replace hrest := Lib.hid hrest
       replace hacc := Lib.hid hacc
       replace qt2 := Lib.hid qt2
       replace q2 := Lib.hid q2
       replace hB2 := Lib.hid hB2
       replace hse := Lib.hid hse
       clear hown qb qt hts
       go_wp2_with fail
       have q2 := q2.out
       have hB2 := hB2.out
       have qt2 := qt2.out
       clear d0 d1 x0 x1
       generalize wr.setCell ⟨q, 1, none⟩ (.iface 67 (.int .i64 3)) = w9 at *
       refine (hTl.out _ hB2).mono ?_
       rintro _ wa ⟨rfl, hb9⟩
       replace q2 := q2.below hb9
       clear qt2
       obtain ⟨z0, z1, z2⟩ := q2.c3
       (have y0 := q2.frozen 0 (by simp); have y1 := q2.frozen 1 (by simp); have y2 := q2.frozen 2 (by simp))
       have qF := Lib.hid (row_set3 q2 rfl (.slice none 0 0) (.slice none 0 0) (.slice none 0 0))
       have hF := Lib.hid (below_set3 (bch hB2 hb9) (Nat.le_refl _) (.slice none 0 0) (.slice none 0 0) (.slice none 0 0))
       clear q2 hb9
       go_wp2
       rw [hnone.out]
       exact oldr_ret _ _ _ _ _ _ _ _ rfl rfl rfl qF.out (old_none _ _ _ _ hF.out)
/-- Of version 2. -/
theorem old_read_two (s : ByteArray) (w : World) (hs : s.size ≤ 1000000) (hL : Laid w) (hv : Frame.version s.data.toList = .inr 2) :
    Calls Tryz.prog 74 #[.string s] w (OldGot s w) := by
  have h8 : 8 ≤ s.size := by
    obtain ⟨_, _, _, _, _, h⟩ := Frame.version_inv hv
    rwa [show s.data.toList.length = s.size from Array.length_toList] at h
  have hI := fun W => frame_inside s 2 W hs hv
  have hV := fun W => frame_version s W hs
  rw [hv] at hV
  rw [show verVal (.inr 2) = .tuple #[.int .i64 2, .nilIface] from rfl] at hV
  have htx := text_ba s h8
  have hxs : (s.extract 3 (s.size - 4)).size ≤ 1000000 := by simp only [ByteArray.size_extract]; omega
  have hB : Fst.readB s.data.toList = (if 20000 < (Frame.text s.data.toList).length then none else match Body.read (Frame.text s.data.toList) with
      | .error _ => none
      | .ok b => some b) := by unfold Fst.readB; rw [hv]; rfl
  unfold OldGot
  rw [hB, ← htx, show (s.extract 3 (s.size - 4)).data.toList.length = (s.extract 3 (s.size - 4)).size from Array.length_toList]
  clear hB h8 hv htx
  generalize s.extract 3 (s.size - 4) = tx at *
  replace hI := Lib.hid hI
  replace hV := Lib.hid hV
  by_cases hlong : 20000 < tx.size
  · rw [if_pos hlong]
    have hR := Lib.hid (fun W => body_read_long tx W hlong (by unfold maxLen; omega))
    unfold errV at hR
    clear hlong
    go_enter Tryz.func74, Tryz.ntmps74
    go_wp2_with fail
    have q0 := row_at #[.slice none 0 0, .slice none 0 0, .slice none 0 0] 25 (rfl : w.heap.size = w.heap.size)
    have hb1 := bal (Below.refl w.heap.size w) (Obj.cells #[.slice none 0 0, .slice none 0 0, .slice none 0 0] 25)
    generalize w.alloc (Obj.cells #[.slice none 0 0, .slice none 0 0, .slice none 0 0] 25) = w1 at *
    refine (hV.out _).mono ?_
    rintro _ w2 ⟨rfl, hb2⟩
    replace q0 := q0.below hb2
    replace hb1 := bch hb1 hb2
    clear hb2
    go_wp2_with fail
    refine (hI.out _).mono ?_
    rintro _ w3 ⟨rfl, hb2⟩
    replace q0 := q0.below hb2
    replace hb1 := bch hb1 hb2
    clear hb2
    go_wp2_with fail
    refine (hR.out _).mono ?_
    rintro _ w4 ⟨rfl, hb2⟩
    replace q0 := q0.below hb2
    replace hb1 := bch hb1 hb2
    clear hb2
    obtain ⟨c0, c1, c2⟩ := q0.c3
    (have f0 := q0.frozen 0 (by simp); have f1 := q0.frozen 1 (by simp); have f2 := q0.frozen 2 (by simp))
    have qF := Lib.hid (row_set3 q0 rfl (.slice none 0 0) (.slice none 0 0) (.slice none 0 0))
    have hF := Lib.hid (below_set3 hb1 (Nat.le_refl _) (.slice none 0 0) (.slice none 0 0) (.slice none 0 0))
    clear q0
    go_wp2
    exact oldr_ret _ _ _ _ _ _ _ _ rfl rfl rfl qF.out (old_none _ _ _ _ hF.out)
  · rw [if_neg hlong]
    have hR := fun W hW => body_read tx W (by omega) hW
    unfold BodyGot at hR
    obtain ⟨RES, hRES⟩ : ∃ R, R = (match Body.read tx.data.toList with
      | .error _ => none
      | .ok b => some b) := ⟨_, rfl⟩
    rw [← hRES]
    cases hbr : Body.read tx.data.toList with
    | error x =>
      rw [hbr] at hR hRES
      simp only at hRES
      replace hR := Lib.hid hR
      replace hRES := Lib.hid hRES
      clear hlong hbr
      go_enter Tryz.func74, Tryz.ntmps74
      go_wp2_with fail
      have q0 := row_at #[.slice none 0 0, .slice none 0 0, .slice none 0 0] 25 (rfl : w.heap.size = w.heap.size)
      have hb1 := bal (Below.refl w.heap.size w) (Obj.cells #[.slice none 0 0, .slice none 0 0, .slice none 0 0] 25)
      generalize w.alloc (Obj.cells #[.slice none 0 0, .slice none 0 0, .slice none 0 0] 25) = w1 at *
      refine (hV.out _).mono ?_
      rintro _ w2 ⟨rfl, hb2⟩
      replace q0 := q0.below hb2
      replace hb1 := bch hb1 hb2
      clear hb2
      go_wp2_with fail
      refine (hI.out _).mono ?_
      rintro _ w3 ⟨rfl, hb2⟩
      replace q0 := q0.below hb2
      replace hb1 := bch hb1 hb2
      clear hb2
      go_wp2_with fail
      refine (hR.out _ (hL.below hb1)).mono ?_
      rintro _ w4 ⟨⟨g, rfl, -⟩, hb2⟩
      replace q0 := q0.below hb2
      replace hb1 := bch hb1 hb2
      clear hb2
      obtain ⟨c0, c1, c2⟩ := q0.c3
      (have f0 := q0.frozen 0 (by simp); have f1 := q0.frozen 1 (by simp); have f2 := q0.frozen 2 (by simp))
      have qF := Lib.hid (row_set3 q0 rfl (.slice none 0 0) (.slice none 0 0) (.slice none 0 0))
      have hF := Lib.hid (below_set3 hb1 (Nat.le_refl _) (.slice none 0 0) (.slice none 0 0) (.slice none 0 0))
      clear q0
      go_wp2
      rw [hRES.out]
      exact oldr_ret _ _ _ _ _ _ _ _ rfl rfl rfl qF.out (old_none _ _ _ _ hF.out)
    | ok x =>
      obtain ⟨f, h, ws⟩ := x
      rw [hbr] at hR hRES
      simp only at hRES hR
      replace hR := Lib.hid hR
      replace hRES := Lib.hid hRES
      clear hlong hbr
      go_enter Tryz.func74, Tryz.ntmps74
      go_wp2_with fail
      have q0 := row_at #[.slice none 0 0, .slice none 0 0, .slice none 0 0] 25 (rfl : w.heap.size = w.heap.size)
      have hb1 := bal (Below.refl w.heap.size w) (Obj.cells #[.slice none 0 0, .slice none 0 0, .slice none 0 0] 25)
      generalize w.alloc (Obj.cells #[.slice none 0 0, .slice none 0 0, .slice none 0 0] 25) = w1 at *
      refine (hV.out _).mono ?_
      rintro _ w2 ⟨rfl, hb2⟩
      replace q0 := q0.below hb2
      replace hb1 := bch hb1 hb2
      clear hb2
      go_wp2_with fail
      refine (hI.out _).mono ?_
      rintro _ w3 ⟨rfl, hb2⟩
      replace q0 := q0.below hb2
      replace hb1 := bch hb1 hb2
      clear hb2
      go_wp2_with fail
      refine (hR.out _ (hL.below hb1)).mono ?_
      rintro _ w4 ⟨⟨vf, vh, vw, rfl, h1, h2, h3⟩, hb2⟩
      obtain ⟨o4, c4, rfl, -, -⟩ := h1.list.at entCells_len
      obtain ⟨o5, c5, rfl, -, -⟩ := h2.list.at entCells_len
      obtain ⟨o6, c6, rfl, -, -⟩ := ListIs.at h3 wrBCells_len
      replace q0 := q0.below hb2
      replace hb1 := bch hb1 hb2
      clear hb2
      generalize hLe : ws.map WrB.of = L at *
      replace hLe := Lib.hid hLe
      obtain ⟨c0, c1, c2⟩ := q0.c3
      (have f0 := q0.frozen 0 (by simp); have f1 := q0.frozen 1 (by simp); have f2 := q0.frozen 2 (by simp))
      have hOz := (((Only.refl (fun j => j = w.heap.size) w4).set (p := ⟨w.heap.size, 0, none⟩) (.inl rfl) (.slice o4 f.length c4)).set (p := ⟨w.heap.size, 1, none⟩) (.inl rfl) (.slice o5 h.length c5)).set (p := ⟨w.heap.size, 2, none⟩) (.inl rfl) (.slice o6 L.length c6)
      have hxs : ∀ x ∈ [Value.slice none 0 0, .slice none 0 0, .slice none 0 0], ∃ o k c, x = .slice o k c := fun x hx => by
        simp only [List.mem_cons, List.not_mem_nil, or_false, or_self] at hx
        exact ⟨_, _, _, hx⟩
      have g1 := Lib.hid (slice_apart h1 (by decide) q0 hxs (by cases f <;> simp [entryCells]) hOz)
      have g2 := Lib.hid (slice_apart h2 (by decide) q0 hxs (by cases h <;> simp [entryCells]) hOz)
      have g3 := Lib.hid (slice_apart h3 (by decide) q0 hxs (by cases L <;> simp [wrBCells]) hOz)
      have qF := Lib.hid (row_set3 q0 rfl (.slice o4 f.length c4) (.slice o5 h.length c5) (.slice o6 L.length c6))
      have hF := Lib.hid (below_set3 hb1 (Nat.le_refl _) (.slice o4 f.length c4) (.slice o5 h.length c5) (.slice o6 L.length c6))
      clear q0 hOz h1 h2 h3 hb1 hxs
      go_wp2
      rw [hRES.out]
      refine oldr_ret _ _ _ _ _ _ _ _ rfl rfl rfl qF.out ?_
      refine ⟨⟨_, _, _, rfl, g1.out, g2.out, ?_⟩, hF.out⟩
      show WrsIs _ _ (ws.map WrB.of)
      rw [hLe.out]
      exact g3.out
theorem old_read (s : ByteArray) (w : World) (hs : s.size ≤ 1000000) (hL : Laid w) :
    Calls Tryz.prog 74 #[.string s] w (OldGot s w) := by
  cases hv : Frame.version s.data.toList with
  | inl c =>
    refine (old_read_none s c w hs hv).mono ?_
    rintro _ w2 ⟨rfl, hb⟩
    unfold OldGot Fst.readB
    rw [hv]
    exact old_none _ _ _ _ hb
  | inr v =>
    obtain ⟨_, _, h1, h3, _⟩ := Frame.version_inv hv
    by_cases e1 : v = 1
    · subst e1; exact old_read_one s w hs hL hv
    · by_cases e2 : v = 2
      · subst e2; exact old_read_two s w hs hL hv
      · obtain rfl : v = 3 := by omega
        refine (old_read_three s w hs hv).mono ?_
        rintro _ w2 ⟨rfl, hb⟩
        unfold OldGot Fst.readB
        rw [hv]
        exact old_none _ _ _ _ hb
end Go.Proofs.YtognjohloobliaaGreatDoor
/- The walks of old.Any, old.Lift, and of frame.Read at another version. -/
namespace Go.Proofs.YtognjohloobliaaGreatDoor
open Go.RowKit
set_option linter.unusedVariables false
set_option linter.unusedSimpArgs false
namespace Fst
def frameB (s : List UInt8) : Option (List Vec.Entry × List Vec.Entry × List Wr) := match Frame.readB s with
  | none => none
  | some x => if Frame.write x.1 x.2.1 x.2.2 = s then some x else none
/-- What is read of any version. -/
def anyB (s : List UInt8) : Option (List Vec.Entry × List Vec.Entry × List Wr) := match Frame.version s with
  | .inl _ => none
  | .inr v => if v = 3 then frameB s else Fst.readB s
theorem inner_pos (f h : List Vec.Entry) (ws : List Wr) : 1 ≤ (inner f h ws).length := by
  unfold inner plain
  have := Vary.put_pos f.length
  simp only [List.length_append]; omega
theorem version_first (f h : List Vec.Entry) (ws : List Wr) : Frame.version (write f h ws) = .inr 1 := by
  unfold write
  exact Frame.version_around 1 _ (by decide) (by decide) (inner_pos f h ws)
theorem body_pos (f h : List Vec.Entry) (ws : List Wr) : 1 ≤ (Body.write f h ws).length := by
  have h1 : Body.write f h ws = bodyOf f h (ws.map WrB.of) := by unfold bodyOf; rw [plains_of']
  rw [h1, body_parts]
  have := Vary.put_pos (ws.map WrB.of).length
  simp only [List.length_append]
  omega
theorem version_second (f h : List Vec.Entry) (ws : List Wr) : Frame.version (Frame.around 2 (Body.write f h ws)) = .inr 2 :=
  Frame.version_around 2 _ (by decide) (by decide) (body_pos f h ws)
theorem version_third (f h : List Vec.Entry) (ws : List Wr) : Frame.version (Frame.write f h ws) = .inr 3 := by
  unfold Frame.write Frame.inside
  exact Frame.version_around 3 _ (by decide) (by decide) (by simp)
theorem readB_first {f h : List Vec.Entry} {ws : List Wr} (hr : Bat.right f h ws = .ok) : readB (write f h ws) = some (f, h, ws) := by
  unfold readB
  rw [version_first]
  simp only
  rw [if_neg (by decide), if_neg (by decide)]
  unfold write
  rw [Frame.text_around, read_inner hr]
theorem readB_second {f h : List Vec.Entry} {ws : List Wr} (hr : Bat.right f h ws = .ok) (hl : (Body.write f h ws).length ≤ 20000) : readB (Frame.around 2 (Body.write f h ws)) = some (f, h, ws) := by
  unfold readB
  rw [version_second]
  simp only
  rw [if_pos trivial, Frame.text_around, if_neg (by omega), Body.read_write hr]
theorem anyB_first {f h : List Vec.Entry} {ws : List Wr} (hr : Bat.right f h ws = .ok) : anyB (write f h ws) = some (f, h, ws) := by
  unfold anyB
  rw [version_first]
  simp only
  rw [if_neg (by decide), readB_first hr]
theorem anyB_second {f h : List Vec.Entry} {ws : List Wr} (hr : Bat.right f h ws = .ok) (hl : (Body.write f h ws).length ≤ 20000) : anyB (Frame.around 2 (Body.write f h ws)) = some (f, h, ws) := by
  unfold anyB
  rw [version_second]
  simp only
  rw [if_neg (by decide), readB_second hr hl]
theorem anyB_third {f h : List Vec.Entry} {ws : List Wr} (hr : Bat.right f h ws = .ok) (hl : (Body.write f h ws).length ≤ 20000) : anyB (Frame.write f h ws) = some (f, h, ws) := by
  unfold anyB
  rw [version_third]
  simp only
  rw [if_pos trivial]
  unfold frameB
  rw [Frame.readB_write hr hl]
  simp
end Fst
theorem olda_ret (R : Ending → World → Prop) (a : Act) (w : World) (n0 : Nat) (x0 x1 x2 y : Value) (hd : a.defers = []) (h2 : a.tmps[2]? = some (.pointer (some ⟨n0, 0, none⟩))) (h3 : a.tmps[3]? = some y)
    (hb : Row w n0 25 [x0, x1, x2]) (hR : R (.returned (.tuple #[.agg #[x0, x1, x2], y])) w) : bodyPost Tryz.prog Tryz.f55 R .ret a w := by
  obtain ⟨c0, c1, c2⟩ := hb.c3
  simp [bodyPost, results, Tryz.results55, go_sem, h2, h3, c0, c1, c2, hd]
  exact hR
theorem frame_res (s : ByteArray) (w : World) (hs : s.size ≤ 700000) (hL : Laid w) :
    Calls Tryz.prog 73 #[.string s] w (OldRes (Fst.frameB s.data.toList) w) := by
  refine (frame_read s w hs hL).mono ?_
  intro e w' h
  unfold FrameGot at h
  unfold Fst.frameB
  cases hr : Frame.readB s.data.toList with
  | none => rw [hr] at h; exact h
  | some x =>
    rw [hr] at h
    simp only at h ⊢
    by_cases he : Frame.write x.1 x.2.1 x.2.2 = s.data.toList
    · rw [if_pos he] at h ⊢; exact h
    · rw [if_neg he] at h ⊢
      obtain ⟨rfl, hb⟩ := h
      exact old_none _ _ _ _ hb
theorem byWOldA4 {p : Prop} (h : p := by
  go_enter Tryz.func55, Tryz.ntmps55
  go_wp2_with fail
  have q0 := row_at #[.slice none 0 0, .slice none 0 0, .slice none 0 0] 25 (rfl : w.heap.size = w.heap.size)
  have hb1 := bal (Below.refl w.heap.size w) (Obj.cells #[.slice none 0 0, .slice none 0 0, .slice none 0 0] 25)
  generalize w.alloc (Obj.cells #[.slice none 0 0, .slice none 0 0, .slice none 0 0] 25) = w1 at *
  refine (hV.out _).mono ?_
  rintro _ w2 ⟨rfl, hb2⟩
  replace q0 := q0.below hb2
  replace hb1 := bch hb1 hb2
  clear hb2
  go_wp2_with fail
  refine (hR.out _ (hL.below hb1)).mono ?_
  rintro _ w3 ⟨x, y, z, o1, n1, k1, o2, n2, k2, o3, n3, k3, E, rfl, rfl, rfl, rfl, hb2, hE, hfin⟩
  replace q0 := q0.below hb2
  have hf := Lib.hid (hfin w w.heap.size (Nat.le_refl _) q0 (bch hb1 hb2))
  have qF := Lib.hid (row_set3 q0 rfl (.slice o1 n1 k1) (.slice o2 n2 k2) (.slice o3 n3 k3))
  obtain ⟨c0, c1, c2⟩ := q0.c3
  (have f0 := q0.frozen 0 (by simp); have f1 := q0.frozen 1 (by simp); have f2 := q0.frozen 2 (by simp))
  clear q0 hfin hb1 hb2
  rcases hE with rfl | ⟨t, u, rfl⟩
  · go_wp2
    exact olda_ret _ _ _ _ _ _ _ _ rfl rfl rfl qF.out hf.out
  · go_wp2
    exact olda_ret _ _ _ _ _ _ _ _ rfl rfl rfl qF.out hf.out) : p := h
set_option maxHeartbeats 4000000 in
set_option maxRecDepth 20000 in
theorem old_any (s : ByteArray) (w : World) (hs : s.size ≤ 700000) (hL : Laid w) :
    Calls Tryz.prog 55 #[.string s] w (OldRes (Fst.anyB s.data.toList) w) := by
  have hV := fun W => frame_version s W (by omega)
  obtain ⟨RES, hRES⟩ : ∃ R, R = Fst.anyB s.data.toList := ⟨_, rfl⟩
  rw [← hRES]
  unfold Fst.anyB at hRES
  cases hv : Frame.version s.data.toList with
  | inl c =>
    rw [hv] at hV hRES
    simp only at hRES
    rw [show verVal (.inl c) = .tuple #[.int .i64 0, .iface 67 (.int .i64 c)] from rfl] at hV
    replace hV := Lib.hid hV
    replace hRES := Lib.hid hRES
    clear hv
    go_enter Tryz.func55, Tryz.ntmps55
    go_wp2_with fail
    have q0 := row_at #[.slice none 0 0, .slice none 0 0, .slice none 0 0] 25 (rfl : w.heap.size = w.heap.size)
    have hb1 := bal (Below.refl w.heap.size w) (Obj.cells #[.slice none 0 0, .slice none 0 0, .slice none 0 0] 25)
    generalize w.alloc (Obj.cells #[.slice none 0 0, .slice none 0 0, .slice none 0 0] 25) = w1 at *
    refine (hV.out _).mono ?_
    rintro _ w2 ⟨rfl, hb2⟩
    replace q0 := q0.below hb2
    replace hb1 := bch hb1 hb2
    clear hb2
    obtain ⟨c0, c1, c2⟩ := q0.c3
    (have f0 := q0.frozen 0 (by simp); have f1 := q0.frozen 1 (by simp); have f2 := q0.frozen 2 (by simp))
    have qF := Lib.hid (row_set3 q0 rfl (.slice none 0 0) (.slice none 0 0) (.slice none 0 0))
    have hF := Lib.hid (below_set3 hb1 (Nat.le_refl _) (.slice none 0 0) (.slice none 0 0) (.slice none 0 0))
    clear q0
    go_wp2
    rw [hRES.out]
    exact olda_ret _ _ _ _ _ _ _ _ rfl rfl rfl qF.out (old_none _ _ _ _ hF.out)
  | inr v =>
    obtain ⟨_, _, v1, v3, _⟩ := Frame.version_inv hv
    rw [hv] at hV hRES
    simp only at hRES
    rw [show verVal (.inr v) = .tuple #[.int .i64 v, .nilIface] from rfl] at hV
    have hG : ∀ (F : FuncId), (∀ W, Laid W → Calls Tryz.prog F #[.string s] W (OldRes RES W)) → ∀ W, Laid W → Calls Tryz.prog F #[.string s] W fun e w' => (∃ x y z o1 n1 k1 o2 n2 k2 o3 n3 k3 E, x = .slice o1 n1 k1 ∧ y = .slice o2 n2 k2 ∧ z = .slice o3 n3 k3 ∧ e = .returned (.tuple #[.agg #[x, y, z], E]) ∧ Below W.heap.size W w' ∧ (E = .nilIface ∨ ∃ t u, E = .iface t u) ∧
        ∀ (w0 : World) (g : Nat), w0.heap.size ≤ g → Row w' g 25 [.slice none 0 0, .slice none 0 0, .slice none 0 0] → Below w0.heap.size w0 w' → OldRes RES w0 (.returned (.tuple #[.agg #[x, y, z], E])) (((w'.setCell ⟨g, 0, none⟩ x).setCell ⟨g, 1, none⟩ y).setCell ⟨g, 2, none⟩ z)) := fun F hF W hW => by
      refine (hF W hW).mono ?_
      intro e w' h
      unfold OldRes at h
      cases hR : RES with
      | none =>
        rw [hR] at h
        obtain ⟨⟨t, u, rfl⟩, hb⟩ := h
        exact ⟨_, _, _, _, _, _, _, _, _, _, _, _, _, rfl, rfl, rfl, rfl, hb, .inr ⟨_, _, rfl⟩, fun w0 g hg q hB => old_none _ _ _ _ (below_set3 hB hg _ _ _)⟩
      | some x =>
        obtain ⟨f, h', ws⟩ := x
        rw [hR] at h
        obtain ⟨⟨vf, vh, vw, rfl, h1, h2, h3⟩, hb⟩ := h
        simp only at h1 h2 h3
        obtain ⟨o4, c4, rfl, -, -⟩ := h1.list.at entCells_len
        obtain ⟨o5, c5, rfl, -, -⟩ := h2.list.at entCells_len
        obtain ⟨o6, c6, e6, -, -⟩ := ListIs.at h3 wrBCells_len
        subst e6
        refine ⟨_, _, _, _, _, _, _, _, _, _, _, _, _, rfl, rfl, rfl, rfl, hb, .inl rfl, fun w0 g hg q0 hB => ?_⟩
        have hOz := (((Only.refl (fun j => j = g) w').set (p := ⟨g, 0, none⟩) (.inl rfl) (.slice o4 f.length c4)).set (p := ⟨g, 1, none⟩) (.inl rfl) (.slice o5 h'.length c5)).set (p := ⟨g, 2, none⟩) (.inl rfl) (.slice o6 (ws.map WrB.of).length c6)
        have hxs : ∀ x ∈ [Value.slice none 0 0, .slice none 0 0, .slice none 0 0], ∃ o k c, x = .slice o k c := fun x hx => by
          simp only [List.mem_cons, List.not_mem_nil, or_false, or_self] at hx
          exact ⟨_, _, _, hx⟩
        exact ⟨⟨_, _, _, rfl, slice_apart h1 (by decide) q0 hxs (by cases f <;> simp [entryCells]) hOz, slice_apart h2 (by decide) q0 hxs (by cases h' <;> simp [entryCells]) hOz, slice_apart h3 (by decide) q0 hxs (by cases ws <;> simp [wrBCells]) hOz⟩, below_set3 hB hg _ _ _⟩
    by_cases h3 : v = 3
    · rw [if_pos h3] at hRES
      have hR := Lib.hid (hG 73 (fun W hW => by rw [hRES]; exact frame_res s W hs hW))
      subst h3
      replace hV := Lib.hid hV
      replace hRES := Lib.hid hRES
      clear hv hG
      exact byWOldA4
    · rw [if_neg h3] at hRES
      have hR := Lib.hid (hG 74 (fun W hW => by rw [hRES]; exact old_read s W (by omega) hW))
      have hv3 : ((v : Int) == 3) = false := by simp; omega
      replace hV := Lib.hid hV
      replace hRES := Lib.hid hRES
      clear hv hG v1 v3 h3
      exact byWOldA4
end Go.Proofs.YtognjohloobliaaGreatDoor
