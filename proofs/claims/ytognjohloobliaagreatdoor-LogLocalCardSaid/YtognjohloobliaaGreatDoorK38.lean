/- The walks of body's reader. -/
import Derived.Test.YtognjohloobliaaGreatDoorK24
import Derived.Test.YtognjohloobliaaGreatDoorK22
import Derived.Test.YtognjohloobliaaGreatDoorK08
import Derived.Test.YtognjohloobliaaGreatDoorK02
import Derived.Defers
import Derived.Recover
import Derived.Test.YtognjohloobliaaGreatDoorK35
import Derived.Test.YtognjohloobliaaGreatDoorK37
import Derived.Test.YtognjohloobliaaGreatDoorK25
namespace Go.Proofs.YtognjohloobliaaGreatDoor
open Go.RowKit
set_option linter.unusedVariables false
set_option linter.unusedSimpArgs false
/-- What is thrown. -/
def FV (c p : Nat) : PanicEntry := { v := .iface 185 (.agg #[.int .i64 c, .int .i64 p]), recovered := false }
/-- The reader stands at p. -/
def Rd (w : World) (q : Nat) (s : ByteArray) (p : Nat) : Prop := Row w q 189 [.string s, .int .i64 p]
theorem Rd.c0 {w : World} {q : Nat} {s : ByteArray} {p : Nat} (h : Rd w q s p) : w.cell? ⟨q, 0, none⟩ = some (.string s) := Row.cell h 0
theorem Rd.c1 {w : World} {q : Nat} {s : ByteArray} {p : Nat} (h : Rd w q s p) : w.cell? ⟨q, 1, none⟩ = some (.int .i64 p) := Row.cell h 1
theorem Rd.f1 {w : World} {q : Nat} {s : ByteArray} {p : Nat} (h : Rd w q s p) : w.frozen? ⟨q, 1, none⟩ = false := Row.frozen h 1 (by simp)
theorem Rd.below {w w' : World} {q : Nat} {s : ByteArray} {p : Nat} (h : Rd w q s p) (hb : Below w.heap.size w w') : Rd w' q s p := Row.below h hb
theorem Rd.only {S : Nat → Prop} {w w' : World} {q : Nat} {s : ByteArray} {p : Nat} (h : Rd w q s p) (hb : Only S w w') (hn : ¬ S q) : Rd w' q s p := Row.only h hb hn
theorem Rd.to {w : World} {q : Nat} {s : ByteArray} {p : Nat} (h : Rd w q s p) (p' : Nat) : Rd (w.setCell ⟨q, 1, none⟩ (.int .i64 p')) q s p' := Row.set h 1 _
theorem check_no (q : Nat) (w : World) : Calls Tryz.prog 113 #[.pointer (some ⟨q, 0, none⟩), .nilIface] w fun e w' => e = .returned (.tuple #[]) ∧ w' = w := by
 go_enter Tryz.func113, Tryz.ntmps113
 go_wp2
 go_end0
 exact ⟨rfl, rfl⟩
set_option maxHeartbeats 2000000 in
set_option maxRecDepth 20000 in
theorem check_yes (q : Nat) (s : ByteArray) (p : Nat) (E : Value) (x : Err) (hx : x ≠ .ok) (w : World) (hL : Laid w) (hq : Rd w q s p) (hE : ErrRep w E x) :
  Calls Tryz.prog 113 #[.pointer (some ⟨q, 0, none⟩), E] w fun e w' => e = .panicked [FV x.code p] ∧ Below w.heap.size w w' := by
 have hT := fun W (hW : Below w.heap.size w W) => tell_err E x W (hL.below hW) (hE.below hW)
 obtain ⟨t, u, rfl⟩ : ∃ t u, E = .iface t u := by
  cases x with
  | ok => exact absurd rfl hx
  | no n => exact ⟨_, _, hE⟩
  | at_ n i => obtain ⟨g, h9, -⟩ := hE; exact ⟨_, _, h9⟩
 have c1 := hq.c1
 generalize x.code = code at *
 replace hT := Lib.hid hT
 clear hE hx
 go_enter Tryz.func113, Tryz.ntmps113
 go_wp2_with fail
 have hS0 : Below w.heap.size w w.drew ∧ w.drew.cell? ⟨q, 1, none⟩ = some (.int .i64 p) := ⟨bdr (Below.refl _ _), c1⟩
 (refine wp_region_held_drew (S := (fun W => Below w.heap.size w W ∧ W.cell? ⟨q, 1, none⟩ = some (.int .i64 p))) (by kernel_rfl) ?_ (fun hHeld => ?_); ((try dsimp only); exact hS0))
 (refine tkO 0 ?_; refine tkO 2 ?_; refine tkO 3 ?_; refine tkO 4 ?_; refine tkO 5 ?_)
 (refine tdoO 1 (fun K hK => ?_); ((go_simp; refine (hT.out _ hHeld.1).mono ?_; rintro _ wn ⟨rfl, hbn⟩); refine hK.out _ _ ?_ (fun hHeld => ?_); ((try dsimp only); exact ⟨bch hHeld.1 hbn, cell_below hbn hHeld.2⟩); clear hK K; (try clear hHeld0); (try rename_i hHeld0)))
 (refine tkO 6 ?_; refine tkO 7 ?_; refine tkO 8 ?_)
 refine wpAnyH_ready (P := Tryz.prog) (md := .any) (rs := [9]) (by kernel_rfl) (by simp) ?_
 refine held_cons rfl (by kernel_rfl) (fun K hK => ?_) AllReadyH.nil
 go_simp
 exact ⟨rfl, rfl, hHeld.1⟩
set_option maxHeartbeats 2000000 in
set_option maxRecDepth 20000 in
theorem rd_number (q : Nat) (s : ByteArray) (p : Nat) (most : Int) (w : World) (hs : s.size ≤ 1000000) (hp : p ≤ s.size) (hm : most ≤ 9223372036854775807) (hL : Laid w) (hq : Rd w q s p) :
  Calls Tryz.prog 111 #[.pointer (some ⟨q, 0, none⟩), .int .i64 most] w fun e w' => (match Body.num s.data.toList p most with
   | .error x => e = .panicked [FV x.1 x.2]
   | .ok x => e = .returned (.int .i64 x.1) ∧ Rd w' q s x.2) ∧ Only (fun k => k = q) w w' := by
 have hat := fun W => vary_at s p most W hs hp hm
 have c0 := hq.c0
 have c1 := hq.c1
 have f1 := hq.f1
 have hp63 : (p : Int) ≤ 1000000 := by omega
 unfold Body.num
 cases hv : Vary.int (s.data.toList.drop p) most with
 | bad c =>
  rw [hv] at hat
  have hvb : intVal (.bad c) = .tuple #[.int .i64 0, .int .i64 0, .iface 67 (.int .i64 c)] := rfl
  rw [hvb] at hat
  replace hat := Lib.hid hat
  clear hvb hv
  have hq0 := hq
  simp only
  go_enter Tryz.func111, Tryz.ntmps111
  go_wp2_with fail
  have hcap0 := Old.cell c0
  have hcap1 := Old.cell c1
  (have hN := Old.ne w; refine wp_region_kept (Old w.heap.size w) (by kernel_rfl) (by kernel_rfl) (Old.start w) ?_; (repeat (first | go_big_quiet_step ((first | (go_at_call 91; go_must (exact calls_kept_same (hat.out _) )))) | quiet_step ((first | (go_at_call 91; go_must (exact calls_kept_same (hat.out _) )))))); refine wpQuiet_nil ?_; rintro _ ⟨X, rfl⟩)
  have hX := X.ok.2
  generalize X.val = w1 at *
  replace hq := hq.below hX
  clear hcap0 hcap1 c0 c1 f1
  have hC := fun E hE => check_yes q s p E (.no c) (by intro h; cases h) w1 (hL.below hX) hq hE
  replace hC := Lib.hid (hC (errV c) rfl)
  go_wp2_with fail
  refine hC.out.mono ?_
  rintro _ w2 ⟨rfl, hb2⟩
  exact ⟨rfl, rfl, Only.of_below _ (bch hX hb2)⟩
 | ok n j =>
  rw [hv] at hat
  have hvb : intVal (.ok n j) = .tuple #[.int .i64 n, .int .i64 j, .nilIface] := rfl
  rw [hvb] at hat
  obtain ⟨j1, j2, j3⟩ := int_le hv
  rw [List.length_drop, show s.data.toList.length = s.size from Array.length_toList] at j2
  replace hat := Lib.hid hat
  clear hvb hv
  simp only
  go_enter Tryz.func111, Tryz.ntmps111
  go_wp2_with fail
  have hcap0 := Old.cell c0
  have hcap1 := Old.cell c1
  (have hN := Old.ne w; refine wp_region_kept (Old w.heap.size w) (by kernel_rfl) (by kernel_rfl) (Old.start w) ?_; (repeat (first | go_big_quiet_step ((first | (go_at_call 91; go_must (exact calls_kept_same (hat.out _) )))) | quiet_step ((first | (go_at_call 91; go_must (exact calls_kept_same (hat.out _) )))))); refine wpQuiet_nil ?_; rintro _ ⟨X, rfl⟩)
  have hX := X.ok.2
  generalize X.val = w1 at *
  replace hq := hq.below hX
  clear hcap0 hcap1 c0 c1 f1
  have c1 := hq.c1
  have f1 := hq.f1
  have hC := Lib.hid (check_no q w1)
  go_wp2_with fail
  refine hC.out.mono ?_
  rintro _ w1 ⟨rfl, rfl⟩
  have hR := hq.to (p + j)
  have hO : Only (fun k => k = q) w (w1.setCell ⟨q, 1, none⟩ (.int .i64 (p + j : Nat))) := Only.set (S := fun k => k = q) (Only.of_below _ hX) (p := ⟨q, 1, none⟩) (.inl rfl) _
  replace hR := Lib.hid hR
  replace hO := Lib.hid hO
  go_wp2
  go_ret
  exact ⟨⟨rfl, hR.out⟩, hO.out⟩
theorem SliceIs.only {S : Nat → Prop} {w w' : World} {v : Value} {n sz : Nat} {cs : List Value} (h : SliceIs w v n sz cs) (ho : Only S w w') (hn : ∀ k, v.ownBlock = some k → ¬ S k) : SliceIs w' v n sz cs := by
 refine ⟨h.1, ?_⟩
 rcases h.2 with h2 | ⟨h0, b, off, cap, rfl, h3, h4, h5⟩
 ·exact .inl h2
 ·exact .inr ⟨h0, b, off, cap, rfl, h3, h4, fun j hj => ho.cell (h5 j hj) (hn b rfl)⟩
theorem extract_drop (s : ByteArray) (p : Nat) : (s.extract p s.size).data.toList = s.data.toList.drop p := by
 rw [ByteArray.data_extract, Array.toList_extract, List.extract_eq_take_drop, List.take_of_length_le (by rw [List.length_drop, Array.length_toList]; show s.size - p ≤ _; omega)]
theorem vec_at (s : ByteArray) (p : Nat) (w : World) (hs : s.size ≤ 1000000) (hp : p ≤ s.size) (hL : Laid w) :
  Calls Tryz.prog 132 #[.string (s.extract p s.size)] w (RetPartF (Vec.read (s.data.toList.drop p)) w) := by
 have h := vector_readF (s.extract p s.size) w (by simp only [ByteArray.size_extract]; omega) hL
 rwa [extract_drop] at h
set_option maxHeartbeats 2000000 in
set_option maxRecDepth 20000 in
theorem rd_vector (q : Nat) (s : ByteArray) (p : Nat) (w : World) (hs : s.size ≤ 1000000) (hp : p ≤ s.size) (hL : Laid w) (hq : Rd w q s p) :
  Calls Tryz.prog 110 #[.pointer (some ⟨q, 0, none⟩)] w fun e w' => (match Body.vecR s.data.toList p with
   | .error x => e = .panicked [FV x.1 x.2]
   | .ok x => ∃ v, e = .returned v ∧ VecIs w' v x.1 ∧ Fresh w.heap.size v ∧ Rd w' q s x.2) ∧ Only (fun k => k = q) w w' := by
 have hat := fun W hW => vec_at s p W hs hp hW
 have hq0 := hq
 have c0 := hq.c0
 have c1 := hq.c1
 have f1 := hq.f1
 have hp63 : (p : Int) ≤ 1000000 := by omega
 unfold Body.vecR
 cases hv : Vec.read (s.data.toList.drop p) with
 | bad c =>
  rw [hv] at hat
  replace hat := Lib.hid hat
  clear hv
  simp only
  go_enter Tryz.func110, Tryz.ntmps110
  go_wp2_with fail
  have hS0 : Below w.heap.size w w.drew ∧ w.drew.cell? ⟨q, 0, none⟩ = some (.string s) ∧ w.drew.cell? ⟨q, 1, none⟩ = some (.int .i64 p) := ⟨bdr (Below.refl _ _), c0, c1⟩
  (refine wp_region_held_drew (S := (fun W => Below w.heap.size w W ∧ W.cell? ⟨q, 0, none⟩ = some (.string s) ∧ W.cell? ⟨q, 1, none⟩ = some (.int .i64 p))) (by kernel_rfl) ?_ (fun hHeld => ?_); ((try dsimp only); exact hS0))
  (refine tkO 0 ?_; refine tkO 1 ?_; refine tkO 2 ?_; refine tkO 3 ?_; refine tkO 4 ?_; refine tkO 5 ?_; refine tkO 6 ?_; refine tkO 7 ?_; refine tkO 8 ?_)
  (refine tdoO 9 (fun K hK => ?_); ((go_simp; refine (hat.out _ (hL.below hHeld.1)).mono ?_; rintro _ wn ⟨rfl, hbn⟩); refine hK.out _ _ ?_ (fun hHeld => ?_); ((try dsimp only); exact ⟨bch hHeld.1 hbn, cell_below hbn hHeld.2.1, cell_below hbn hHeld.2.2⟩); clear hK K; (try clear hHeld0); (try rename_i hHeld0)))
  (refine tkO 10 ?_; refine tkO 11 ?_; refine tkO 12 ?_; refine tkO 13 ?_; refine tkO 14 ?_; refine tkO 15 ?_; refine tkO 16 ?_)
  (refine wpAnyH_done (by kernel_rfl) ?_ _)
  have hX : Below w.heap.size w wn := hHeld.1
  replace hq := hq.below hX
  clear c0 c1 f1 hHeld hHeld0 hS0
  have hC := fun E hE => check_yes q s p E (.no c) (by intro h; cases h) wn (hL.below hX) hq hE
  replace hC := Lib.hid (hC (errV c) rfl)
  go_wp2_with fail
  refine hC.out.mono ?_
  rintro _ w2 ⟨rfl, hb2⟩
  exact ⟨rfl, rfl, Only.of_below _ (bch hX hb2)⟩
 | ok l j =>
  rw [hv] at hat
  replace hat := Lib.hid hat
  have hjl : j ≤ 1000000 := by
   have := (Body.vecR_ok (S := s.data.toList) (p := p) (l := l) (p' := p + j) (by unfold Body.vecR; rw [hv]) (by rw [show s.data.toList.length = s.size from Array.length_toList]; exact hp)).2.1
   rw [show s.data.toList.length = s.size from Array.length_toList] at this
   omega
  clear hv
  simp only
  go_enter Tryz.func110, Tryz.ntmps110
  go_wp2_with fail
  have hS0 : Below w.heap.size w w.drew ∧ w.drew.cell? ⟨q, 0, none⟩ = some (.string s) ∧ w.drew.cell? ⟨q, 1, none⟩ = some (.int .i64 p) := ⟨bdr (Below.refl _ _), c0, c1⟩
  (refine wp_region_held_drew (S := (fun W => Below w.heap.size w W ∧ W.cell? ⟨q, 0, none⟩ = some (.string s) ∧ W.cell? ⟨q, 1, none⟩ = some (.int .i64 p))) (by kernel_rfl) ?_ (fun hHeld => ?_); ((try dsimp only); exact hS0))
  (refine tkO 0 ?_; refine tkO 1 ?_; refine tkO 2 ?_; refine tkO 3 ?_; refine tkO 4 ?_; refine tkO 5 ?_; refine tkO 6 ?_; refine tkO 7 ?_; refine tkO 8 ?_)
  (refine tdoO 9 (fun K hK => ?_); ((go_simp; refine (hat.out _ (hL.below hHeld.1)).mono ?_; rintro _ wn ⟨⟨v, rfl, hvv, hfr⟩, hbn⟩; have hHsz := hHeld.1.size); refine hK.out _ _ ?_ (fun hHeld => ?_); ((try dsimp only); exact ⟨bch hHeld.1 hbn, cell_below hbn hHeld.2.1, cell_below hbn hHeld.2.2⟩); clear hK K; (try clear hHeld0); (try rename_i hHeld0)))
  (refine tkO 10 ?_; refine tkO 11 ?_; refine tkO 12 ?_; refine tkO 13 ?_; refine tkO 14 ?_; refine tkO 15 ?_; refine tkO 16 ?_)
  (refine wpAnyH_done (by kernel_rfl) ?_ _)
  have hX : Below w.heap.size w wn := hHeld.1
  replace hq := hq.below hX
  clear c0 c1 f1 hHeld hHeld0 hS0
  have c1 := hq.c1
  have f1 := hq.f1
  have hR := hq.to (p + j)
  have hO : Only (fun k => k = q) w (wn.setCell ⟨q, 1, none⟩ (.int .i64 (p + j : Nat))) := Only.set (S := fun k => k = q) (Only.of_below _ hX) (p := ⟨q, 1, none⟩) (.inl rfl) _
  have hC := Lib.hid (check_no q wn)
  replace hR := Lib.hid hR
  replace hO := Lib.hid hO
  have hqw := Row.lt hq0
  have hfr2 : Fresh w.heap.size v := fun k hk => Nat.le_trans hHsz (hfr k hk)
  have hvv2 : VecIs (wn.setCell ⟨q, 1, none⟩ (.int .i64 (p + j : Nat))) v l := SliceIs.only hvv (Only.set (S := fun k => k = q) (Only.refl _ wn) (p := ⟨q, 1, none⟩) (.inl rfl) _) (fun k hk e => by have := hfr2 k hk; omega)
  replace hvv := Lib.hid hvv2
  replace hfr := Lib.hid hfr2
  clear hfr2 hvv2
  go_wp2_with fail
  refine hC.out.mono ?_
  rintro _ wm ⟨rfl, rfl⟩
  go_wp2
  go_ret
  exact ⟨⟨_, rfl, hvv.out, hfr.out, hR.out⟩, hO.out⟩
theorem byWBodyR22 {p : Prop} (h : p := by
 clear hr
 go_enter Tryz.func114, Tryz.ntmps114
 go_wp2_with fail
 go_quiet (fail)
 have hX : Below w.heap.size w (w.drewN nq) := bdn (Below.refl _ _) nq
 generalize w.drewN nq = w1 at *
 replace hq := hq.below hX
 clear c0 c1 f1
 have c0 := hq.c0
 have c1 := hq.c1
 go_wp2_with fail
 go_quiet (fail)
 have hX2 := bch hX (bdn (Below.refl w1.heap.size w1) nq)
 generalize w1.drewN nq = w2 at *
 go_wp2_with fail
 refine (hC.out _ hX2).mono ?_
 rintro _ w3 ⟨rfl, hb3⟩
 exact ⟨rfl, rfl, Only.of_below _ (bch hX2 hb3)⟩) : p := h
set_option maxHeartbeats 2000000 in
set_option maxRecDepth 20000 in
theorem rd_kind (q : Nat) (s : ByteArray) (p : Nat) (w : World) (hs : s.size ≤ 1000000) (hp : p ≤ s.size) (hL : Laid w) (hq : Rd w q s p) :
  Calls Tryz.prog 114 #[.pointer (some ⟨q, 0, none⟩)] w fun e w' => (match s.data.toList[p]? with
   | none => e = .panicked [FV 7 p]
   | some b => if b.toNat < 1 ∨ 4 < b.toNat then e = .panicked [FV 1 p] else e = .returned (.int .i64 b.toNat) ∧ Rd w' q s (p + 1)) ∧ Only (fun k => k = q) w w' := by
 have c0 := hq.c0
 have c1 := hq.c1
 have f1 := hq.f1
 have hp63 : (p : Int) ≤ 1000000 := by omega
 have hll : s.data.toList.length = s.size := Array.length_toList
 by_cases hlt : p < s.size
 ·have hg : s.data.toList[p]? = some s[p] := by
   rw [List.getElem?_eq_getElem (by omega)]
   rfl
  rw [hg]
  have e1 : ((p : Int) == (s.size : Int)) = false := by simp; omega
  have e2 : (p : Int) < (s.size : Int) := by omega
  have e3 : (0 : Int) ≤ (p : Int) := by omega
  obtain ⟨b, hb⟩ : ∃ b, b = s[p] := ⟨_, rfl⟩
  rw [← hb]
  have hix : s[p].toNat = b.toNat := by rw [hb]
  have hb8 : b.toNat < 256 := b.toNat_lt
  clear hg hll
  simp only
  obtain ⟨n, hn⟩ : ∃ n, n = b.toNat := ⟨_, rfl⟩
  rw [← hn] at hix hb8 ⊢
  clear hn hb
  by_cases hr : n < 1 ∨ 4 < n
  ·simp only [if_pos hr]
   have hC := fun E hE W (hW : Below w.heap.size w W) => check_yes q s p E (.no 1) (by intro h; cases h) W (hL.below hW) (hq.below hW) hE
   replace hC := Lib.hid (hC (errV 1) rfl)
   by_cases hr1 : n < 1
   ·have t1 : decide ((n : Int) < 1) = true := decide_eq_true (by omega)
    exact byWBodyR22
   ·have t1 : decide ((n : Int) < 1) = false := decide_eq_false (by omega)
    have t2 : decide ((4 : Int) < n) = true := decide_eq_true (by omega)
    exact byWBodyR22
  ·simp only [if_neg hr]
   have t1 : decide ((n : Int) < 1) = false := decide_eq_false (by omega)
   have t2 : decide ((4 : Int) < n) = false := decide_eq_false (by omega)
   clear hr
   go_enter Tryz.func114, Tryz.ntmps114
   go_wp2_with fail
   go_quiet (fail)
   have hX : Below w.heap.size w (w.drewN nq) := bdn (Below.refl _ _) nq
   generalize w.drewN nq = w1 at *
   replace hq := hq.below hX
   clear c0 c1 f1
   have c0 := hq.c0
   have c1 := hq.c1
   go_wp2_with fail
   go_quiet (fail)
   have hX2 := bch hX (bdn (Below.refl w1.heap.size w1) nq)
   have hq2 := hq.below (bdn (Below.refl w1.heap.size w1) nq)
   generalize w1.drewN nq = w2 at *
   clear c0 c1
   have c1 := hq2.c1
   have f1 := hq2.f1
   have hR := Lib.hid (hq2.to (p + 1))
   have hO := Lib.hid (Only.set (S := fun k => k = q) (Only.of_below _ hX2) (p := ⟨q, 1, none⟩) (.inl rfl) (.int .i64 (p + 1 : Nat)))
   go_wp2
   go_ret
   exact ⟨⟨rfl, hR.out⟩, hO.out⟩
 ·obtain rfl : p = s.size := by omega
  have hg : s.data.toList[s.size]? = none := List.getElem?_eq_none (by omega)
  rw [hg]
  simp only
  have hC := fun E hE W (hW : Below w.heap.size w W) => check_yes q s s.size E (.no 7) (by intro h; cases h) W (hL.below hW) (hq.below hW) hE
  replace hC := Lib.hid (hC (errV 7) rfl)
  have e1 : ((s.size : Int) == (s.size : Int)) = true := by simp
  clear hll hg
  go_enter Tryz.func114, Tryz.ntmps114
  go_wp2_with fail
  go_quiet (fail)
  have hX : Below w.heap.size w (w.drewN nq) := bdn (Below.refl _ _) nq
  generalize w.drewN nq = w1 at *
  go_wp2_with fail
  refine (hC.out _ hX).mono ?_
  rintro _ w3 ⟨rfl, hb3⟩
  exact ⟨rfl, rfl, Only.of_below _ (bch hX hb3)⟩
end Go.Proofs.YtognjohloobliaaGreatDoor
/- The walk of body.Read's deferred closure, and what a fault becomes. -/
namespace Go.Proofs.YtognjohloobliaaGreatDoor
open Go.RowKit
set_option linter.unusedVariables false
set_option linter.unusedSimpArgs false
theorem wp_gen {P : Program} {c : Code} {a : Act} {w : World} {Q : Exit → Act → World → Prop} (h : ∀ Q' : Exit → Act → World → Prop, (∀ e a w, Q e a w → Q' e a w) → c.wp P Q' a w) : c.wp P Q a w := h Q fun _ _ _ h => h
set_option maxHeartbeats 2000000 in
set_option maxRecDepth 20000 in
theorem catch_panicking (nb ne c p : Nat) (x0 x1 x2 y : Value) (older : List PanicEntry) (w : World) (hb : Row w nb 25 [x0, x1, x2]) (he : Row w ne 37 [y]) (hne : nb ≠ ne) :
  CallsD Tryz.prog 109 #[.pointer (some ⟨nb, 0, none⟩), .pointer (some ⟨ne, 0, none⟩)] (.panicking (FV c p :: older)) w fun e u' w' =>
   e = .returned (.tuple #[]) ∧ u' = .panicking ({ FV c p with recovered := true } :: older) ∧ Row w' nb 25 [.slice none 0 0, .slice none 0 0, .slice none 0 0] ∧
   (∃ g, w.heap.size ≤ g ∧ Row w' ne 37 [.iface 82 (.pointer (some ⟨g, 0, none⟩))] ∧ Row w' g 185 [.int .i64 c, .int .i64 p]) ∧ Only (fun k => k = nb ∨ k = ne) w w' := by
 refine callsD_of_wpS Tryz.func109 rfl fun c₀ cs hu => ?_
 apply wpS_seq
 apply wpS_region
 simp [wpOpsS, go_sem, recoverD, hu, Tryz.ntmps109, Exit.thenS, FV]
 refine wpS_of_wp ?_
 refine wp_gen fun Q hQ => ?_
 simp only [List.size_toArray, List.length_cons, List.length_nil, Nat.reduceAdd, Nat.reduceSub, Array.replicate_succ, Array.replicate_zero, List.push_toArray, List.append_toArray, List.nil_append, List.cons_append, List.setIfInBounds_toArray, List.set_cons_zero, List.set_cons_succ]
 replace hQ := Lib.hid hQ
 have hTA : ∀ (v : Value) (w : World), (Instr.typeAssert (.iface 185 v) 20 185 true).run Tryz.prog w = .ok (.tuple #[v, .bool true]) w := fun v w => by kernel_rfl
 have qf := row_at #[.int .i64 c, .int .i64 p] 185 (rfl : w.heap.size = w.heap.size)
 have hb1 := hb.alloc (.cells #[.int .i64 c, .int .i64 p] 185)
 have he1 := he.alloc (.cells #[.int .i64 c, .int .i64 p] 185)
 have hO := (Only.refl (fun k => k = nb ∨ k = ne) w).alloc (.cells #[.int .i64 c, .int .i64 p] 185)
 have hn1 := Nat.ne_of_lt hb.lt
 have hn2 := Nat.ne_of_lt he.lt
 obtain ⟨W1, hW1⟩ : ∃ W1, W1 = w.alloc (.cells #[.int .i64 c, .int .i64 p] 185) := ⟨_, rfl⟩
 rw [← hW1] at qf hb1 he1 hO
 obtain ⟨c0, c1, c2⟩ := hb1.c3
 (have f0 := hb1.frozen 0 (by simp); have f1 := hb1.frozen 1 (by simp); have f2 := hb1.frozen 2 (by simp))
 have d0 := he1.cell 0
 have g0 := he1.frozen 0 (by simp)
 simp only [List.getElem?_cons_zero] at d0
 have hR1 := ((hb1.set 0 (.slice none 0 0)).set 1 (.slice none 0 0)).set 2 (.slice none 0 0)
 have hnb : (⟨ne, 0, none⟩ : Addr).block ≠ nb := fun h => hne h.symm
 have hRe := ((he1.other (p := ⟨nb, 0, none⟩) hne (.slice none 0 0)).other (p := ⟨nb, 1, none⟩) hne (.slice none 0 0)).other (p := ⟨nb, 2, none⟩) hne (.slice none 0 0)
 have d1 := hRe.cell 0
 have g1 := hRe.frozen 0 (by simp)
 simp only [List.getElem?_cons_zero] at d1
 rw [hW1] at c0 c1 c2 f0 f1 f2 d0 g0 d1 g1
 replace qf := Lib.hid qf
 replace hb1 := Lib.hid hb1
 replace he1 := Lib.hid he1
 replace hO := Lib.hid hO
 replace hR1 := Lib.hid hR1
 replace hRe := Lib.hid hRe
 replace hW1 := Lib.hid hW1
 clear hb he
 go_wp2_with fail
 refine hQ.out _ _ _ ?_
 rw [← hW1.out]
 clear c0 c1 c2 f0 f1 f2 d0 g0 d1 g1 hQ
 have hfin : Row ((((W1.setCell ⟨nb, 0, none⟩ (.slice none 0 0)).setCell ⟨nb, 1, none⟩ (.slice none 0 0)).setCell ⟨nb, 2, none⟩ (.slice none 0 0)).setCell ⟨ne, 0, none⟩ (.iface 82 (.pointer (some ⟨w.heap.size, 0, none⟩)))) nb 25 [.slice none 0 0, .slice none 0 0, .slice none 0 0] ∧
   (∃ g, w.heap.size ≤ g ∧ Row ((((W1.setCell ⟨nb, 0, none⟩ (.slice none 0 0)).setCell ⟨nb, 1, none⟩ (.slice none 0 0)).setCell ⟨nb, 2, none⟩ (.slice none 0 0)).setCell ⟨ne, 0, none⟩ (.iface 82 (.pointer (some ⟨w.heap.size, 0, none⟩)))) ne 37 [.iface 82 (.pointer (some ⟨g, 0, none⟩))] ∧ Row ((((W1.setCell ⟨nb, 0, none⟩ (.slice none 0 0)).setCell ⟨nb, 1, none⟩ (.slice none 0 0)).setCell ⟨nb, 2, none⟩ (.slice none 0 0)).setCell ⟨ne, 0, none⟩ (.iface 82 (.pointer (some ⟨w.heap.size, 0, none⟩)))) g 185 [.int .i64 c, .int .i64 p]) ∧
   Only (fun k => k = nb ∨ k = ne) w ((((W1.setCell ⟨nb, 0, none⟩ (.slice none 0 0)).setCell ⟨nb, 1, none⟩ (.slice none 0 0)).setCell ⟨nb, 2, none⟩ (.slice none 0 0)).setCell ⟨ne, 0, none⟩ (.iface 82 (.pointer (some ⟨w.heap.size, 0, none⟩)))) := by
  refine ⟨hR1.out.other (p := ⟨ne, 0, none⟩) (fun h => hne h.symm) _, ⟨w.heap.size, Nat.le_refl _, hRe.out.set 0 _, ?_⟩, ?_⟩
  ·exact (((qf.out.other (p := ⟨nb, 0, none⟩) hn1 _).other (p := ⟨nb, 1, none⟩) hn1 _).other (p := ⟨nb, 2, none⟩) hn1 _).other (p := ⟨ne, 0, none⟩) hn2 _
  ·exact (((hO.out.set (p := ⟨nb, 0, none⟩) (.inl (.inl rfl)) _).set (p := ⟨nb, 1, none⟩) (.inl (.inl rfl)) _).set (p := ⟨nb, 2, none⟩) (.inl (.inl rfl)) _).set (p := ⟨ne, 0, none⟩) (.inl (.inr rfl)) _
 exact ⟨rfl, _, rfl, .tuple #[], results_none rfl _ _ _, rfl, rfl, hfin⟩
theorem catch_idle (p1 p2 : Value) (w : World) :
  CallsD Tryz.prog 109 #[p1, p2] .returning w fun e u' w' => e = .returned (.tuple #[]) ∧ u' = .returning ∧ w' = w := by
 refine callsD_of_wpS Tryz.func109 rfl fun c₀ cs hu => ?_
 apply wpS_seq
 apply wpS_region
 simp [wpOpsS, go_sem, recoverD, hu, Tryz.ntmps109, Exit.thenS]
 refine wpS_of_wp ?_
 refine wp_gen fun Q hQ => ?_
 simp only [List.size_toArray, List.length_cons, List.length_nil, Nat.reduceAdd, Nat.reduceSub, Array.replicate_succ, Array.replicate_zero, List.push_toArray, List.append_toArray, List.nil_append, List.cons_append, List.setIfInBounds_toArray, List.set_cons_zero, List.set_cons_succ]
 replace hQ := Lib.hid hQ
 go_wp2_with fail
 refine hQ.out _ _ _ ?_
 exact ⟨rfl, _, rfl, .tuple #[], results_none rfl _ _ _, rfl, hu, rfl⟩
def RD (nb ne : Nat) : Deferred := { target := .fn (.func 109) #[.pointer (some ⟨nb, 0, none⟩), .pointer (some ⟨ne, 0, none⟩)], args := #[] }
theorem read_thrown (nb ne c p : Nat) (x0 x1 x2 y : Value) (w : World) (a : Act) (R : Ending → World → Prop) (hd : a.defers = [RD nb ne]) (h2 : a.tmps[2]? = some (.pointer (some ⟨nb, 0, none⟩))) (h3 : a.tmps[3]? = some (.pointer (some ⟨ne, 0, none⟩)))
  (hb : Row w nb 25 [x0, x1, x2]) (he : Row w ne 37 [y]) (hne : nb ≠ ne)
  (hR : ∀ w' g, w.heap.size ≤ g → Row w' g 185 [.int .i64 c, .int .i64 p] → Only (fun k => k = nb ∨ k = ne) w w' → R (.returned (.tuple #[.agg #[.slice none 0 0, .slice none 0 0, .slice none 0 0], .iface 82 (.pointer (some ⟨g, 0, none⟩))])) w') :
  bodyPostD Tryz.prog Tryz.f93 R (.panic [FV c p]) a w := by
 show Leaves _ _ a.tmps R a.defers _ _
 rw [hd]
 refine leaves_cons (f := 109) (args := #[.pointer (some ⟨nb, 0, none⟩), .pointer (some ⟨ne, 0, none⟩)]) (by simp) (by simp [go_sem, RD]) ?_
 refine (catch_panicking nb ne c p x0 x1 x2 y [] w hb he hne).mono ?_
 rintro e u' w' ⟨rfl, rfl, hb2, ⟨g, hg, he2, hf⟩, hO⟩
 have := hR w' g hg hf hO
 obtain ⟨c0, c1, c2⟩ := hb2.c3
 have d0 := he2.cell 0
 simp only [List.getElem?_cons_zero] at d0
 simp [Leaves, settle, results, Tryz.results93, go_sem, h2, h3, c0, c1, c2, d0]
 exact this
theorem read_done (nb ne : Nat) (x0 x1 x2 y : Value) (w : World) (a : Act) (R : Ending → World → Prop) (hd : a.defers = [RD nb ne]) (h2 : a.tmps[2]? = some (.pointer (some ⟨nb, 0, none⟩))) (h3 : a.tmps[3]? = some (.pointer (some ⟨ne, 0, none⟩)))
  (hb : Row w nb 25 [x0, x1, x2]) (he : Row w ne 37 [y]) (hR : R (.returned (.tuple #[.agg #[x0, x1, x2], y])) w) :
  bodyPostD Tryz.prog Tryz.f93 R .ret a w := by
 show Leaves _ _ a.tmps R a.defers _ _
 rw [hd]
 refine leaves_cons (f := 109) (args := #[.pointer (some ⟨nb, 0, none⟩), .pointer (some ⟨ne, 0, none⟩)]) (by simp) (by simp [go_sem, RD]) ?_
 refine (catch_idle _ _ w).mono ?_
 rintro e u' w' ⟨rfl, rfl, rfl⟩
 obtain ⟨c0, c1, c2⟩ := hb.c3
 have d0 := he.cell 0
 simp only [List.getElem?_cons_zero] at d0
 simp [Leaves, settle, results, Tryz.results93, go_sem, h2, h3, c0, c1, c2, d0]
 exact hR
theorem leaves_tmps {P : Program} {fn : Func} {R : Ending → World → Prop} {t1 t2 : Array Value} (h : results fn t1 = results fn t2) : ∀ (ds : List Deferred) (u : FrameMode) (w : World), Leaves P fn t1 R ds u w → Leaves P fn t2 R ds u w
 | [], .returning, _, ⟨v, hv, hR⟩ => ⟨v, h ▸ hv, hR⟩
 | [], .panicking _, _, hR => hR
 | [], .run, _, hf => hf.elim
 | _ :: ds, _, _, ⟨h1, fv, cap, f, args, h2, h3, h4⟩ => ⟨h1, fv, cap, f, args, h2, h3, h4.mono fun e u' w' he => by
   cases e with
   | returned v => exact leaves_tmps h ds _ _ he
   | panicked c => exact leaves_tmps h ds _ _ he
   | outgrown => exact he⟩
theorem put_panic (R : Ending → World → Prop) (c : List PanicEntry) (a : Act) (d : Option Nat) (v : Value) (w : World) (h2 : d ≠ some 2) (h3 : d ≠ some 3) (h : bodyPostD Tryz.prog Tryz.f93 R (.panic c) (a.put d v) w) : bodyPostD Tryz.prog Tryz.f93 R (.panic c) a w := by
 cases d with
 | none => exact h
 | some d =>
  refine leaves_tmps ?_ _ _ _ h
  have n2 : d ≠ 2 := fun e => h2 (by rw [e])
  have n3 : d ≠ 3 := fun e => h3 (by rw [e])
  simp [results, Tryz.results93, Act.put, Array.getElem?_setIfInBounds, n2, n3]
end Go.Proofs.YtognjohloobliaaGreatDoor
/- The walk of body.Read. -/
namespace Go.Proofs.YtognjohloobliaaGreatDoor
open Go.RowKit
set_option linter.unusedVariables false
set_option linter.unusedSimpArgs false
def WrB.of (x : Wr) : WrB := ⟨x.t, x.r, x.k, ⟨x.key.toArray⟩, ⟨x.val.toArray⟩, x.n⟩
theorem WrB.plain_of (x : Wr) : (WrB.of x).plain = x := rfl
namespace Body
section
variable {S : List UInt8} {f h : List Vec.Entry} {p1 p2 p3 p4 p5 p6 m n : Nat} {T : List (List UInt8)} {ws : List Wr} {A : List Nat} {e : Nat × Nat}
theorem read_e1 (h1 : vecR S 0 = .error e) : read S = .error e := by unfold read pre; rw [h1]
theorem read_e2 (h1 : vecR S 0 = .ok (f, p1)) (h2 : vecR S p1 = .error e) : read S = .error e := by unfold read pre; rw [h1]; simp only; rw [h2]
theorem read_e3 (h1 : vecR S 0 = .ok (f, p1)) (h2 : vecR S p1 = .ok (h, p2)) (h3 : num S p2 60 = .error e) : read S = .error e := by unfold read pre; rw [h1]; simp only; rw [h2]; simp only; rw [h3]
theorem read_e4 (h1 : vecR S 0 = .ok (f, p1)) (h2 : vecR S p1 = .ok (h, p2)) (h3 : num S p2 60 = .ok (m, p3)) (h4 : keysR S m p3 [] = .error e) : read S = .error e := by
 unfold read pre; rw [h1]; simp only; rw [h2]; simp only; rw [h3]; simp only; rw [h4]
theorem read_e5 (h1 : vecR S 0 = .ok (f, p1)) (h2 : vecR S p1 = .ok (h, p2)) (h3 : num S p2 60 = .ok (m, p3)) (h4 : keysR S m p3 [] = .ok (T, p4)) (h5 : num S p4 60 = .error e) : read S = .error e := by
 unfold read pre; rw [h1]; simp only; rw [h2]; simp only; rw [h3]; simp only; rw [h4]; simp only; rw [h5]
theorem read_e6 (h1 : vecR S 0 = .ok (f, p1)) (h2 : vecR S p1 = .ok (h, p2)) (h3 : num S p2 60 = .ok (m, p3)) (h4 : keysR S m p3 [] = .ok (T, p4)) (h5 : num S p4 60 = .ok (n, p5)) (h6 : wrsR S h T n 0 p5 [] [] = .error e) : read S = .error e := by
 unfold read pre; rw [h1]; simp only; rw [h2]; simp only; rw [h3]; simp only; rw [h4]; simp only; rw [h5]; simp only; rw [h6]
section
variable {S : List UInt8} {h : List Vec.Entry} {T : List (List UInt8)} {time : Int} {p d i q n p1 p2 p3 c : Nat} {b : UInt8} {x : Nat × Nat} {y : Wr}
theorem one_none (h0 : S[p]? = none) : oneR S h T time p = .error (7, p) := by unfold oneR; rw [h0]
theorem one_bad (h0 : S[p]? = some b) (hb : b.toNat < 1 ∨ 4 < b.toNat) : oneR S h T time p = .error (1, p) := by unfold oneR; rw [h0]; simp only; rw [if_pos hb]
theorem one_t (h0 : S[p]? = some b) (hb : ¬ (b.toNat < 1 ∨ 4 < b.toNat)) (h1 : num S (p + 1) 1099511627776 = .error x) : oneR S h T time p = .error x := by
 unfold oneR; rw [h0]; simp only; rw [if_neg hb, h1]
theorem one_late (h0 : S[p]? = some b) (hb : ¬ (b.toNat < 1 ∨ 4 < b.toNat)) (h1 : num S (p + 1) 1099511627776 = .ok (d, p1)) (ht : 1099511627776 < time + (d : Int)) : oneR S h T time p = .error (2, p + 1) := by
 unfold oneR; rw [h0]; simp only; rw [if_neg hb, h1]; simp only; rw [if_pos ht]
theorem one_i (h0 : S[p]? = some b) (hb : ¬ (b.toNat < 1 ∨ 4 < b.toNat)) (h1 : num S (p + 1) 1099511627776 = .ok (d, p1)) (ht : ¬ 1099511627776 < time + (d : Int)) (h2 : num S p1 ((h.length : Int) - 1) = .error x) : oneR S h T time p = .error x := by
 unfold oneR; rw [h0]; simp only; rw [if_neg hb, h1]; simp only; rw [if_neg ht, h2]
theorem one_q (h0 : S[p]? = some b) (hb : ¬ (b.toNat < 1 ∨ 4 < b.toNat)) (h1 : num S (p + 1) 1099511627776 = .ok (d, p1)) (ht : ¬ 1099511627776 < time + (d : Int)) (h2 : num S p1 ((h.length : Int) - 1) = .ok (i, p2)) (h3 : num S p2 ((T.length : Int) - 1) = .error x) : oneR S h T time p = .error x := by
 unfold oneR; rw [h0]; simp only; rw [if_neg hb, h1]; simp only; rw [if_neg ht, h2]; simp only; rw [h3]
theorem one_f (h0 : S[p]? = some b) (hb : ¬ (b.toNat < 1 ∨ 4 < b.toNat)) (h1 : num S (p + 1) 1099511627776 = .ok (d, p1)) (ht : ¬ 1099511627776 < time + (d : Int)) (h2 : num S p1 ((h.length : Int) - 1) = .ok (i, p2)) (h3 : num S p2 ((T.length : Int) - 1) = .ok (q, p3)) (hi : i < h.length) (hq : q < T.length)
  (h4 : Wr.fill ⟨time + (d : Int), h[i].r, b.toNat, T[q], [], 0⟩ (S.drop p3) = .bad c) : oneR S h T time p = .error (c, p3) := by
 unfold oneR; rw [h0]; simp only; rw [if_neg hb, h1]; simp only; rw [if_neg ht, h2]; simp only; rw [h3]; simp only
 rw [List.getElem?_eq_getElem hi, List.getElem?_eq_getElem hq]
 simp only [Option.map_some, Option.getD_some]
 rw [h4]
theorem one_ok (h0 : S[p]? = some b) (hb : ¬ (b.toNat < 1 ∨ 4 < b.toNat)) (h1 : num S (p + 1) 1099511627776 = .ok (d, p1)) (ht : ¬ 1099511627776 < time + (d : Int)) (h2 : num S p1 ((h.length : Int) - 1) = .ok (i, p2)) (h3 : num S p2 ((T.length : Int) - 1) = .ok (q, p3)) (hi : i < h.length) (hq : q < T.length)
  (h4 : Wr.fill ⟨time + (d : Int), h[i].r, b.toNat, T[q], [], 0⟩ (S.drop p3) = .ok y n) : oneR S h T time p = .ok (y, q, p3 + n) := by
 unfold oneR; rw [h0]; simp only; rw [if_neg hb, h1]; simp only; rw [if_neg ht, h2]; simp only; rw [h3]; simp only
 rw [List.getElem?_eq_getElem hi, List.getElem?_eq_getElem hq]
 simp only [Option.map_some, Option.getD_some]
 rw [h4]
end
theorem read_e7 (h1 : vecR S 0 = .ok (f, p1)) (h2 : vecR S p1 = .ok (h, p2)) (h3 : num S p2 60 = .ok (m, p3)) (h4 : keysR S m p3 [] = .ok (T, p4)) (h5 : num S p4 60 = .ok (n, p5)) (h6 : wrsR S h T n 0 p5 [] [] = .ok (ws, A, p6)) :
  read S = if p6 < S.length then .error (3, p6) else if Keys.lists T (Keys.ints A) ≠ .ok then .error ((Keys.lists T (Keys.ints A)).code, p6) else if Bat.right f h ws ≠ .ok then .error ((Bat.right f h ws).code, p6) else .ok (f, h, ws) := by
 unfold read pre; rw [h1]; simp only; rw [h2]; simp only; rw [h3]; simp only; rw [h4]; simp only; rw [h5]; simp only; rw [h6]
end
end Body
/-- What Read tells. -/
def BodyGot (s : ByteArray) (w : World) (e : Ending) (w' : World) : Prop :=
 (match Body.read s.data.toList with
  | .error x => ∃ g, e = .returned (.tuple #[.agg #[.slice none 0 0, .slice none 0 0, .slice none 0 0], .iface 82 (.pointer (some ⟨g, 0, none⟩))]) ∧ w'.cell? ⟨g, 0, none⟩ = some (.int .i64 x.1)
  | .ok x => ∃ vf vh vw, e = .returned (.tuple #[.agg #[vf, vh, vw], .nilIface]) ∧ VecIs w' vf x.1 ∧ VecIs w' vh x.2.1 ∧ WrsIs w' vw (x.2.2.map WrB.of)) ∧ Below w.heap.size w w'
theorem vec_cell {w : World} {o : Option Addr} {n c : Nat} {l : List Vec.Entry} (h : VecIs w (.slice o n c) l) (i : Nat) (hi : i < l.length) : ∃ b off, o = some ⟨b, off, none⟩ ∧ w.cell? ⟨b, off + i * 2, none⟩ = some (.int .i64 l[i].r) := by
 obtain ⟨o', c', e, -, hc⟩ := h.list.at entCells_len
 injection e with e1 e2 e3
 subst e1
 obtain ⟨b, off, e, -, hx⟩ := hc i hi
 exact ⟨b, off, e, hx 0 _ rfl⟩
theorem str_cell {w : World} {o : Option Addr} {n c : Nat} {l : List (List UInt8)} (h : ListIs (fun x : List UInt8 => strCells ⟨x.toArray⟩) 1 w (.slice o n c) l) (i : Nat) (hi : i < l.length) : ∃ b off, o = some ⟨b, off, none⟩ ∧ w.cell? ⟨b, off + i, none⟩ = some (.string ⟨l[i].toArray⟩) := by
 obtain ⟨o', c', e, -, hc⟩ := h.at (fun x => strCells_len _)
 injection e with e1 e2 e3
 subst e1
 obtain ⟨b, off, e, -, hx⟩ := hc i hi
 exact ⟨b, off, e, by have := hx 0 _ rfl; simpa using this⟩
theorem span_at (s : ByteArray) (p : Nat) (w : World) (hs : s.size ≤ 1000000) (hp : p ≤ s.size) (hL : Laid w) :
  Calls Tryz.prog 112 #[.string (s.extract p s.size)] w fun e w' => e = .returned (spanVal (Span.get (s.data.toList.drop p))) ∧ Below w.heap.size w w' := by
 have h := span_get (s.extract p s.size) w (by simp only [ByteArray.size_extract]; unfold maxLen; omega) hL
 rwa [extract_drop] at h
/-- What the drawn region reads. -/
def RC (g q pc : Nat) (t r k : Int) (key : List UInt8) (W2 W : World) : Prop := Below W2.heap.size W2 W ∧ W.cell? ⟨q, 1, none⟩ = some (.int .i64 pc) ∧ W.cell? ⟨g, 0, none⟩ = some (.int .i64 t) ∧ W.cell? ⟨g, 1, none⟩ = some (.int .i64 r) ∧ W.cell? ⟨g, 2, none⟩ = some (.int .i64 k) ∧
 W.cell? ⟨g, 3, none⟩ = some (.string ⟨key.toArray⟩) ∧ W.cell? ⟨g, 4, none⟩ = some (.string ⟨#[]⟩) ∧ W.cell? ⟨g, 5, none⟩ = some (.int .i64 0)
theorem RC.below {g q pc : Nat} {t r k : Int} {key : List UInt8} {W2 W W' : World} (h : RC g q pc t r k key W2 W) (hb : Below W.heap.size W W') : RC g q pc t r k key W2 W' :=
 ⟨bch h.1 hb, cell_below hb h.2.1, cell_below hb h.2.2.1, cell_below hb h.2.2.2.1, cell_below hb h.2.2.2.2.1, cell_below hb h.2.2.2.2.2.1, cell_below hb h.2.2.2.2.2.2.1, cell_below hb h.2.2.2.2.2.2.2⟩
theorem RC.alloc {g q pc : Nat} {t r k : Int} {key : List UInt8} {W2 W : World} (h : RC g q pc t r k key W2 W) (o : Obj) : RC g q pc t r k key W2 (W.alloc o) := h.below (bal (Below.refl _ _) o)
theorem RC.set {g q pc : Nat} {t r k : Int} {key : List UInt8} {W2 W : World} (h : RC g q pc t r k key W2 W) {p : Addr} (h1 : p.block ≠ g) (h2 : p.block ≠ q) (h3 : W2.heap.size ≤ p.block) (v : Value) : RC g q pc t r k key W2 (W.setCell p v) := by
 have ho : ∀ (x : Addr) (u : Value), p.block ≠ x.block → W.cell? x = some u → (W.setCell p v).cell? x = some u := fun x u hn hx => by
  rw [World.cell?_setCell_other]
  ·exact hx
  ·intro e; exact hn (by rw [e])
 exact ⟨bst h.1 h3 v, ho _ _ h2 h.2.1, ho _ _ h1 h.2.2.1, ho _ _ h1 h.2.2.2.1, ho _ _ h1 h.2.2.2.2.1, ho _ _ h1 h.2.2.2.2.2.1, ho _ _ h1 h.2.2.2.2.2.2.1, ho _ _ h1 h.2.2.2.2.2.2.2⟩
theorem dups_inj {α β : Type} [DecidableEq α] [DecidableEq β] (g : α → β) (inj : ∀ a b, g a = g b → a = b) (l s : List α) (k : Nat) : Keys.dups (l.map g) (s.map g) k = Keys.dups l s k := by
 induction l generalizing s k with
 | nil => rfl
 | cons x r ih =>
  have hm : g x ∈ s.map g ↔ x ∈ s := by
   rw [List.mem_map]
   exact ⟨fun ⟨y, hy, e⟩ => inj _ _ e ▸ hy, fun h => ⟨x, h, rfl⟩⟩
  have h := ih (s ++ [x]) (k + 1)
  rw [List.map_append, List.map_cons, List.map_nil] at h
  simp only [List.map_cons, Keys.dups, hm, h]
theorem lists_inj {α β : Type} [DecidableEq α] [DecidableEq β] (g : α → β) (inj : ∀ a b, g a = g b → a = b) (l : List α) (A : List Int) : Keys.lists (l.map g) A = Keys.lists l A := by
 unfold Keys.lists
 have := dups_inj g inj l [] 0
 rw [List.map_nil] at this
 rw [this, List.length_map]
def toB (x : List UInt8) : ByteArray := ⟨x.toArray⟩
theorem toB_inj (a b : List UInt8) (h : toB a = toB b) : a = b := by
 have := congrArg (fun x : ByteArray => x.data.toList) h
 exact this
theorem strs_of {w : World} {v : Value} {l : List (List UInt8)} (h : ListIs (fun x : List UInt8 => strCells ⟨x.toArray⟩) 1 w v l) : StrsIs w v (l.map toB) := by
 show SliceIs w v (l.map toB).length 1 ((l.map toB).flatMap strCells)
 rw [List.length_map, List.flatMap_map]
 exact h
theorem ErrRep.other {w : World} {v z : Value} {x : Err} {ne : Nat} {t : TypeId} (h : ErrRep w v x) (he : Row w ne t [.nilIface]) : ErrRep (w.setCell ⟨ne, 0, none⟩ z) v x := by
 cases x with
 | ok => exact h
 | no n => exact h
 | at_ n i =>
  obtain ⟨g, hv, hr⟩ := h
  refine ⟨g, hv, hr.other (p := ⟨ne, 0, none⟩) (fun e => ?_) z⟩
  have h1 := hr.cell 0
  have h2 := he.cell 0
  have e : ne = g := e
  subst e
  rw [h1] at h2
  cases h2
theorem read_fail (s : ByteArray) (w0 w : World) (c p : Nat) (x0 x1 x2 y : Value) (a : Act) (hd : a.defers = [RD w0.heap.size (w0.heap.size + 1)]) (h2 : a.tmps[2]? = some (.pointer (some ⟨w0.heap.size, 0, none⟩))) (h3 : a.tmps[3]? = some (.pointer (some ⟨w0.heap.size + 1, 0, none⟩)))
  (hb : Row w w0.heap.size 25 [x0, x1, x2]) (he : Row w (w0.heap.size + 1) 37 [y]) (hB : Below w0.heap.size w0 w) (hr : Body.read s.data.toList = .error (c, p)) :
  bodyPostD Tryz.prog Tryz.f93 (BodyGot s w0) (.panic [FV c p]) a w := by
 refine read_thrown _ _ c p x0 x1 x2 y w a _ hd h2 h3 hb he (by omega) fun w' g hg hf hO => ?_
 unfold BodyGot
 rw [hr]
 exact ⟨⟨g, rfl, hf.cell 0⟩, hB.trans (hO.below (by omega) hB.size)⟩
theorem byWBodyR21 {p : Prop} (h : p := by
 clear hHeld
 have hBz := bch hBg hbz
 obtain ⟨-, hfl, -, hyt, -, -, -⟩ := Wr.fill_ok hFl.out
 rw [List.length_drop, hll] at hfl
 have hpn : pc + nn ≤ s.size := by omega
 have hqz := hqg.below hbz
 have hqlt : w.heap.size + 1 + 1 < wg.heap.size := Row.lt hqg
 have hC := Lib.hid (check_no (w.heap.size + 1 + 1) wz)
 have d1 := hqz.c1
 have z1 := hqz.f1
 have hqz1 : Hid (Rd (wz.setCell ⟨w.heap.size + 1 + 1, 1, none⟩ (.int .i64 ((pc : Int) + (nn : Int)))) (w.heap.size + 1 + 1) s (pc + nn)) := Lib.hid (by rw [← Int.natCast_add]; exact hqz.to _)
 have qb1 := Lib.hid ((qbg.below hbz).other (p := ⟨w.heap.size + 1 + 1, 1, none⟩) (show w.heap.size + 1 + 1 ≠ _ by omega) (.int .i64 ((pc : Int) + (nn : Int))))
 have qe1 := Lib.hid ((qeg.below hbz).other (p := ⟨w.heap.size + 1 + 1, 1, none⟩) (show w.heap.size + 1 + 1 ≠ _ by omega) (.int .i64 ((pc : Int) + (nn : Int))))
 have hrow1 := hrow.other (p := ⟨w.heap.size + 1 + 1, 1, none⟩) (show w.heap.size + 1 + 1 ≠ _ by omega) (.int .i64 ((pc : Int) + (nn : Int)))
 have hfA5 := owns_fresh hAgg.out
 have hA1 := owns_set (owns_below hAgg.out hbz) (p := ⟨w.heap.size + 1 + 1, 1, none⟩) (fun e => by have := hfA5 (w.heap.size + 1 + 1) e; omega) (.int .i64 ((pc : Int) + (nn : Int)))
 have hW1 := owns_set (owns_below hWg.out hbz) (p := ⟨w.heap.size + 1 + 1, 1, none⟩) (fun e => by have := hfW.out (w.heap.size + 1 + 1) e; omega) (.int .i64 ((pc : Int) + (nn : Int)))
 have hO1 := (hOg.out.chain hbz).set (p := ⟨w.heap.size + 1 + 1, 1, none⟩) (.inl (.inr rfl)) (.int .i64 ((pc : Int) + (nn : Int)))
 have hw0 := hO1.size
 obtain ⟨a0, a1, a2, a3, a4, a5⟩ := hrow1.c6
 have b2 := qb1.out.cell 2
 simp only [List.getElem?_cons_zero, List.getElem?_cons_succ] at b2
 have hWn : (Value.slice ow k cw).ownBlock ≠ some w.heap.size := fun e => by have := hfW.out _ e; omega
 have hgz : Hid (wz.heap.size = (wz.setCell ⟨w.heap.size + 1 + 1, 1, none⟩ (.int .i64 ((pc : Int) + (nn : Int)))).heap.size) := Lib.hid (by simp [World.setCell])
 have hltA := Lib.hid (owns_lt hA1)
 replace hA1 := Lib.hid hA1
 replace hO1 := Lib.hid hO1
 replace hfA5 := Lib.hid hfA5
 replace hWn := Lib.hid hWn
 replace hyt := Lib.hid hyt
 clear hrow hrow1 qbg qeg hqg hqz hAgg hWg hOg qxg hBg hBz
 go_wp2_with fail
 refine hC.out.mono ?_
 rintro _ wz ⟨rfl, rfl⟩
 go_wp2_with (first
  | (at_builtin; go_must (refine app_one_g rfl _ _ 23 33 rfl w8.heap.size (Value.agg #[.int .i64 0, .int .i64 0, .int .i64 0, .string ⟨#[]⟩, .string ⟨#[]⟩, .int .i64 0]) 6 64 Tryz.underlying23 (by kernel_rfl) rfl _ _ _ rfl hW1 _ _ hgz.out rfl rfl ?_ (by omega) (by omega) hw0 ?_); (focus (first | exact ⟨rfl, rfl⟩ | rfl | simp [Value.oneCell'])); intro v6 w6 hown6 hg6 hbk6 hne6 hb6; obtain ⟨g6, cap6, rfl⟩ := owns_addr hown6 hne6; have qb6 := qb1.out.grown hg6 hWn.out; have b6 := qb6.cell 2; have f6 := qb6.frozen 2 (by simp); simp only [List.getElem?_cons_zero, List.getElem?_cons_succ] at b6; replace qb6 := Lib.hid qb6; replace hown6 := Lib.hid hown6; replace hg6 := Lib.hid hg6; replace hb6 := Lib.hid hb6; replace hbk6 := Lib.hid hbk6; clear hW1))
 go_roundw
 case rel =>
  have hst := hgo.out y qk (pc + nn) (Body.one_ok hb.out hbr.out hn1.out (Int.not_lt.2 hlateH.out) hn2.out (by rw [hal]; exact hn3.out) hi (by omega) (by rw [← hri.out, ← hkn.out, ← hkey.out]; exact hFl.out))
  rw [show y.t = ((tn + d : Nat) : Int) by rw [hyt.out]; exact (Int.natCast_add tn d).symm] at hst
  have hA6 : v5.ownBlock = none ∨ v5.ownBlock ≠ (Value.slice ow k cw).ownBlock := by
   cases hv : v5.ownBlock with
   | none => exact .inl rfl
   | some b => exact .inr (fun e => hdisg.out b hv e.symm)
  have hAfin := owns_set (owns_grown hA1.out hg6.out hA6) (p := ⟨w.heap.size, 2, none⟩) (fun e => by have := hfA5.out w.heap.size e; omega) (.slice (some ⟨g6, 0, none⟩) (k + 1) cap6)
  have hWfin := owns_set hown6.out (p := ⟨w.heap.size, 2, none⟩) (fun e => by have := owns_fresh hown6.out w.heap.size e; omega) (.slice (some ⟨g6, 0, none⟩) (k + 1) cap6)
  refine ⟨k + 1, pc + nn, tn + d, ws ++ [y], A ++ [qk], _, by omega, by go_num, hpn, rfl, by omega, by rw [List.length_append, hwl]; rfl, by rw [List.length_append, hAl]; rfl, Lib.hid hst, ?_, ?_, ?_, qb6.out.set 2 _, ?_, ?_, ?_⟩
  ·have e : (Keys.ints (A ++ [qk])).flatMap intCells = (Keys.ints A).flatMap intCells ++ #[Value.int .i64 (qk : Int)].toList := by simp [Keys.ints, intCells]
   rw [e]; exact hAfin
  ·have e : ((ws ++ [y]).map WrB.of).flatMap wrBCells = (ws.map WrB.of).flatMap wrBCells ++ #[Value.int .i64 y.t, .int .i64 y.r, .int .i64 y.k, .string ⟨y.key.toArray⟩, .string ⟨y.val.toArray⟩, .int .i64 y.n].toList := by simp [WrB.of, wrBCells]
   rw [e]; exact hWfin
  ·intro b hb e
   rcases hbk6.out with h | h
   ·rw [h] at e; exact hdisg.out b hb e
   ·rw [h] at e; injection e with e; exact hltA.out b (by omega) hb
  ·exact (qe1.out.grown hg6.out (fun e => by have := hfW.out (w.heap.size + 1) e; omega)).other (p := ⟨w.heap.size, 2, none⟩) (show w.heap.size ≠ w.heap.size + 1 by omega) _
  ·exact (Row.grown hqz1.out hg6.out (fun e => by have := hfW.out (w.heap.size + 1 + 1) e; omega)).other (p := ⟨w.heap.size, 2, none⟩) (show w.heap.size ≠ w.heap.size + 1 + 1 by omega) _
  ·exact (hO1.out.grown hg6.out (fun j hj => .inr (hfW.out j hj))).set (p := ⟨w.heap.size, 2, none⟩) (.inl (.inl rfl)) _
 case measure => simp [intOf]; omega) : p := h
theorem byWBodyR23 {p : Prop} (h : p := by
 clear hHeld
 have hBz := bch hBg hbz
 have hC := Lib.hid (check_yes _ s pc (errV c) (.no c) (by intro h; cases h) wz (hL.below hBz) (hqg.below hbz) rfl)
 replace hrow := Lib.hid hrow
 go_wp2_with fail
 refine hC.out.mono ?_
 rintro _ wy ⟨rfl, hby⟩
 exact hfail.out wy c pc _ _ _ _ _ rfl rfl rfl ((qbg.below hbz).below hby) ((qeg.below hbz).below hby) (bch hBz hby) (hstep.out _ (Body.one_f hb.out hbr.out hn1.out (Int.not_lt.2 hlateH.out) hn2.out (by rw [hal]; exact hn3.out) hi (by omega) (by rw [← hri.out, ← hkn.out, ← hkey.out]; exact hFl.out)))) : p := h
set_option maxHeartbeats 8000000 in
set_option maxRecDepth 20000 in
theorem body_read (s : ByteArray) (w : World) (hs : s.size ≤ 20000) (hL : Laid w) :
  Calls Tryz.prog 93 #[.string s] w (BodyGot s w) := by
 have hmf : ∀ (fn : Fn) (first cap : Array Value) (w : World), (Instr.makeFunc fn first cap).run Tryz.prog w = .ok (.func fn first cap) w := fun _ _ _ _ => rfl
 have hll : s.data.toList.length = s.size := Array.length_toList
 have hfail := read_fail s w
 generalize hS : s.data.toList = S at *
 have hsz : ¬ (20000 : Int) < (s.size : Int) := by omega
 replace hfail := Lib.hid hfail
 go_enter_defers Tryz.func93, Tryz.ntmps93
 go_wp2_with fail
 have qb := row_at #[.slice none 0 0, .slice none 0 0, .slice none 0 0] 25 (rfl : w.heap.size = w.heap.size)
 have qe := row_at (w := w.alloc (.cells #[.slice none 0 0, .slice none 0 0, .slice none 0 0] 25)) (g := w.heap.size + 1) #[.nilIface] 37 (by simp)
 have qr := row_at (w := (w.alloc (.cells #[.slice none 0 0, .slice none 0 0, .slice none 0 0] 25)).alloc (.cells #[.nilIface] 37)) (g := w.heap.size + 1 + 1) #[.string s, .int .i64 0] 189 (by simp)
 replace qb := (qb.alloc (.cells #[.nilIface] 37)).alloc (.cells #[.string s, .int .i64 0] 189)
 replace qe := qe.alloc (.cells #[.string s, .int .i64 0] 189)
 have hB : Below w.heap.size w (((w.alloc (.cells #[.slice none 0 0, .slice none 0 0, .slice none 0 0] 25)).alloc (.cells #[.nilIface] 37)).alloc (.cells #[.string s, .int .i64 0] 189)) := by exact blw
 generalize ((w.alloc (.cells #[.slice none 0 0, .slice none 0 0, .slice none 0 0] 25)).alloc (.cells #[.nilIface] 37)).alloc (.cells #[.string s, .int .i64 0] 189) = w3 at *
 replace qr : Rd w3 (w.heap.size + 1 + 1) s 0 := qr
 have hs3 : w.heap.size + 1 + 1 < w3.heap.size := Row.lt qr
 refine (rd_vector _ s 0 w3 (by omega) (by omega) (hL.below hB) qr).mono ?_
 rintro e w4 ⟨h1, hO4⟩
 rw [hS] at h1
 replace hB := hB.trans (hO4.below (by omega) hB.size)
 cases hv1 : Body.vecR S 0 with
 | error x =>
  rw [hv1] at h1
  obtain rfl := h1
  exact hfail.out w4 x.1 x.2 _ _ _ _ _ rfl rfl rfl (qb.only hO4 (by omega)) (qe.only hO4 (by omega)) hB (Body.read_e1 hv1)
 | ok x =>
 obtain ⟨f, p1⟩ := x
 rw [hv1] at h1
 obtain ⟨vf, rfl, hvf, hff, qr⟩ := h1
 replace qb := qb.only hO4 (by omega)
 replace qe := qe.only hO4 (by omega)
 obtain ⟨-, hp1, hrf, -⟩ := Body.vecR_ok hv1 (by omega)
 rw [hll] at hp1
 have hf16 := ((Vec.right_iff f).1 hrf).len
 clear hrf
 replace hv1 := Lib.hid hv1
 go_wp2_with fail
 refine (rd_vector _ s p1 w4 (by omega) hp1 (hL.below hB) qr).mono ?_
 rintro e w5 ⟨h1, hO5⟩
 rw [hS] at h1
 replace hB := hB.trans (hO5.below (by omega) hB.size)
 have hs4 := hO4.size
 have hs5 := hO5.size
 cases hv2 : Body.vecR S p1 with
 | error x =>
  rw [hv2] at h1
  obtain rfl := h1
  exact hfail.out w5 x.1 x.2 _ _ _ _ _ rfl rfl rfl (qb.only hO5 (by omega)) (qe.only hO5 (by omega)) hB (Body.read_e2 hv1.out hv2)
 | ok x =>
 obtain ⟨h, p2⟩ := x
 rw [hv2] at h1
 obtain ⟨vh, rfl, hvh, hfh, qr⟩ := h1
 replace qb := qb.only hO5 (by omega)
 replace qe := qe.only hO5 (by omega)
 have hvf : VecIs w5 vf f := SliceIs.only hvf hO5 (fun k hk e => by have := hff k hk; omega)
 obtain ⟨of, cf, rfl, -, -⟩ := hvf.list.at entCells_len
 obtain ⟨oh, ch, rfl, -, -⟩ := hvh.list.at entCells_len
 obtain ⟨-, hp2, hrh, -⟩ := Body.vecR_ok hv2 (by omega)
 rw [hll] at hp2
 have hl16 := ((Vec.right_iff h).1 hrh).len
 replace hv2 := Lib.hid hv2
 clear hO4 hO5 hrh
 obtain ⟨c0, c1, c2⟩ := qb.c3
 (have f0 := qb.frozen 0 (by simp); have f1 := qb.frozen 1 (by simp); have f2 := qb.frozen 2 (by simp))
 have qb2 := Lib.hid ((qb.set 0 (.slice of f.length cf)).set 1 (.slice oh h.length ch))
 have qe2 := Lib.hid ((qe.other (p := ⟨w.heap.size, 0, none⟩) (show w.heap.size ≠ w.heap.size + 1 by omega) (.slice of f.length cf)).other (p := ⟨w.heap.size, 1, none⟩) (show w.heap.size ≠ w.heap.size + 1 by omega) (.slice oh h.length ch))
 have qr2 : Hid (Rd ((w5.setCell ⟨w.heap.size, 0, none⟩ (.slice of f.length cf)).setCell ⟨w.heap.size, 1, none⟩ (.slice oh h.length ch)) (w.heap.size + 1 + 1) s p2) := Lib.hid (Row.other (Row.other qr (p := ⟨w.heap.size, 0, none⟩) (show w.heap.size ≠ w.heap.size + 1 + 1 by omega) (.slice of f.length cf)) (p := ⟨w.heap.size, 1, none⟩) (show w.heap.size ≠ w.heap.size + 1 + 1 by omega) (.slice oh h.length ch))
 have hO6 : Only (fun k => k = w.heap.size) w5 ((w5.setCell ⟨w.heap.size, 0, none⟩ (.slice of f.length cf)).setCell ⟨w.heap.size, 1, none⟩ (.slice oh h.length ch)) := ((Only.refl (fun k => k = w.heap.size) w5).set (p := ⟨w.heap.size, 0, none⟩) (.inl rfl) (.slice of f.length cf)).set (p := ⟨w.heap.size, 1, none⟩) (.inl rfl) (.slice oh h.length ch)
 replace hvf : VecIs _ (.slice of f.length cf) f := SliceIs.only hvf hO6 (fun k hk e => by have := hff k hk; omega)
 replace hvh : VecIs _ (.slice oh h.length ch) h := SliceIs.only hvh hO6 (fun k hk e => by have := hfh k hk; omega)
 replace hB := hB.trans (hO6.below (by omega) hB.size)
 have hs6 := hO6.size
 replace hvf := Lib.hid hvf
 replace hvh := Lib.hid hvh
 replace hO6 := Lib.hid hO6
 replace hB := Lib.hid hB
 replace hs6 := Lib.hid hs6
 go_wp2_with fail
 clear c0 c1 c2 f0 f1 f2 qb qe qr
 generalize (w5.setCell ⟨w.heap.size, 0, none⟩ (.slice of f.length cf)).setCell ⟨w.heap.size, 1, none⟩ (.slice oh h.length ch) = w6 at *
 have qb : Row w6 w.heap.size 25 [.slice of f.length cf, .slice oh h.length ch, .slice none 0 0] := qb2.out
 have qe : Row w6 (w.heap.size + 1) 37 [.nilIface] := qe2.out
 have qr : Rd w6 (w.heap.size + 1 + 1) s p2 := qr2.out
 replace hB := hB.out
 replace hs6 := hs6.out
 clear qb2 qe2 qr2 hO6
 refine (rd_number _ s p2 60 w6 (by omega) hp2 (by omega) (hL.below hB) qr).mono ?_
 rintro e w7 ⟨h1, hO7⟩
 rw [hS] at h1
 replace hB := hB.trans (hO7.below (by omega) hB.size)
 have hs7 := hO7.size
 cases hv3 : Body.num S p2 60 with
 | error x =>
  rw [hv3] at h1
  obtain rfl := h1
  exact hfail.out w7 x.1 x.2 _ _ _ _ _ rfl rfl rfl (qb.only hO7 (by omega)) (qe.only hO7 (by omega)) hB (Body.read_e3 hv1.out hv2.out hv3)
 | ok x =>
 obtain ⟨m, p3⟩ := x
 rw [hv3] at h1
 obtain ⟨rfl, qr⟩ := h1
 replace qb := qb.only hO7 (by omega)
 replace qe := qe.only hO7 (by omega)
 replace hvf : VecIs w7 (.slice of f.length cf) f := SliceIs.only hvf.out hO7 (fun k hk e => by have := hff k hk; omega)
 replace hvh : VecIs w7 (.slice oh h.length ch) h := SliceIs.only hvh.out hO7 (fun k hk e => by have := hfh k hk; omega)
 obtain ⟨-, hp3, -, hm60, -⟩ := Body.num_ok hv3 (by omega)
 rw [hll] at hp3
 replace hv3 := Lib.hid hv3
 replace hvf := Lib.hid hvf
 replace hvh := Lib.hid hvh
 clear hO7
 have hm60 : m ≤ 60 := by omega
 go_wp2_with fail
 go_loopw [6, 37] (fun tv i wr => ∃ (k p : Nat) (acc : List (List UInt8)), k ≤ m ∧ i = .int .i64 k ∧ p ≤ s.size ∧ acc.length = k ∧ Hid (Body.keysR S (m - k) p acc = Body.keysR S m p3 []) ∧ wr.ownsRow w7.heap.size 9 1 tv k (acc.flatMap (fun x => strCells ⟨x.toArray⟩)) ∧ Rd wr (w.heap.size + 1 + 1) s p ∧ Only (fun k => k = w.heap.size + 1 + 1) w7 wr) (fun _ i _ => m - (intOf i).toNat)
 case atStart => exact ⟨0, p3, [], by omega, rfl, hp3, rfl, Lib.hid rfl, World.ownsRow_nil _ _ _ _, qr, Only.refl _ _⟩
 case round =>
  obtain ⟨k, p, acc, hk, rfl, hp, hal, hkr, hown, hqr, hOl⟩ := hrel
  have hszl := hOl.size
  have hBl : Below w.heap.size w wr := hB.trans (hOl.below (by omega) hB.size)
  have qbl := qb.only hOl (by omega)
  have qel := qe.only hOl (by omega)
  by_cases hlt : k < m
  ·have hg := span_at s p wr (by omega) hp (hL.below hBl)
   rw [hS] at hg
   have c0 := hqr.c0
   have c1 := hqr.c1
   have hp63 : (p : Int) ≤ (s.size : Int) := by omega
   cases hgk : Span.get (S.drop p) with
   | bad c =>
    have hE : Body.keysR S m p3 [] = .error (c, p) := by rw [← hkr.out, show m - k = (m - (k + 1)) + 1 by omega, Body.keysR, hgk]
    rw [hgk] at hg
    have hsv : spanVal (.bad c) = .tuple #[.string ⟨#[]⟩, .int .i64 0, .iface 67 (.int .i64 c)] := rfl
    rw [hsv] at hg
    replace hg := Lib.hid hg
    replace hE := Lib.hid hE
    clear hgk hsv hkr hown
    go_wp2_with fail
    refine hg.out.mono ?_
    rintro _ wa ⟨rfl, hba⟩
    have hC := Lib.hid (check_yes _ s p (errV c) (.no c) (by intro h; cases h) wa (hL.below (bch hBl hba)) (hqr.below hba) rfl)
    go_wp2_with fail
    refine hC.out.mono ?_
    rintro _ wb ⟨rfl, hbb⟩
    exact hfail.out wb c p _ _ _ _ _ rfl rfl rfl ((qbl.below hba).below hbb) ((qel.below hba).below hbb) (bch (bch hBl hba) hbb) (Body.read_e4 hv1.out hv2.out hv3.out hE.out)
   | ok key j =>
    obtain ⟨-, -, hj3, -, -⟩ := Span.get_ok hgk
    rw [List.length_drop] at hj3
    have hkr2 : Hid (Body.keysR S (m - (k + 1)) (p + j) (acc ++ [key]) = Body.keysR S m p3 []) := Lib.hid (by rw [← hkr.out, show m - k = (m - (k + 1)) + 1 by omega, Body.keysR, hgk])
    rw [hgk] at hg
    have hsv : spanVal (.ok key j) = .tuple #[.string ⟨key.toArray⟩, .int .i64 j, .nilIface] := rfl
    rw [hsv] at hg
    replace hg := Lib.hid hg
    have hpj : p + j ≤ s.size := by omega
    have hfr := Lib.hid (owns_fresh hown)
    have hsn : acc.flatMap (fun x : List UInt8 => strCells ⟨x.toArray⟩) ++ [Value.string ⟨key.toArray⟩] = (acc ++ [key]).flatMap (fun x : List UInt8 => strCells ⟨x.toArray⟩) := by rw [List.flatMap_append]; rfl
    replace hsn := Lib.hid hsn
    clear hgk hsv hkr hj3
    go_wp2_with fail
    refine hg.out.mono ?_
    rintro _ wa ⟨rfl, hba⟩
    have hC := Lib.hid (check_no (w.heap.size + 1 + 1) wa)
    have hwa := hba.size
    have hown2 := owns_below hown hba
    have hqa := hqr.below hba
    have hw0 : w7.heap.size ≤ wa.heap.size := by omega
    have hvq : u6.ownBlock ≠ some (w.heap.size + 1 + 1) := fun e => by have := hfr.out _ e; omega
    have hOa := Lib.hid (hOl.chain hba)
    clear c0 c1 hown
    go_wp2_with fail
    refine hC.out.mono ?_
    rintro _ wa ⟨rfl, rfl⟩
    go_wp2_with (first
     | ((at_builtin; go_must (refine app_one rfl _ _ 145 9 rfl (w7.heap.size) (.string ⟨#[]⟩) 1 16 Tryz.underlying145 (by kernel_rfl) rfl _ _ _ rfl hown2 _ rfl rfl ?_ (by omega) (by omega) hw0 ?_)); (focus (first | exact ⟨rfl, rfl⟩ | rfl | simp [Value.oneCell'])); intro v5 w5' hown5 hg5 hbk5 hne5 hb5; have hq5 := Row.grown hqa hg5 hvq; have e5 := Rd.c1 hq5; have f5 := Rd.f1 hq5; replace hq5 := Lib.hid hq5; replace hown5 := Lib.hid hown5; replace hg5 := Lib.hid hg5; replace hb5 := Lib.hid hb5; replace hbk5 := Lib.hid hbk5; clear hqa hown2))
    go_roundw
    case rel =>
     have hv5 : v5.ownBlock ≠ some (w.heap.size + 1 + 1) := fun e => by have := owns_fresh hown5.out _ e; omega
     rw [← Int.natCast_add p j]
     refine ⟨k + 1, p + j, acc ++ [key], by omega, by go_num, hpj, by rw [List.length_append, hal]; rfl, hkr2, ?_, Rd.to hq5.out _, (hOa.out.grown hg5.out (fun k' hk' => .inr (hfr.out k' hk'))).set (p := ⟨w.heap.size + 1 + 1, 1, none⟩) (.inl rfl) _⟩
     rw [← hsn.out]
     exact owns_set hown5.out (p := ⟨w.heap.size + 1 + 1, 1, none⟩) hv5 _
    case measure => simp [intOf]; omega
  ·obtain rfl : m = k := by omega
   obtain ⟨p4, rfl⟩ : ∃ p4, p4 = p := ⟨_, rfl⟩
   have h4 : Body.keysR S m p3 [] = .ok (acc, p4) := by rw [← hkr.out, Nat.sub_self, Body.keysR]
   have hT : ListIs (fun x : List UInt8 => strCells ⟨x.toArray⟩) 1 wr u6 acc := ListIs.of_owns (by rw [hal]; exact hown)
   have hfT := owns_fresh hown
   obtain ⟨oT, cT, rfl, -, -⟩ := hT.at (fun x => strCells_len _)
   rw [hal] at hT hfT ⊢
   replace hvf : VecIs wr (.slice of f.length cf) f := SliceIs.only hvf.out hOl (fun k' hk' e => by have := hff k' hk'; omega)
   replace hvh : VecIs wr (.slice oh h.length ch) h := SliceIs.only hvh.out hOl (fun k' hk' e => by have := hfh k' hk'; omega)
   replace hvf := Lib.hid hvf
   replace hvh := Lib.hid hvh
   replace hT := Lib.hid hT
   replace h4 := Lib.hid h4
   clear hkr hown hOl hlt qb qe qr hB
   have hN := Lib.hid (rd_number _ s p4 60 wr (by omega) hp (by omega) (hL.below hBl) hqr)
   go_wp2_with fail
   refine hN.out.mono ?_
   rintro e w8 ⟨h1, hO8⟩
   rw [hS] at h1
   replace hBl := hBl.trans (hO8.below (by omega) hBl.size)
   have hs8 := hO8.size
   cases hv5 : Body.num S p4 60 with
   | error x =>
    rw [hv5] at h1
    obtain rfl := h1
    exact hfail.out w8 x.1 x.2 _ _ _ _ _ rfl rfl rfl (qbl.only hO8 (by omega)) (qel.only hO8 (by omega)) hBl (Body.read_e5 hv1.out hv2.out hv3.out h4.out hv5)
   | ok x =>
   obtain ⟨n, p5⟩ := x
   rw [hv5] at h1
   obtain ⟨rfl, qr⟩ := h1
   have qb := qbl.only hO8 (by omega)
   have qe := qel.only hO8 (by omega)
   replace hvf : VecIs w8 (.slice of f.length cf) f := SliceIs.only hvf.out hO8 (fun k hk e => by have := hff k hk; omega)
   replace hvh : VecIs w8 (.slice oh h.length ch) h := SliceIs.only hvh.out hO8 (fun k hk e => by have := hfh k hk; omega)
   replace hT : ListIs (fun x : List UInt8 => strCells ⟨x.toArray⟩) 1 w8 (.slice oT m cT) acc := SliceIs.only hT.out hO8 (fun k hk e => by have := hfT k hk; omega)
   obtain ⟨-, hp5, -, hn60, -⟩ := Body.num_ok hv5 (by omega)
   rw [hll] at hp5
   replace hv5 := Lib.hid hv5
   replace hvf := Lib.hid hvf
   replace hvh := Lib.hid hvh
   replace hT := Lib.hid hT
   clear hO8 hN qbl qel hqr
   have hn60 : n ≤ 60 := by omega
   go_wp2_with fail
   replace hfT := Lib.hid hfT
   have hq8 : w.heap.size + 1 + 1 < w8.heap.size := by omega
   go_loopw [10, 11, 69] (fun av tm i wr => ∃ (k p tn : Nat) (ws : List Wr) (A : List Nat) (vw : Value), k ≤ n ∧ i = .int .i64 k ∧ p ≤ s.size ∧ tm = .int .i64 tn ∧ tn ≤ 1099511627776 ∧ ws.length = k ∧ A.length = k ∧ Hid (Body.wrsR S h acc (n - k) tn p ws A = Body.wrsR S h acc n 0 p5 [] []) ∧
    wr.ownsRow w8.heap.size 3 1 av k ((Keys.ints A).flatMap intCells) ∧ wr.ownsRow w8.heap.size 33 6 vw k ((ws.map WrB.of).flatMap wrBCells) ∧ (∀ b, av.ownBlock = some b → vw.ownBlock ≠ some b) ∧
    Row wr w.heap.size 25 [.slice of f.length cf, .slice oh h.length ch, vw] ∧ Row wr (w.heap.size + 1) 37 [.nilIface] ∧ Rd wr (w.heap.size + 1 + 1) s p ∧ Only (fun k => k = w.heap.size ∨ k = w.heap.size + 1 + 1) w8 wr) (fun _ _ i _ => n - (intOf i).toNat)
   case atStart => exact ⟨0, p5, 0, [], [], _, by omega, rfl, hp5, rfl, by omega, rfl, rfl, Lib.hid rfl, World.ownsRow_nil _ _ _ _, World.ownsRow_nil _ _ _ _, (fun b hb => by cases hb), qb, qe, qr, Only.refl _ _⟩
   case round =>
    obtain ⟨k, p, tn, ws, A, vw, hk, rfl, hp, rfl, htn, hwl, hAl, hwr, hownA, hownW, hdis, qb, qe, hqr, hOl⟩ := hrel
    have hszl := hOl.size
    have hBr : Below w.heap.size w wr := hBl.trans (hOl.below (fun k' hk' => by omega) (by omega))
    by_cases hlt : k < n
    -- ROUND
    ·have hstep : ∀ x, Body.oneR S h acc tn p = .error x → Body.read S = .error x := fun x hx => Body.read_e6 hv1.out hv2.out hv3.out h4.out hv5.out (by rw [← hwr.out, show n - k = (n - (k + 1)) + 1 by omega, Body.wrsR, hx])
     have hgo : ∀ y q p', Body.oneR S h acc tn p = .ok (y, q, p') → Body.wrsR S h acc (n - (k + 1)) y.t p' (ws ++ [y]) (A ++ [q]) = Body.wrsR S h acc n 0 p5 [] [] := fun y q p' hx => by rw [← hwr.out, show n - k = (n - (k + 1)) + 1 by omega, Body.wrsR, hx]
     replace hstep := Lib.hid hstep
     replace hgo := Lib.hid hgo
     have hfA := Lib.hid (owns_fresh hownA)
     have hfW := Lib.hid (owns_fresh hownW)
     obtain ⟨ow, cw, rfl⟩ := owns_slice hownW
     clear hwr
     have hK := Lib.hid (rd_kind _ s p wr (by omega) hp (hL.below hBr) hqr)
     go_wp2_with fail
     refine hK.out.mono ?_
     rintro e wk ⟨h1, hOk⟩
     rw [hS] at h1
     have hBk := hBr.trans (hOk.below (fun k' hk' => by omega) hBr.size)
     have hsk := hOk.size
     cases hb : S[p]? with
     | none =>
      rw [hb] at h1
      obtain rfl := h1
      exact hfail.out wk 7 p _ _ _ _ _ rfl rfl rfl (qb.only hOk (by omega)) (qe.only hOk (by omega)) hBk (hstep.out _ (Body.one_none hb))
     | some b =>
     rw [hb] at h1
     simp only at h1
     by_cases hbr : b.toNat < 1 ∨ 4 < b.toNat
     ·rw [if_pos hbr] at h1
      obtain rfl := h1
      exact hfail.out wk 1 p _ _ _ _ _ rfl rfl rfl (qb.only hOk (by omega)) (qe.only hOk (by omega)) hBk (hstep.out _ (Body.one_bad hb hbr))
     rw [if_neg hbr] at h1
     obtain ⟨rfl, hqk⟩ := h1
     have hps : p < s.size := by
      have := (List.getElem?_eq_some_iff.1 hb).1
      omega
     obtain ⟨kn, hkn⟩ : ∃ kn, kn = b.toNat := ⟨_, rfl⟩
     rw [← hkn]
     have hkn4 : kn ≤ 4 := by omega
     have qbk := qb.only hOk (by omega)
     have qek := qe.only hOk (by omega)
     have qx := row_alloc wk #[.int .i64 0, .int .i64 0, .int .i64 kn, .string ⟨#[]⟩, .string ⟨#[]⟩, .int .i64 0] 33
     have hqx := Rd.below hqk ((Below.refl _ wk).alloc (Nat.le_refl _) (.cells #[.int .i64 0, .int .i64 0, .int .i64 kn, .string ⟨#[]⟩, .string ⟨#[]⟩, .int .i64 0] 33))
     have c1 := hqx.c1
     replace qx := Lib.hid qx
     replace hbr := Lib.hid hbr
     replace hkn := Lib.hid hkn
     replace hb := Lib.hid hb
     replace hOk := Lib.hid hOk
     go_wp2_with fail
     replace qx := qx.out
     have qb := qbk.alloc (.cells #[.int .i64 0, .int .i64 0, .int .i64 kn, .string ⟨#[]⟩, .string ⟨#[]⟩, .int .i64 0] 33)
     have qe := qek.alloc (.cells #[.int .i64 0, .int .i64 0, .int .i64 kn, .string ⟨#[]⟩, .string ⟨#[]⟩, .int .i64 0] 33)
     have hO := (hOl.step hOk.out (fun j hj => .inl (.inr hj))).alloc (.cells #[.int .i64 0, .int .i64 0, .int .i64 kn, .string ⟨#[]⟩, .string ⟨#[]⟩, .int .i64 0] 33)
     have hB := bal hBk (.cells #[.int .i64 0, .int .i64 0, .int .i64 kn, .string ⟨#[]⟩, .string ⟨#[]⟩, .int .i64 0] 33)
     have hA1 := (owns_only hownA hOk.out (fun j hj e => by have := hfA.out j hj; omega)).alloc (.cells #[.int .i64 0, .int .i64 0, .int .i64 kn, .string ⟨#[]⟩, .string ⟨#[]⟩, .int .i64 0] 33)
     have hW1 := (owns_only hownW hOk.out (fun j hj e => by have := hfW.out j hj; omega)).alloc (.cells #[.int .i64 0, .int .i64 0, .int .i64 kn, .string ⟨#[]⟩, .string ⟨#[]⟩, .int .i64 0] 33)
     have hsx : (wk.alloc (.cells #[.int .i64 0, .int .i64 0, .int .i64 kn, .string ⟨#[]⟩, .string ⟨#[]⟩, .int .i64 0] 33)).heap.size = wk.heap.size + 1 := by simp
     have hoA : ∀ j, u10.ownBlock = some j → j < wk.heap.size := fun j hj => by
      have := owns_lt hownA j; exact Nat.lt_of_not_le fun h => owns_lt (owns_only hownA hOk.out (fun j hj e => by have := hfA.out j hj; omega)) j h hj
     have hoW : ∀ j, (Value.slice ow k cw).ownBlock = some j → j < wk.heap.size := fun j hj => by
      exact Nat.lt_of_not_le fun h => owns_lt (owns_only hownW hOk.out (fun j hj e => by have := hfW.out j hj; omega)) j h hj
     replace hoA := Lib.hid hoA
     replace hoW := Lib.hid hoW
     obtain ⟨g, hg⟩ : ∃ g, g = wk.heap.size := ⟨_, rfl⟩
     rw [← hg] at qx hsx hoA hoW ⊢
     have hgs : w8.heap.size ≤ g := by omega
     replace hg := Lib.hid hg
     generalize wk.alloc (.cells #[.int .i64 0, .int .i64 0, .int .i64 kn, .string ⟨#[]⟩, .string ⟨#[]⟩, .int .i64 0] 33) = wx at *
     clear hownA hownW qbk qek hBk hOk hqk c1 hK hOl hBr
     refine (rd_number _ s (p + 1) 1099511627776 wx (by omega) (by omega) (by omega) (hL.below hB) hqx).mono ?_
     rintro e wa ⟨h1, hOa⟩
     rw [hS] at h1
     replace hB := hB.trans (hOa.below (fun k' hk' => by omega) hB.size)
     replace qb := qb.only hOa (by omega)
     replace qe := qe.only hOa (by omega)
     cases hn1 : Body.num S (p + 1) 1099511627776 with
     | error x =>
      rw [hn1] at h1
      obtain rfl := h1
      exact hfail.out wa x.1 x.2 _ _ _ _ _ rfl rfl rfl qb qe hB (hstep.out _ (Body.one_t hb.out hbr.out hn1))
     | ok x =>
     obtain ⟨d, pa⟩ := x
     rw [hn1] at h1
     obtain ⟨rfl, hqr⟩ := h1
     replace qx := qx.only hOa (by omega)
     replace hO := hO.step hOa (fun j hj => .inl (.inr hj))
     replace hA1 := owns_only hA1 hOa (fun j hj e => by have := hfA.out j hj; omega)
     replace hW1 := owns_only hW1 hOa (fun j hj e => by have := hfW.out j hj; omega)
     obtain ⟨-, hpa, -, hd, -⟩ := Body.num_ok hn1 (by omega)
     rw [hll] at hpa
     replace hn1 := Lib.hid hn1
     have hsa := hOa.size
     clear hOa hqx
     have c1 := hqr.c1
     have f1 := hqr.f1
     by_cases hlate : (1099511627776 : Int) < (tn : Int) + (d : Int)
     ·have hr2 := Lib.hid (hqr.to (p + 1))
      have hO2 := Only.set (S := fun j => j = w.heap.size + 1 + 1) (Only.refl _ wa) (p := ⟨w.heap.size + 1 + 1, 1, none⟩) (.inl rfl) (.int .i64 (p + 1 : Nat))
      have hB2 := Lib.hid (hB.trans (hO2.below (fun k' hk' => by omega) hB.size))
      replace qb := Lib.hid (qb.only hO2 (by omega))
      replace qe := Lib.hid (qe.only hO2 (by omega))
      have hC := Lib.hid (check_yes _ s (p + 1) (errV 2) (.no 2) (by intro h; cases h) _ (hL.below hB2.out) hr2.out rfl)
      clear hO2 hO hA1 hW1
      go_wp2_with fail
      rw [show (p : Int) + 1 = ((p + 1 : Nat) : Int) by omega]
      refine hC.out.mono ?_
      rintro _ wb ⟨rfl, hbb⟩
      exact hfail.out wb 2 (p + 1) _ _ _ _ _ rfl rfl rfl (qb.out.below hbb) (qe.out.below hbb) (bch hB2.out hbb) (hstep.out _ (Body.one_late hb.out hbr.out hn1.out hlate))
     have hlateH := Lib.hid hlate
     have qb0 := qb.cell 1
     simp only [List.getElem?_cons_zero, List.getElem?_cons_succ] at qb0
     have hN2 := Lib.hid (rd_number _ s pa ((h.length : Int) - 1) wa (by omega) hpa (by omega) (hL.below hB) hqr)
     clear c1 f1
     go_wp2_with fail
     refine hN2.out.mono ?_
     rintro e wb ⟨h1, hOb⟩
     rw [hS] at h1
     replace hB := hB.trans (hOb.below (fun k' hk' => by omega) hB.size)
     replace qb := qb.only hOb (by omega)
     replace qe := qe.only hOb (by omega)
     cases hn2 : Body.num S pa ((h.length : Int) - 1) with
     | error x =>
      rw [hn2] at h1
      obtain rfl := h1
      exact hfail.out wb x.1 x.2 _ _ _ _ _ rfl rfl rfl qb qe hB (hstep.out _ (Body.one_i hb.out hbr.out hn1.out (Int.not_lt.2 hlateH.out) hn2))
     | ok x =>
     obtain ⟨i, pb⟩ := x
     rw [hn2] at h1
     clear qb0 hN2 hqr
     obtain ⟨rfl, hqr⟩ := h1
     replace qx := qx.only hOb (by omega)
     replace hO := hO.step hOb (fun j hj => .inl (.inr hj))
     replace hA1 := owns_only hA1 hOb (fun j hj e => by have := hfA.out j hj; omega)
     replace hW1 := owns_only hW1 hOb (fun j hj e => by have := hfW.out j hj; omega)
     obtain ⟨-, hpb, -, hi, -⟩ := Body.num_ok hn2 (by omega)
     rw [hll] at hpb
     replace hi : i < h.length := by omega
     replace hn2 := Lib.hid hn2
     have hsb := hOb.size
     clear hOb
     have qb0 := qb.cell 1
     simp only [List.getElem?_cons_zero, List.getElem?_cons_succ] at qb0
     obtain ⟨bh, fh, rfl, hci⟩ := vec_cell hvh.out i hi
     have hci := hO.cell hci (by have := hfh bh rfl; show ¬ (bh = _ ∨ bh = _); omega)
     obtain ⟨ri, hri⟩ : ∃ ri, ri = h[i].r := ⟨_, rfl⟩
     rw [← hri] at hci
     obtain ⟨x0, x1, x2, x3, x4, x5⟩ := qx.c6
     (have z0 := qx.frozen 0 (by simp); have z1 := qx.frozen 1 (by simp); have z2 := qx.frozen 2 (by simp); have z3 := qx.frozen 3 (by simp); have z4 := qx.frozen 4 (by simp); have z5 := qx.frozen 5 (by simp))
     have qx2 := Lib.hid ((qx.set 0 (.int .i64 ((tn : Int) + (d : Int)))).set 1 (.int .i64 ri))
     have hOx : Only (fun j => j = g) wb ((wb.setCell ⟨g, 0, none⟩ (.int .i64 ((tn : Int) + (d : Int)))).setCell ⟨g, 1, none⟩ (.int .i64 ri)) := ((Only.refl (fun j => j = g) wb).set (p := ⟨g, 0, none⟩) (.inl rfl) _).set (p := ⟨g, 1, none⟩) (.inl rfl) _
     replace hB := Lib.hid (hB.trans (hOx.below (fun k' hk' => by omega) hB.size))
     replace qb := Lib.hid (qb.only hOx (by omega))
     replace qe := Lib.hid (qe.only hOx (by omega))
     replace hqr := Lib.hid (hqr.only hOx (by omega))
     replace hO := Lib.hid (hO.step hOx (fun j hj => .inr (by omega)))
     replace hA1 := Lib.hid (owns_only hA1 hOx (fun j hj e => by have := hoA.out j hj; omega))
     replace hW1 := Lib.hid (owns_only hW1 hOx (fun j hj e => by have := hoW.out j hj; omega))
     have hsc := hOx.size
     replace hOx := Lib.hid hOx
     have hN3 := Lib.hid (rd_number _ s pb ((m : Int) - 1) _ (by omega) hpb (by omega) (hL.below hB.out) hqr.out)
     replace hri := Lib.hid hri
     go_wp2_with fail
     clear x0 x1 x2 x3 x4 x5 z0 z1 z2 z3 z4 z5 qb0 hci qx hOx
     replace hsc := Lib.hid hsc
     generalize (wb.setCell ⟨g, 0, none⟩ (.int .i64 ((tn : Int) + (d : Int)))).setCell ⟨g, 1, none⟩ (.int .i64 ri) = wc at *
     have qx : Row wc g 33 [.int .i64 ((tn : Int) + (d : Int)), .int .i64 ri, .int .i64 kn, .string ⟨#[]⟩, .string ⟨#[]⟩, .int .i64 0] := qx2.out
     replace qb := qb.out
     replace qe := qe.out
     replace hqr := hqr.out
     replace hO := hO.out
     replace hB := hB.out
     replace hA1 := hA1.out
     replace hW1 := hW1.out
     replace hsc := hsc.out
     clear qx2
     refine hN3.out.mono ?_
     rintro e wd ⟨h1, hOd⟩
     rw [hS] at h1
     replace hB := hB.trans (hOd.below (fun k' hk' => by omega) hB.size)
     replace qb := qb.only hOd (by omega)
     replace qe := qe.only hOd (by omega)
     cases hn3 : Body.num S pb ((m : Int) - 1) with
     | error x =>
      rw [hn3] at h1
      obtain rfl := h1
      exact hfail.out wd x.1 x.2 _ _ _ _ _ rfl rfl rfl qb qe hB (hstep.out _ (Body.one_q hb.out hbr.out hn1.out (Int.not_lt.2 hlateH.out) hn2.out (by rw [hal]; exact hn3)))
     | ok x =>
     obtain ⟨qk, pc⟩ := x
     rw [hn3] at h1
     clear hN3 hqr
     obtain ⟨rfl, hqr⟩ := h1
     replace qx := qx.only hOd (by omega)
     replace hO := hO.step hOd (fun j hj => .inl (.inr hj))
     replace hA1 := owns_only hA1 hOd (fun j hj e => by have := hfA.out j hj; omega)
     replace hW1 := owns_only hW1 hOd (fun j hj e => by have := hfW.out j hj; omega)
     obtain ⟨-, hpc, -, hqk, -⟩ := Body.num_ok hn3 (by omega)
     rw [hll] at hpc
     replace hqk : qk < m := by omega
     replace hn3 := Lib.hid hn3
     have hsd := hOd.size
     clear hOd
     obtain ⟨bt, ft, rfl, hct⟩ := str_cell hT.out qk (by omega)
     obtain ⟨key, hkey⟩ : ∃ key, key = acc[qk]'(by omega) := ⟨_, rfl⟩
     have hct : w8.cell? ⟨bt, ft + qk, none⟩ = some (.string ⟨key.toArray⟩) := by rw [hkey]; exact hct
     replace hct := Lib.hid hct
     replace hkey := Lib.hid hkey
     have hbtf : w7.heap.size ≤ bt := hfT.out bt rfl
     have hbt8 : bt < w8.heap.size := World.block_lt_of_cell? w8 _ hct.out
     have hAg : u10.ownBlock ≠ some g := fun e => by have := hoA.out g e; omega
     have hAn : ∀ j, j < w8.heap.size → u10.ownBlock ≠ some j := fun j hj e => by have := hfA.out j e; omega
     have hw0 : w8.heap.size ≤ wd.heap.size := by omega
     replace hO := Lib.hid hO
     replace hB := Lib.hid hB
     replace qb := Lib.hid qb
     replace qe := Lib.hid qe
     replace qx := Lib.hid qx
     replace hqr := Lib.hid hqr
     replace hW1 := Lib.hid hW1
     replace hAn := Lib.hid hAn
     replace hAg := Lib.hid hAg
     replace hdis := Lib.hid hdis
     go_wp2_with (first
      | ((at_builtin; go_must (refine app_one rfl _ _ 104 3 rfl (w8.heap.size) (.int .i64 0) 1 8 Tryz.underlying104 (by kernel_rfl) rfl _ _ _ rfl hA1 _ rfl rfl ?_ (by omega) (by omega) hw0 ?_)); (focus (first | exact ⟨rfl, rfl⟩ | rfl | simp [Value.oneCell'])); intro v5 wf hown5 hg5 hbk5 hne5 hb5; have hO5 := hO.out.grown hg5 (fun j hj => .inr (hfA.out j hj)); have qx5 := qx.out.grown hg5 hAg.out; have x3 := qx5.cell 3; have z3 := qx5.frozen 3 (by simp); have t5 := hO5.cell hct.out (show ¬ (bt = _ ∨ bt = _) by omega); simp only [List.getElem?_cons_zero, List.getElem?_cons_succ] at x3; replace qx5 := Lib.hid qx5; replace hO5 := Lib.hid hO5; replace hown5 := Lib.hid hown5; replace hg5 := Lib.hid hg5; replace hb5 := Lib.hid hb5; replace hbk5 := Lib.hid hbk5; clear hA1))
     have hbk5 := hbk5.out
     have hqR : Row wd (w.heap.size + 1 + 1) 189 [.string s, .int .i64 pc] := hqr.out
     have qxg : Row (wf.setCell ⟨g, 3, none⟩ (.string ⟨key.toArray⟩)) g 33 [.int .i64 ((tn : Int) + (d : Int)), .int .i64 ri, .int .i64 kn, .string ⟨key.toArray⟩, .string ⟨#[]⟩, .int .i64 0] := qx5.out.set 3 _
     have hqg : Rd (wf.setCell ⟨g, 3, none⟩ (.string ⟨key.toArray⟩)) (w.heap.size + 1 + 1) s pc := (hqR.grown hg5.out (hAn.out _ (by omega))).other (p := ⟨g, 3, none⟩) (show g ≠ _ by omega) _
     have qbg := (qb.out.grown hg5.out (hAn.out _ (by omega))).other (p := ⟨g, 3, none⟩) (show g ≠ _ by omega) (.string ⟨key.toArray⟩)
     have qeg := (qe.out.grown hg5.out (hAn.out _ (by omega))).other (p := ⟨g, 3, none⟩) (show g ≠ _ by omega) (.string ⟨key.toArray⟩)
     have hOg := hO5.out.set (p := ⟨g, 3, none⟩) (.inr hgs) (.string ⟨key.toArray⟩)
     have hBg := hBl.trans (hOg.below (fun k' hk' => by omega) (by omega))
     have hAg5 : v5.ownBlock ≠ some g := fun e => by
      rcases hbk5 with h | h
      ·rw [h] at e; exact hAg.out e
      ·rw [h] at e; injection e with e; omega
     have hAgg := owns_set hown5.out (p := ⟨g, 3, none⟩) hAg5 (.string ⟨key.toArray⟩)
     have hWg := owns_set (owns_grown hW1.out hg5.out (by
      cases hw : (Value.slice ow k cw).ownBlock with
      | none => exact .inl rfl
      | some b => exact .inr (fun e => hdis.out b (e.symm ▸ rfl) hw))) (p := ⟨g, 3, none⟩) (fun e => by have := hoW.out g e; omega) (.string ⟨key.toArray⟩)
     have hdisg : ∀ b, v5.ownBlock = some b → (Value.slice ow k cw).ownBlock ≠ some b := fun b hb e => by
      rcases hbk5 with h | h
      ·rw [h] at hb; exact hdis.out b hb e
      ·rw [h] at hb; injection hb with hb; have := hoW.out b e; omega
     generalize wf.setCell ⟨g, 3, none⟩ (.string ⟨key.toArray⟩) = wg at *
     clear qb qe qx qx5 hqr hO5 hO hB hW1 hown5 hg5 hb5 hAn hAg hdis t5 x3 z3 hbk5 hqR
     obtain ⟨c0, c1, c2, c3, c4, c5⟩ := qxg.c6
     have e1 := hqg.c1
     have hFi := fun W hW => write_fill ((tn : Int) + (d : Int)) ri kn ⟨key.toArray⟩ ⟨#[]⟩ 0 (s.extract pc s.size) W (by simp only [ByteArray.size_extract]; unfold maxLen; omega) hW
     rw [extract_drop, hS] at hFi
     have hFi : ∀ W, Laid W → Calls Tryz.prog 115 #[wrV ((tn : Int) + (d : Int)) ri kn ⟨key.toArray⟩ ⟨#[]⟩ 0, .string (s.extract pc s.size)] W fun e w' => e = .returned (fillVal (Wr.fill ⟨(tn : Int) + (d : Int), ri, (kn : Int), key, [], 0⟩ (S.drop pc))) ∧ Below W.heap.size W w' := hFi
     unfold wrV at hFi
     have hS0 : RC g (w.heap.size + 1 + 1) pc ((tn : Int) + (d : Int)) ri kn key wg wg.drew := ⟨bdr (Below.refl _ _), e1, c0, c1, c2, c3, c4, c5⟩
     clear c0 c1 c2 c3 c4 c5 e1
     replace hAgg := Lib.hid hAgg
     replace hWg := Lib.hid hWg
     replace hOg := Lib.hid hOg
     replace hdisg := Lib.hid hdisg
     -- REGION 31
     cases hFl : Wr.fill ⟨(tn : Int) + (d : Int), ri, (kn : Int), key, [], 0⟩ (S.drop pc) with
     | bad c =>
      rw [hFl] at hFi
      unfold fillVal at hFi
      replace hFi := Lib.hid hFi
      replace hFl := Lib.hid hFl
      (refine wp_region_held_drew (S := RC g (w.heap.size + 1 + 1) pc ((tn : Int) + (d : Int)) ri kn key wg) (by kernel_rfl) ?_ (fun hHeld => ?_); ((try dsimp only); exact hS0))
      (refine tkO 0 ?_ (hQ := (fun _ _ _ h => put_panic _ _ _ _ _ _ (by simp) (by simp) h)); refine tkO 1 ?_ (hQ := (fun _ _ _ h => put_panic _ _ _ _ _ _ (by simp) (by simp) h)); refine tkO 2 ?_ (hQ := (fun _ _ _ h => put_panic _ _ _ _ _ _ (by simp) (by simp) h)); refine tkO 3 ?_ (hQ := (fun _ _ _ h => put_panic _ _ _ _ _ _ (by simp) (by simp) h)); refine tkO 4 ?_ (hQ := (fun _ _ _ h => put_panic _ _ _ _ _ _ (by simp) (by simp) h)); refine tkO 5 ?_ (hQ := (fun _ _ _ h => put_panic _ _ _ _ _ _ (by simp) (by simp) h)); refine tkO 6 ?_ (hQ := (fun _ _ _ h => put_panic _ _ _ _ _ _ (by simp) (by simp) h)))
      clear hS0
      refine wpAnyH_ready (P := Tryz.prog) (md := .any) (rs := [7, 12]) (by kernel_rfl) (by simp) ?_
      refine held_cons rfl (by kernel_rfl) (fun K hK => ?_) (held_cons rfl (by kernel_rfl) (fun K hK => ?_) AllReadyH.nil)
      ·((go_simp; refine (hFi.out _ (hL.below (bch hBg hHeld.1))).mono ?_; rintro _ wn ⟨rfl, hbn⟩); refine hK.out _ _ ?_ (fun hHeld => ?_); ((try dsimp only); exact RC.below hHeld hbn); clear hK K; (try clear hHeld0); (try rename_i hHeld0))
       (refine tkO 8 ?_ (hQ := (fun _ _ _ h => put_panic _ _ _ _ _ _ (by simp) (by simp) h)); refine tkO 9 ?_ (hQ := (fun _ _ _ h => put_panic _ _ _ _ _ _ (by simp) (by simp) h)); refine tkO 10 ?_ (hQ := (fun _ _ _ h => put_panic _ _ _ _ _ _ (by simp) (by simp) h)); refine tkO 11 ?_ (hQ := (fun _ _ _ h => put_panic _ _ _ _ _ _ (by simp) (by simp) h)))
       have hg2s : wg.heap.size ≤ wn.heap.size := hHeld.1.size
       (refine tdoO 12 (fun K hK => ?_); (go_simp; refine hK.out _ _ ?_ (fun hHeld => ?_); ((try dsimp only); exact RC.alloc hHeld _); clear hK K; (try clear hHeld0); (try rename_i hHeld0)))
       (refine tdoO 13 (fun K hK => ?_); (go_simp; refine hK.out _ _ ?_ (fun hHeld => ?_); ((try dsimp only); exact RC.alloc hHeld0 _); clear hK K; (try clear hHeld0); (try rename_i hHeld0)))
       (refine tkO 14 ?_ (hQ := (fun _ _ _ h => put_panic _ _ _ _ _ _ (by simp) (by simp) h)); refine tkO 15 ?_ (hQ := (fun _ _ _ h => put_panic _ _ _ _ _ _ (by simp) (by simp) h)))
       (refine wpAnyH_done (by kernel_rfl) ?_ _)
       have hrow := row_alloc wn #[.int .i64 0, .int .i64 0, .int .i64 0, .string ⟨#[]⟩, .string ⟨#[]⟩, .int .i64 0] 33
       have hbz : Below wg.heap.size wg (wn.alloc (.cells #[.int .i64 0, .int .i64 0, .int .i64 0, .string ⟨#[]⟩, .string ⟨#[]⟩, .int .i64 0] 33)) := hHeld.1
       obtain ⟨g2, hg2⟩ : ∃ g2, g2 = wn.heap.size := ⟨_, rfl⟩
       rw [← hg2] at hrow hg2s ⊢
       replace hg2 := Lib.hid hg2
       generalize wn.alloc (.cells #[.int .i64 0, .int .i64 0, .int .i64 0, .string ⟨#[]⟩, .string ⟨#[]⟩, .int .i64 0] 33) = wz at *
       clear hHeld0
       exact byWBodyR23
      ·(go_simp; refine hK.out _ _ ?_ (fun hHeld => ?_); ((try dsimp only); exact RC.alloc hHeld _); clear hK K; (try clear hHeld0); (try rename_i hHeld0))
       have hzr := row_alloc wg.drew #[.int .i64 0, .int .i64 0, .int .i64 0, .string ⟨#[]⟩, .string ⟨#[]⟩, .int .i64 0] 33
       have hz0 : wg.drew.heap.size = wg.heap.size := rfl
       replace hzr := Lib.hid hzr
       (refine tdoO 7 (fun K hK => ?_); ((go_simp; refine (hFi.out _ (hL.below (bch hBg hHeld.1))).mono ?_; rintro _ wn ⟨rfl, hbn⟩); refine hK.out _ _ ?_ (fun hHeld => ?_); ((try dsimp only); exact RC.below hHeld hbn); clear hK K; (try clear hHeld0); (try rename_i hHeld0)))
       (refine tkO 8 ?_ (hQ := (fun _ _ _ h => put_panic _ _ _ _ _ _ (by simp) (by simp) h)); refine tkO 9 ?_ (hQ := (fun _ _ _ h => put_panic _ _ _ _ _ _ (by simp) (by simp) h)); refine tkO 10 ?_ (hQ := (fun _ _ _ h => put_panic _ _ _ _ _ _ (by simp) (by simp) h)); refine tkO 11 ?_ (hQ := (fun _ _ _ h => put_panic _ _ _ _ _ _ (by simp) (by simp) h)))
       replace hzr := hzr.out.below hbn
       have hzs : wg.drew.heap.size = wg.heap.size := rfl
       obtain ⟨g2, hg2⟩ : ∃ g2, g2 = wg.heap.size := ⟨_, rfl⟩
       rw [hzs, ← hg2] at hzr
       rw [← hg2]
       clear hz0 hzs
       obtain ⟨y0, y1, y2, y3, y4, y5⟩ := hzr.c6
       (have v0 := hzr.frozen 0 (by simp); have v1 := hzr.frozen 1 (by simp); have v2 := hzr.frozen 2 (by simp); have v3 := hzr.frozen 3 (by simp); have v4 := hzr.frozen 4 (by simp); have v5 := hzr.frozen 5 (by simp))
       replace hzr := Lib.hid hzr
       replace hg2 := Lib.hid hg2
       (refine tdoO 13 (fun K hK => ?_); (go_simp; refine hK.out _ _ ?_ (fun hHeld => ?_); ((try dsimp only); (have hgg : g2 ≠ g := (by rw [hg2.out]; exact Nat.ne_of_gt qxg.lt); have hgq : g2 ≠ w.heap.size + 1 + 1 := (by have : w.heap.size + 1 + 1 < wg.heap.size := Row.lt hqg; have := hg2.out; omega); have hgz : wg.heap.size ≤ g2 := (by rw [hg2.out]; exact Nat.le_refl _); exact (((((RC.set hHeld hgg hgq hgz _).set hgg hgq hgz _).set hgg hgq hgz _).set hgg hgq hgz _).set hgg hgq hgz _).set hgg hgq hgz _)); clear hK K; (try clear hHeld0); (try rename_i hHeld0)))
       clear y0 y1 y2 y3 y4 y5 v0 v1 v2 v3 v4 v5
       (refine tkO 14 ?_ (hQ := (fun _ _ _ h => put_panic _ _ _ _ _ _ (by simp) (by simp) h)); refine tkO 15 ?_ (hQ := (fun _ _ _ h => put_panic _ _ _ _ _ _ (by simp) (by simp) h)))
       (refine wpAnyH_done (by kernel_rfl) ?_ _)
       have hrow : Row ((((((wn.setCell ⟨g2, 0, none⟩ (.int .i64 0)).setCell ⟨g2, 1, none⟩ (.int .i64 0)).setCell ⟨g2, 2, none⟩ (.int .i64 0)).setCell ⟨g2, 3, none⟩ (.string ⟨#[]⟩)).setCell ⟨g2, 4, none⟩ (.string ⟨#[]⟩)).setCell ⟨g2, 5, none⟩ (.int .i64 0)) g2 33 [.int .i64 0, .int .i64 0, .int .i64 0, .string ⟨#[]⟩, .string ⟨#[]⟩, .int .i64 0] := (((((hzr.out.set 0 _).set 1 _).set 2 _).set 3 _).set 4 _).set 5 _
       have hbz : Below wg.heap.size wg ((((((wn.setCell ⟨g2, 0, none⟩ (.int .i64 0)).setCell ⟨g2, 1, none⟩ (.int .i64 0)).setCell ⟨g2, 2, none⟩ (.int .i64 0)).setCell ⟨g2, 3, none⟩ (.string ⟨#[]⟩)).setCell ⟨g2, 4, none⟩ (.string ⟨#[]⟩)).setCell ⟨g2, 5, none⟩ (.int .i64 0)) := hHeld.1
       have hg2s : wg.heap.size ≤ g2 := by rw [hg2.out]; exact Nat.le_refl _
       generalize (((((wn.setCell ⟨g2, 0, none⟩ (.int .i64 0)).setCell ⟨g2, 1, none⟩ (.int .i64 0)).setCell ⟨g2, 2, none⟩ (.int .i64 0)).setCell ⟨g2, 3, none⟩ (.string ⟨#[]⟩)).setCell ⟨g2, 4, none⟩ (.string ⟨#[]⟩)).setCell ⟨g2, 5, none⟩ (.int .i64 0) = wz at *
       clear hzr
       exact byWBodyR23
     | ok y nn =>
      rw [hFl] at hFi
      unfold fillVal wrVal at hFi
      replace hFi := Lib.hid hFi
      replace hFl := Lib.hid hFl
      (refine wp_region_held_drew (S := RC g (w.heap.size + 1 + 1) pc ((tn : Int) + (d : Int)) ri kn key wg) (by kernel_rfl) ?_ (fun hHeld => ?_); ((try dsimp only); exact hS0))
      (refine tkO 0 ?_ (hQ := (fun _ _ _ h => put_panic _ _ _ _ _ _ (by simp) (by simp) h)); refine tkO 1 ?_ (hQ := (fun _ _ _ h => put_panic _ _ _ _ _ _ (by simp) (by simp) h)); refine tkO 2 ?_ (hQ := (fun _ _ _ h => put_panic _ _ _ _ _ _ (by simp) (by simp) h)); refine tkO 3 ?_ (hQ := (fun _ _ _ h => put_panic _ _ _ _ _ _ (by simp) (by simp) h)); refine tkO 4 ?_ (hQ := (fun _ _ _ h => put_panic _ _ _ _ _ _ (by simp) (by simp) h)); refine tkO 5 ?_ (hQ := (fun _ _ _ h => put_panic _ _ _ _ _ _ (by simp) (by simp) h)); refine tkO 6 ?_ (hQ := (fun _ _ _ h => put_panic _ _ _ _ _ _ (by simp) (by simp) h)))
      clear hS0
      refine wpAnyH_ready (P := Tryz.prog) (md := .any) (rs := [7, 12]) (by kernel_rfl) (by simp) ?_
      refine held_cons rfl (by kernel_rfl) (fun K hK => ?_) (held_cons rfl (by kernel_rfl) (fun K hK => ?_) AllReadyH.nil)
      ·((go_simp; refine (hFi.out _ (hL.below (bch hBg hHeld.1))).mono ?_; rintro _ wn ⟨rfl, hbn⟩); refine hK.out _ _ ?_ (fun hHeld => ?_); ((try dsimp only); exact RC.below hHeld hbn); clear hK K; (try clear hHeld0); (try rename_i hHeld0))
       (refine tkO 8 ?_ (hQ := (fun _ _ _ h => put_panic _ _ _ _ _ _ (by simp) (by simp) h)); refine tkO 9 ?_ (hQ := (fun _ _ _ h => put_panic _ _ _ _ _ _ (by simp) (by simp) h)); refine tkO 10 ?_ (hQ := (fun _ _ _ h => put_panic _ _ _ _ _ _ (by simp) (by simp) h)); refine tkO 11 ?_ (hQ := (fun _ _ _ h => put_panic _ _ _ _ _ _ (by simp) (by simp) h)))
       have hg2s : wg.heap.size ≤ wn.heap.size := hHeld.1.size
       (refine tdoO 12 (fun K hK => ?_); (go_simp; refine hK.out _ _ ?_ (fun hHeld => ?_); ((try dsimp only); exact RC.alloc hHeld _); clear hK K; (try clear hHeld0); (try rename_i hHeld0)))
       (refine tdoO 13 (fun K hK => ?_); (go_simp; refine hK.out _ _ ?_ (fun hHeld => ?_); ((try dsimp only); exact RC.alloc hHeld0 _); clear hK K; (try clear hHeld0); (try rename_i hHeld0)))
       (refine tkO 14 ?_ (hQ := (fun _ _ _ h => put_panic _ _ _ _ _ _ (by simp) (by simp) h)); refine tkO 15 ?_ (hQ := (fun _ _ _ h => put_panic _ _ _ _ _ _ (by simp) (by simp) h)))
       (refine wpAnyH_done (by kernel_rfl) ?_ _)
       have hrow := row_alloc wn #[.int .i64 y.t, .int .i64 y.r, .int .i64 y.k, .string ⟨y.key.toArray⟩, .string ⟨y.val.toArray⟩, .int .i64 y.n] 33
       have hbz : Below wg.heap.size wg (wn.alloc (.cells #[.int .i64 y.t, .int .i64 y.r, .int .i64 y.k, .string ⟨y.key.toArray⟩, .string ⟨y.val.toArray⟩, .int .i64 y.n] 33)) := hHeld.1
       obtain ⟨g2, hg2⟩ : ∃ g2, g2 = wn.heap.size := ⟨_, rfl⟩
       rw [← hg2] at hrow hg2s ⊢
       replace hg2 := Lib.hid hg2
       generalize wn.alloc (.cells #[.int .i64 y.t, .int .i64 y.r, .int .i64 y.k, .string ⟨y.key.toArray⟩, .string ⟨y.val.toArray⟩, .int .i64 y.n] 33) = wz at *
       clear hHeld0
       exact byWBodyR21
      ·(go_simp; refine hK.out _ _ ?_ (fun hHeld => ?_); ((try dsimp only); exact RC.alloc hHeld _); clear hK K; (try clear hHeld0); (try rename_i hHeld0))
       have hzr := row_alloc wg.drew #[.int .i64 0, .int .i64 0, .int .i64 0, .string ⟨#[]⟩, .string ⟨#[]⟩, .int .i64 0] 33
       have hz0 : wg.drew.heap.size = wg.heap.size := rfl
       replace hzr := Lib.hid hzr
       (refine tdoO 7 (fun K hK => ?_); ((go_simp; refine (hFi.out _ (hL.below (bch hBg hHeld.1))).mono ?_; rintro _ wn ⟨rfl, hbn⟩); refine hK.out _ _ ?_ (fun hHeld => ?_); ((try dsimp only); exact RC.below hHeld hbn); clear hK K; (try clear hHeld0); (try rename_i hHeld0)))
       (refine tkO 8 ?_ (hQ := (fun _ _ _ h => put_panic _ _ _ _ _ _ (by simp) (by simp) h)); refine tkO 9 ?_ (hQ := (fun _ _ _ h => put_panic _ _ _ _ _ _ (by simp) (by simp) h)); refine tkO 10 ?_ (hQ := (fun _ _ _ h => put_panic _ _ _ _ _ _ (by simp) (by simp) h)); refine tkO 11 ?_ (hQ := (fun _ _ _ h => put_panic _ _ _ _ _ _ (by simp) (by simp) h)))
       replace hzr := hzr.out.below hbn
       have hzs : wg.drew.heap.size = wg.heap.size := rfl
       obtain ⟨g2, hg2⟩ : ∃ g2, g2 = wg.heap.size := ⟨_, rfl⟩
       rw [hzs, ← hg2] at hzr
       rw [← hg2]
       clear hz0 hzs
       obtain ⟨y0, y1, y2, y3, y4, y5⟩ := hzr.c6
       (have v0 := hzr.frozen 0 (by simp); have v1 := hzr.frozen 1 (by simp); have v2 := hzr.frozen 2 (by simp); have v3 := hzr.frozen 3 (by simp); have v4 := hzr.frozen 4 (by simp); have v5 := hzr.frozen 5 (by simp))
       replace hzr := Lib.hid hzr
       replace hg2 := Lib.hid hg2
       (refine tdoO 13 (fun K hK => ?_); (go_simp; refine hK.out _ _ ?_ (fun hHeld => ?_); ((try dsimp only); (have hgg : g2 ≠ g := (by rw [hg2.out]; exact Nat.ne_of_gt qxg.lt); have hgq : g2 ≠ w.heap.size + 1 + 1 := (by have : w.heap.size + 1 + 1 < wg.heap.size := Row.lt hqg; have := hg2.out; omega); have hgz : wg.heap.size ≤ g2 := (by rw [hg2.out]; exact Nat.le_refl _); exact (((((RC.set hHeld hgg hgq hgz _).set hgg hgq hgz _).set hgg hgq hgz _).set hgg hgq hgz _).set hgg hgq hgz _).set hgg hgq hgz _)); clear hK K; (try clear hHeld0); (try rename_i hHeld0)))
       clear y0 y1 y2 y3 y4 y5 v0 v1 v2 v3 v4 v5
       (refine tkO 14 ?_ (hQ := (fun _ _ _ h => put_panic _ _ _ _ _ _ (by simp) (by simp) h)); refine tkO 15 ?_ (hQ := (fun _ _ _ h => put_panic _ _ _ _ _ _ (by simp) (by simp) h)))
       (refine wpAnyH_done (by kernel_rfl) ?_ _)
       have hrow : Row ((((((wn.setCell ⟨g2, 0, none⟩ (.int .i64 y.t)).setCell ⟨g2, 1, none⟩ (.int .i64 y.r)).setCell ⟨g2, 2, none⟩ (.int .i64 y.k)).setCell ⟨g2, 3, none⟩ (.string ⟨y.key.toArray⟩)).setCell ⟨g2, 4, none⟩ (.string ⟨y.val.toArray⟩)).setCell ⟨g2, 5, none⟩ (.int .i64 y.n)) g2 33 [.int .i64 y.t, .int .i64 y.r, .int .i64 y.k, .string ⟨y.key.toArray⟩, .string ⟨y.val.toArray⟩, .int .i64 y.n] := (((((hzr.out.set 0 _).set 1 _).set 2 _).set 3 _).set 4 _).set 5 _
       have hbz : Below wg.heap.size wg ((((((wn.setCell ⟨g2, 0, none⟩ (.int .i64 y.t)).setCell ⟨g2, 1, none⟩ (.int .i64 y.r)).setCell ⟨g2, 2, none⟩ (.int .i64 y.k)).setCell ⟨g2, 3, none⟩ (.string ⟨y.key.toArray⟩)).setCell ⟨g2, 4, none⟩ (.string ⟨y.val.toArray⟩)).setCell ⟨g2, 5, none⟩ (.int .i64 y.n)) := hHeld.1
       have hg2s : wg.heap.size ≤ g2 := by rw [hg2.out]; exact Nat.le_refl _
       generalize (((((wn.setCell ⟨g2, 0, none⟩ (.int .i64 y.t)).setCell ⟨g2, 1, none⟩ (.int .i64 y.r)).setCell ⟨g2, 2, none⟩ (.int .i64 y.k)).setCell ⟨g2, 3, none⟩ (.string ⟨y.key.toArray⟩)).setCell ⟨g2, 4, none⟩ (.string ⟨y.val.toArray⟩)).setCell ⟨g2, 5, none⟩ (.int .i64 y.n) = wz at *
       clear hzr
       exact byWBodyR21
     -- REGION 31 END
    -- ROUND END
    ·obtain rfl : k = n := by omega
     have h6 : Body.wrsR S h acc k 0 p5 [] [] = .ok (ws, A, p) := by rw [← hwr.out, Nat.sub_self, Body.wrsR]
     have h7 := Body.read_e7 hv1.out hv2.out hv3.out h4.out hv5.out h6
     have hkl : ∀ x ∈ acc, x.length ≤ 2000 := by
      obtain ⟨T', t1, -, -, -, -, t6⟩ := Body.keysR_ok S m p3 [] acc p4 (by omega) h4.out
      rw [List.nil_append] at t1
      rw [t1]; exact t6
     replace h7 := Lib.hid h7
     replace hkl := Lib.hid hkl
     replace hvf : VecIs wr (.slice of f.length cf) f := SliceIs.only hvf.out hOl (fun k' hk' e => by have := hff k' hk'; omega)
     replace hvh : VecIs wr (.slice oh h.length ch) h := SliceIs.only hvh.out hOl (fun k' hk' e => by have := hfh k' hk'; omega)
     replace hT : ListIs (fun x : List UInt8 => strCells ⟨x.toArray⟩) 1 wr (.slice oT m cT) acc := SliceIs.only hT.out hOl (fun k' hk' e => by have := hfT.out k' hk'; omega)
     have hTs := strs_of hT
     have hAs : IntsIs wr u10 (Keys.ints A) := ListIs.of_owns (by rw [show (Keys.ints A).length = k by unfold Keys.ints; rw [List.length_map, hAl]]; exact hownA)
     have hWs : WrsIs wr vw (ws.map WrB.of) := ListIs.of_owns (by rw [List.length_map, hwl]; exact hownW)
     have hfW := Lib.hid (owns_fresh hownW)
     obtain ⟨ow, cw, rfl⟩ := owns_slice hownW
     obtain ⟨oA, cA, rfl⟩ := owns_slice hownA
     replace hvf := Lib.hid hvf
     replace hvh := Lib.hid hvh
     replace hTs := Lib.hid hTs
     replace hAs := Lib.hid hAs
     replace hWs := Lib.hid hWs
     clear hwr h6 hownA hownW hdis hT hOl hlt
     have c1 := hqr.c1
     by_cases hmore : (p : Int) < (s.size : Int)
     ·have hE : Body.read S = .error (3, p) := by rw [h7.out, if_pos (by omega)]
      have hC := Lib.hid (check_yes _ s p (errV 3) (.no 3) (by intro h; cases h) wr (hL.below hBr) hqr rfl)
      replace hE := Lib.hid hE
      go_wp2_with fail
      refine hC.out.mono ?_
      rintro _ wb ⟨rfl, hbb⟩
      exact hfail.out wb 3 p _ _ _ _ _ rfl rfl rfl (qb.below hbb) (qe.below hbb) (bch hBr hbb) hE.out
     ·have h8 : Body.read S = if Keys.lists acc (Keys.ints A) ≠ .ok then .error ((Keys.lists acc (Keys.ints A)).code, p) else if Bat.right f h ws ≠ .ok then .error ((Bat.right f h ws).code, p) else .ok (f, h, ws) := by rw [h7.out, if_neg (by omega)]
      replace h8 := Lib.hid h8
      have hK := keys_list _ _ (acc.map toB) (Keys.ints A) wr hTs.out hAs.out (fun x hx => by
       obtain ⟨y, hy, rfl⟩ := List.mem_map.1 hx
       have := hkl.out y hy
       show y.toArray.size ≤ _
       rw [List.size_toArray]; omega) (by rw [List.length_map]; omega) (by unfold Keys.ints; rw [List.length_map]; omega)
      unfold ListRet at hK
      rw [lists_inj toB toB_inj] at hK
      obtain ⟨X, hX⟩ : ∃ X, X = Keys.lists acc (Keys.ints A) := ⟨_, rfl⟩
      rw [← hX] at hK h8
      replace hK := Lib.hid hK
      replace hX := Lib.hid hX
      clear hTs hAs h7
      go_wp2_with fail
      refine hK.out.mono ?_
      rintro _ wk ⟨⟨v, E, rfl, hE, -, -⟩, hbk⟩
      have hBk := bch hBr hbk
      replace qb := qb.below hbk
      replace qe := qe.below hbk
      replace hqr := hqr.below hbk
      have d0 := qe.cell 0
      have z0 := qe.frozen 0 (by simp)
      simp only [List.getElem?_cons_zero] at d0
      have hO1 := (Only.refl (fun j => j = w.heap.size + 1) wk).set (p := ⟨w.heap.size + 1, 0, none⟩) (.inl rfl) E
      have hB1 := Lib.hid (hBk.trans (hO1.below (fun k' hk' => by omega) hBk.size))
      have qb1 := Lib.hid (qb.only hO1 (by omega))
      have qe1 := Lib.hid (qe.set 0 E)
      have hqr1 := Lib.hid (hqr.only hO1 (by omega))
      have hE1 : ErrRep (wk.setCell ⟨w.heap.size + 1, 0, none⟩ E) E X := hE.other qe
      by_cases hXo : X = .ok
      ·rw [if_neg (by rw [hXo]; simp)] at h8
       subst hXo
       have hE : E = .nilIface := hE
       subst hE
       have hC := Lib.hid (check_no (w.heap.size + 1 + 1) (wk.setCell ⟨w.heap.size + 1, 0, none⟩ .nilIface))
       replace hvf := Lib.hid (hvf.out.below hbk)
       replace hvh := Lib.hid (hvh.out.below hbk)
       replace hWs := Lib.hid (hWs.out.below hbk)
       replace hvf : Hid (VecIs (wk.setCell ⟨w.heap.size + 1, 0, none⟩ .nilIface) (.slice of f.length cf) f) := Lib.hid (SliceIs.only hvf.out hO1 (fun k hk e => by have := hff k hk; omega))
       replace hvh : Hid (VecIs (wk.setCell ⟨w.heap.size + 1, 0, none⟩ .nilIface) (.slice oh h.length ch) h) := Lib.hid (SliceIs.only hvh.out hO1 (fun k hk e => by have := hfh k hk; omega))
       replace hWs : Hid (WrsIs (wk.setCell ⟨w.heap.size + 1, 0, none⟩ .nilIface) (.slice ow k cw) (ws.map WrB.of)) := Lib.hid (SliceIs.only hWs.out hO1 (fun k hk e => by have := hfW.out k hk; omega))
       clear hE1 qb qe hqr hO1 hX hK
       obtain ⟨b0, b1, b2⟩ := qb1.out.c3
       (have y0 := qb1.out.frozen 0 (by simp); have y1 := qb1.out.frozen 1 (by simp); have y2 := qb1.out.frozen 2 (by simp))
       go_wp2_with fail
       clear d0 z0
       replace b0 := Lib.hid b0
       generalize wk.setCell ⟨w.heap.size + 1, 0, none⟩ .nilIface = w9 at *
       refine hC.out.mono ?_
       rintro _ w9 ⟨rfl, rfl⟩
       have hR := batch_right _ _ _ f h (ws.map WrB.of) w9 (hL.below hB1.out) hvf.out hvh.out hWs.out (by omega) (by omega) (by rw [List.length_map]; omega)
       rw [List.map_map, show WrB.plain ∘ WrB.of = id from rfl, List.map_id] at hR
       unfold RetErr at hR
       obtain ⟨X, hX⟩ : ∃ X, X = Bat.right f h ws := ⟨_, rfl⟩
       rw [← hX] at hR h8
       replace hR := Lib.hid hR
       replace hX := Lib.hid hX
       replace b0 := b0.out
       clear hC
       go_wp2_with fail
       refine hR.out.mono ?_
       rintro _ wz ⟨v2, rfl, hE, hbz⟩
       have hBz := bch hB1.out hbz
       have qb := qb1.out.below hbz
       have qe : Row wz (w.heap.size + 1) 37 [.nilIface] := Row.below qe1.out hbz
       have hqr := hqr1.out.below hbz
       by_cases hXo : X = .ok
       ·rw [if_neg (by rw [hXo]; simp)] at h8
        subst hXo
        have hE : v2 = .nilIface := hE
        subst hE
        have hC := Lib.hid (check_no (w.heap.size + 1 + 1) wz)
        have hvf := hvf.out.below hbz
        have hvh := hvh.out.below hbz
        have hWs := hWs.out.below hbz
        clear b0 b1 b2 y0 y1 y2 qb1 qe1 hqr1 hE hR
        obtain ⟨b0, b1, b2⟩ := qb.c3
        (have y0 := qb.frozen 0 (by simp); have y1 := qb.frozen 1 (by simp); have y2 := qb.frozen 2 (by simp))
        have qb2 := ((qb.set 0 (.slice of f.length cf)).set 1 (.slice oh h.length ch)).set 2 (.slice ow k cw)
        have qe2 := ((qe.other (p := ⟨w.heap.size, 0, none⟩) (show w.heap.size ≠ w.heap.size + 1 by omega) (.slice of f.length cf)).other (p := ⟨w.heap.size, 1, none⟩) (show w.heap.size ≠ w.heap.size + 1 by omega) (.slice oh h.length ch)).other (p := ⟨w.heap.size, 2, none⟩) (show w.heap.size ≠ w.heap.size + 1 by omega) (.slice ow k cw)
        have d1 := qe2.cell 0
        have z1 := qe2.frozen 0 (by simp)
        simp only [List.getElem?_cons_zero] at d1
        have hOz := ((((Only.refl (fun j => j = w.heap.size ∨ j = w.heap.size + 1) wz).set (p := ⟨w.heap.size, 0, none⟩) (.inl (.inl rfl)) (.slice of f.length cf)).set (p := ⟨w.heap.size, 1, none⟩) (.inl (.inl rfl)) (.slice oh h.length ch)).set (p := ⟨w.heap.size, 2, none⟩) (.inl (.inl rfl)) (.slice ow k cw)).set (p := ⟨w.heap.size + 1, 0, none⟩) (.inl (.inr rfl)) .nilIface
        have qb3 := Lib.hid (qb2.other (p := ⟨w.heap.size + 1, 0, none⟩) (show w.heap.size + 1 ≠ w.heap.size by omega) .nilIface)
        have qe3 := Lib.hid (qe2.set 0 .nilIface)
        have hBf := Lib.hid (hBz.trans (hOz.below (fun k' hk' => by omega) hBz.size))
        replace hvf := Lib.hid (SliceIs.only hvf hOz (fun k hk e => by have := hff k hk; omega))
        replace hvh := Lib.hid (SliceIs.only hvh hOz (fun k hk e => by have := hfh k hk; omega))
        replace hWs := Lib.hid (SliceIs.only hWs hOz (fun k hk e => by have := hfW.out k hk; omega))
        clear qb qe qb2 qe2 hOz hqr c1
        go_wp2_with fail
        refine hC.out.mono ?_
        rintro _ wz ⟨rfl, rfl⟩
        go_wp2_with fail
        refine read_done _ _ _ _ _ _ _ _ _ rfl rfl rfl qb3.out qe3.out ?_
        unfold BodyGot
        rw [hS, h8.out]
        exact ⟨⟨_, _, _, rfl, hvf.out, hvh.out, hWs.out⟩, hBf.out⟩
       ·rw [if_pos hXo] at h8
        obtain ⟨t, u, rfl⟩ := err_some hE hXo
        have hC := Lib.hid (check_yes _ s p _ X hXo _ (hL.below hBz) hqr hE)
        clear hE
        go_wp2_with fail
        refine hC.out.mono ?_
        rintro _ wb ⟨rfl, hbb⟩
        exact hfail.out wb _ p _ _ _ _ _ rfl rfl rfl (qb.below hbb) (qe.below hbb) (bch hBz hbb) h8.out
      ·rw [if_pos hXo] at h8
       obtain ⟨t, u, rfl⟩ := err_some hE hXo
       have hC := Lib.hid (check_yes _ s p _ X hXo _ (hL.below hB1.out) hqr1.out hE1)
       clear hE hE1 qb qe hqr hO1
       go_wp2_with fail
       refine hC.out.mono ?_
       rintro _ wb ⟨rfl, hbb⟩
       exact hfail.out wb _ p _ _ _ _ _ rfl rfl rfl (qb1.out.below hbb) (qe1.out.below hbb) (bch hB1.out hbb) h8.out
set_option maxHeartbeats 2000000 in
set_option maxRecDepth 20000 in
theorem body_read_long (s : ByteArray) (w : World) (hs : 20000 < s.size) (hm : s.size ≤ maxLen) :
  Calls Tryz.prog 93 #[.string s] w fun e w' => e = .returned (.tuple #[.agg #[.slice none 0 0, .slice none 0 0, .slice none 0 0], errV 4]) ∧ Below w.heap.size w w' := by
 have hsz : (20000 : Int) < (s.size : Int) := by omega
 have hm2 : (s.size : Int) ≤ 9223372036854775807 := by unfold maxLen at hm; omega
 go_enter_defers Tryz.func93, Tryz.ntmps93
 go_wp2_with fail
 have hB : Below w.heap.size w ((w.alloc (.cells #[.slice none 0 0, .slice none 0 0, .slice none 0 0] 25)).alloc (.cells #[errV 4] 37)) := by exact blw
 unfold errV at hB ⊢
 simp [bodyPostD, Leaves, results, Tryz.results93, go_sem]
 exact hB
end Go.Proofs.YtognjohloobliaaGreatDoor
