/- The walk of the law LogFull. -/
import Derived.Test.YtdbpiabcpjgblaaDoorWLogged
import Derived.Test.YtdbpiabcpjgblaaDoorPlainLine
import Derived.Test.YtdbpiabcpjgblaaDoorWPick
namespace Go.Proofs.YtdbpiabcpjgblaaDoor
open Go.RowKit
set_option linter.unusedVariables false
set_option linter.unusedSimpArgs false
theorem drops_good : Line.Good 0 Logged.xd := ⟨by omega, by omega, fun j hj => Wr.right_of (x := wr ((j : Int) + 1) 0 2 Logged.kk Logged.e0 0) (show (1 : Int) ≤ 2 by omega) (show (2 : Int) ≤ 4 by omega) (show 1 ≤ (j : Int) + 1 by omega) (show (j : Int) + 1 ≤ 1099511627776 by omega) (show (0 : Int) ≤ 0 by omega) (show (0 : Int) ≤ 200 by omega) (show Logged.kk.data.toList.length ≤ 40 by decide) (show Logged.e0.data.toList.length ≤ 300 by decide) (fun _ => rfl) (fun _ => rfl) (fun h => absurd (show (2 : Int) = 3 from h) (by omega)) (fun h => absurd (show (2 : Int) = 4 from h) (by omega))⟩
def FullAt (w : World) (p k : Nat) (wr : World) : Prop := (∃ hv wv, Logs wr w.heap.size (fun _ => False) [⟨p, Line.lg 0 0 Logged.xd (min k 300), hv, wv⟩]) ∧ Below w.heap.size w wr
set_option maxHeartbeats 8000000 in
set_option maxRecDepth 20000 in
theorem LogFull_walk (a : Int) (w : World) (ha : (Lit.int .i64 a).wf = true) (hL : Laid w) :
    Calls Tryd.prog 4 #[.int .i64 a] w fun e w' => e = .returned (.bool true) ∧ Below w.heap.size w w' := by
  have hLg := Lib.hid (keep_logged w hL)
  have hN := Lib.hid (fun W => log_new 0 W (by omega) (by omega))
  have hP := fun W => keep_pick a 5 5 W rfl (by omega) (by omega)
  obtain ⟨N, hNe⟩ : ∃ N, N = 298 + pickN a 5 := ⟨_, rfl⟩
  have hlt := pickN_lt a 5 (by omega)
  have wN : IntKind.i64.wrap (298 + (pickN a 5 : Int)) = (N : Int) := by rw [IntWalk.i64_in _ (by omega)]; omega
  have hN3 : N ≤ 302 := by omega
  generalize pickN a 5 = q at *
  clear hNe hlt ha
  replace hP := Lib.hid hP
  go_enter Tryd.func4, Tryd.ntmps4
  go_wp2_with fail
  refine hLg.out.mono ?_
  rintro _ w1 ⟨rfl, hb1⟩
  clear hLg
  go_wp2_with fail
  refine (hP.out _).mono ?_
  rintro _ _ ⟨rfl, rfl⟩
  clear hP
  go_wp2_with fail
  refine (hN.out _).mono ?_
  rintro _ w2 ⟨p, rfl, hp, hb2⟩
  have hl2 : FullAt w p 0 w2 := ⟨⟨_, _, (Logs.nil w1 w.heap.size).snoc (a := ⟨p, Line.lg 0 0 Logged.xd 0, .slice none 0 0, .slice none 0 0⟩) hb2 (hp.base_le hb1.size) (fun j hj => hp.mine_lo hj)⟩, bch hb1 hb2⟩
  replace hl2 := Lib.hid hl2
  clear hN hp hb1 hb2
  go_wp2
  go_loopw [24] (fun i wr => ∃ k : Nat, k ≤ N ∧ i = .int .i64 k ∧ FullAt w p k wr) (fun i _ => N - (intOf i).toNat)
  case atStart => exact ⟨0, by omega, rfl, hl2.out⟩
  case round =>
    obtain ⟨k, hk, rfl, ⟨hv, wv, hl⟩, hb⟩ := hrel
    clear hl2
    have hLr := Lib.hid (hL.below hb)
    by_cases hlt : k < N
    · by_cases h3 : k < 300
      · have d1 : decide ((k : Int) < 300) = true := by simp; omega
        have d2 : decide ((300 : Int) ≤ (k : Int)) = false := by simp; omega
        have hm : min k 300 = k := by omega
        have hm2 : min (k + 1) 300 = k + 1 := by omega
        rw [hm] at hl
        have hLo := Lib.hid (logs_local_ok hLr.out hl (i := 0) (by simp) p rfl (Line.lg 0 0 Logged.xd k) (Line.lg 0 0 Logged.xd (k + 1)) rfl (Line.ok drops_good (by omega) (by omega) (by omega)) Logged.xd (k + 1) 0 (Line.local_ drops_good ⟨rfl, rfl, rfl, rfl⟩ h3) (by show Lg.top (Line.H 0 k) + 1 = _; rw [Line.top_H]) rfl)
        replace hl := Lib.hid hl
        replace hb := Lib.hid hb
        replace hm2 := Lib.hid hm2
        clear hm
        go_wp2_with fail
        refine hLo.out.mono ?_
        rintro _ w4 ⟨rfl, ht⟩
        have hb4 := hb.out.trans (ht.below hl.out hb.out.size)
        obtain ⟨hv', wv', hl4, -, -⟩ := ht
        replace hl4 := Lib.hid hl4
        clear hLo hl hb
        go_wp2
        go_roundw
        case rel => exact ⟨k + 1, by omega, by go_num, ⟨hv', wv', by rw [hm2.out]; exact hl4.out.below (by (repeat (first | exact Below.refl _ _ | assumption | refine bal ?_ _ | refine bdr ?_ | refine bdn ?_ _ | refine bst ?_ (by first | assumption | exact Nat.le_refl _ | omega) _ | refine bch ?_ (by assumption))))⟩, bch hb4 (by (repeat (first | exact Below.refl _ _ | assumption | refine bal ?_ _ | refine bdr ?_ | refine bdn ?_ _ | refine bst ?_ (by first | assumption | exact Nat.le_refl _ | omega) _ | refine bch ?_ (by assumption))))⟩
        case measure => simp [intOf]; omega
      · have d1 : decide ((k : Int) < 300) = false := by simp; omega
        have d2 : decide ((300 : Int) ≤ (k : Int)) = true := by simp; omega
        have hm : min k 300 = 300 := by omega
        have hm2 : min (k + 1) 300 = 300 := by omega
        rw [hm] at hl
        have hLo := logs_local hLr.out hl (i := 0) (by simp) (Line.ok drops_good (by omega) (by omega) (by omega)) Logged.xd
        unfold LocalTo at hLo
        rw [show ([(⟨p, Line.lg 0 0 Logged.xd 300, hv, wv⟩ : LgAt)])[0].m = Line.lg 0 0 Logged.xd 300 from rfl, Line.full drops_good ⟨rfl, rfl, rfl, rfl⟩] at hLo
        replace hLo := Lib.hid hLo
        have hTl := Lib.hid (fun W (hW : Below w.heap.size w W) => tell_errno 12 W (hL.below hW))
        replace hl := Lib.hid hl
        replace hb := Lib.hid hb
        replace hm2 := Lib.hid hm2
        clear hm
        go_wp2_with fail
        refine hLo.out.mono ?_
        rintro _ w4 ⟨rfl, hb4⟩
        have hl4 := Lib.hid (hl.out.below hb4)
        have hbw4 := bch hb.out hb4
        clear hLo hl hb hb4
        unfold errV
        go_wp2_with fail
        have hb45 : Below w4.heap.size w4 (w4.alloc (Obj.cells #[.int .i64 0, .int .i64 0] 23)) := by (repeat (first | exact Below.refl _ _ | assumption | refine bal ?_ _ | refine bdr ?_ | refine bdn ?_ _ | refine bst ?_ (by first | assumption | exact Nat.le_refl _ | omega) _ | refine bch ?_ (by assumption)))
        generalize w4.alloc (Obj.cells #[.int .i64 0, .int .i64 0] 23) = w5 at *
        refine (hTl.out _ (bch hbw4 hb45)).mono ?_
        rintro _ w6 ⟨rfl, hb6⟩
        have hb46 := bch hb45 hb6
        clear hb45 hb6 hTl
        go_wp2
        go_roundw
        case rel => exact ⟨k + 1, by omega, by go_num, ⟨hv, wv, by rw [hm2.out]; exact hl4.out.below hb46⟩, bch hbw4 hb46⟩
        case measure => simp [intOf]; omega
    · obtain rfl : k = N := by omega
      have hWr := Lib.hid (log_writes w.heap.size p (Line.lg 0 0 Logged.xd (min k 300)) hv wv wr (hl.each 0 (by simp)) (by show (Line.W 0 Logged.xd (min k 300)).length ≤ 1000; rw [Line.W_len]; omega))
      replace hl := Lib.hid hl
      replace hb := Lib.hid hb
      go_wp2_with fail
      refine hWr.out.mono ?_
      rintro _ w4 ⟨⟨u, rfl, hO⟩, hb4⟩
      rw [show (Line.lg 0 0 Logged.xd (min k 300)).W.length = min k 300 from Line.W_len _ _ _] at hO
      obtain ⟨o, c, rfl⟩ := owns_slice_ hO
      have hbw4 := Lib.hid (bch hb.out hb4)
      clear hWr hO hl hb hb4
      by_cases h3 : k < 300
      · have d1 : decide ((k : Int) < 300) = true := by simp; omega
        rw [show min k 300 = k by omega]
        go_wp2
        go_ret
        exact ⟨ret_bool (show ((k : Int) == min (k : Int) 300) = true by simp; omega), hbw4.out⟩
      · rw [show min k 300 = 300 by omega]
        go_wp2
        go_ret
        exact ⟨ret_bool (show ((300 : Int) == min (k : Int) 300) = true by simp; omega), hbw4.out⟩
end Go.Proofs.YtdbpiabcpjgblaaDoor
