/- Walks of match: the text that tokens make. -/
import Derived.Test.YtndebohdappilaaDoorWRight
import Derived.Test.YtndebohdappilaaDoorLib3
namespace Go.Proofs.YtndebohdappilaaDoor
open Go.RowKit
set_option linter.unusedVariables false
def RetBad (x i : Nat) (w : World) (e : Ending) (w' : World) : Prop := ∃ v, e = .returned (.tuple #[.string ⟨#[]⟩, v]) ∧ AtIs w' v x i ∧ Below w.heap.size w w'
set_option maxHeartbeats 1000000 in
theorem match_text_bad (v : Value) (l : List Match.Tok) (x i : Nat) (w : World) (hv : TokIs w v l) (hl : ∀ t ∈ l, t.own.size ≤ 140737488351232) (hll : l.length ≤ 1000000000) (hr : Match.right l 0 0 = some (x, i)) :
    Calls Tryd.prog 96 #[v] w (RetBad x i w) := by
  replace hr := Lib.hid hr
  go_enter Tryd.func96, Tryd.ntmps96
  go_wp2_with fail
  refine (match_right v l _ hv hl hll).mono ?_
  rintro e w1 ⟨u, rfl, hu, hb⟩
  rw [hr.out] at hu
  obtain ⟨g, rfl, hrow⟩ := hu
  go_wp2
  go_ret2
  exact ⟨_, rfl, ⟨g, rfl, hrow⟩, hb⟩
theorem byteVals_app (a b : List UInt8) : byteVals a ++ byteVals b = byteVals (a ++ b) := by simp [byteVals]
theorem byteVals_of (s : ByteArray) : byteCells s = byteVals s.data.toList := rfl
theorem text_drop (l : List Match.Tok) (k : Nat) (h : k < l.length) (acc : List UInt8) : Match.text acc (l.drop k) = Match.text (Match.copy (acc ++ l[k].own.data.toList) l[k].back.toNat l[k].size.toNat) (l.drop (k + 1)) := by
  rw [List.drop_eq_getElem_cons h]; rfl
set_option maxHeartbeats 2000000 in
theorem match_text_ok (v : Value) (l : List Match.Tok) (w : World) (hv : TokIs w v l) (hl : ∀ t ∈ l, t.own.size ≤ 140737488351232) (hll : l.length ≤ 1000000000) (hr : Match.right l 0 0 = none) :
    Calls Tryd.prog 96 #[v] w fun e w' => e = .returned (.tuple #[.string ⟨(Match.text [] l).toArray⟩, .nilIface]) ∧ Below w.heap.size w w' := by
  obtain ⟨a, cap, rfl, hcap, hcell⟩ := hv.at tokCells_len
  have hc := match_right _ l w hv hl hll
  rw [hr] at hc
  clear hv
  replace hcell := Lib.hid hcell
  replace hcap := Lib.hid hcap
  replace hl := Lib.hid hl
  replace hc := Lib.hid hc
  replace hr := Lib.hid hr
  go_enter Tryd.func96, Tryd.ntmps96
  go_wp2_with fail
  refine hc.out.mono ?_
  rintro e w1 ⟨u, rfl, hu, hb1⟩
  have hu : u = .nilIface := hu
  subst hu
  clear hc
  go_wp2
  go_loopw [5, 15] (fun o i wr => ∃ (k : Nat) (acc : List UInt8), k ≤ l.length ∧ i = .int .i64 k ∧ acc.length ≤ 20000 ∧ wr.ownsRow w.heap.size 5 1 o acc.length (byteVals acc) ∧ Match.text acc (l.drop k) = Match.text [] l ∧ Match.right (l.drop k) k acc.length = none ∧ Below w.heap.size w wr) (fun _ i _ => l.length - (intOf i).toNat)
  case atStart => exact ⟨0, [], by omega, rfl, by simp, World.ownsRow_nil _ _ _ _, rfl, hr.out, hb1⟩
  case round =>
    obtain ⟨k, acc, hk, rfl, hal, hown, htx, hrt, hbel⟩ := hrel
    have hsz := hbel.size
    by_cases hlt : k < l.length
    · obtain ⟨b, off, rfl, hbw, hc⟩ := hcell.out k hlt
      have hbw := hbw (by omega)
      have c0 : wr.cell? ⟨b, off + k * 3, none⟩ = some (.string l[k].own) := (hbel.cell (p := ⟨b, off + k * 3, none⟩) hbw).trans (hc 0 _ rfl)
      have c1 : wr.cell? ⟨b, off + k * 3 + 1, none⟩ = some (.int .i64 l[k].back) := (hbel.cell (p := ⟨b, off + k * 3 + 1, none⟩) hbw).trans (hc 1 _ rfl)
      have c2 : wr.cell? ⟨b, off + k * 3 + 2, none⟩ = some (.int .i64 l[k].size) := (hbel.cell (p := ⟨b, off + k * 3 + 2, none⟩) hbw).trans (hc 2 _ rfl)
      rw [text_drop l k hlt] at htx
      rw [right_drop l k _ hlt] at hrt
      have hos := hl.out l[k] (List.getElem_mem hlt)
      clear hc
      generalize l[k] = t at *
      have hw0 : Match.wrong t acc.length = 0 := by
        by_cases h : Match.wrong t acc.length = 0
        · exact h
        · rw [if_pos h] at hrt; cases hrt
      rw [if_neg (by omega)] at hrt
      have hz := Match.wrong_zero hw0 hal
      obtain ⟨n, hn⟩ : ∃ n : Nat, t.size = n := ⟨t.size.toNat, by omega⟩
      obtain ⟨bk, hbk⟩ : ∃ n : Nat, t.back = n := ⟨t.back.toNat, by omega⟩
      have hA : (acc ++ t.own.data.toList).length + n ≤ 20000 := by rw [List.length_append, Match.ba_len]; omega
      have hB : 0 < n → 1 ≤ bk ∧ bk ≤ (acc ++ t.own.data.toList).length := by rw [List.length_append, Match.ba_len]; omega
      have hadv : acc.length + Match.adv t = (acc ++ t.own.data.toList).length + n := by
        rw [List.length_append, Match.ba_len]
        rcases hz with hz | hz
        · rw [Match.adv_own hz.1]; omega
        · rw [Match.adv_rep hz.1]; omega
      have hsz2 : acc.length + t.own.size ≤ 20000 := by omega
      clear hz hw0
      rw [hadv] at hrt
      rw [hn, hbk, Int.toNat_natCast, Int.toNat_natCast] at htx
      rw [hn] at c2
      rw [hbk] at c1
      replace htx := Lib.hid htx
      replace hrt := Lib.hid hrt
      replace hadv := Lib.hid hadv
      replace hn := Lib.hid hn
      replace hbk := Lib.hid hbk
      go_wp2_with (at_builtin; go_must (refine app_any rfl _ _ 114 9 5 rfl w.heap.size (.int .u8 0) 1 1 Tryd.underlying114 (by kernel_rfl) rfl _ _ _ rfl (hown.alloc _) t.own.size (byteCells t.own) (Src.ofString _ Tryd.underlying9 _) (by omega) (by omega) (by simp; omega) ?_))
      intro v1 w2 hown2 hg2 hblk2 hnil hb2
      clear hnil
      have hbox : Row w2 wr.heap.size 153 [.string t.own, .int .i64 bk, .int .i64 n] := Row.grown (row_alloc wr _ _) hg2 (owns_lt hown _ (Nat.le_refl _))
      have hvb : v1.ownBlock ≠ some wr.heap.size := by
        rcases hblk2 with h | h
        · rw [h]; exact owns_lt hown _ (Nat.le_refl _)
        · rw [h]; intro e; injection e with e; omega
      have hbel2 : Below w.heap.size w w2 := (bal hbel _).trans hb2
      rw [byteVals_of, byteVals_app] at hown2
      have hlA : acc.length + t.own.size = (acc ++ t.own.data.toList).length := by rw [List.length_append, Match.ba_len]
      rw [hlA] at hown2
      clear hown hg2 hblk2 hb2 hlA c0 c1 c2
      have hgl := hbox.lt
      generalize acc ++ t.own.data.toList = A at *
      generalize wr.heap.size = g at *
      have b2 : w2.cell? ⟨g, 2, none⟩ = some (.int .i64 n) := hbox.cell 2
      go_wp2
      go_loopw [5, 25] (fun o i wr => ∃ (j : Nat) (B : List UInt8), j ≤ n ∧ i = .int .i64 j ∧ B.length = A.length + j ∧ wr.ownsRow w.heap.size 5 1 o B.length (byteVals B) ∧ Match.copy B bk (n - j) = Match.copy A bk n ∧ Row wr g 153 [.string t.own, .int .i64 bk, .int .i64 n] ∧ o.ownBlock ≠ some g ∧ Below w.heap.size w wr) (fun _ i _ => n - (intOf i).toNat)
      case atStart => exact ⟨0, A, by omega, rfl, rfl, hown2, rfl, hbox, hvb, hbel2⟩
      case round =>
        clear hbox hvb hown2 hbel hsz hbel2 hgl b2
        obtain ⟨j, B, hj, rfl, hBl, hown, hcp, hbox, hvb, hbel⟩ := hrel
        have hsz := hbel.size
        have hBl1 : B.length ≤ A.length + j := by omega
        have hBl2 : A.length + j ≤ B.length := by omega
        replace hBl := Lib.hid hBl
        by_cases hjn : j < n
        · obtain ⟨hB1, hB2⟩ := hB (by omega)
          obtain ⟨g2, cap2, rfl⟩ : ∃ g2 cap2, u5 = .slice (some ⟨g2, 0, none⟩) B.length cap2 := by
            rcases hown.2 with ⟨_, h0⟩ | ⟨g', cap', cur, h', _⟩
            · omega
            · exact ⟨g', cap', h'⟩
          have hp := (prow_of_owns hown).1
          obtain ⟨m, hm⟩ : ∃ m, m = B.length - bk := ⟨_, rfl⟩
          have hml : m < B.length := by omega
          have hcell1 : wr.cell? ⟨g2, m, none⟩ = some (.int .u8 (B[m].toNat : Nat)) := by
            rw [hp.cell m (by simp [byteVals]; exact hml)]; simp [byteVals]
          have hbx : wr.cell? ⟨g, 1, none⟩ = some (.int .i64 bk) := hbox.cell 1
          have hcp2 : Hid (Match.copy (B ++ [B[m]]) bk (n - (j + 1)) = Match.copy A bk n) := Lib.hid (by
            rw [← hcp, show n - j = n - (j + 1) + 1 by omega]
            simp only [Match.copy]
            rw [← hm, List.getD_eq_getElem?_getD, List.getElem?_eq_getElem hml]; rfl)
          have hsub : ((B.length : Int) - (bk : Int)) = (m : Int) := by omega
          clear hcp hm hp
          generalize B[m] = c at *
          go_wp2_with (at_builtin; go_must (refine app_one rfl _ _ 114 5 rfl w.heap.size (.int .u8 0) 1 1 Tryd.underlying114 (by kernel_rfl) rfl _ _ _ rfl hown _ rfl rfl ?_ (by omega) (by omega) hsz ?_))
          · rfl
          intro v3 w3 hown3 hg3 hblk3 hne3 hb3
          have hbox3 := hbox.grown hg3 hvb
          have hvb3 : v3.ownBlock ≠ some g := by
            rcases hblk3 with h | h
            · rw [h]; exact hvb
            · rw [h]; intro e; injection e with e; have := hbox.lt; omega
          have e3 : byteVals B ++ [Value.int .u8 (c.toNat : Nat)] = byteVals (B ++ [c]) := byteVals_app B [c]
          have hown3' : w3.ownsRow w.heap.size 5 1 v3 (B ++ [c]).length (byteVals (B ++ [c])) := by
            rw [← e3, List.length_append]; exact hown3
          clear hown3 hg3 hblk3 hne3
          go_wp2
          go_roundw
          case rel => exact ⟨j + 1, B ++ [c], by omega, by go_num, by rw [List.length_append]; simp; omega, hown3', hcp2.out, hbox3, hvb3, hbel.trans hb3⟩
          case measure => simp [intOf]; omega
        · obtain rfl : j = n := by omega
          have hcp2 : B = Match.copy A bk j := by rw [← hcp, Nat.sub_self]; rfl
          replace hcp2 := Lib.hid hcp2
          clear hcp
          go_wp2
          go_roundw
          case rel =>
            refine ⟨k + 1, B, by omega, by go_num, by omega, hown, ?_, ?_, hbel⟩
            · rw [hcp2.out]; exact htx.out
            · rw [hBl.out]; exact hrt.out
          case measure => simp [intOf]; omega
    · obtain rfl : k = l.length := by omega
      have hfin : acc = Match.text [] l := by rw [← htx, List.drop_length]; rfl
      clear htx hrt
      have hcv := str_of_owns (P := Tryd.prog) hown 114 9 Tryd.underlying114 Tryd.underlying5 Tryd.underlying9
      replace hfin := Lib.hid hfin
      clear hown
      go_wp2
      go_ret2
      exact ⟨by rw [← hfin.out]; rfl, hbel⟩
end Go.Proofs.YtndebohdappilaaDoor
