/- Walks of match: a text's tokens. -/
import Derived.Test.YtndebohdappilaaDoorWMatch
import Derived.Test.YtndebohdappilaaDoorLib2
import Derived.Laws.AppendOwn
namespace Go.Proofs.YtndebohdappilaaDoor
open Go.RowKit
set_option linter.unusedVariables false
def tokCells (t : Match.Tok) : List Value := [.string t.own, .int .i64 t.back, .int .i64 t.size]
theorem tokCells_len (t : Match.Tok) : (tokCells t).length = 3 := rfl
abbrev TokIs (w : World) (v : Value) (l : List Match.Tok) : Prop := ListIs tokCells 3 w v l
def RetToks (l : List Match.Tok) (w : World) (e : Ending) (w' : World) : Prop := ∃ v, e = .returned v ∧ TokIs w' v l ∧ Below w.heap.size w w'
theorem own_val (s : ByteArray) (a b : Nat) (h : b ≤ s.size) : s.extract a b = (Match.ownTok s.data.toList a b).own := ba_ext (by
  rw [Match.ownTok_list]; simp [List.extract_eq_take_drop])
theorem flat_snoc (acc : List Match.Tok) (t : Match.Tok) : acc.flatMap tokCells ++ [.string t.own, .int .i64 t.back, .int .i64 t.size] = (acc ++ [t]).flatMap tokCells := by
  simp [tokCells]
set_option maxHeartbeats 1000000 in
theorem match_tokens (s : ByteArray) (w : World) (hs : s.size ≤ 1000000) :
    Calls Tryd.prog 65 #[.string s] w (RetToks (Match.tokens s.data.toList) w) := by
  have hll : s.data.toList.length = s.size := Array.length_toList
  go_enter Tryd.func65, Tryd.ntmps65
  go_wp2
  go_loopw [3, 4, 5] (fun o a i wr => ∃ (acc : List Match.Tok) (own p : Nat), i = .int .i64 p ∧ a = .int .i64 own ∧ own ≤ p ∧ p ≤ s.size ∧ acc.length ≤ own ∧ acc ++ Match.toks s.data.toList own p = Match.tokens s.data.toList ∧ wr.ownsRow w.heap.size 153 3 o acc.length (acc.flatMap tokCells) ∧ Below w.heap.size w wr) (fun _ _ i _ => s.size - (intOf i).toNat)
  case atStart => exact ⟨[], 0, 0, rfl, rfl, by omega, by omega, by simp, rfl, World.ownsRow_nil _ _ _ _, by (repeat (first | exact Below.refl _ _ | assumption | refine bal ?_ _ | refine bdr ?_ | refine bdn ?_ _ | refine bst ?_ (by first | assumption | exact Nat.le_refl _ | omega) _ | refine bch ?_ (by assumption)))⟩
  case round =>
    obtain ⟨acc, own, p, rfl, rfl, ho, hp, hac, htk, hown, hbel⟩ := hrel
    have hsz := hbel.size
    replace hll := Lib.hid hll
    by_cases hlt : p < s.size
    · have hfl := Match.find_le s.data.toList p
      have hin := Match.find_in s.data.toList p (by rw [hll.out]; exact hp)
      rw [hll.out] at hin
      have hc := fun W => match_find s p W (by omega) hlt
      replace hc := Lib.hid hc
      by_cases hf : (Match.find s.data.toList p).2 = 0
      · have ht : Hid (acc ++ Match.toks s.data.toList own (p + 1) = Match.tokens s.data.toList) := Lib.hid (by
          rw [← htk, Match.toks_none (by rw [hll.out]; exact hlt) hf])
        clear htk
        have hfb : (((Match.find s.data.toList p).2 : Int) == 0) = true := by simp [hf]
        replace hf := Lib.hid hf
        go_wp2_with fail
        refine (hc.out _).mono ?_
        rintro e w1 ⟨rfl, hb1⟩
        go_wp2
        go_roundw
        case rel => exact ⟨acc, own, p + 1, by go_num, rfl, by omega, by omega, by omega, ht.out, owns_below hown hb1, by (repeat (first | exact Below.refl _ _ | assumption | refine bal ?_ _ | refine bdr ?_ | refine bdn ?_ _ | refine bst ?_ (by first | assumption | exact Nat.le_refl _ | omega) _ | refine bch ?_ (by assumption)))⟩
        case measure => simp [intOf]; omega
      · have hfb : (((Match.find s.data.toList p).2 : Int) == 0) = false := by simp [hf]
        have ht := htk
        rw [Match.toks_rep (by rw [hll.out]; exact hlt) hf] at ht
        replace ht := Lib.hid ht
        clear htk
        by_cases hop : own < p
        · go_wp2_with fail
          refine (hc.out _).mono ?_
          rintro e w1 ⟨rfl, hb1⟩
          have hown1 := owns_below hown hb1
          have hbel1 := bch hbel hb1
          have hsz1 := hbel1.size
          go_wp2_with (at_builtin; go_must (refine app_new rfl _ _ 106 153 rfl w.heap.size (.agg #[.string ⟨#[]⟩, .int .i64 0, .int .i64 0]) 3 32 Tryd.underlying106 (by kernel_rfl) rfl (by omega) _ _ _ rfl hown1 _ rfl rfl ?_ (by omega) (by omega) hsz1 ?_))
          · first | exact ⟨rfl, rfl⟩ | rfl | simp [Value.oneCell']
          intro v1 w2 hown2 hb2 _
          have e1 : List.flatMap tokCells acc ++ [Value.string (s.extract own p), Value.int IntKind.i64 0, Value.int IntKind.i64 0] = (acc ++ [Match.ownTok s.data.toList own p]).flatMap tokCells := by
            rw [own_val s own p hp]; exact flat_snoc acc (Match.ownTok s.data.toList own p)
          rw [e1] at hown2
          clear e1
          have hown2' : w2.ownsRow w.heap.size 153 3 v1 (acc ++ [Match.ownTok s.data.toList own p]).length ((acc ++ [Match.ownTok s.data.toList own p]).flatMap tokCells) := by
            rw [List.length_append]; exact hown2
          have ht2 : Hid ((acc ++ [Match.ownTok s.data.toList own p]) ++ Match.repTok (Match.find s.data.toList p).1 (Match.find s.data.toList p).2 :: Match.toks s.data.toList (p + (Match.find s.data.toList p).2) (p + (Match.find s.data.toList p).2) = Match.tokens s.data.toList) := Lib.hid (by
            rw [← ht.out, if_pos hop, List.append_assoc])
          have hac2 : (acc ++ [Match.ownTok s.data.toList own p]).length ≤ p := by rw [List.length_append]; simp; omega
          clear hown2 hown1 hown ht
          generalize acc ++ [Match.ownTok s.data.toList own p] = acc2 at *
          have hbel2 := hbel1.trans hb2
          have hsz2 := hbel2.size
          go_wp2_with (at_builtin; go_must (refine app_new rfl _ _ 106 153 rfl w.heap.size (.agg #[.string ⟨#[]⟩, .int .i64 0, .int .i64 0]) 3 32 Tryd.underlying106 (by kernel_rfl) rfl (by omega) _ _ _ rfl hown2' _ rfl rfl ?_ (by omega) (by omega) hsz2 ?_))
          · first | exact ⟨rfl, rfl⟩ | rfl | simp [Value.oneCell']
          intro v2 w3 hown3 hb3 _
          have hown3' : w3.ownsRow w.heap.size 153 3 v2 (acc2 ++ [Match.repTok (Match.find s.data.toList p).1 (Match.find s.data.toList p).2]).length ((acc2 ++ [Match.repTok (Match.find s.data.toList p).1 (Match.find s.data.toList p).2]).flatMap tokCells) := by
            rw [List.length_append, ← flat_snoc]; exact hown3
          clear hown3
          go_wp2
          go_roundw
          case rel =>
            refine ⟨acc2 ++ [Match.repTok (Match.find s.data.toList p).1 (Match.find s.data.toList p).2], p + (Match.find s.data.toList p).2, p + (Match.find s.data.toList p).2, by go_num, by go_num, by omega, by omega, ?_, ?_, hown3', hbel2.trans hb3⟩
            · rw [List.length_append]; simp; omega
            · rw [← ht2.out, List.append_assoc, List.singleton_append]
          case measure => simp [intOf]; omega
        · obtain rfl : own = p := by omega
          have ht2 : Hid (acc ++ Match.repTok (Match.find s.data.toList own).1 (Match.find s.data.toList own).2 :: Match.toks s.data.toList (own + (Match.find s.data.toList own).2) (own + (Match.find s.data.toList own).2) = Match.tokens s.data.toList) := Lib.hid (by
            rw [← ht.out, if_neg hop]; rfl)
          clear ht
          go_wp2_with fail
          refine (hc.out _).mono ?_
          rintro e w1 ⟨rfl, hb1⟩
          have hown1 := owns_below hown hb1
          have hbel1 := bch hbel hb1
          have hsz1 := hbel1.size
          go_wp2_with (at_builtin; go_must (refine app_new rfl _ _ 106 153 rfl w.heap.size (.agg #[.string ⟨#[]⟩, .int .i64 0, .int .i64 0]) 3 32 Tryd.underlying106 (by kernel_rfl) rfl (by omega) _ _ _ rfl hown1 _ rfl rfl ?_ (by omega) (by omega) hsz1 ?_))
          · first | exact ⟨rfl, rfl⟩ | rfl | simp [Value.oneCell']
          intro v2 w3 hown3 hb3 _
          have hown3' : w3.ownsRow w.heap.size 153 3 v2 (acc ++ [Match.repTok (Match.find s.data.toList own).1 (Match.find s.data.toList own).2]).length ((acc ++ [Match.repTok (Match.find s.data.toList own).1 (Match.find s.data.toList own).2]).flatMap tokCells) := by
            rw [List.length_append, ← flat_snoc]; exact hown3
          clear hown3
          go_wp2
          go_roundw
          case rel =>
            refine ⟨acc ++ [Match.repTok (Match.find s.data.toList own).1 (Match.find s.data.toList own).2], own + (Match.find s.data.toList own).2, own + (Match.find s.data.toList own).2, by go_num, by go_num, by omega, by omega, ?_, ?_, hown3', hbel1.trans hb3⟩
            · rw [List.length_append]; simp; omega
            · rw [← ht2.out, List.append_assoc, List.singleton_append]
          case measure => simp [intOf]; omega
    · obtain rfl : p = s.size := by omega
      have ht : Hid (acc ++ (if own < s.size then [Match.ownTok s.data.toList own s.size] else []) = Match.tokens s.data.toList) := Lib.hid (by
        rw [← htk, Match.toks_end (by rw [hll.out]; omega), hll.out])
      clear htk
      by_cases hop : own < s.size
      · have ht2 : Hid (acc ++ [Match.ownTok s.data.toList own s.size] = Match.tokens s.data.toList) := Lib.hid (by rw [← ht.out, if_pos hop])
        go_wp2_with (at_builtin; go_must (refine app_new rfl _ _ 106 153 rfl w.heap.size (.agg #[.string ⟨#[]⟩, .int .i64 0, .int .i64 0]) 3 32 Tryd.underlying106 (by kernel_rfl) rfl (by omega) _ _ _ rfl hown _ rfl rfl ?_ (by omega) (by omega) hsz ?_))
        · first | exact ⟨rfl, rfl⟩ | rfl | simp [Value.oneCell']
        intro v1 w2 hown2 hb2 _
        have e1 : List.flatMap tokCells acc ++ [Value.string (s.extract own s.size), Value.int IntKind.i64 0, Value.int IntKind.i64 0] = (Match.tokens s.data.toList).flatMap tokCells := by
          rw [own_val s own s.size (Nat.le_refl _), ← ht2.out]; exact flat_snoc acc (Match.ownTok s.data.toList own s.size)
        rw [e1] at hown2
        have hl : acc.length + 1 = (Match.tokens s.data.toList).length := by rw [← ht2.out, List.length_append]; rfl
        rw [hl] at hown2
        have hfin : RetToks (Match.tokens s.data.toList) w (.returned v1) w2 := ⟨v1, rfl, ListIs.of_owns hown2, hbel.trans hb2⟩
        clear e1 hl hown2
        go_wp2
        go_ret
        exact hfin
      · have ht2 : acc = Match.tokens s.data.toList := by rw [← ht.out, if_neg hop, List.append_nil]
        rw [ht2] at hown
        have hown' := Lib.hid hown
        clear ht2 hown ht
        go_wp2
        go_ret
        exact ⟨_, rfl, ListIs.of_owns hown'.out, hbel⟩
end Go.Proofs.YtndebohdappilaaDoor
