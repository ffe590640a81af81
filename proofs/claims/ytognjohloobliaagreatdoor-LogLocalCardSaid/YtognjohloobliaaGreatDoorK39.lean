/- Walks of match: how long two places are alike, the longest repetition. -/
import Derived.Test.YtognjohloobliaaGreatDoorK01
import Derived.Test.YtognjohloobliaaGreatDoorRows
import Derived.Test.YtognjohloobliaaGreatDoorK11
import Derived.IntWalk
import Derived.Laws.AppendOwn
namespace Go.Proofs.YtognjohloobliaaGreatDoor
open Go.RowKit
set_option linter.unusedVariables false
theorem getQ (s : ByteArray) (k : Nat) (h : k < s.size) : s.data.toList[k]? = some s[k] := by
 rw [List.getElem?_eq_getElem (by rw [Array.length_toList]; exact h)]; rfl
set_option maxHeartbeats 1000000 in
theorem match_alike (s : ByteArray) (a b m : Nat) (w : World) (hs : s.size ≤ 140737488351232) (hab : a ≤ b) (hb : b ≤ s.size) (hm : m ≤ 1000) :
  Calls Tryz.prog 129 #[.string s, .int .i64 a, .int .i64 b, .int .i64 m] w fun e w' => e = .returned (.int .i64 (Match.alike s.data.toList a b m)) ∧ Below w.heap.size w w' := by

 go_enter Tryz.func129, Tryz.ntmps129
 go_wp2
 go_loopw [9] (fun n wr => ∃ k : Nat, k ≤ m ∧ n = .int .i64 k ∧ Match.alike s.data.toList a b m = k + Match.alike s.data.toList (a + k) (b + k) (m - k) ∧ Below w.heap.size w wr) (fun n _ => m - (intOf n).toNat)
 case atStart => exact ⟨0, by omega, rfl, by simp, by exact blw⟩
 case round =>
  obtain ⟨k, hk, rfl, hal, hbel⟩ := hrel
  have hsz := hbel.size
  by_cases hlt : k < m
  ·by_cases hbk : b + k < s.size
   ·have hla := getQ s (a + k) (by omega)
    have hlb := getQ s (b + k) hbk
    have hd : decide ((k : Int) < (m : Int)) = true := by simp; omega
    have hd2 : decide ((b : Int) + (k : Int) < (s.size : Int)) = true := by simp; omega
    have w1 : IntKind.i64.wrap ((a : Int) + (k : Int)) = (a : Int) + k := IntWalk.i64_in _ (by omega)
    have w2 : IntKind.i64.wrap ((b : Int) + (k : Int)) = (b : Int) + k := IntWalk.i64_in _ (by omega)
    have z1 : 0 ≤ (a : Int) + (k : Int) := by omega
    have z2 : 0 ≤ (b : Int) + (k : Int) := by omega
    have t1 : ((a : Int) + (k : Int)).toNat = a + k := by omega
    have t2 : ((b : Int) + (k : Int)).toNat = b + k := by omega
    have l1 : (a : Int) + (k : Int) < (s.size : Int) := by omega
    have l2 : (b : Int) + (k : Int) < (s.size : Int) := by omega
    have n1 : a + k < s.size := by omega
    by_cases he : s[a + k] = s[b + k]
    ·have hE := Lib.hid he
     replace hal := Lib.hid hal
     have hv : (((s[a + k]).toNat : Int) == ((s[b + k]).toNat : Int)) = true := by simp [he]
     clear he hla hlb
     go_wp2
     go_quiet (fail)
     go_wp2
     go_roundw
     case rel =>
      refine ⟨k + 1, by omega, by go_num, ?_, by exact blw⟩
      rw [hal.out, show m - k = m - (k + 1) + 1 by omega, Match.alike_yes (by rw [Array.length_toList]; exact hbk) (by rw [getQ s (a + k) n1, getQ s (b + k) hbk, hE.out])]
      rw [show a + k + 1 = a + (k + 1) by omega, show b + k + 1 = b + (k + 1) by omega]; omega
     case measure => simp [intOf]; omega
    ·have hfin : Hid (Match.alike s.data.toList a b m = k) := Lib.hid (by
      rw [hal, Match.alike_no (by rw [hla, hlb]; simp [he])]; rfl)
     have hv : (((s[a + k]).toNat : Int) == ((s[b + k]).toNat : Int)) = false := by
      rw [beq_eq_false_iff_ne]; intro e; exact he (UInt8.toNat_inj.1 (by omega))
     clear he hla hlb hal
     go_wp2
     go_quiet (fail)
     go_wp2
     go_ret
     exact ⟨ret_int (by rw [hfin.out]), by exact blw⟩
   ·have hfin : Hid (Match.alike s.data.toList a b m = k) := Lib.hid (by
     rw [hal, Match.alike_no (by rw [Array.length_toList]; intro h; exact hbk h.1)]; rfl)
    have hd : decide ((k : Int) < (m : Int)) = true := by simp; omega
    have hd2 : decide ((b : Int) + (k : Int) < (s.size : Int)) = false := by simp; omega
    have w2 : IntKind.i64.wrap ((b : Int) + (k : Int)) = (b : Int) + k := IntWalk.i64_in _ (by omega)
    clear hal
    go_wp2
    go_quiet (fail)
    go_wp2
    go_ret
    exact ⟨ret_int (by rw [hfin.out]), by exact blw⟩
  ·have hfin : Hid (Match.alike s.data.toList a b m = k) := Lib.hid (by
    rw [hal, show m - k = 0 by omega]; rfl)
   have hd : decide ((k : Int) < (m : Int)) = false := by simp; omega
   clear hal
   go_wp2
   go_quiet (fail)
   go_wp2
   go_ret
   exact ⟨ret_int (by rw [hfin.out]), by exact blw⟩
set_option maxHeartbeats 1000000 in
theorem match_find (s : ByteArray) (p : Nat) (w : World) (hs : s.size ≤ 140737488351232) (hp : p < s.size) :
  Calls Tryz.prog 104 #[.string s, .int .i64 p] w fun e w' => e = .returned (.tuple #[.int .i64 (Match.find s.data.toList p).1, .int .i64 (Match.find s.data.toList p).2]) ∧ Below w.heap.size w w' := by
 have hK : Hid (Match.find s.data.toList p = Match.findTo s.data.toList p (min p 1024)) := Lib.hid rfl
 obtain ⟨K, hKe⟩ : ∃ K, K = min p 1024 := ⟨_, rfl⟩
 have hK1 : K ≤ p := by omega
 have hK2 : K ≤ 1024 := by omega
 have hmin : (if (1024 : Int) < (p : Int) then (1024 : Int) else (p : Int)) = (K : Int) := by split <;> omega
 rw [← hKe] at hK
 clear hKe
 have hd1 : decide ((p : Int) < 0) = false := by simp
 have hd2 : decide (s.size ≤ p) = false := by simp; omega
 have hd3 : decide ((s.size : Int) ≤ (p : Int)) = false := by simp; omega
 go_enter Tryz.func104, Tryz.ntmps104
 go_wp2
 go_loopw [4, 5, 6] (fun b n i wr => ∃ j : Nat, j ≤ K ∧ b = .int .i64 (Match.findTo s.data.toList p j).1 ∧ n = .int .i64 (Match.findTo s.data.toList p j).2 ∧ i = .int .i64 (j + 1 : Nat) ∧ Below w.heap.size w wr) (fun _ _ i _ => K + 1 - (intOf i).toNat)
 case atStart => exact ⟨0, by omega, rfl, rfl, rfl, by exact blw⟩
 case round =>
  obtain ⟨j, hj, rfl, rfl, rfl, hbel⟩ := hrel
  have hsz := hbel.size
  by_cases hlt : j < K
  ·have hf : Hid (Match.findTo s.data.toList p (j + 1) = if 4 ≤ Match.alike s.data.toList (p - (j + 1)) p 67 ∧ (Match.findTo s.data.toList p j).2 < Match.alike s.data.toList (p - (j + 1)) p 67 then (j + 1, Match.alike s.data.toList (p - (j + 1)) p 67) else Match.findTo s.data.toList p j) := Lib.hid rfl
   have hsub : ((p : Int) - ((j + 1 : Nat) : Int)) = ((p - (j + 1) : Nat) : Int) := by omega
   have hn := Match.alike_le s.data.toList (p - (j + 1)) p 67
   have hn2 := Match.findTo_le s.data.toList p j
   obtain ⟨hn2, hn3⟩ := hn2
   have hc := fun W => match_alike s (p - (j + 1)) p 67 W hs (by omega) (by omega) (by omega)
   replace hc := Lib.hid hc
   generalize Match.alike s.data.toList (p - (j + 1)) p 67 = n at *
   go_wp2_with fail
   rw [show ((p : Int) - ((j : Int) + 1)) = ((p - (j + 1) : Nat) : Int) by omega]
   refine (hc.out _).mono ?_
   rintro e w1 ⟨rfl, hb1⟩
   by_cases h4 : 4 ≤ n
   ·by_cases h5 : (Match.findTo s.data.toList p j).2 < n
    ·have hf' : Hid (Match.findTo s.data.toList p (j + 1) = (j + 1, n)) := Lib.hid (by rw [hf.out, if_pos ⟨h4, h5⟩])
     go_wp2
     go_roundw
     case rel => exact ⟨j + 1, by omega, by rw [hf'.out]; go_num, by rw [hf'.out], by go_num, by exact blw⟩
     case measure => simp [intOf]; omega
    ·have hf' : Hid (Match.findTo s.data.toList p (j + 1) = Match.findTo s.data.toList p j) := Lib.hid (by rw [hf.out, if_neg (fun h => h5 h.2)])
     go_wp2
     go_roundw
     case rel => exact ⟨j + 1, by omega, by rw [hf'.out], by rw [hf'.out], by go_num, by exact blw⟩
     case measure => simp [intOf]; omega
   ·have hf' : Hid (Match.findTo s.data.toList p (j + 1) = Match.findTo s.data.toList p j) := Lib.hid (by rw [hf.out, if_neg (fun h => h4 h.1)])
    go_wp2
    go_roundw
    case rel => exact ⟨j + 1, by omega, by rw [hf'.out], by rw [hf'.out], by go_num, by exact blw⟩
    case measure => simp [intOf]; omega
  ·obtain rfl : j = K := by omega
   go_wp2
   go_ret2
   rw [hK.out]
   exact ⟨rfl, by exact blw⟩
end Go.Proofs.YtognjohloobliaaGreatDoor
/- Walks of match: a text's tokens. -/
namespace Go.Proofs.YtognjohloobliaaGreatDoor
open Go.RowKit
set_option linter.unusedVariables false
def tokCells (t : Match.Tok) : List Value := [.string t.own, .int .i64 t.back, .int .i64 t.size]
theorem tokCells_len (t : Match.Tok) : (tokCells t).length = 3 := rfl
abbrev TokIs (w : World) (v : Value) (l : List Match.Tok) : Prop := ListIs tokCells 3 w v l
def RetToks (l : List Match.Tok) (w : World) (e : Ending) (w' : World) : Prop := ∃ v, e = .returned v ∧ TokIs w' v l ∧ Below w.heap.size w w'
theorem own_val (s : ByteArray) (a b : Nat) (h : b ≤ s.size) : s.extract a b = (Match.ownTok s.data.toList a b).own := ba_ext (by
 rw [Match.ownTok_list]; simp [List.extract_eq_take_drop])
theorem flat_snoc (acc : List Match.Tok) (t : Match.Tok) : acc.flatMap tokCells ++ [.string t.own, .int .i64 t.back, .int .i64 t.size] = (acc ++ [t]).flatMap tokCells := by
 simp [tokCells]
set_option maxHeartbeats 1000000 in
theorem match_tokens (s : ByteArray) (w : World) (hs : s.size ≤ 1000000) :
  Calls Tryz.prog 87 #[.string s] w (RetToks (Match.tokens s.data.toList) w) := by
 have hll : s.data.toList.length = s.size := Array.length_toList
 go_enter Tryz.func87, Tryz.ntmps87
 go_wp2
 go_loopw [3, 4, 5] (fun o a i wr => ∃ (acc : List Match.Tok) (own p : Nat), i = .int .i64 p ∧ a = .int .i64 own ∧ own ≤ p ∧ p ≤ s.size ∧ acc.length ≤ own ∧ acc ++ Match.toks s.data.toList own p = Match.tokens s.data.toList ∧ wr.ownsRow w.heap.size 176 3 o acc.length (acc.flatMap tokCells) ∧ Below w.heap.size w wr) (fun _ _ i _ => s.size - (intOf i).toNat)
 case atStart => exact ⟨[], 0, 0, rfl, rfl, by omega, by omega, by simp, rfl, World.ownsRow_nil _ _ _ _, by exact blw⟩
 case round =>
  obtain ⟨acc, own, p, rfl, rfl, ho, hp, hac, htk, hown, hbel⟩ := hrel
  have hsz := hbel.size
  replace hll := Lib.hid hll
  by_cases hlt : p < s.size
  ·have hfl := Match.find_le s.data.toList p
   have hin := Match.find_in s.data.toList p (by rw [hll.out]; exact hp)
   rw [hll.out] at hin
   have hc := fun W => match_find s p W (by omega) hlt
   replace hc := Lib.hid hc
   by_cases hf : (Match.find s.data.toList p).2 = 0
   ·have ht : Hid (acc ++ Match.toks s.data.toList own (p + 1) = Match.tokens s.data.toList) := Lib.hid (by
     rw [← htk, Match.toks_none (by rw [hll.out]; exact hlt) hf])
    clear htk
    have hfb : (((Match.find s.data.toList p).2 : Int) == 0) = true := by simp [hf]
    replace hf := Lib.hid hf
    go_wp2_with fail
    refine (hc.out _).mono ?_
    rintro e w1 ⟨rfl, hb1⟩
    go_wp2
    go_roundw
    case rel => exact ⟨acc, own, p + 1, by go_num, rfl, by omega, by omega, by omega, ht.out, owns_below hown hb1, by exact blw⟩
    case measure => simp [intOf]; omega
   ·have hfb : (((Match.find s.data.toList p).2 : Int) == 0) = false := by simp [hf]
    have ht := htk
    rw [Match.toks_rep (by rw [hll.out]; exact hlt) hf] at ht
    replace ht := Lib.hid ht
    clear htk
    by_cases hop : own < p
    ·go_wp2_with fail
     refine (hc.out _).mono ?_
     rintro e w1 ⟨rfl, hb1⟩
     have hown1 := owns_below hown hb1
     have hbel1 := bch hbel hb1
     have hsz1 := hbel1.size
     go_wp2_with (at_builtin; go_must (refine app_new rfl _ _ 157 176 rfl w.heap.size (.agg #[.string ⟨#[]⟩, .int .i64 0, .int .i64 0]) 3 32 Tryz.underlying157 (by kernel_rfl) rfl (by omega) _ _ _ rfl hown1 _ rfl rfl ?_ (by omega) (by omega) hsz1 ?_))
     ·first | exact ⟨rfl, rfl⟩ | rfl | simp [Value.oneCell']
     intro v1 w2 hown2 hb2 _
     have e1 : List.flatMap tokCells acc ++ [Value.string (s.extract own p), Value.int IntKind.i64 0, Value.int IntKind.i64 0] = (acc ++ [Match.ownTok s.data.toList own p]).flatMap tokCells := by
      rw [own_val s own p hp]; exact flat_snoc acc (Match.ownTok s.data.toList own p)
     rw [e1] at hown2
     clear e1
     have hown2' : w2.ownsRow w.heap.size 176 3 v1 (acc ++ [Match.ownTok s.data.toList own p]).length ((acc ++ [Match.ownTok s.data.toList own p]).flatMap tokCells) := by
      rw [List.length_append]; exact hown2
     have ht2 : Hid ((acc ++ [Match.ownTok s.data.toList own p]) ++ Match.repTok (Match.find s.data.toList p).1 (Match.find s.data.toList p).2 :: Match.toks s.data.toList (p + (Match.find s.data.toList p).2) (p + (Match.find s.data.toList p).2) = Match.tokens s.data.toList) := Lib.hid (by
      rw [← ht.out, if_pos hop, List.append_assoc])
     have hac2 : (acc ++ [Match.ownTok s.data.toList own p]).length ≤ p := by rw [List.length_append]; simp; omega
     clear hown2 hown1 hown ht
     generalize acc ++ [Match.ownTok s.data.toList own p] = acc2 at *
     have hbel2 := hbel1.trans hb2
     have hsz2 := hbel2.size
     go_wp2_with (at_builtin; go_must (refine app_new rfl _ _ 157 176 rfl w.heap.size (.agg #[.string ⟨#[]⟩, .int .i64 0, .int .i64 0]) 3 32 Tryz.underlying157 (by kernel_rfl) rfl (by omega) _ _ _ rfl hown2' _ rfl rfl ?_ (by omega) (by omega) hsz2 ?_))
     ·first | exact ⟨rfl, rfl⟩ | rfl | simp [Value.oneCell']
     intro v2 w3 hown3 hb3 _
     have hown3' : w3.ownsRow w.heap.size 176 3 v2 (acc2 ++ [Match.repTok (Match.find s.data.toList p).1 (Match.find s.data.toList p).2]).length ((acc2 ++ [Match.repTok (Match.find s.data.toList p).1 (Match.find s.data.toList p).2]).flatMap tokCells) := by
      rw [List.length_append, ← flat_snoc]; exact hown3
     clear hown3
     go_wp2
     go_roundw
     case rel =>
      refine ⟨acc2 ++ [Match.repTok (Match.find s.data.toList p).1 (Match.find s.data.toList p).2], p + (Match.find s.data.toList p).2, p + (Match.find s.data.toList p).2, by go_num, by go_num, by omega, by omega, ?_, ?_, hown3', hbel2.trans hb3⟩
      ·rw [List.length_append]; simp; omega
      ·rw [← ht2.out, List.append_assoc, List.singleton_append]
     case measure => simp [intOf]; omega
    ·obtain rfl : own = p := by omega
     have ht2 : Hid (acc ++ Match.repTok (Match.find s.data.toList own).1 (Match.find s.data.toList own).2 :: Match.toks s.data.toList (own + (Match.find s.data.toList own).2) (own + (Match.find s.data.toList own).2) = Match.tokens s.data.toList) := Lib.hid (by
      rw [← ht.out, if_neg hop]; rfl)
     clear ht
     go_wp2_with fail
     refine (hc.out _).mono ?_
     rintro e w1 ⟨rfl, hb1⟩
     have hown1 := owns_below hown hb1
     have hbel1 := bch hbel hb1
     have hsz1 := hbel1.size
     go_wp2_with (at_builtin; go_must (refine app_new rfl _ _ 157 176 rfl w.heap.size (.agg #[.string ⟨#[]⟩, .int .i64 0, .int .i64 0]) 3 32 Tryz.underlying157 (by kernel_rfl) rfl (by omega) _ _ _ rfl hown1 _ rfl rfl ?_ (by omega) (by omega) hsz1 ?_))
     ·first | exact ⟨rfl, rfl⟩ | rfl | simp [Value.oneCell']
     intro v2 w3 hown3 hb3 _
     have hown3' : w3.ownsRow w.heap.size 176 3 v2 (acc ++ [Match.repTok (Match.find s.data.toList own).1 (Match.find s.data.toList own).2]).length ((acc ++ [Match.repTok (Match.find s.data.toList own).1 (Match.find s.data.toList own).2]).flatMap tokCells) := by
      rw [List.length_append, ← flat_snoc]; exact hown3
     clear hown3
     go_wp2
     go_roundw
     case rel =>
      refine ⟨acc ++ [Match.repTok (Match.find s.data.toList own).1 (Match.find s.data.toList own).2], own + (Match.find s.data.toList own).2, own + (Match.find s.data.toList own).2, by go_num, by go_num, by omega, by omega, ?_, ?_, hown3', hbel1.trans hb3⟩
      ·rw [List.length_append]; simp; omega
      ·rw [← ht2.out, List.append_assoc, List.singleton_append]
     case measure => simp [intOf]; omega
  ·obtain rfl : p = s.size := by omega
   have ht : Hid (acc ++ (if own < s.size then [Match.ownTok s.data.toList own s.size] else []) = Match.tokens s.data.toList) := Lib.hid (by
    rw [← htk, Match.toks_end (by rw [hll.out]; omega), hll.out])
   clear htk
   by_cases hop : own < s.size
   ·have ht2 : Hid (acc ++ [Match.ownTok s.data.toList own s.size] = Match.tokens s.data.toList) := Lib.hid (by rw [← ht.out, if_pos hop])
    go_wp2_with (at_builtin; go_must (refine app_new rfl _ _ 157 176 rfl w.heap.size (.agg #[.string ⟨#[]⟩, .int .i64 0, .int .i64 0]) 3 32 Tryz.underlying157 (by kernel_rfl) rfl (by omega) _ _ _ rfl hown _ rfl rfl ?_ (by omega) (by omega) hsz ?_))
    ·first | exact ⟨rfl, rfl⟩ | rfl | simp [Value.oneCell']
    intro v1 w2 hown2 hb2 _
    have e1 : List.flatMap tokCells acc ++ [Value.string (s.extract own s.size), Value.int IntKind.i64 0, Value.int IntKind.i64 0] = (Match.tokens s.data.toList).flatMap tokCells := by
     rw [own_val s own s.size (Nat.le_refl _), ← ht2.out]; exact flat_snoc acc (Match.ownTok s.data.toList own s.size)
    rw [e1] at hown2
    have hl : acc.length + 1 = (Match.tokens s.data.toList).length := by rw [← ht2.out, List.length_append]; rfl
    rw [hl] at hown2
    have hfin : RetToks (Match.tokens s.data.toList) w (.returned v1) w2 := ⟨v1, rfl, ListIs.of_owns hown2, hbel.trans hb2⟩
    clear e1 hl hown2
    go_wp2
    go_ret
    exact hfin
   ·have ht2 : acc = Match.tokens s.data.toList := by rw [← ht.out, if_neg hop, List.append_nil]
    rw [ht2] at hown
    have hown' := Lib.hid hown
    clear ht2 hown ht
    go_wp2
    go_ret
    exact ⟨_, rfl, ListIs.of_owns hown'.out, hbel⟩
end Go.Proofs.YtognjohloobliaaGreatDoor
/- Walks of match: whether tokens are right. -/
namespace Go.Proofs.YtognjohloobliaaGreatDoor
open Go.RowKit
set_option linter.unusedVariables false
/-- An error at a place. -/
def AtIs (w : World) (v : Value) (x i : Nat) : Prop := ∃ g, v = .iface 82 (.pointer (some ⟨g, 0, none⟩)) ∧ Row w g 84 [.int .i64 x, .int .i64 i]
/-- No error, or one at a place. -/
def MaybeAt (w : World) (v : Value) : Option (Nat × Nat) → Prop
 | none => v = .nilIface
 | some (x, i) => AtIs w v x i
def RetMaybeAt (o : Option (Nat × Nat)) (w : World) (e : Ending) (w' : World) : Prop := ∃ v, e = .returned v ∧ MaybeAt w' v o ∧ Below w.heap.size w w'
theorem right_drop (l : List Match.Tok) (k n : Nat) (h : k < l.length) : Match.right (l.drop k) k n = if Match.wrong l[k] n ≠ 0 then some (Match.wrong l[k] n, k) else Match.right (l.drop (k + 1)) (k + 1) (n + Match.adv l[k]) := by
 rw [List.drop_eq_getElem_cons h]; rfl
theorem retAt (w0 w : World) (hb : Below w0.heap.size w0 w) (x i g : Nat) (hg : g = w.heap.size) : RetMaybeAt (some (x, i)) w0 (.returned (.iface 82 (.pointer (some ⟨g, 0, none⟩)))) (w.alloc (.cells #[.int .i64 x, .int .i64 i] 84)) := by
 subst hg
 exact ⟨_, rfl, ⟨w.heap.size, rfl, row_alloc w _ _⟩, bal hb _⟩
theorem right_bad {l r : List Match.Tok} {t : Match.Tok} {k m x : Nat} (h : Match.right l 0 0 = if Match.wrong t m ≠ 0 then some (Match.wrong t m, k) else Match.right r (k + 1) (m + Match.adv t)) (hw : Match.wrong t m = x) (hx : x ≠ 0) : Match.right l 0 0 = some (x, k) := by
 rw [h, hw, if_pos hx]
theorem right_good {l r : List Match.Tok} {t : Match.Tok} {k m : Nat} (h : Match.right l 0 0 = if Match.wrong t m ≠ 0 then some (Match.wrong t m, k) else Match.right r (k + 1) (m + Match.adv t)) (hw : Match.wrong t m = 0) : Match.right r (k + 1) (m + Match.adv t) = Match.right l 0 0 := by
 rw [h, if_neg (by omega)]
theorem bne_t {a : Int} (h : (!a != 0) = true) : a = 0 := by simpa using h
theorem bne_f {a : Int} (h : (!a != 0) = false) : a ≠ 0 := by simpa using h
theorem bne_t' {a : Int} (h : (a != 0) = true) : a ≠ 0 := by simpa using h
theorem bne_f' {a : Int} (h : (a != 0) = false) : a = 0 := by simpa using h
theorem empty_of_size {s : ByteArray} (h : s.size = 0) : s.toList.isEmpty = true := by
 rw [ByteArray.toList_eq, List.isEmpty_iff]; exact List.eq_nil_of_length_eq_zero ((Match.ba_len s).trans h)
theorem nonempty_of_size {s : ByteArray} (h : s.size ≠ 0) : s.toList.isEmpty = false := by
 rw [ByteArray.toList_eq, List.isEmpty_eq_false_iff]; intro e; have := Match.ba_len s; rw [e] at this; exact h this.symm
set_option maxHeartbeats 2000000 in
set_option maxRecDepth 100000 in
theorem match_right (v : Value) (l : List Match.Tok) (w : World) (hv : TokIs w v l) (hl : ∀ t ∈ l, t.own.size ≤ 140737488351232) (hll : l.length ≤ 1000000000) :
  Calls Tryz.prog 103 #[v] w (RetMaybeAt (Match.right l 0 0) w) := by
 obtain ⟨a, cap, rfl, hcap, hcell⟩ := hv.at tokCells_len
 clear hv
 replace hcell := Lib.hid hcell
 replace hcap := Lib.hid hcap
 replace hl := Lib.hid hl
 go_enter Tryz.func103, Tryz.ntmps103
 go_wp2
 go_loopw [3, 10] (fun n i wr => ∃ k m : Nat, k ≤ l.length ∧ i = .int .i64 k ∧ n = .int .i64 m ∧ m ≤ 20000 ∧ Match.right (l.drop k) k m = Match.right l 0 0 ∧ Below w.heap.size w wr) (fun _ i _ => l.length - (intOf i).toNat)
 case atStart => exact ⟨0, 0, by omega, rfl, rfl, by omega, rfl, by exact blw⟩
 case round =>
  obtain ⟨k, m, hk, rfl, rfl, hm, hr, hbel⟩ := hrel
  have hsz := hbel.size
  by_cases hlt : k < l.length
  ·obtain ⟨b, off, rfl, hbw, hc⟩ := hcell.out k hlt
   have hbw := hbw (by omega)
   have c0 : wr.cell? ⟨b, off + k * 3, none⟩ = some (.string l[k].own) := (hbel.cell (p := ⟨b, off + k * 3, none⟩) hbw).trans (hc 0 _ rfl)
   have c1 : wr.cell? ⟨b, off + k * 3 + 1, none⟩ = some (.int .i64 l[k].back) := (hbel.cell (p := ⟨b, off + k * 3 + 1, none⟩) hbw).trans (hc 1 _ rfl)
   have c2 : wr.cell? ⟨b, off + k * 3 + 2, none⟩ = some (.int .i64 l[k].size) := (hbel.cell (p := ⟨b, off + k * 3 + 2, none⟩) hbw).trans (hc 2 _ rfl)
   have hrd := right_drop l k m hlt
   rw [hr] at hrd
   have hos := hl.out l[k] (List.getElem_mem hlt)
   clear hc hr
   replace hrd := Lib.hid hrd
   generalize l[k] = t at *
   by_cases ho : t.own.size = 0
   ·have hemp : t.own.toList.isEmpty = true := empty_of_size ho
    go_wp2
    all_goals first
     | (go_ret; rw [right_bad (x := 1) hrd.out (by (first | have q := bne_t ‹_› | have q := bne_f ‹_› | have q := bne_t' ‹_› | have q := bne_f' ‹_› | skip); unfold Match.wrong; (repeat' split) <;> first | rfl | omega) (by omega)]; exact retAt w _ (by exact blw) 1 k _ (by simp))
     | (go_ret; rw [right_bad (x := 2) hrd.out (by (first | have q := bne_t ‹_› | have q := bne_f ‹_› | have q := bne_t' ‹_› | have q := bne_f' ‹_› | skip); unfold Match.wrong; (repeat' split) <;> first | rfl | omega) (by omega)]; exact retAt w _ (by exact blw) 2 k _ (by simp))
     | (go_ret; rw [right_bad (x := 4) hrd.out (by (first | have q := bne_t ‹_› | have q := bne_f ‹_› | have q := bne_t' ‹_› | have q := bne_f' ‹_› | skip); unfold Match.wrong; (repeat' split) <;> first | rfl | omega) (by omega)]; exact retAt w _ (by exact blw) 4 k _ (by simp))
     | (go_ret; rw [right_bad (x := 7) hrd.out (by (first | have q := bne_t ‹_› | have q := bne_f ‹_› | have q := bne_t' ‹_› | have q := bne_f' ‹_› | skip); unfold Match.wrong; (repeat' split) <;> first | rfl | omega) (by omega)]; exact retAt w _ (by exact blw) 7 k _ (by simp))
     | skip
    go_roundw
    case rel =>
     have hz : Match.wrong t m = 0 := (by (first | have q := bne_t ‹_› | have q := bne_f ‹_› | have q := bne_t' ‹_› | have q := bne_f' ‹_› | skip); unfold Match.wrong; (repeat' split) <;> first | rfl | omega)
     refine ⟨k + 1, m + Match.adv t, by omega, by go_num, ?_, ?_, right_good hrd.out hz, by exact blw⟩
     ·rw [Match.adv_rep ho]; go_num
     ·rw [Match.adv_rep ho]; omega
    case measure => simp [intOf]; omega
   ·have hemp := nonempty_of_size ho
    go_wp2
    all_goals first
     | (go_ret; rw [right_bad (x := 1) hrd.out (by (first | have q := bne_t ‹_› | have q := bne_f ‹_› | have q := bne_t' ‹_› | have q := bne_f' ‹_› | skip); unfold Match.wrong; (repeat' split) <;> first | rfl | omega) (by omega)]; exact retAt w _ (by exact blw) 1 k _ (by simp))
     | (go_ret; rw [right_bad (x := 2) hrd.out (by (first | have q := bne_t ‹_› | have q := bne_f ‹_› | have q := bne_t' ‹_› | have q := bne_f' ‹_› | skip); unfold Match.wrong; (repeat' split) <;> first | rfl | omega) (by omega)]; exact retAt w _ (by exact blw) 2 k _ (by simp))
     | (go_ret; rw [right_bad (x := 4) hrd.out (by (first | have q := bne_t ‹_› | have q := bne_f ‹_› | have q := bne_t' ‹_› | have q := bne_f' ‹_› | skip); unfold Match.wrong; (repeat' split) <;> first | rfl | omega) (by omega)]; exact retAt w _ (by exact blw) 4 k _ (by simp))
     | (go_ret; rw [right_bad (x := 7) hrd.out (by (first | have q := bne_t ‹_› | have q := bne_f ‹_› | have q := bne_t' ‹_› | have q := bne_f' ‹_› | skip); unfold Match.wrong; (repeat' split) <;> first | rfl | omega) (by omega)]; exact retAt w _ (by exact blw) 7 k _ (by simp))
     | skip
    go_roundw
    case rel =>
     have hz : Match.wrong t m = 0 := (by (first | have q := bne_t ‹_› | have q := bne_f ‹_› | have q := bne_t' ‹_› | have q := bne_f' ‹_› | skip); unfold Match.wrong; (repeat' split) <;> first | rfl | omega)
     refine ⟨k + 1, m + Match.adv t, by omega, by go_num, ?_, ?_, right_good hrd.out hz, by exact blw⟩
     ·rw [Match.adv_own ho]; go_num
     ·rw [Match.adv_own ho]; omega
    case measure => simp [intOf]; omega
  ·obtain rfl : k = l.length := by omega
   have hfin : Hid (Match.right l 0 0 = none) := Lib.hid (by rw [← hr, List.drop_length]; rfl)
   clear hr
   go_wp2
   go_ret
   rw [hfin.out]
   exact ⟨_, rfl, rfl, by exact blw⟩
end Go.Proofs.YtognjohloobliaaGreatDoor
/- Walks of match: the text that tokens make. -/
namespace Go.Proofs.YtognjohloobliaaGreatDoor
open Go.RowKit
set_option linter.unusedVariables false
theorem byteVals_app (a b : List UInt8) : byteVals a ++ byteVals b = byteVals (a ++ b) := by simp [byteVals]
theorem byteVals_of (s : ByteArray) : byteCells s = byteVals s.data.toList := rfl
theorem text_drop (l : List Match.Tok) (k : Nat) (h : k < l.length) (acc : List UInt8) : Match.text acc (l.drop k) = Match.text (Match.copy (acc ++ l[k].own.data.toList) l[k].back.toNat l[k].size.toNat) (l.drop (k + 1)) := by
 rw [List.drop_eq_getElem_cons h]; rfl
set_option maxHeartbeats 2000000 in
theorem match_text_ok (v : Value) (l : List Match.Tok) (w : World) (hv : TokIs w v l) (hl : ∀ t ∈ l, t.own.size ≤ 140737488351232) (hll : l.length ≤ 1000000000) (hr : Match.right l 0 0 = none) :
  Calls Tryz.prog 108 #[v] w fun e w' => e = .returned (.tuple #[.string ⟨(Match.text [] l).toArray⟩, .nilIface]) ∧ Below w.heap.size w w' := by
 obtain ⟨a, cap, rfl, hcap, hcell⟩ := hv.at tokCells_len
 have hc := match_right _ l w hv hl hll
 rw [hr] at hc
 clear hv
 replace hcell := Lib.hid hcell
 replace hcap := Lib.hid hcap
 replace hl := Lib.hid hl
 replace hc := Lib.hid hc
 replace hr := Lib.hid hr
 go_enter Tryz.func108, Tryz.ntmps108
 go_wp2_with fail
 refine hc.out.mono ?_
 rintro e w1 ⟨u, rfl, hu, hb1⟩
 have hu : u = .nilIface := hu
 subst hu
 clear hc
 go_wp2
 go_loopw [5, 15] (fun o i wr => ∃ (k : Nat) (acc : List UInt8), k ≤ l.length ∧ i = .int .i64 k ∧ acc.length ≤ 20000 ∧ wr.ownsRow w.heap.size 5 1 o acc.length (byteVals acc) ∧ Match.text acc (l.drop k) = Match.text [] l ∧ Match.right (l.drop k) k acc.length = none ∧ Below w.heap.size w wr) (fun _ i _ => l.length - (intOf i).toNat)
 case atStart => exact ⟨0, [], by omega, rfl, by simp, World.ownsRow_nil _ _ _ _, rfl, hr.out, hb1⟩
 case round =>
  obtain ⟨k, acc, hk, rfl, hal, hown, htx, hrt, hbel⟩ := hrel
  have hsz := hbel.size
  by_cases hlt : k < l.length
  ·obtain ⟨b, off, rfl, hbw, hc⟩ := hcell.out k hlt
   have hbw := hbw (by omega)
   have c0 : wr.cell? ⟨b, off + k * 3, none⟩ = some (.string l[k].own) := (hbel.cell (p := ⟨b, off + k * 3, none⟩) hbw).trans (hc 0 _ rfl)
   have c1 : wr.cell? ⟨b, off + k * 3 + 1, none⟩ = some (.int .i64 l[k].back) := (hbel.cell (p := ⟨b, off + k * 3 + 1, none⟩) hbw).trans (hc 1 _ rfl)
   have c2 : wr.cell? ⟨b, off + k * 3 + 2, none⟩ = some (.int .i64 l[k].size) := (hbel.cell (p := ⟨b, off + k * 3 + 2, none⟩) hbw).trans (hc 2 _ rfl)
   rw [text_drop l k hlt] at htx
   rw [right_drop l k _ hlt] at hrt
   have hos := hl.out l[k] (List.getElem_mem hlt)
   clear hc
   generalize l[k] = t at *
   have hw0 : Match.wrong t acc.length = 0 := by
    by_cases h : Match.wrong t acc.length = 0
    ·exact h
    ·rw [if_pos h] at hrt; cases hrt
   rw [if_neg (by omega)] at hrt
   have hz := Match.wrong_zero hw0 hal
   obtain ⟨n, hn⟩ : ∃ n : Nat, t.size = n := ⟨t.size.toNat, by omega⟩
   obtain ⟨bk, hbk⟩ : ∃ n : Nat, t.back = n := ⟨t.back.toNat, by omega⟩
   have hA : (acc ++ t.own.data.toList).length + n ≤ 20000 := by rw [List.length_append, Match.ba_len]; omega
   have hB : 0 < n → 1 ≤ bk ∧ bk ≤ (acc ++ t.own.data.toList).length := by rw [List.length_append, Match.ba_len]; omega
   have hadv : acc.length + Match.adv t = (acc ++ t.own.data.toList).length + n := by
    rw [List.length_append, Match.ba_len]
    rcases hz with hz | hz
    ·rw [Match.adv_own hz.1]; omega
    ·rw [Match.adv_rep hz.1]; omega
   have hsz2 : acc.length + t.own.size ≤ 20000 := by omega
   clear hz hw0
   rw [hadv] at hrt
   rw [hn, hbk, Int.toNat_natCast, Int.toNat_natCast] at htx
   rw [hn] at c2
   rw [hbk] at c1
   replace htx := Lib.hid htx
   replace hrt := Lib.hid hrt
   replace hadv := Lib.hid hadv
   replace hn := Lib.hid hn
   replace hbk := Lib.hid hbk
   go_wp2_with (at_builtin; go_must (refine app_any rfl _ _ 121 9 5 rfl w.heap.size (.int .u8 0) 1 1 Tryz.underlying121 (by kernel_rfl) rfl _ _ _ rfl (hown.alloc _) t.own.size (byteCells t.own) (Src.ofString _ Tryz.underlying9 _) (by omega) (by omega) (by simp; omega) ?_))
   intro v1 w2 hown2 hg2 hblk2 hnil hb2
   clear hnil
   have hbox : Row w2 wr.heap.size 176 [.string t.own, .int .i64 bk, .int .i64 n] := Row.grown (row_alloc wr _ _) hg2 (owns_lt hown _ (Nat.le_refl _))
   have hvb : v1.ownBlock ≠ some wr.heap.size := by
    rcases hblk2 with h | h
    ·rw [h]; exact owns_lt hown _ (Nat.le_refl _)
    ·rw [h]; intro e; injection e with e; omega
   have hbel2 : Below w.heap.size w w2 := (bal hbel _).trans hb2
   rw [byteVals_of, byteVals_app] at hown2
   have hlA : acc.length + t.own.size = (acc ++ t.own.data.toList).length := by rw [List.length_append, Match.ba_len]
   rw [hlA] at hown2
   clear hown hg2 hblk2 hb2 hlA c0 c1 c2
   have hgl := hbox.lt
   generalize acc ++ t.own.data.toList = A at *
   generalize wr.heap.size = g at *
   have b2 : w2.cell? ⟨g, 2, none⟩ = some (.int .i64 n) := hbox.cell 2
   go_wp2
   go_loopw [5, 25] (fun o i wr => ∃ (j : Nat) (B : List UInt8), j ≤ n ∧ i = .int .i64 j ∧ B.length = A.length + j ∧ wr.ownsRow w.heap.size 5 1 o B.length (byteVals B) ∧ Match.copy B bk (n - j) = Match.copy A bk n ∧ Row wr g 176 [.string t.own, .int .i64 bk, .int .i64 n] ∧ o.ownBlock ≠ some g ∧ Below w.heap.size w wr) (fun _ i _ => n - (intOf i).toNat)
   case atStart => exact ⟨0, A, by omega, rfl, rfl, hown2, rfl, hbox, hvb, hbel2⟩
   case round =>
    clear hbox hvb hown2 hbel hsz hbel2 hgl b2
    obtain ⟨j, B, hj, rfl, hBl, hown, hcp, hbox, hvb, hbel⟩ := hrel
    have hsz := hbel.size
    have hBl1 : B.length ≤ A.length + j := by omega
    have hBl2 : A.length + j ≤ B.length := by omega
    replace hBl := Lib.hid hBl
    by_cases hjn : j < n
    ·obtain ⟨hB1, hB2⟩ := hB (by omega)
     obtain ⟨g2, cap2, rfl⟩ : ∃ g2 cap2, u5 = .slice (some ⟨g2, 0, none⟩) B.length cap2 := by
      rcases hown.2 with ⟨_, h0⟩ | ⟨g', cap', cur, h', _⟩
      ·omega
      ·exact ⟨g', cap', h'⟩
     have hp := (prow_of_owns hown).1
     obtain ⟨m, hm⟩ : ∃ m, m = B.length - bk := ⟨_, rfl⟩
     have hml : m < B.length := by omega
     have hcell1 : wr.cell? ⟨g2, m, none⟩ = some (.int .u8 (B[m].toNat : Nat)) := by
      rw [hp.cell m (by simp [byteVals]; exact hml)]; simp [byteVals]
     have hbx : wr.cell? ⟨g, 1, none⟩ = some (.int .i64 bk) := hbox.cell 1
     have hcp2 : Hid (Match.copy (B ++ [B[m]]) bk (n - (j + 1)) = Match.copy A bk n) := Lib.hid (by
      rw [← hcp, show n - j = n - (j + 1) + 1 by omega]
      simp only [Match.copy]
      rw [← hm, List.getD_eq_getElem?_getD, List.getElem?_eq_getElem hml]; rfl)
     have hsub : ((B.length : Int) - (bk : Int)) = (m : Int) := by omega
     clear hcp hm hp
     generalize B[m] = c at *
     go_wp2_with (at_builtin; go_must (refine app_one rfl _ _ 121 5 rfl w.heap.size (.int .u8 0) 1 1 Tryz.underlying121 (by kernel_rfl) rfl _ _ _ rfl hown _ rfl rfl ?_ (by omega) (by omega) hsz ?_))
     ·rfl
     intro v3 w3 hown3 hg3 hblk3 hne3 hb3
     have hbox3 := hbox.grown hg3 hvb
     have hvb3 : v3.ownBlock ≠ some g := by
      rcases hblk3 with h | h
      ·rw [h]; exact hvb
      ·rw [h]; intro e; injection e with e; have := hbox.lt; omega
     have e3 : byteVals B ++ [Value.int .u8 (c.toNat : Nat)] = byteVals (B ++ [c]) := byteVals_app B [c]
     have hown3' : w3.ownsRow w.heap.size 5 1 v3 (B ++ [c]).length (byteVals (B ++ [c])) := by
      rw [← e3, List.length_append]; exact hown3
     clear hown3 hg3 hblk3 hne3
     go_wp2
     go_roundw
     case rel => exact ⟨j + 1, B ++ [c], by omega, by go_num, by rw [List.length_append]; simp; omega, hown3', hcp2.out, hbox3, hvb3, hbel.trans hb3⟩
     case measure => simp [intOf]; omega
    ·obtain rfl : j = n := by omega
     have hcp2 : B = Match.copy A bk j := by rw [← hcp, Nat.sub_self]; rfl
     replace hcp2 := Lib.hid hcp2
     clear hcp
     go_wp2
     go_roundw
     case rel =>
      refine ⟨k + 1, B, by omega, by go_num, by omega, hown, ?_, ?_, hbel⟩
      ·rw [hcp2.out]; exact htx.out
      ·rw [hBl.out]; exact hrt.out
     case measure => simp [intOf]; omega
  ·obtain rfl : k = l.length := by omega
   have hfin : acc = Match.text [] l := by rw [← htx, List.drop_length]; rfl
   clear htx hrt
   have hcv := str_of_owns (P := Tryz.prog) hown 121 9 Tryz.underlying121 Tryz.underlying5 Tryz.underlying9
   replace hfin := Lib.hid hfin
   clear hown
   go_wp2
   go_ret2
   exact ⟨by rw [← hfin.out]; rfl, hbel⟩
end Go.Proofs.YtognjohloobliaaGreatDoor
