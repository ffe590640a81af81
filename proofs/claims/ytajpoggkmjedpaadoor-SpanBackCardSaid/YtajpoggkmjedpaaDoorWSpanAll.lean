/- The walk of span.All where all are there. -/
import Derived.Test.YtajpoggkmjedpaaDoorWSpan
import Derived.Test.YtajpoggkmjedpaaDoorWEqStr
import Derived.Test.YtajpoggkmjedpaaDoorLib3
namespace Go.Proofs.YtajpoggkmjedpaaDoor
open Go.RowKit
set_option linter.unusedVariables false
def puts (l : List ByteArray) : List UInt8 := l.flatMap fun s => Span.put s.data.toList
theorem list_mk' (s : ByteArray) : (⟨s.data.toList.toArray⟩ : ByteArray) = s := by cases s; simp
theorem puts_take (l : List ByteArray) (k : Nat) (h : k < l.length) : puts (l.take (k + 1)) = puts (l.take k) ++ Span.put l[k].data.toList := by
  unfold puts; rw [List.take_succ_eq_append_getElem h, List.flatMap_append]; simp
theorem puts_split (l : List ByteArray) (k : Nat) (h : k < l.length) : puts l = puts (l.take k) ++ (Span.put l[k].data.toList ++ puts (l.drop (k + 1))) := by
  unfold puts
  conv => lhs; rw [← List.take_append_drop k l, List.drop_eq_getElem_cons h]
  rw [List.flatMap_append, List.flatMap_cons]
theorem str_snoc (out : List ByteArray) (x : ByteArray) : out.flatMap strCells ++ [.string x] = (out ++ [x]).flatMap strCells := by simp [strCells]
set_option maxHeartbeats 4000000 in
set_option maxRecDepth 20000 in
theorem span_all (ts : List ByteArray) (more : List UInt8) (s : ByteArray) (hs : s.data.toList = puts ts ++ more) (h2 : ∀ t ∈ ts, t.size ≤ 2000) (hsz : s.size ≤ 1000000) (hts : ts.length ≤ 1000) (w : World) (hL : Laid w) :
    Calls Tryd.prog 11 #[.string s, .int .i64 ts.length] w fun e w' => (∃ v, e = .returned (.tuple #[v, .int .i64 (puts ts).length, .nilIface]) ∧ StrsIs w' v ts) ∧ Below w.heap.size w w' := by
  have hsl : (puts ts).length + more.length = s.size := by rw [← List.length_append, ← hs, Array.length_toList]; rfl
  go_enter Tryd.func11, Tryd.ntmps11
  go_wp2
  go_loopw [7, 8, 14] (fun o p i wr => ∃ k : Nat, k ≤ ts.length ∧ i = .int .i64 k ∧ p = .int .i64 (puts (ts.take k)).length ∧ wr.ownsRow w.heap.size 9 1 o k ((ts.take k).flatMap strCells) ∧ Below w.heap.size w wr) (fun _ _ i _ => ts.length - (intOf i).toNat)
  case atStart => exact ⟨0, by omega, rfl, rfl, World.ownsRow_nil _ _ _ _, by (repeat (first | exact Below.refl _ _ | assumption | refine bal ?_ _ | refine bdr ?_ | refine bdn ?_ _ | refine bst ?_ (by first | assumption | exact Nat.le_refl _ | omega) _ | refine bch ?_ (by assumption)))⟩
  case round =>
    obtain ⟨k, hk, rfl, rfl, hown, hbel⟩ := hrel
    have hsz1 := hbel.size
    by_cases hlt : k < ts.length
    · have hsp := puts_split ts k hlt
      have htk := puts_take ts k hlt
      have hg : Span.get (s.extract (puts (ts.take k)).length s.size).data.toList = .ok ts[k].data.toList (Span.put ts[k].data.toList).length := by
        have e : (s.extract (puts (ts.take k)).length s.size).data.toList = Span.put ts[k].data.toList ++ (puts (ts.drop (k + 1)) ++ more) := by
          rw [ByteArray.data_extract, Array.toList_extract, List.extract_eq_take_drop, hs, hsp, List.append_assoc, List.drop_left, List.take_of_length_le, List.append_assoc]
          have := congrArg List.length hsp
          simp only [List.length_append] at this ⊢
          omega
        rw [e]
        exact Span.get_put _ _ (by rw [Array.length_toList]; exact h2 _ (List.getElem_mem _))
      have hget := fun W (hW : Laid W) => span_get (s.extract (puts (ts.take k)).length s.size) W (by simp only [ByteArray.size_extract]; unfold maxLen; omega) hW
      rw [hg] at hget
      have hv : spanVal (.ok ts[k].data.toList (Span.put ts[k].data.toList).length) = .tuple #[.string ts[k], .int .i64 (Span.put ts[k].data.toList).length, .nilIface] := by
        show Value.tuple #[.string ⟨ts[k].data.toList.toArray⟩, .int .i64 (Span.put ts[k].data.toList).length, .nilIface] = _
        rw [list_mk']
      rw [hv] at hget
      replace hget := Lib.hid hget
      have hlen : (puts (ts.take k)).length + (Span.put ts[k].data.toList).length = (puts (ts.take (k + 1))).length := by rw [htk, List.length_append]
      have hle : (puts (ts.take (k + 1))).length ≤ s.size := by
        have := congrArg List.length hsp
        simp only [List.length_append] at this
        omega
      have hsn := str_snoc (ts.take k) ts[k]
      have htl : ts.take k ++ [ts[k]] = ts.take (k + 1) := (List.take_succ_eq_append_getElem hlt).symm
      rw [htl] at hsn
      replace hs := Lib.hid hs
      replace htl := Lib.hid htl
      replace hsn := Lib.hid hsn
      clear hsp htk hg hv
      generalize (Span.put ts[k].data.toList).length = q at *
      generalize (puts (ts.take k)).length = p at *
      generalize hp2 : (puts (ts.take (k + 1))).length = p2 at *
      replace hp2 := Lib.hid hp2
      generalize hx : ts[k] = x at *
      replace hx := Lib.hid hx
      go_wp2_with fail
      refine (hget.out _ (hL.below hbel)).mono ?_
      rintro e w1 ⟨rfl, hb1⟩
      have hown1 := owns_below hown hb1
      have hbel1 := bch hbel hb1
      have hsz2 := hbel1.size
      go_wp2_with (at_builtin; go_must (refine app_new rfl _ _ 22 9 rfl w.heap.size (.string ⟨#[]⟩) 1 16 Tryd.underlying22 (by kernel_rfl) rfl (by omega) _ _ _ rfl hown1 _ rfl rfl ?_ (by omega) (by omega) hsz2 ?_))
      · first | exact ⟨rfl, rfl⟩ | rfl | simp [Value.oneCell']
      intro v2 w3 hown3 hb3 _
      have hown4 : w3.ownsRow w.heap.size 9 1 v2 (k + 1) ((ts.take (k + 1)).flatMap strCells) := by
        rw [← hsn.out]; exact hown3
      clear hown3
      go_wp2
      go_roundw
      case rel => exact ⟨k + 1, by omega, by go_num, by rw [hp2.out]; go_num, hown4, hbel1.trans hb3⟩
      case measure => simp [intOf]; omega
    · obtain rfl : k = ts.length := by omega
      rw [List.take_length] at hown ⊢
      have hown' := Lib.hid hown
      clear hown
      go_wp2
      go_ret3
      exact ⟨⟨_, rfl, ListIs.of_owns hown'.out⟩, hbel⟩
end Go.Proofs.YtajpoggkmjedpaaDoor
