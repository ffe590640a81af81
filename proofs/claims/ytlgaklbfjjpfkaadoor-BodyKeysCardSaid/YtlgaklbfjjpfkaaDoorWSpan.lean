/- Walks of span. -/
import Derived.Test.YtlgaklbfjjpfkaaDoorWVary
import Derived.Test.YtlgaklbfjjpfkaaDoorWTell2
import Derived.Test.YtlgaklbfjjpfkaaDoorPlainSpan
namespace Go.Proofs.YtlgaklbfjjpfkaaDoor
open Go.RowKit
set_option linter.unusedVariables false
def spanVal : Span.Got → Value
  | .ok t k => .tuple #[.string ⟨t.toArray⟩, .int .i64 k, .nilIface]
  | .bad e => .tuple #[.string ⟨#[]⟩, .int .i64 0, errno e]
set_option maxHeartbeats 1000000 in
set_option maxRecDepth 20000 in
theorem span_put_long (s : ByteArray) (w : World) (hs : 2000 < s.size) :
    Calls Tryd.prog 26 #[.string s] w fun e w' => e = .returned (.tuple #[.string ⟨#[]⟩, .iface 33 (.int .i64 4)]) ∧ w = w' := by
  go_enter Tryd.func26, Tryd.ntmps26
  go_wp2
  go_ret2
  exact ⟨rfl, rfl⟩
set_option maxHeartbeats 1000000 in
set_option maxRecDepth 20000 in
theorem span_put (s : ByteArray) (w : World) (hs : s.size ≤ 2000) :
    Calls Tryd.prog 26 #[.string s] w fun e w' => e = .returned (.tuple #[.string ⟨(Span.put s.data.toList).toArray⟩, .nilIface]) ∧ Below w.heap.size w w' := by
  have hlen := Vary.put_len s.size (by omega)
  have he : Hid (ByteArray.mk (Vary.put s.size).toArray ++ s = ⟨(Span.put s.data.toList).toArray⟩) := Lib.hid (ba_ext (by
    rw [ba_app]; unfold Span.put; rw [Array.length_toList]; rfl))
  go_enter Tryd.func26, Tryd.ntmps26
  go_wp2_with (go_at_call 25; go_must (refine (vary_put s.size _ (by omega)).mono ?_); rintro e w' ⟨rfl, hb⟩)
  go_ret2
  exact ⟨by rw [← he.out]; rfl, by (repeat (first | exact Below.refl _ _ | assumption | refine bal ?_ _ | refine bdr ?_ | refine bdn ?_ _ | refine bst ?_ (by first | assumption | exact Nat.le_refl _ | omega) _ | refine bch ?_ (by assumption)))⟩
set_option maxHeartbeats 1000000 in
set_option maxRecDepth 20000 in
theorem span_get (s : ByteArray) (w : World) (hs : s.size ≤ maxLen) (hL : Laid w) :
    Calls Tryd.prog 38 #[.string s] w fun e w' => e = .returned (spanVal (Span.get s.data.toList)) ∧ Below w.heap.size w w' := by
  cases hg : Vary.int s.data.toList 2000 with
  | bad x =>
    have hgv : intVal (Vary.Got.bad x) = .tuple #[.int .i64 0, .int .i64 0, .iface 33 (.int .i64 x)] := rfl
    by_cases h2 : x = 2
    · subst h2
      have hv : Hid (Span.get s.data.toList = .bad 4) := Lib.hid (by rw [Span.get_bad hg]; rfl)
      replace hs := Lib.hid hs
      go_enter Tryd.func38, Tryd.ntmps38
      go_wp2_with (first
        | (go_at_call 62; go_must (refine (vary_int _ _ _ hs.out (by omega)).mono ?_); rintro e w' ⟨rfl, rfl⟩)
        | (go_at_call 13; go_must (refine (tell_errno _ _ hL).mono ?_); rintro e w' ⟨rfl, hb⟩))
      go_ret3
      rw [hv.out]
      exact ⟨rfl, by (repeat (first | exact Below.refl _ _ | assumption | refine bal ?_ _ | refine bdr ?_ | refine bdn ?_ _ | refine bst ?_ (by first | assumption | exact Nat.le_refl _ | omega) _ | refine bch ?_ (by assumption)))⟩
    · have hv : Hid (Span.get s.data.toList = .bad x) := Lib.hid (by rw [Span.get_bad hg, if_neg h2])
      have hb2 : ((x : Int) == 2) = false := by simp; omega
      replace hs := Lib.hid hs
      go_enter Tryd.func38, Tryd.ntmps38
      go_wp2_with (first
        | (go_at_call 62; go_must (refine (vary_int _ _ _ hs.out (by omega)).mono ?_); rintro e w' ⟨rfl, rfl⟩)
        | (go_at_call 13; go_must (refine (tell_errno _ _ hL).mono ?_); rintro e w' ⟨rfl, hb⟩))
      go_ret3
      rw [hv.out]
      exact ⟨rfl, by (repeat (first | exact Below.refl _ _ | assumption | refine bal ?_ _ | refine bdr ?_ | refine bdn ?_ _ | refine bst ?_ (by first | assumption | exact Nat.le_refl _ | omega) _ | refine bch ?_ (by assumption)))⟩
  | ok n k =>
    have hgv : intVal (Vary.Got.ok n k) = .tuple #[.int .i64 n, .int .i64 k, .nilIface] := rfl
    obtain ⟨hi, hn⟩ := Span.int_inv hg
    obtain ⟨h1, h2, _, _⟩ := Vary.get_ok _ _ _ hi
    have h2' : k ≤ s.size := by rw [Array.length_toList] at h2; exact h2
    have hll : s.data.toList.length = s.size := Array.length_toList
    clear h2 hi
    by_cases hsh : s.size < k + n
    · have hv : Hid (Span.get s.data.toList = .bad 7) := Lib.hid (Span.get_short hg (by omega))
      have hs2 := hs
      unfold maxLen at hs2
      replace hs := Lib.hid hs
      clear hll
      go_enter Tryd.func38, Tryd.ntmps38
      go_wp2_with (first
        | (go_at_call 62; go_must (refine (vary_int _ _ _ hs.out (by omega)).mono ?_); rintro e w' ⟨rfl, rfl⟩)
        | (go_at_call 13; go_must (refine (tell_nil _).mono ?_); rintro e w' ⟨rfl, rfl⟩))
      go_ret3
      rw [hv.out]
      exact ⟨rfl, by (repeat (first | exact Below.refl _ _ | assumption | refine bal ?_ _ | refine bdr ?_ | refine bdn ?_ _ | refine bst ?_ (by first | assumption | exact Nat.le_refl _ | omega) _ | refine bch ?_ (by assumption)))⟩
    · have hv : Hid (Span.get s.data.toList = .ok ((s.data.toList.drop k).take n) (k + n)) := Lib.hid (Span.get_full hg (by omega))
      have hs2 := hs
      unfold maxLen at hs2
      replace hs := Lib.hid hs
      clear hll
      have he : Hid (s.extract k (k + n) = ⟨((s.data.toList.drop k).take n).toArray⟩) := Lib.hid (ba_ext (by simp))
      go_enter Tryd.func38, Tryd.ntmps38
      go_wp2_with (first
        | (go_at_call 62; go_must (refine (vary_int _ _ _ hs.out (by omega)).mono ?_); rintro e w' ⟨rfl, rfl⟩)
        | (go_at_call 13; go_must (refine (tell_nil _).mono ?_); rintro e w' ⟨rfl, rfl⟩))
      go_ret3
      rw [hv.out]
      show _ = Ending.returned (.tuple #[.string ⟨((s.data.toList.drop k).take n).toArray⟩, .int .i64 ((k + n : Nat) : Int), .nilIface]) ∧ _
      rw [← he.out]
      exact ⟨rfl, by (repeat (first | exact Below.refl _ _ | assumption | refine bal ?_ _ | refine bdr ?_ | refine bdn ?_ _ | refine bst ?_ (by first | assumption | exact Nat.le_refl _ | omega) _ | refine bch ?_ (by assumption)))⟩
end Go.Proofs.YtlgaklbfjjpfkaaDoor
