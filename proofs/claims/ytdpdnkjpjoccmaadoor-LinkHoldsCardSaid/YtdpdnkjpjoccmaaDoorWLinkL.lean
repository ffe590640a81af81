/- Steps over a link that lies from B on. -/
import Derived.Test.YtdpdnkjpjoccmaaDoorWLinked
namespace Go.Proofs.YtdpdnkjpjoccmaaDoor
open Go.RowKit
set_option linter.unusedVariables false
set_option linter.unusedSimpArgs false
theorem below_of_only {w w' : World} {B : Nat} (ho : Only (fun k => B ≤ k) w w') (hB : B ≤ w.heap.size) : Below B w w' := ho.below (fun k hk => hk) hB
theorem step_sync_eq (s : ByteArray) (n : Nat) (L : Link.St) (N : Int) (m : Nat) : Link.step s n L 2 N m = ({ L with R := Link.sync L.R }, true) := by unfold Link.step; rw [if_neg (by decide), if_neg (by decide), if_pos rfl]
theorem step_crash_eq (s : ByteArray) (n : Nat) (L : Link.St) (N : Int) (m : Nat) : Link.step s n L 3 N m = ({ L with R := (Link.ahead L.R (N % 4).toNat).crash (keepM m) }, true) := by unfold Link.step; rw [if_neg (by decide), if_neg (by decide), if_neg (by decide), if_pos rfl]
theorem step_resume_eq (s : ByteArray) (n : Nat) (L : Link.St) (N : Int) (m : Nat) : Link.step s n L 4 N m = ({ L with frm := L.R.offer }, true) := by unfold Link.step; rw [if_neg (by decide), if_neg (by decide), if_neg (by decide), if_neg (by decide), if_pos rfl]
theorem u64_ok {m : Nat} (h : m < 18446744073709551616) : True := trivial
/-- Step over a link that lies from B on. -/
theorem link_stepB (w : World) (l B : Nat) (s : ByteArray) (n c : Nat) (L : Link.St) (h : LinkZ w l (fun k => B ≤ k) s n L c) (hB : B ≤ w.heap.size) (F : Fits s n) (hc : c ≤ 900000) (v : Link.Stp) (hv : StpOk v) :
    Calls Tryd.prog 28 #[.pointer (some ⟨l, 0, none⟩), .agg #[.int .i64 v.k, .int .i64 v.N, .int .u64 v.m]] w fun e w' => (∃ r, e = .returned r ∧ ((Link.step s n L v.k v.N v.m).2 = true → r = .nilIface) ∧ ((Link.step s n L v.k v.N v.m).2 = false → ∃ x, r = errN x)) ∧ LinkZ w' l (fun k => B ≤ k) s n (Link.step s n L v.k v.N v.m).1 (c + 1) ∧ Below B w w' :=
  (link_stepZ w l _ s n c L h F hc v hv).mono fun _ _ ⟨a, b, d⟩ => ⟨a, b.mono (fun k hk => by rcases hk with h | h <;> omega) (Nat.le_refl _), below_of_only d hB⟩
theorem pickN_int (a : Int) (n : Nat) (hn : 0 < n) (hl : n ≤ 1000) : (Lit.int .i64 ((pickN a n : Nat) : Int)).wf = true := by
  have := pickN_lt a n hn
  simp [Lit.wf, IntKind.min, IntKind.max, IntKind.signed, IntKind.bits]
  omega
end Go.Proofs.YtdpdnkjpjoccmaaDoor
