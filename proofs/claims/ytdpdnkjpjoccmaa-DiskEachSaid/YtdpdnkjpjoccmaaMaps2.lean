/- Maps' laws inside a drawn region. -/
import Derived.Test.YtdpdnkjpjoccmaaMaps
import Derived.Test.YtdpdnkjpjoccmaaLib4
namespace Go.Proofs.Ytdpdnkjpjoccmaa
open Go.RowKit
set_option linter.unusedVariables false
section
variable {P : Program} {k e t : TypeId} {κ α : Type} {kv : κ → Value} {kl : κ → Lit} {okk : κ → Prop} {vv : α → Value} {vl : α → Lit} {x0 : α} {okv : α → Prop} {w : World} {b n : Nat} {f : κ → Option α}
variable {o : Oper} {a : Act} {Q : Exit → Act → World → Prop}
theorem exec_look (m x : Operand) (t : TypeId) (hop : o.op = Op.lookup t m x false) (h : MapIs P k e kl vl w b n f) (K : MKey P k kv kl okk) (E : MElem P e vv vl x0 okv) (ht : P.underlying t = some (.map k e)) (s : κ) (hs : okk s) (y : α) (hr : (f s).getD x0 = y)
    (hm : a.eval m = .map (some b)) (hx : a.eval x = kv s) : (execOp a.eval o).run P w = .ok (.value (vv y)) w := by
  have hrun := (h.look K E ht s hs).2
  rw [hr] at hrun
  simp [execOp, hop, hm, hx, hrun, Result.andThen]
theorem step_update [DecidableEq κ] (m x v : Operand) (t : TypeId) (hop : o.op = Op.mapUpdate t m x v) (h : MapIs P k e kl vl w b n f) (K : MKey P k kv kl okk) (E : MElem P e vv vl x0 okv) (ht : P.underlying t = some (.map k e)) (hn : n < 1000000000) (s : κ) (hs : okk s) (y : α) (hy : okv y)
    (hm : a.eval m = .map (some b)) (hx : a.eval x = kv s) (hv : a.eval v = vv y) (K' : Act → World → Prop)
    (hK : ∀ w', MapIs P k e kl vl w' b (n + 1) (fun s' => if s' = s then some y else f s') → w.grownBy w' (some b) → K' (a.put o.dst undef) w') : Oper.wp P o a w K' Q := by
  obtain ⟨w', hrun, r1, r2⟩ := h.update K E ht (by unfold maxLen; omega) s hs y hy
  unfold Oper.wp
  simp [execOp, hop, hm, hx, hv, hrun, Result.andThen]
  exact hK w' r1 r2
end
end Go.Proofs.Ytdpdnkjpjoccmaa
