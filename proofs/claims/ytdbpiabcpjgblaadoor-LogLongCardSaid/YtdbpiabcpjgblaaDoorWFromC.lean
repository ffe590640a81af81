/- Words for a law's walk: what a call answers in each later world; keep.few of two and of three; vector's functions so. -/
import Derived.Test.YtdbpiabcpjgblaaDoorWVec2
import Derived.Test.YtdbpiabcpjgblaaDoorWErrS
import Derived.Test.YtdbpiabcpjgblaaDoorPlainVecRd
import Derived.Test.YtdbpiabcpjgblaaDoorWJoinV0
import Derived.Test.YtdbpiabcpjgblaaDoorWWithin
namespace Go.Proofs.YtdbpiabcpjgblaaDoor
open Go.RowKit
set_option linter.unusedVariables false
/-- From w on the call answers v. -/
def From (f : FuncId) (args : Array Value) (w : World) (v : Value) : Prop := ∀ W, Below w.heap.size w W → Calls Tryd.prog f args W fun e w' => e = .returned v ∧ Below W.heap.size W w'
theorem From.later {f : FuncId} {args : Array Value} {w w' : World} {v : Value} (h : From f args w v) (hb : Below w.heap.size w w') : From f args w' v := fun W hW => h W (bch hb hW)
theorem From.val {f : FuncId} {args : Array Value} {w : World} {v v' : Value} (h : From f args w v) (e : v = v') : From f args w v' := e ▸ h
theorem From.kept {f : FuncId} {args : Array Value} {w : World} {v : Value} (h : From f args w v) (x : Kept (Old w.heap.size w)) : Calls Tryd.prog f args x.val fun e w'' => e = .returned v ∧ ∃ y : Kept (Old w.heap.size w), w'' = y.val := calls_kept (h x.val x.ok.2) Old.below
theorem from_covers {w : World} {va vb : Value} {a b : List Vec.Entry} (ha : VecIs w va a) (hb : VecIs w vb b) (hla : a.length ≤ 140737488351232) (hlb : b.length ≤ 140737488351232) (v : Bool) (h : coversB a b = v) : From 16 #[va, vb] w (.bool v) := fun W hW => h ▸ vector_covers va vb a b W (ha.below hW) (hb.below hW) hla hlb
theorem from_of {w : World} {va : Value} {a : List Vec.Entry} (ha : VecIs w va a) (r v : Int) (h : Vec.of a r = v) : From 29 #[va, .int .i64 r] w (.int .i64 v) := fun W hW => h ▸ vector_of va a r W (ha.below hW)
theorem from_right {w : World} {va : Value} {a : List Vec.Entry} (ha : VecIs w va a) (hla : a.length ≤ 140737488351232) (h : Vec.right a = .ok) : From 28 #[va] w .nilIface := fun W hW => (vector_right va a W (ha.below hW) hla).mono fun e w' ⟨v, h1, h2, h3⟩ => by
  rw [h] at h2
  have h2 : v = .nilIface := h2
  subst h2
  exact ⟨h1, h3⟩
theorem covers_true {a b : List Vec.Entry} (ha : Vec.right a = .ok) (hb : Vec.right b = .ok) (h : Vec.Covers a b) : coversB a b = true := by
  unfold coversB
  rw [decide_eq_true ha, decide_eq_true hb]
  simp only [Bool.true_and, List.all_eq_true, decide_eq_true_eq]
  exact (Vec.covers_iff ((Vec.right_iff b).1 hb).sorted ((Vec.right_iff a).1 ha).pos).2 h
theorem covers_of {a b : List Vec.Entry} (h : coversB a b = true) : Vec.Covers a b ∧ Vec.right a = .ok ∧ Vec.right b = .ok := by
  unfold coversB at h
  simp only [Bool.and_eq_true, decide_eq_true_eq, List.all_eq_true] at h
  exact ⟨(Vec.covers_iff ((Vec.right_iff b).1 h.2.1).sorted ((Vec.right_iff a).1 h.1).pos).1 h.2.2, h.1, h.2.1⟩
end Go.Proofs.YtdbpiabcpjgblaaDoor
/- ident.Within in each later world. -/
namespace Go.Proofs.YtdbpiabcpjgblaaDoor
open Go.RowKit
set_option linter.unusedVariables false
theorem from_within {w : World} {va vb : Value} {a b : List Vec.Entry} (ha : VecIs w va a) (hb : VecIs w vb b) (t r : Int) (v : Bool) (h : within t r a b = v) : From 32 #[.agg #[.int .i64 t, .int .i64 r], va, vb] w (.bool v) := fun W hW => h ▸ ident_within t r va vb a b W (ha.below hW) (hb.below hW)
end Go.Proofs.YtdbpiabcpjgblaaDoor
