/- Words for a law's walk: what a call answers in each later world; keep.few of two and of three; vector's functions so. -/
import Derived.Test.YtdpdnkjpjoccmaaDoorWKnown
import Derived.Test.YtdpdnkjpjoccmaaDoorWFew
namespace Go.Proofs.YtdpdnkjpjoccmaaDoor
open Go.RowKit
set_option linter.unusedVariables false
/-- From w on the call answers v. -/
def From (f : FuncId) (args : Array Value) (w : World) (v : Value) : Prop := ∀ W, Below w.heap.size w W → Calls Tryd.prog f args W fun e w' => e = .returned v ∧ Below W.heap.size W w'
theorem From.later {f : FuncId} {args : Array Value} {w w' : World} {v : Value} (h : From f args w v) (hb : Below w.heap.size w w') : From f args w' v := fun W hW => h W (bch hb hW)
theorem From.val {f : FuncId} {args : Array Value} {w : World} {v v' : Value} (h : From f args w v) (e : v = v') : From f args w v' := e ▸ h
theorem From.kept {f : FuncId} {args : Array Value} {w : World} {v : Value} (h : From f args w v) (x : Kept (Old w.heap.size w)) : Calls Tryd.prog f args x.val fun e w'' => e = .returned v ∧ ∃ y : Kept (Old w.heap.size w), w'' = y.val := calls_kept (h x.val x.ok.2) Old.below
theorem from_known (w : World) (hL : Laid w) : From 31 #[] w (.bool true) := fun W hW => keep_known W (hL.below hW)
theorem from_covers {w : World} {va vb : Value} {a b : List Vec.Entry} (ha : VecIs w va a) (hb : VecIs w vb b) (hla : a.length ≤ 140737488351232) (hlb : b.length ≤ 140737488351232) (v : Bool) (h : coversB a b = v) : From 35 #[va, vb] w (.bool v) := fun W hW => h ▸ vector_covers va vb a b W (ha.below hW) (hb.below hW) hla hlb
theorem from_of {w : World} {va : Value} {a : List Vec.Entry} (ha : VecIs w va a) (r v : Int) (h : Vec.of a r = v) : From 63 #[va, .int .i64 r] w (.int .i64 v) := fun W hW => h ▸ vector_of va a r W (ha.below hW)
theorem from_eq {w : World} {va vb : Value} {a b : List Vec.Entry} (ha : VecIs w va a) (hb : VecIs w vb b) (hla : a.length ≤ 140737488351232) (hlb : b.length ≤ 140737488351232) (v : Bool) (h : decide (a = b) = v) : From 62 #[va, vb] w (.bool v) := fun W hW => h ▸ eq_ent va vb a b W (ha.below hW) (hb.below hW) hla hlb
theorem from_right {w : World} {va : Value} {a : List Vec.Entry} (ha : VecIs w va a) (hla : a.length ≤ 140737488351232) (h : Vec.right a = .ok) : From 66 #[va] w .nilIface := fun W hW => (vector_right va a W (ha.below hW) hla).mono fun e w' ⟨v, h1, h2, h3⟩ => by
  rw [h] at h2
  have h2 : v = .nilIface := h2
  subst h2
  exact ⟨h1, h3⟩
theorem few_cells (vs : List Value) (W : World) (T : TypeId) : ∀ k (h : k < vs.length), (W.alloc (.cells vs.toArray T)).cell? ⟨W.heap.size, k, none⟩ = some vs[k] := fun k h => by
  rw [(row_alloc W vs.toArray T).cell k, List.toList_toArray, List.getElem?_eq_getElem h]
theorem few_two (va vb : Value) (a b : List Vec.Entry) (v : Bool) (w W : World) (T : TypeId) (ha : VecIs w va a) (hb : VecIs w vb b) (hla : a.length ≤ 140737488351232) (hlb : b.length ≤ 140737488351232) (hv : fewB [a, b] = v) (hW : Below w.heap.size w W) :
    Calls Tryd.prog 34 #[.slice (some ⟨W.heap.size, 0, none⟩) 2 2] (W.alloc (.cells #[va, vb] T)) fun e w' => e = .returned (.bool v) ∧ Below W.heap.size W w' := by
  have hx : Below w.heap.size w (W.alloc (.cells #[va, vb] T)) := bal hW _
  refine (keep_few [va, vb] [a, b] W.heap.size _ rfl (by simp) (few_cells [va, vb] W T) (fun k h1 h2 => ?_) (fun l hl => ?_)).mono fun e w' ⟨he, hb⟩ => ⟨hv ▸ he, bch (bal (Below.refl _ _) _) hb⟩
  · rcases k with _ | _ | k
    · exact ha.below hx
    · exact hb.below hx
    · exact absurd h1 (by simp)
  · simp only [List.mem_cons, List.not_mem_nil, or_false] at hl
    rcases hl with rfl | rfl <;> assumption
theorem few_three (va vb vc : Value) (a b c : List Vec.Entry) (v : Bool) (w W : World) (T : TypeId) (ha : VecIs w va a) (hb : VecIs w vb b) (hc : VecIs w vc c) (hla : a.length ≤ 140737488351232) (hlb : b.length ≤ 140737488351232) (hlc : c.length ≤ 140737488351232) (hv : fewB [a, b, c] = v) (hW : Below w.heap.size w W) :
    Calls Tryd.prog 34 #[.slice (some ⟨W.heap.size, 0, none⟩) 3 3] (W.alloc (.cells #[va, vb, vc] T)) fun e w' => e = .returned (.bool v) ∧ Below W.heap.size W w' := by
  have hx : Below w.heap.size w (W.alloc (.cells #[va, vb, vc] T)) := bal hW _
  refine (keep_few [va, vb, vc] [a, b, c] W.heap.size _ rfl (by simp) (few_cells [va, vb, vc] W T) (fun k h1 h2 => ?_) (fun l hl => ?_)).mono fun e w' ⟨he, hb⟩ => ⟨hv ▸ he, bch (bal (Below.refl _ _) _) hb⟩
  · rcases k with _ | _ | _ | k
    · exact ha.below hx
    · exact hb.below hx
    · exact hc.below hx
    · exact absurd h1 (by simp)
  · simp only [List.mem_cons, List.not_mem_nil, or_false] at hl
    rcases hl with rfl | rfl | rfl <;> assumption
/-- In each later world keep.few of these answers so. -/
def Few2 (va vb : Value) (w : World) (v : Bool) : Prop := ∀ (W : World) (T : TypeId), Below w.heap.size w W → Calls Tryd.prog 34 #[.slice (some ⟨W.heap.size, 0, none⟩) 2 2] (W.alloc (.cells #[va, vb] T)) fun e w' => e = .returned (.bool v) ∧ Below W.heap.size W w'
def Few3 (va vb vc : Value) (w : World) (v : Bool) : Prop := ∀ (W : World) (T : TypeId), Below w.heap.size w W → Calls Tryd.prog 34 #[.slice (some ⟨W.heap.size, 0, none⟩) 3 3] (W.alloc (.cells #[va, vb, vc] T)) fun e w' => e = .returned (.bool v) ∧ Below W.heap.size W w'
/-- In each later world Join is refused so, or is this list. -/
def JoinNo (va vb : Value) (w : World) (n : Nat) : Prop := ∀ W, Below w.heap.size w W → Calls Tryd.prog 60 #[va, vb] W fun e w' => e = .returned (.tuple #[.slice none 0 0, errV n]) ∧ Below W.heap.size W w'
def JoinIs (va vb : Value) (w : World) (x : List Vec.Entry) : Prop := ∀ W, Below w.heap.size w W → Calls Tryd.prog 60 #[va, vb] W fun e w' => ∃ o c, e = .returned (.tuple #[.slice o x.length c, .nilIface]) ∧ VecIs w' (.slice o x.length c) x ∧ Below W.heap.size W w'
theorem join_no {va vb : Value} {a b : List Vec.Entry} {w : World} (hL : Laid w) (ha : VecIs w va a) (hb : VecIs w vb b) (h1 : Vec.right a = .ok) (h2 : Vec.right b = .ok) (h : 16 < (Vec.merge a b).length) : JoinNo va vb w 4 := fun W hW => by
  have l1 := ((Vec.right_iff a).1 h1).len
  have l2 := ((Vec.right_iff b).1 h2).len
  refine (vector_join_ok va vb a b W (hL.below hW) (ha.below hW) (hb.below hW) (by omega) (by omega) h1 h2).mono fun e w' ⟨h3, h4⟩ => ?_
  have e1 : joined a b = .inl (.no 4) := by unfold joined; rw [if_neg (by simp [h1]), if_neg (by simp [h2]), if_pos h]
  rw [e1] at h3
  exact ⟨h3, h4⟩
theorem join_is {va vb : Value} {a b : List Vec.Entry} {w : World} (hL : Laid w) (ha : VecIs w va a) (hb : VecIs w vb b) (h1 : Vec.right a = .ok) (h2 : Vec.right b = .ok) (h : (Vec.merge a b).length ≤ 16) : JoinIs va vb w (Vec.merge a b) := fun W hW => by
  have l1 := ((Vec.right_iff a).1 h1).len
  have l2 := ((Vec.right_iff b).1 h2).len
  refine (vector_join_ok va vb a b W (hL.below hW) (ha.below hW) (hb.below hW) (by omega) (by omega) h1 h2).mono fun e w' ⟨h3, h4⟩ => ?_
  have e1 : joined a b = .inr (Vec.merge a b) := by unfold joined; rw [if_neg (by simp [h1]), if_neg (by simp [h2]), if_neg (by omega)]
  rw [e1] at h3
  obtain ⟨v, h5, h6⟩ := h3
  obtain ⟨o, c, rfl, -, -⟩ := (VecIs.list h6).at entCells_len
  exact ⟨o, c, h5, h6, h4⟩
theorem covers_true {a b : List Vec.Entry} (ha : Vec.right a = .ok) (hb : Vec.right b = .ok) (h : Vec.Covers a b) : coversB a b = true := by
  unfold coversB
  rw [decide_eq_true ha, decide_eq_true hb]
  simp only [Bool.true_and, List.all_eq_true, decide_eq_true_eq]
  exact (Vec.covers_iff ((Vec.right_iff b).1 hb).sorted ((Vec.right_iff a).1 ha).pos).2 h
theorem covers_of {a b : List Vec.Entry} (h : coversB a b = true) : Vec.Covers a b ∧ Vec.right a = .ok ∧ Vec.right b = .ok := by
  unfold coversB at h
  simp only [Bool.and_eq_true, decide_eq_true_eq, List.all_eq_true] at h
  exact ⟨(Vec.covers_iff ((Vec.right_iff b).1 h.2.1).sorted ((Vec.right_iff a).1 h.1).pos).1 h.2.2, h.1, h.2.1⟩
theorem few2_iff {a b : List Vec.Entry} (h : fewB [a, b] = true) : Vec.right a = .ok ∧ Vec.right b = .ok := by
  simpa [fewB] using h
theorem few3_iff {a b c : List Vec.Entry} (h : fewB [a, b, c] = true) : Vec.right a = .ok ∧ Vec.right b = .ok ∧ Vec.right c = .ok := by
  simpa [fewB] using h
end Go.Proofs.YtdpdnkjpjoccmaaDoor
