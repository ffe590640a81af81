/- A region that draws its order and ends with an operation that waits for all others: behind that one nothing need be shown of the world. -/
import Derived.Test.YtognjohloobliaaGreatDoorJ01
namespace Go.Proofs.YtognjohloobliaaGreatDoor
set_option linter.unusedSimpArgs false
open Go.RowKit
set_option linter.unusedVariables false
section
variable {P : Program} {md : Region.Mode} {ops : Array Oper} {Q : Exit → Act → World → Prop} {S : World → Prop} {m : Nat}
/-- In whatever order; S holds behind each operation but number m. -/
def WpLast (P : Program) (md : Region.Mode) (ops : Array Oper) (Q : Exit → Act → World → Prop) (S : World → Prop) (m : Nat) : Nat → Array Bool → Act → World → Prop
 | 0, L, a, w => Region.ready md ops L = [] ∧ Q .normal a w
 | n + 1, L, a, w => (Region.ready md ops L = [] → Q .normal a w) ∧ ∀ i ∈ Region.ready md ops L, wpOp P ops Q i (fun a' w' => (i = m ∨ S w') ∧ WpLast P md ops Q S m n (L.setIfInBounds i true) a' w') a w
theorem wpLast_any : ∀ (n : Nat) (L : Array Bool) (a : Act) (w : World), WpLast P md ops Q S m n L a w → wpAny P md ops Q n L a w
 | 0, _, _, _, h => h
 | n + 1, _, _, _, h => ⟨h.1, fun i hi => wpOp_mono (fun a' w' k => wpLast_any n _ a' w' k.2) (h.2 i hi)⟩
/-- Number m waits for number i. -/
def waits (md : Region.Mode) (ops : Array Oper) (m i : Nat) : Bool := match ops[m]? with
 | some o => o.after.any fun e => Region.binds md e && e.on == i
 | none => true
theorem waits_edge {i : Nat} (h : waits md ops m i = true) {o : Oper} (ho : ops[m]? = some o) : ∃ e ∈ o.after, Region.binds md e = true ∧ e.on = i := by
 unfold waits at h
 rw [ho] at h
 obtain ⟨e, he, hb⟩ := Array.any_eq_true'.1 h
 simp only [Bool.and_eq_true, beq_iff_eq] at hb
 exact ⟨e, he, hb.1, hb.2⟩
theorem wpLast_first {i : Nat} {oi : Oper} {v : Value} (hi : ops[i]? = some oi) (hs : Region.noSelect ops = true) (hne : i ≠ m) (hm : waits md ops m i = true)
  (hQ : ∀ c a w, Q (.panic c) (a.put oi.dst v) w → Q (.panic c) a w) : ∀ (n : Nat) (L : Array Bool) (a : Act) (w : World),
  (∀ j oj, ops[j]? = some oj → j ≠ i → L.getD j true = false → (∀ e ∈ oj.after, Region.binds md e = true → e.on ≠ i) → oi.apart ops oj = true) →
  i ∈ Region.ready md ops L → YieldsIf P ops S oi v a → S w → WpLast P md ops Q S m n (L.setIfInBounds i true) (a.put oi.dst v) w → WpLast P md ops Q S m (n + 1) L a w := by
 intro n
 induction n with
 | zero =>
  intro L a w _ hr hy hS H
  constructor
  ·intro h; rw [h] at hr; cases hr
  ·intro j hj
   rcases Nat.decEq j i with hji | hji
   ·have := ready_mono hj hji
    rw [H.1] at this; cases this
   ·subst hji; exact hy.wpOp hi hS ⟨.inr hS, H⟩
 | succ n ih =>
  intro L a w hf hr hy hS H
  constructor
  ·intro h; rw [h] at hr; cases hr
  ·intro j hj
   rcases Nat.decEq j i with hji | hji
   ·obtain ⟨hun, oj, hoj, hall⟩ := mem_ready.1 hj
    have hfalse := (mem_ready.1 hr).1
    have hno : ∀ e ∈ oj.after, Region.binds md e = true → e.on ≠ i := fun e he hb hei => by
     have h1 := hall e he hb
     rw [hei] at h1
     rcases Nat.lt_or_ge i L.size with h' | h'
     ·simp [h'] at hfalse h1; rw [hfalse] at h1; cases h1
     ·simp [Array.getElem?_eq_none h'] at h1
    have hjm : j ≠ m := fun e => by
     subst e
     obtain ⟨x, hx, hb, hxi⟩ := waits_edge hm hoj
     exact hno x hx hb hxi
    have h1 := wpOp_putIf hoj (hf j oj hoj hji hun hno) (fun cs b => Region.noSelect_spec hs i oi cs b hi) (fun cs b => Region.noSelect_spec hs j oj cs b hoj) hQ hy (H.2 j (ready_mono hj hji))
    refine wpOp_mono (fun a' w' k => ?_) h1
    have hSw := k.2.1.resolve_left hjm
    refine ⟨.inr hSw, ih _ a' w' (fun l ol hol hli hlun hlno => hf l ol hol hli ?_ hlno) (ready_mono hr (Ne.symm hji)) k.1 hSw ?_⟩
    ·by_cases hjl : j = l
     ·subst hjl; exact hun
     ·rw [getD_set_ne true hjl] at hlun; exact hlun
    ·rw [Array.setIfInBounds_comm _ _ hji]; exact k.2.2
   ·subst hji; exact hy.wpOp hi hS ⟨.inr hS, H⟩
end
section
variable {P : Program} {l : List Oper} {Q : Exit → Act → World → Prop} {S : World → Prop} {m : Nat}
theorem last_take {i : Nat} {oi : Oper} {v : Value} {n : Nat} {L : Array Bool} {a : Act} {w : World} (hi : (l.drop i).head? = some oi)
  (hs : Region.noSelect l.toArray = true) (hf : Region.free .any l.toArray L i = true) (hr : (Region.ready .any l.toArray L).contains i = true) (hne : i ≠ m) (hm : waits .any l.toArray m i = true)
  (hQ : ∀ c a w, Q (.panic c) (a.put oi.dst v) w → Q (.panic c) a w) (hw : Region.wanted oi (yielded l.toArray a.tmps) = true) (hS : S w) (hy : ∀ w, S w → (execOp a.eval oi).run P w = .ok (.value v) w)
  (h : WpLast P .any l.toArray Q S m n (L.setIfInBounds i true) (a.put oi.dst v) w) : WpLast P .any l.toArray Q S m (n + 1) L a w :=
 wpLast_first (drop_get hi) hs hne hm hQ n L a w (Region.free_spec (drop_get hi) hf) (by simpa using hr) (Or.inl ⟨hw, hy⟩) hS h
theorem lkO (i : Nat) {oi : Oper} {v : Value} {n : Nat} {L L' : Array Bool} {a a' : Act} {w : World} (h : WpLast P .any l.toArray Q S m n L' a' w)
  (hi : (l.drop i).head? = some oi := by rfl) (hs : Region.noSelect l.toArray = true := by kernel_rfl) (hf : Region.free .any l.toArray L i = true := by kernel_rfl) (hr : (Region.ready .any l.toArray L).contains i = true := by kernel_rfl) (hne : i ≠ m := by decide) (hm : waits .any l.toArray m i = true := by kernel_rfl)
  (hw : Region.wanted oi (yielded l.toArray a.tmps) = true := by kernel_rfl) (hS : S w := by assumption)
  (hy : ∀ w, S w → (execOp a.eval oi).run P w = .ok (.value v) w := by (intro w hSw; (try unfold SC at hSw); (try unfold FC at hSw); (try unfold LC at hSw); (try unfold TC at hSw); (try unfold MC at hSw); (try unfold BC at hSw); (try unfold RC at hSw); (try unfold KC at hSw); (try unfold KD at hSw); (try dsimp only at hSw); go_simp; (try with_reducible rfl); done))
  (hl : L.setIfInBounds i true = L' := by ((try simp only [List.setIfInBounds_toArray, List.set_cons_zero, List.set_cons_succ]); try rfl))
  (ha : a.put oi.dst v = a' := by ((try simp only [Act.put, List.setIfInBounds_toArray, List.set_cons_zero, List.set_cons_succ]); try rfl))
  (hQ : ∀ c a w, Q (.panic c) (a.put oi.dst v) w → Q (.panic c) a w := by exact fun _ _ _ h => h) : WpLast P .any l.toArray Q S m (n + 1) L a w := by
 subst hl ha
 exact last_take hi hs hf hr hne hm hQ hw hS hy h
def ReadyL (P : Program) (l : List Oper) (Q : Exit → Act → World → Prop) (S : World → Prop) (m n : Nat) (L : Array Bool) (a : Act) (w : World) (rs : List Nat) : Prop :=
 ∀ i ∈ rs, wpOp P l.toArray Q i (fun a' w' => (i = m ∨ S w') ∧ WpLast P .any l.toArray Q S m n (L.setIfInBounds i true) a' w') a w
theorem ReadyL.nil {n : Nat} {L : Array Bool} {a : Act} {w : World} : ReadyL P l Q S m n L a w [] := fun _ h => by cases h
/-- One that isn't the last. -/
theorem last_cons {n : Nat} {L : Array Bool} {a : Act} {w : World} {i : Nat} {o : Oper} {rs : List Nat} (ho : (l.drop i).head? = some o) (hw : Region.wanted o (yielded l.toArray a.tmps) = true)
  (h : ∀ K' : Act → World → Prop, Shut (∀ a w, S w → (S w → WpLast P .any l.toArray Q S m n (L.setIfInBounds i true) a w) → K' a w) → Oper.wp P o a w K' Q)
  (hs : ReadyL P l Q S m n L a w rs) : ReadyL P l Q S m n L a w (i :: rs) := fun j hj => by
 rcases List.mem_cons.1 hj with rfl | hj
 ·exact wpOp_step (drop_get ho) fun K' hK => by
   rw [if_pos hw]
   exact h K' fun a w hS k => hK a w ⟨.inr hS, k hS⟩
 ·exact hs j hj
/-- The last. -/
theorem last_end {n : Nat} {L : Array Bool} {a : Act} {w : World} {o : Oper} (ho : (l.drop m).head? = some o) (hw : Region.wanted o (yielded l.toArray a.tmps) = true)
  (h : ∀ K' : Act → World → Prop, Shut (∀ a w, WpLast P .any l.toArray Q S m n (L.setIfInBounds m true) a w → K' a w) → Oper.wp P o a w K' Q) : ReadyL P l Q S m n L a w [m] := fun j hj => by
 obtain rfl := List.mem_singleton.1 hj
 exact wpOp_step (drop_get ho) fun K' hK => by
  rw [if_pos hw]
  exact h K' fun a w k => hK a w ⟨.inl rfl, k⟩
theorem last_ready {rs : List Nat} {n : Nat} {L : Array Bool} {a : Act} {w : World} (hr : Region.ready .any l.toArray L = rs) (hne : rs ≠ []) (h : ReadyL P l Q S m n L a w rs) : WpLast P .any l.toArray Q S m (n + 1) L a w :=
 ⟨fun h0 => absurd (hr.symm.trans h0) hne, by rw [hr]; exact h⟩
theorem last_done {L : Array Bool} {a : Act} {w : World} (hr : Region.ready .any l.toArray L = []) (h : Q .normal a w) : ∀ n, WpLast P .any l.toArray Q S m n L a w
 | 0 => ⟨hr, h⟩
 | _ + 1 => ⟨fun _ => h, by rw [hr]; simp⟩
theorem last_start (S : World → Prop) (m : Nat) {id : Nat} {a : Act} {w : World} (hm : P.follows .mixedOrders = true) (hS : S w.drew)
  (h : S w.drew → WpLast P .any l.toArray Q S m l.toArray.size (Array.replicate l.toArray.size false) a w.drew) : (Code.region id l.toArray true).wp P Q a w :=
 wp_region_any hm (wpLast_any _ _ _ _ (h hS))
end
end Go.Proofs.YtognjohloobliaaGreatDoor
/- An append of one element that has just been laid, behind another block. -/
namespace Go.Proofs.YtognjohloobliaaGreatDoor
set_option linter.unusedSimpArgs false
open Go.RowKit
set_option linter.unusedVariables false
/-- An append of one element that has just been laid, behind another block. -/
theorem app_one_g {P : Program} {w0 : World} {ops : Array Oper} {rest : List Oper} {o : Oper} {a : Act} {Q : Exit → Act → World → Prop} (hgd : o.guard = none) (s x : Operand) (t e : TypeId)
  (ho : o.op = .call { callee := .builtin .append, args := #[s, x], argTypes := #[t, t] }) (base : Nat) (z : Value) (size bytes : Nat)
  (ht : P.underlying t = some (.slice e)) (hinfo : (P.info? e).map (fun i => (i.zero, i.size, i.bytes)) = some (some z, size, bytes)) (hzs : z.cells.size = size)
  (v : Value) (n : Nat) (xs : List Value) (hs : a.eval s = v) (hown : w0.ownsRow base e size v n xs)
  (us : Array Value) (g : Nat) (hg : g = w0.heap.size) (hx : a.eval x = .slice (some ⟨g, 0, none⟩) 1 1) (hus : us.size = size) (h1 : ∀ u ∈ us.toList, u.oneCell' = true)
  (h63 : n + 1 ≤ 1000000000) (hby : bytes ≤ 1000) (hbase : base ≤ w0.heap.size)
  (h : ∀ v' w', w'.ownsRow base e size v' (n + 1) (xs ++ us.toList) → w0.grownBy w' v.ownBlock → (v'.ownBlock = v.ownBlock ∨ v'.ownBlock = some (w0.heap.size + 1)) → v' ≠ .slice none 0 0 → Below base w0 w' → wpList P ops Q rest (a.put o.dst v') w') :
  wpList P ops Q (o :: rest) a (w0.alloc (.cells us e)) := by
 subst hg
 exact app_one hgd s x t e ho base z size bytes ht hinfo hzs v n xs hs hown us hx hus h1 h63 hby hbase h
end Go.Proofs.YtognjohloobliaaGreatDoor
