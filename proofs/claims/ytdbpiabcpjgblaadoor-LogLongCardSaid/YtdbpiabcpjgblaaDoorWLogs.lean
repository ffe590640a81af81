/- Several logs in one memory, beside what else was made: what each call on one of them leaves of the others. -/
import Derived.Test.YtdbpiabcpjgblaaDoorPlainParty
import Derived.Test.YtdbpiabcpjgblaaDoorWLogA
import Derived.Test.YtdbpiabcpjgblaaDoorWLogS
namespace Go.Proofs.YtdbpiabcpjgblaaDoor
open Go.RowKit
set_option linter.unusedVariables false
set_option linter.unusedSimpArgs false
theorem SliceIs.only {S : Nat → Prop} {w w' : World} {v : Value} {n sz : Nat} {cs : List Value} (h : SliceIs w v n sz cs) (ho : Only S w w') (hn : ∀ b off m c, v = .slice (some ⟨b, off, none⟩) m c → ¬ S b) : SliceIs w' v n sz cs := by
  refine ⟨h.1, ?_⟩
  rcases h.2 with h2 | ⟨h0, b, off, cap, rfl, h3, h4, h5⟩
  · exact .inl h2
  · exact .inr ⟨h0, b, off, cap, rfl, h3, h4, fun j hj => ho.cell (p := ⟨b, off + j, none⟩) (h5 j hj) (hn b off n cap rfl)⟩
theorem ListIs.only {α : Type} {f : α → List Value} {sz : Nat} {S : Nat → Prop} {w w' : World} {b off n c : Nat} {l : List α} (h : ListIs f sz w (.slice (some ⟨b, off, none⟩) n c) l) (ho : Only S w w') (hn : ¬ S b) : ListIs f sz w' (.slice (some ⟨b, off, none⟩) n c) l :=
  SliceIs.only h ho fun b' off' m c' e => by injection e with e; injection e with e; injection e with e; subst e; exact hn
/-- A log, and where it lies. -/
structure LgAt where
  p : Nat
  m : Lg
  hv : Value
  wv : Value
def LgAt.mine (a : LgAt) (j : Nat) : Prop := LMine a.p a.hv a.wv j
/-- Logs, and a set of blocks that none of them has. -/
structure Logs (w : World) (base : Nat) (T : Nat → Prop) (l : List LgAt) : Prop where
  each : ∀ i (h : i < l.length), LogIs w base l[i].p l[i].m l[i].hv l[i].wv
  apart : ∀ i (hi : i < l.length) k (hk : k < l.length), i ≠ k → ∀ j, l[i].mine j → ¬ l[k].mine j
  free : ∀ i (h : i < l.length) j, l[i].mine j → ¬ T j
  old : ∀ j, T j → j < w.heap.size
namespace Logs
variable {w w' : World} {base : Nat} {T : Nat → Prop} {l : List LgAt}
theorem nil (w : World) (base : Nat) : Logs w base (fun _ => False) [] := ⟨fun i h => absurd h (by simp), fun i h => absurd h (by simp), fun i h => absurd h (by simp), fun j h => h.elim⟩
theorem mine_lt (h : Logs w base T l) {i : Nat} (hi : i < l.length) {j : Nat} (hj : l[i].mine j) : j < w.heap.size := (h.each i hi).mine_lt hj
theorem mine_lo (h : Logs w base T l) {i : Nat} (hi : i < l.length) {j : Nat} (hj : l[i].mine j) : base ≤ j := (h.each i hi).mine_lo hj
theorem below (h : Logs w base T l) (hb : Below w.heap.size w w') : Logs w' base T l :=
  ⟨fun i hi => (h.each i hi).below hb, h.apart, h.free, fun j hj => Nat.lt_of_lt_of_le (h.old j hj) hb.size⟩
/-- What no log touches changes. -/
theorem only (h : Logs w base T l) {S : Nat → Prop} (ho : Only S w w') (hS : ∀ i (hi : i < l.length) j, l[i].mine j → ¬ S j) : Logs w' base T l :=
  ⟨fun i hi => (h.each i hi).only ho (hS i hi), h.apart, h.free, fun j hj => Nat.lt_of_lt_of_le (h.old j hj) ho.size⟩
/-- More that none of them has. -/
theorem more (h : Logs w base T l) (hb : Below w.heap.size w w') {T' : Nat → Prop} (hT : ∀ j, T' j → T j ∨ w.heap.size ≤ j) (hl : ∀ j, T' j → j < w'.heap.size) : Logs w' base T' l :=
  ⟨fun i hi => (h.each i hi).below hb, h.apart, fun i hi j hj ht => by
    rcases hT j ht with h1 | h1
    · exact h.free i hi j hj h1
    · have := h.mine_lt hi hj; omega, hl⟩
theorem less (h : Logs w base T l) {T' : Nat → Prop} (hT : ∀ j, T' j → T j) : Logs w base T' l := ⟨h.each, h.apart, fun i hi j hj ht => h.free i hi j hj (hT j ht), fun j hj => h.old j (hT j hj)⟩
/-- One more log. -/
theorem snoc (h : Logs w base T l) (hb : Below w.heap.size w w') {a : LgAt} (ha : LogIs w' base a.p a.m a.hv a.wv) (hn : ∀ j, a.mine j → w.heap.size ≤ j) : Logs w' base T (l ++ [a]) := by
  refine ⟨fun i hi => ?_, fun i hi k hk hik j h1 h2 => ?_, fun i hi j h1 h2 => ?_, fun j hj => Nat.lt_of_lt_of_le (h.old j hj) hb.size⟩
  · rw [List.getElem_append]
    split
    · exact (h.each i (by assumption)).below hb
    · rw [List.getElem_singleton]; exact ha
  · rw [List.getElem_append] at h1 h2
    split at h1 <;> split at h2
    · exact h.apart i (by assumption) k (by assumption) hik j h1 h2
    · rw [List.getElem_singleton] at h2
      have := h.mine_lt (by assumption) h1
      have := hn j h2
      omega
    · rw [List.getElem_singleton] at h1
      have := h.mine_lt (by assumption) h2
      have := hn j h1
      omega
    · rw [List.length_append, List.length_singleton] at hi hk
      omega
  · rw [List.getElem_append] at h1
    split at h1
    · exact h.free i (by assumption) j h1 h2
    · rw [List.getElem_singleton] at h1
      have := hn j h1
      have := h.old j h2
      omega
/-- One of them changed, within what it has and what is new. -/
theorem set (h : Logs w base T l) {i : Nat} (hi : i < l.length) {S : Nat → Prop} (ho : Only S w w') (hS : ∀ j, S j → l[i].mine j) {a : LgAt} (ha : LogIs w' base a.p a.m a.hv a.wv) (hn : ∀ j, a.mine j → l[i].mine j ∨ w.heap.size ≤ j) : Logs w' base T (l.set i a) := by
  have hl : (l.set i a).length = l.length := by simp
  refine ⟨fun k hk => ?_, fun k hk q hq hkq j h1 h2 => ?_, fun k hk j h1 h2 => ?_, fun j hj => Nat.lt_of_lt_of_le (h.old j hj) ho.size⟩
  · rw [Lg.set_get]
    by_cases e : i = k
    · subst e; rw [if_pos rfl]; exact ha
    · rw [if_neg e]
      exact (h.each k (by omega)).only ho fun j hj hs => h.apart i hi k (by omega) e j (hS j hs) hj
  · rw [Lg.set_get] at h1 h2
    by_cases e : i = k
    · subst e
      rw [if_pos rfl] at h1; rw [if_neg hkq] at h2
      rcases hn j h1 with h3 | h3
      · exact h.apart i hi q (by omega) hkq j h3 h2
      · have := h.mine_lt (by omega) h2; omega
    · rw [if_neg e] at h1
      by_cases e2 : i = q
      · subst e2
        rw [if_pos rfl] at h2
        rcases hn j h2 with h3 | h3
        · exact h.apart k (by omega) i hi hkq j h1 h3
        · have := h.mine_lt (by omega) h1; omega
      · rw [if_neg e2] at h2
        exact h.apart k (by omega) q (by omega) hkq j h1 h2
  · rw [Lg.set_get] at h1
    by_cases e : i = k
    · subst e
      rw [if_pos rfl] at h1
      rcases hn j h1 with h3 | h3
      · exact h.free i hi j h3 h2
      · have := h.old j h2; omega
    · rw [if_neg e] at h1
      exact h.free k (by omega) j h1 h2
end Logs
/-- The blocks of any of them. -/
def LgAll (l : List LgAt) (j : Nat) : Prop := ∃ i, ∃ h : i < l.length, l[i].mine j
theorem lgAll_set {w : World} {l : List LgAt} {i : Nat} (hi : i < l.length) {a : LgAt} (hn : ∀ j, a.mine j → l[i].mine j ∨ w.heap.size ≤ j) : ∀ j, LgAll (l.set i a) j → LgAll l j ∨ w.heap.size ≤ j := by
  rintro j ⟨k, hk, hj⟩
  rw [Lg.set_get] at hj
  by_cases e : i = k
  · subst e
    rw [if_pos rfl] at hj
    rcases hn j hj with h | h
    · exact .inl ⟨i, hi, h⟩
    · exact .inr h
  · rw [if_neg e] at hj
    exact .inl ⟨k, by simpa using hk, hj⟩
/-- One of the logs is another one then: the others are as they were, and whatever else was made. -/
def Turned (w : World) (base : Nat) (T : Nat → Prop) (l : List LgAt) (i p : Nat) (m' : Lg) (w' : World) : Prop := ∃ hv' wv', Logs w' base T (l.set i ⟨p, m', hv', wv'⟩) ∧ Only (fun j => ∃ h : i < l.length, l[i].mine j) w w' ∧ (∀ j, LgAll (l.set i ⟨p, m', hv', wv'⟩) j → LgAll l j ∨ w.heap.size ≤ j)
def LocalTo (w : World) (base : Nat) (T : Nat → Prop) (l : List LgAt) (i p : Nat) (m : Lg) (x : WrB) (e : Ending) (w' : World) : Prop :=
  match Lg.local_ m x with
  | .inl c => e = .returned (.tuple #[.agg #[.int .i64 0, .int .i64 0], errV c]) ∧ Below w.heap.size w w'
  | .inr m' => e = .returned (.tuple #[.agg #[.int .i64 (Lg.top m.H + 1), .int .i64 m.rep], .nilIface]) ∧ Turned w base T l i p m' w'
theorem logs_local {w : World} {base : Nat} {T : Nat → Prop} {l : List LgAt} (hL : Laid w) (h : Logs w base T l) {i : Nat} (hi : i < l.length) (hok : l[i].m.Ok) (x : WrB) :
    Calls Tryd.prog 15 #[.pointer (some ⟨l[i].p, 0, none⟩), .agg (wrBCells x).toArray] w (LocalTo w base T l i l[i].p l[i].m x) := by
  refine (log_local base l[i].p l[i].m l[i].hv l[i].wv x w hL (h.each i hi) hok.have_ hok.len hok.rep0 hok.rep1).mono fun e w' hr => ?_
  unfold LocalRet at hr
  unfold LocalTo
  cases hm : Lg.local_ l[i].m x with
  | inl c => rw [hm] at hr; exact hr
  | inr m' =>
    rw [hm] at hr
    obtain ⟨h1, hv', wv', h2, h3, h4⟩ := hr
    have hS : ∀ j, (j = l[i].p ∨ l[i].wv.ownBlock = some j) → l[i].mine j := fun j hj => by
      rcases hj with hj | hj
      · exact .inl hj
      · exact .inr (.inr hj)
    exact ⟨h1, hv', wv', h.set hi h3 hS h2 h4, h3.mono fun k _ hk => ⟨hi, hS k hk⟩, lgAll_set hi h4⟩
def AcceptTo (w : World) (base : Nat) (T : Nat → Prop) (l : List LgAt) (i p : Nat) (m : Lg) (f h : List Vec.Entry) (ws : List WrB) (e : Ending) (w' : World) : Prop :=
  match Lg.accept m f h ws with
  | .inl x => (∃ v, e = .returned (.tuple #[.int .i64 0, v]) ∧ ErrRep w' v x) ∧ Below w.heap.size w w'
  | .inr (m', n) => e = .returned (.tuple #[.int .i64 (n : Nat), .nilIface]) ∧ Turned w base T l i p m' w'
theorem logs_accept {w : World} {base : Nat} {T : Nat → Prop} {l : List LgAt} (hL : Laid w) (h : Logs w base T l) {i : Nat} (hi : i < l.length) (hok : l[i].m.Ok) (ha : Lg.Asc l[i].m.W) {vf vh vw : Value} {f g : List Vec.Entry} {ws : List WrB}
    (hf : VecIs w vf f) (hg : VecIs w vh g) (hw : WrsIs w vw ws) (hlf : f.length ≤ 140737488351232) (hlg : g.length ≤ 140737488351232) (hlw : ws.length ≤ 140737488351232) :
    Calls Tryd.prog 10 #[.pointer (some ⟨l[i].p, 0, none⟩), .agg #[vf, vh, vw]] w (AcceptTo w base T l i l[i].p l[i].m f g ws) := by
  refine (log_accept base l[i].p l[i].m l[i].hv l[i].wv vf vh vw f g ws w hL (h.each i hi) hok ha hf hg hw hlf hlg hlw).mono fun e w' hr => ?_
  unfold AcceptRet at hr
  unfold AcceptTo
  cases hm : Lg.accept l[i].m f g ws with
  | inl c => rw [hm] at hr; exact hr
  | inr mn =>
    obtain ⟨m', n⟩ := mn
    rw [hm] at hr
    obtain ⟨h1, hv', wv', h2, h3, h4⟩ := hr
    have hS : ∀ j, j = l[i].p → l[i].mine j := fun j hj => .inl hj
    exact ⟨h1, hv', wv', h.set hi h3 hS h2 h4, h3.mono fun k _ hk => ⟨hi, hS k hk⟩, lgAll_set hi h4⟩
theorem Turned.below {w w' : World} {base : Nat} {T : Nat → Prop} {l : List LgAt} {i p : Nat} {m' : Lg} (h : Logs w base T l) (hb : base ≤ w.heap.size) (ht : Turned w base T l i p m' w') : Below base w w' := by
  obtain ⟨-, -, -, ho, -⟩ := ht
  exact ho.below (fun j ⟨hi, hj⟩ => h.mine_lo hi hj) hb
theorem logs_local_ok {w : World} {base : Nat} {T : Nat → Prop} {l : List LgAt} (hL : Laid w) (h : Logs w base T l) {i : Nat} (hi : i < l.length) (p : Nat) (hp : l[i].p = p) (m m' : Lg) (hm : l[i].m = m) (hok : m.Ok) (x : WrB) (t r : Int) (hl : Lg.local_ m x = .inr m') (ht : Lg.top m.H + 1 = t) (hr : m.rep = r) :
    Calls Tryd.prog 15 #[.pointer (some ⟨p, 0, none⟩), .agg (wrBCells x).toArray] w fun e w' => e = .returned (.tuple #[.agg #[.int .i64 t, .int .i64 r], .nilIface]) ∧ Turned w base T l i p m' w' := by
  subst hp hm ht hr
  refine (logs_local hL h hi hok x).mono fun e w' hr => ?_
  unfold LocalTo at hr
  rw [hl] at hr
  exact hr
theorem logs_accept_ok {w : World} {base : Nat} {T : Nat → Prop} {l : List LgAt} (hL : Laid w) (h : Logs w base T l) {i : Nat} (hi : i < l.length) (p : Nat) (hp : l[i].p = p) (m m' : Lg) (hm : l[i].m = m) (hok : m.Ok) (ha : Lg.Asc m.W) {vf vh vw : Value} {f g : List Vec.Entry} {ws : List WrB}
    (hf : VecIs w vf f) (hg : VecIs w vh g) (hw : WrsIs w vw ws) (hlf : f.length ≤ 140737488351232) (hlg : g.length ≤ 140737488351232) (hlw : ws.length ≤ 140737488351232) (n : Nat) (hacc : Lg.accept m f g ws = .inr (m', n)) :
    Calls Tryd.prog 10 #[.pointer (some ⟨p, 0, none⟩), .agg #[vf, vh, vw]] w fun e w' => e = .returned (.tuple #[.int .i64 n, .nilIface]) ∧ Turned w base T l i p m' w' := by
  subst hp hm
  refine (logs_accept hL h hi hok ha hf hg hw hlf hlg hlw).mono fun e w' hr => ?_
  unfold AcceptTo at hr
  rw [hacc] at hr
  exact hr
theorem logs_since_ok {w : World} {base : Nat} {T : Nat → Prop} {l : List LgAt} (hL : Laid w) (h : Logs w base T l) {i : Nat} (hi : i < l.length) (p : Nat) (hp : l[i].p = p) (m : Lg) (hm : l[i].m = m) (hok : m.Ok) {fv : Value} {f : List Vec.Entry} (hf : VecIs w fv f) (hlf : f.length ≤ 140737488351232) (hr : Vec.right f = .ok) (hc : Vec.Covers m.H f) (g : List Vec.Entry) (ws : List WrB) (hg : Lg.sentHave m f = g) (hw : Lg.sent m f = ws) :
    Calls Tryd.prog 18 #[.pointer (some ⟨p, 0, none⟩), fv] w fun e w' => Sent w f g ws e w' ∧ Below w.heap.size w w' := by
  subst hp hm hg hw
  refine (log_since base l[i].p l[i].m l[i].hv l[i].wv fv f w hL (h.each i hi) hok hf hlf).mono fun e w' hs => ?_
  unfold SinceRet at hs
  rw [if_neg (by simp [hr]), if_neg (by simp [(Lg.covB hok.have_ hr).2 hc])] at hs
  exact hs
end Go.Proofs.YtdbpiabcpjgblaaDoor
