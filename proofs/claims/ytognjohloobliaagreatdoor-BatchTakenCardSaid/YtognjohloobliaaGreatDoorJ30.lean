/- Several logs in one memory, beside what else was made: what each call on one of them leaves of the others. -/
import Derived.Test.YtognjohloobliaaGreatDoorJ27
import Derived.Test.YtognjohloobliaaGreatDoorJ28
import Derived.Test.YtognjohloobliaaGreatDoorJ29
import Derived.Test.YtognjohloobliaaGreatDoorJ18
import Derived.Test.YtognjohloobliaaGreatDoorJ19
import Derived.Test.YtognjohloobliaaGreatDoorJ15
namespace Go.Proofs.YtognjohloobliaaGreatDoor
open Go.RowKit
set_option linter.unusedVariables false
set_option linter.unusedSimpArgs false
/-- A log, and where it lies. -/
structure LgAt where
 p : Nat
 m : Lg
 hv : Value
 wv : Value
def LgAt.mine (a : LgAt) (j : Nat) : Prop := LMine a.p a.hv a.wv j
/-- Logs, and a set of blocks that none of them has. -/
structure Logs (w : World) (base : Nat) (T : Nat → Prop) (l : List LgAt) : Prop where
 each : ∀ i (h : i < l.length), LogIs w base l[i].p l[i].m l[i].hv l[i].wv
 apart : ∀ i (hi : i < l.length) k (hk : k < l.length), i ≠ k → ∀ j, l[i].mine j → ¬ l[k].mine j
 free : ∀ i (h : i < l.length) j, l[i].mine j → ¬ T j
 old : ∀ j, T j → j < w.heap.size
namespace Logs
variable {w w' : World} {base : Nat} {T : Nat → Prop} {l : List LgAt}
theorem nil (w : World) (base : Nat) : Logs w base (fun _ => False) [] := ⟨fun i h => absurd h (by simp), fun i h => absurd h (by simp), fun i h => absurd h (by simp), fun j h => h.elim⟩
theorem mine_lt (h : Logs w base T l) {i : Nat} (hi : i < l.length) {j : Nat} (hj : l[i].mine j) : j < w.heap.size := (h.each i hi).mine_lt hj
theorem mine_lo (h : Logs w base T l) {i : Nat} (hi : i < l.length) {j : Nat} (hj : l[i].mine j) : base ≤ j := (h.each i hi).mine_lo hj
theorem below (h : Logs w base T l) (hb : Below w.heap.size w w') : Logs w' base T l :=
 ⟨fun i hi => (h.each i hi).below hb, h.apart, h.free, fun j hj => Nat.lt_of_lt_of_le (h.old j hj) hb.size⟩
/-- More that none of them has. -/
theorem more (h : Logs w base T l) (hb : Below w.heap.size w w') {T' : Nat → Prop} (hT : ∀ j, T' j → T j ∨ w.heap.size ≤ j) (hl : ∀ j, T' j → j < w'.heap.size) : Logs w' base T' l :=
 ⟨fun i hi => (h.each i hi).below hb, h.apart, fun i hi j hj ht => by
  rcases hT j ht with h1 | h1
  ·exact h.free i hi j hj h1
  ·have := h.mine_lt hi hj; omega, hl⟩
/-- One more log. -/
theorem snoc (h : Logs w base T l) (hb : Below w.heap.size w w') {a : LgAt} (ha : LogIs w' base a.p a.m a.hv a.wv) (hn : ∀ j, a.mine j → w.heap.size ≤ j) : Logs w' base T (l ++ [a]) := by
 refine ⟨fun i hi => ?_, fun i hi k hk hik j h1 h2 => ?_, fun i hi j h1 h2 => ?_, fun j hj => Nat.lt_of_lt_of_le (h.old j hj) hb.size⟩
 ·rw [List.getElem_append]
  split
  ·exact (h.each i (by assumption)).below hb
  ·rw [List.getElem_singleton]; exact ha
 ·rw [List.getElem_append] at h1 h2
  split at h1 <;> split at h2
  ·exact h.apart i (by assumption) k (by assumption) hik j h1 h2
  ·rw [List.getElem_singleton] at h2
   have := h.mine_lt (by assumption) h1
   have := hn j h2
   omega
  ·rw [List.getElem_singleton] at h1
   have := h.mine_lt (by assumption) h2
   have := hn j h1
   omega
  ·rw [List.length_append, List.length_singleton] at hi hk
   omega
 ·rw [List.getElem_append] at h1
  split at h1
  ·exact h.free i (by assumption) j h1 h2
  ·rw [List.getElem_singleton] at h1
   have := hn j h1
   have := h.old j h2
   omega
/-- One of them changed, within what it has and what is new. -/
theorem set (h : Logs w base T l) {i : Nat} (hi : i < l.length) {S : Nat → Prop} (ho : Only S w w') (hS : ∀ j, S j → l[i].mine j) {a : LgAt} (ha : LogIs w' base a.p a.m a.hv a.wv) (hn : ∀ j, a.mine j → l[i].mine j ∨ w.heap.size ≤ j) : Logs w' base T (l.set i a) := by
 have hl : (l.set i a).length = l.length := by simp
 refine ⟨fun k hk => ?_, fun k hk q hq hkq j h1 h2 => ?_, fun k hk j h1 h2 => ?_, fun j hj => Nat.lt_of_lt_of_le (h.old j hj) ho.size⟩
 ·rw [Lg.set_get]
  by_cases e : i = k
  ·subst e; rw [if_pos rfl]; exact ha
  ·rw [if_neg e]
   exact (h.each k (by omega)).only ho fun j hj hs => h.apart i hi k (by omega) e j (hS j hs) hj
 ·rw [Lg.set_get] at h1 h2
  by_cases e : i = k
  ·subst e
   rw [if_pos rfl] at h1; rw [if_neg hkq] at h2
   rcases hn j h1 with h3 | h3
   ·exact h.apart i hi q (by omega) hkq j h3 h2
   ·have := h.mine_lt (by omega) h2; omega
  ·rw [if_neg e] at h1
   by_cases e2 : i = q
   ·subst e2
    rw [if_pos rfl] at h2
    rcases hn j h2 with h3 | h3
    ·exact h.apart k (by omega) i hi hkq j h1 h3
    ·have := h.mine_lt (by omega) h1; omega
   ·rw [if_neg e2] at h2
    exact h.apart k (by omega) q (by omega) hkq j h1 h2
 ·rw [Lg.set_get] at h1
  by_cases e : i = k
  ·subst e
   rw [if_pos rfl] at h1
   rcases hn j h1 with h3 | h3
   ·exact h.free i hi j h3 h2
   ·have := h.old j h2; omega
  ·rw [if_neg e] at h1
   exact h.free k (by omega) j h1 h2
end Logs
/-- The blocks of any of them. -/
def LgAll (l : List LgAt) (j : Nat) : Prop := ∃ i, ∃ h : i < l.length, l[i].mine j
theorem lgAll_set {w : World} {l : List LgAt} {i : Nat} (hi : i < l.length) {a : LgAt} (hn : ∀ j, a.mine j → l[i].mine j ∨ w.heap.size ≤ j) : ∀ j, LgAll (l.set i a) j → LgAll l j ∨ w.heap.size ≤ j := by
 rintro j ⟨k, hk, hj⟩
 rw [Lg.set_get] at hj
 by_cases e : i = k
 ·subst e
  rw [if_pos rfl] at hj
  rcases hn j hj with h | h
  ·exact .inl ⟨i, hi, h⟩
  ·exact .inr h
 ·rw [if_neg e] at hj
  exact .inl ⟨k, by simpa using hk, hj⟩
/-- One of the logs is another one then: the others are as they were, and whatever else was made. -/
def Turned (w : World) (base : Nat) (T : Nat → Prop) (l : List LgAt) (i p : Nat) (m' : Lg) (w' : World) : Prop := ∃ hv' wv', Logs w' base T (l.set i ⟨p, m', hv', wv'⟩) ∧ Only (fun j => ∃ h : i < l.length, l[i].mine j) w w' ∧ (∀ j, LgAll (l.set i ⟨p, m', hv', wv'⟩) j → LgAll l j ∨ w.heap.size ≤ j)
def LocalTo (w : World) (base : Nat) (T : Nat → Prop) (l : List LgAt) (i p : Nat) (m : Lg) (x : WrB) (e : Ending) (w' : World) : Prop :=
 match Lg.local_ m x with
 | .inl c => e = .returned (.tuple #[.agg #[.int .i64 0, .int .i64 0], errV c]) ∧ Below w.heap.size w w'
 | .inr m' => e = .returned (.tuple #[.agg #[.int .i64 (Lg.top m.H + 1), .int .i64 m.rep], .nilIface]) ∧ Turned w base T l i p m' w'
theorem logs_local {w : World} {base : Nat} {T : Nat → Prop} {l : List LgAt} (hL : Laid w) (h : Logs w base T l) {i : Nat} (hi : i < l.length) (hok : l[i].m.Ok) (x : WrB) :
  Calls Tryz.prog 30 #[.pointer (some ⟨l[i].p, 0, none⟩), .agg (wrBCells x).toArray] w (LocalTo w base T l i l[i].p l[i].m x) := by
 refine (log_local base l[i].p l[i].m l[i].hv l[i].wv x w hL (h.each i hi) hok.have_ hok.len hok.rep0 hok.rep1).mono fun e w' hr => ?_
 unfold LocalRet at hr
 unfold LocalTo
 cases hm : Lg.local_ l[i].m x with
 | inl c => rw [hm] at hr; exact hr
 | inr m' =>
  rw [hm] at hr
  obtain ⟨h1, hv', wv', h2, h3, h4⟩ := hr
  have hS : ∀ j, (j = l[i].p ∨ l[i].wv.ownBlock = some j) → l[i].mine j := fun j hj => by
   rcases hj with hj | hj
   ·exact .inl hj
   ·exact .inr (.inr hj)
  exact ⟨h1, hv', wv', h.set hi h3 hS h2 h4, h3.mono fun k _ hk => ⟨hi, hS k hk⟩, lgAll_set hi h4⟩
def AcceptTo (w : World) (base : Nat) (T : Nat → Prop) (l : List LgAt) (i p : Nat) (m : Lg) (f h : List Vec.Entry) (ws : List WrB) (e : Ending) (w' : World) : Prop :=
 match Lg.accept m f h ws with
 | .inl x => (∃ v, e = .returned (.tuple #[.int .i64 0, v]) ∧ ErrRep w' v x) ∧ Below w.heap.size w w'
 | .inr (m', n) => e = .returned (.tuple #[.int .i64 (n : Nat), .nilIface]) ∧ Turned w base T l i p m' w'
theorem logs_accept {w : World} {base : Nat} {T : Nat → Prop} {l : List LgAt} (hL : Laid w) (h : Logs w base T l) {i : Nat} (hi : i < l.length) (hok : l[i].m.Ok) (ha : Lg.Asc l[i].m.W) {vf vh vw : Value} {f g : List Vec.Entry} {ws : List WrB}
  (hf : VecIs w vf f) (hg : VecIs w vh g) (hw : WrsIs w vw ws) (hlf : f.length ≤ 140737488351232) (hlg : g.length ≤ 140737488351232) (hlw : ws.length ≤ 140737488351232) :
  Calls Tryz.prog 16 #[.pointer (some ⟨l[i].p, 0, none⟩), .agg #[vf, vh, vw]] w (AcceptTo w base T l i l[i].p l[i].m f g ws) := by
 refine (log_accept base l[i].p l[i].m l[i].hv l[i].wv vf vh vw f g ws w hL (h.each i hi) hok ha hf hg hw hlf hlg hlw).mono fun e w' hr => ?_
 unfold AcceptRet at hr
 unfold AcceptTo
 cases hm : Lg.accept l[i].m f g ws with
 | inl c => rw [hm] at hr; exact hr
 | inr mn =>
  obtain ⟨m', n⟩ := mn
  rw [hm] at hr
  obtain ⟨h1, hv', wv', h2, h3, h4⟩ := hr
  have hS : ∀ j, j = l[i].p → l[i].mine j := fun j hj => .inl hj
  exact ⟨h1, hv', wv', h.set hi h3 hS h2 h4, h3.mono fun k _ hk => ⟨hi, hS k hk⟩, lgAll_set hi h4⟩
theorem Turned.below {w w' : World} {base : Nat} {T : Nat → Prop} {l : List LgAt} {i p : Nat} {m' : Lg} (h : Logs w base T l) (hb : base ≤ w.heap.size) (ht : Turned w base T l i p m' w') : Below base w w' := by
 obtain ⟨-, -, -, ho, -⟩ := ht
 exact ho.below (fun j ⟨hi, hj⟩ => h.mine_lo hi hj) hb
theorem logs_local_ok {w : World} {base : Nat} {T : Nat → Prop} {l : List LgAt} (hL : Laid w) (h : Logs w base T l) {i : Nat} (hi : i < l.length) (p : Nat) (hp : l[i].p = p) (m m' : Lg) (hm : l[i].m = m) (hok : m.Ok) (x : WrB) (t r : Int) (hl : Lg.local_ m x = .inr m') (ht : Lg.top m.H + 1 = t) (hr : m.rep = r) :
  Calls Tryz.prog 30 #[.pointer (some ⟨p, 0, none⟩), .agg (wrBCells x).toArray] w fun e w' => e = .returned (.tuple #[.agg #[.int .i64 t, .int .i64 r], .nilIface]) ∧ Turned w base T l i p m' w' := by
 subst hp hm ht hr
 refine (logs_local hL h hi hok x).mono fun e w' hr => ?_
 unfold LocalTo at hr
 rw [hl] at hr
 exact hr
theorem logs_accept_ok {w : World} {base : Nat} {T : Nat → Prop} {l : List LgAt} (hL : Laid w) (h : Logs w base T l) {i : Nat} (hi : i < l.length) (p : Nat) (hp : l[i].p = p) (m m' : Lg) (hm : l[i].m = m) (hok : m.Ok) (ha : Lg.Asc m.W) {vf vh vw : Value} {f g : List Vec.Entry} {ws : List WrB}
  (hf : VecIs w vf f) (hg : VecIs w vh g) (hw : WrsIs w vw ws) (hlf : f.length ≤ 140737488351232) (hlg : g.length ≤ 140737488351232) (hlw : ws.length ≤ 140737488351232) (n : Nat) (hacc : Lg.accept m f g ws = .inr (m', n)) :
  Calls Tryz.prog 16 #[.pointer (some ⟨p, 0, none⟩), .agg #[vf, vh, vw]] w fun e w' => e = .returned (.tuple #[.int .i64 n, .nilIface]) ∧ Turned w base T l i p m' w' := by
 subst hp hm
 refine (logs_accept hL h hi hok ha hf hg hw hlf hlg hlw).mono fun e w' hr => ?_
 unfold AcceptTo at hr
 rw [hacc] at hr
 exact hr
theorem logs_since_ok {w : World} {base : Nat} {T : Nat → Prop} {l : List LgAt} (hL : Laid w) (h : Logs w base T l) {i : Nat} (hi : i < l.length) (p : Nat) (hp : l[i].p = p) (m : Lg) (hm : l[i].m = m) (hok : m.Ok) {fv : Value} {f : List Vec.Entry} (hf : VecIs w fv f) (hlf : f.length ≤ 140737488351232) (hr : Vec.right f = .ok) (hc : Vec.Covers m.H f) (g : List Vec.Entry) (ws : List WrB) (hg : Lg.sentHave m f = g) (hw : Lg.sent m f = ws) :
  Calls Tryz.prog 27 #[.pointer (some ⟨p, 0, none⟩), fv] w fun e w' => Sent w f g ws e w' ∧ Below w.heap.size w w' := by
 subst hp hm hg hw
 refine (log_since base l[i].p l[i].m l[i].hv l[i].wv fv f w hL (h.each i hi) hok hf hlf).mono fun e w' hs => ?_
 unfold SinceRet at hs
 rw [if_neg (by simp [hr]), if_neg (by simp [(Lg.covB hok.have_ hr).2 hc])] at hs
 exact hs
end Go.Proofs.YtognjohloobliaaGreatDoor
/- The walk of keep.logged: a fact. -/
namespace Go.Proofs.YtognjohloobliaaGreatDoor
open Go.RowKit
set_option linter.unusedVariables false
set_option linter.unusedSimpArgs false
namespace Logged
def e0 : ByteArray := ⟨#[]⟩
def kk : ByteArray := ⟨#[107]⟩
def vv : ByteArray := ⟨#[118]⟩
def xp : WrB := ⟨0, 0, 1, kk, vv, 0⟩
def xd : WrB := ⟨0, 0, 2, kk, e0, 0⟩
def w1 : WrB := ⟨1, 1, 1, kk, vv, 0⟩
def w2 : WrB := ⟨2, 2, 2, kk, e0, 0⟩
def a0 : Lg := ⟨1, [], []⟩
def b0 : Lg := ⟨2, [], []⟩
def a1 : Lg := ⟨1, [⟨1, 1⟩], [w1]⟩
def b1 : Lg := ⟨2, [⟨1, 1⟩], [w1]⟩
def b2 : Lg := ⟨2, [⟨1, 1⟩, ⟨2, 2⟩], [w1, w2]⟩
theorem r1 : Right_ w1 := by decide
theorem r2 : Right_ w2 := by decide
theorem ok_new (r : Int) (h0 : 0 ≤ r) (h1 : r ≤ 200) : Lg.Ok ⟨r, [], []⟩ := ⟨(Vec.right_iff _).2 { len := by simp, each := by simp, sorted := List.Pairwise.nil }, by simp, h0, h1, fun x hx => absurd hx (by simp), fun x hx => absurd hx (by simp)⟩
theorem la : Lg.local_ a0 xp = .inr a1 := by
 rw [Lg.local_ok (m := a0) (ok_new 1 (by omega) (by omega)) (by decide) (show Right_ (Lg.mine_ a0 xp) from r1) (by decide) (by rw [show a0.H = [] from rfl, Vec.merge_nil]; decide)]
 rw [show a0.H = [] from rfl, Vec.merge_nil]; rfl
theorem oka1 : a1.Ok := (Lg.local_inr (ok_new 1 (by omega) (by omega)) List.Pairwise.nil la).2.1
theorem asca1 : Lg.Asc a1.W := (Lg.local_inr (ok_new 1 (by omega) (by omega)) List.Pairwise.nil la).2.2.1
theorem fineH : Vec.right [⟨1, 1⟩] = .ok := oka1.have_
theorem ac : Lg.accept b0 [] [⟨1, 1⟩] [w1] = .inr (b1, 1) := by
 have hb : Bat.right [] [⟨1, 1⟩] ([w1].map WrB.plain) = .ok := Lg.sent_fine (s := a1) (f := []) oka1 asca1 (by rfl) (fun r => by
  have := Vec.of_pos ((Vec.right_iff _).1 fineH).pos r
  exact this)
 obtain ⟨W', n, e, -, ha, hm, -, -, -, hn⟩ := Lg.accept_good (m := b0) (ok_new 2 (by omega) (by omega)) List.Pairwise.nil hb (fun r => Int.le_refl _) (fun y _ x hx => absurd hx (by simp [b0])) (by rw [show b0.H = [] from rfl, Vec.merge_nil]; decide) (fun W' h1 h2 => by
  have := Lg.len_le h1 (b := [w1]) fun x hx => by
   rcases (h2 x).1 hx with h | h
   ·exact absurd h (by simp [b0])
   ·exact h
  have h3 : ([w1] : List WrB).length = 1 := rfl
  omega)
 have hW : W' = [w1] := Lg.asc_ext ha asca1 fun x => by rw [hm]; simp [b0, a1]
 have hn : n = 1 := hn fun y _ hy => absurd hy (by simp [b0])
 subst hW; subst hn
 rw [e, show b0.H = [] from rfl, Vec.merge_nil]; rfl
theorem okb1 : b1.Ok := { have_ := fineH, len := by decide, rep0 := by decide, rep1 := by decide, right_ := oka1.right_, known := oka1.known }
theorem lb : Lg.local_ b1 xd = .inr b2 := by
 have hm : Vec.merge b1.H [⟨b1.rep, Lg.top b1.H + 1⟩] = [⟨1, 1⟩, ⟨2, 2⟩] := by
  show Vec.merge [⟨1, 1⟩] [⟨2, 2⟩] = _
  rw [Vec.merge_lt (by decide), Vec.merge_nil]
 rw [Lg.local_ok okb1 (by decide) (show Right_ (Lg.mine_ b1 xd) from r2) (by decide) (by rw [hm]; decide), hm]; rfl
theorem okb2 : b2.Ok := (Lg.local_inr okb1 asca1 lb).2.1
theorem cells_a {L : List St.Cel} (h : St.IsCells L (St.at_ (a1.W.map WrB.sw))) : L.length = 1 := by
 have hk : St.at_ (a1.W.map WrB.sw) kk = ⟨true, vv, 0, []⟩ := by rfl
 have : L = [⟨kk, ⟨true, vv, 0, []⟩⟩] := h.unique ⟨List.pairwise_singleton _ _, fun c => by
  constructor
  ·intro hc; rw [List.mem_singleton] at hc; subst hc; exact ⟨by decide, hk⟩
  ·rintro ⟨h1, h2⟩
   by_cases hc : c.key = kk
   ·rw [hc, hk] at h2
    obtain ⟨k, v⟩ := c
    simp only at hc h2
    subst hc; subst h2; simp
   ·rw [St.at_none _ _ fun x hx e => by
     simp only [a1, List.map_cons, List.map_nil, List.mem_singleton] at hx
     subst hx; exact hc e.symm] at h2
    rw [← h2] at h1; cases h1⟩
 rw [this]; rfl
theorem cells_b {L : List St.Cel} (h : St.IsCells L (St.at_ (b2.W.map WrB.sw))) : L.length = 0 := by
 have : L = [] := h.unique ⟨List.Pairwise.nil, fun c => by
  constructor
  ·intro hc; cases hc
  ·rintro ⟨h1, h2⟩
   by_cases hc : c.key = kk
   ·rw [hc, show St.at_ (b2.W.map WrB.sw) kk = St.no by rfl] at h2
    rw [← h2] at h1; cases h1
   ·rw [St.at_none _ _ fun x hx e => by
     simp only [b2, List.map_cons, List.map_nil, List.mem_cons, List.not_mem_nil, or_false] at hx
     rcases hx with rfl | rfl <;> exact hc e.symm] at h2
    rw [← h2] at h1; cases h1⟩
 rw [this]; rfl
end Logged
set_option maxHeartbeats 8000000 in
set_option maxRecDepth 20000 in
theorem keep_logged (w : World) (hL : Laid w) : Calls Tryz.prog 8 #[] w fun e w' => e = .returned (.bool true) ∧ Below w.heap.size w w' := by
 have hN1 := Lib.hid (fun W => log_new 1 W (by omega) (by omega))
 have hN2 := Lib.hid (fun W => log_new 2 W (by omega) (by omega))
 go_enter Tryz.func8, Tryz.ntmps8
 go_wp2_with fail
 refine (hN1.out _).mono ?_
 rintro _ w1 ⟨p, rfl, hp, hb1⟩
 go_wp2_with fail
 refine (hN2.out _).mono ?_
 rintro _ w2 ⟨q, rfl, hq, hb2⟩
 have hl1 : Logs w1 w.heap.size (fun _ => False) [⟨p, Logged.a0, .slice none 0 0, .slice none 0 0⟩] := (Logs.nil w w.heap.size).snoc (a := ⟨p, Logged.a0, .slice none 0 0, .slice none 0 0⟩) hb1 hp (fun j hj => hp.mine_lo hj)
 have hl2 : Logs w2 w.heap.size (fun _ => False) [⟨p, Logged.a0, .slice none 0 0, .slice none 0 0⟩, ⟨q, Logged.b0, .slice none 0 0, .slice none 0 0⟩] := hl1.snoc (a := ⟨q, Logged.b0, .slice none 0 0, .slice none 0 0⟩) hb2 (hq.base_le hb1.size) (fun j hj => hq.mine_lo hj)
 have hbw2 := bch hb1 hb2
 clear hl1 hb1 hb2 hp hq hN1 hN2
 have hC1 := Lib.hid (logs_local_ok (hL.below hbw2) hl2 (i := 0) (by simp) p rfl Logged.a0 Logged.a1 rfl (Logged.ok_new 1 (by omega) (by omega)) Logged.xp 1 1 Logged.la rfl rfl)
 replace hl2 := Lib.hid hl2
 go_wp2_with fail
 refine hC1.out.mono ?_
 rintro _ w3 ⟨rfl, ht3⟩
 have hbw3 := Lib.hid (hbw2.trans (ht3.below hl2.out hbw2.size))
 obtain ⟨ha, wa, hl3, -, -⟩ := ht3
 have hs3 := hbw3.out.size
 clear hC1 hl2 hbw2
 go_wp2_with fail
 obtain ⟨gx, hgx⟩ : ∃ g, g = w3.heap.size := ⟨_, rfl⟩
 rw [← hgx]
 have hb34 : Below w3.heap.size w3 (w3.alloc (Obj.cells #[.int .i64 1, .int .i64 1] 31)) := by exact blw
 have qx := row_at (w := w3) (g := gx) #[.int .i64 1, .int .i64 1] 31 hgx
 have hl4 : Logs (w3.alloc (Obj.cells #[.int .i64 1, .int .i64 1] 31)) w.heap.size (fun j => j = gx) [⟨p, Logged.a1, ha, wa⟩, ⟨q, Logged.b0, .slice none 0 0, .slice none 0 0⟩] := hl3.more hb34 (fun j hj => .inr (by omega)) (fun j hj => by simp; omega)
 have hbw4 : Below w.heap.size w (w3.alloc (Obj.cells #[.int .i64 1, .int .i64 1] 31)) := bch hbw3.out hb34
 generalize w3.alloc (Obj.cells #[.int .i64 1, .int .i64 1] 31) = w4 at *
 replace hgx := Lib.hid hgx
 clear hl3 hb34 hbw3
 refine (logs_since_ok (hL.below hbw4) hl4 (i := 0) (by simp) p rfl Logged.a1 rfl Logged.oka1 (f := []) (ListIs.nil _ _ _) (by simp) (by rfl) (fun r => Vec.of_pos ((Vec.right_iff _).1 Logged.fineH).pos r) [⟨1, 1⟩] [Logged.w1] (by rfl) (by rfl)).mono ?_
 rintro _ w5 ⟨⟨vf, vh, vw, rfl, hf, hh, hw⟩, hb5⟩
 have hbw5 := bch hbw4 hb5
 have qx5 := qx.below hb5
 have hl5 := hl4.below hb5
 have hVf : VecIs w5 vf [] := ListIs.of_owns hf
 have hVh : VecIs w5 vh [⟨1, 1⟩] := ListIs.of_owns hh
 have hVw : WrsIs w5 vw [Logged.w1] := ListIs.of_owns hw
 obtain ⟨of, cf, rfl⟩ := owns_slice_ hf
 obtain ⟨oh, ch, rfl⟩ := owns_slice_ hh
 obtain ⟨ow, cw, rfl⟩ := owns_slice_ hw
 have hAc := Lib.hid (fun W (hW : Below w5.heap.size w5 W) => logs_accept_ok (hL.below (bch hbw5 hW)) (hl5.below hW) (i := 1) (by simp) q rfl Logged.b0 Logged.b1 rfl (Logged.ok_new 2 (by omega) (by omega)) List.Pairwise.nil (hVf.below hW) (hVh.below hW) (hVw.below hW) (by simp) (by simp) (by simp) 1 Logged.ac)
 clear hf hh hw hVf hVh hVw hb5 hl4 hbw4 qx
 replace hl5 := Lib.hid hl5
 replace qx5 := Lib.hid qx5
 replace hbw5 := Lib.hid hbw5
 go_wp2_with fail
 have hb56 : Below w5.heap.size w5 (w5.alloc (Obj.cells #[.slice of 0 cf, .slice oh 1 ch, .slice ow 1 cw] 25)) := by exact blw
 refine (hAc.out _ hb56).mono ?_
 rintro _ w7 ⟨rfl, ht7⟩
 have hl6 := hl5.out.below hb56
 have hbw7 := (bch hbw5.out hb56).trans (ht7.below hl6 (bch hbw5.out hb56).size)
 obtain ⟨hb', wb', hl7, ho7, -⟩ := ht7
 have qx7 := (qx5.out.below hb56).only ho7 fun ⟨hi, hm⟩ => hl6.free 1 hi gx hm rfl
 clear hl5 qx5 hbw5 hb56 hAc hl6 ho7
 have hLb := Lib.hid (logs_local_ok (hL.below hbw7) hl7 (i := 1) (by simp) q rfl Logged.b1 Logged.b2 rfl Logged.okb1 Logged.xd 2 2 Logged.lb rfl rfl)
 replace hl7 := Lib.hid hl7
 replace hbw7 := Lib.hid hbw7
 replace qx7 := Lib.hid qx7
 go_wp2_with fail
 refine hLb.out.mono ?_
 rintro _ w8 ⟨rfl, ht8⟩
 have hbw8 := hbw7.out.trans (ht8.below hl7.out hbw7.out.size)
 obtain ⟨hb8, wb8, hl8, ho8, -⟩ := ht8
 have qx8 := qx7.out.only ho8 fun ⟨hi, hm⟩ => hl7.out.free 1 hi gx hm rfl
 clear hl7 hbw7 qx7 ho8 hLb
 replace hl8 := Lib.hid hl8
 replace hbw8 := Lib.hid hbw8
 obtain ⟨c0, c1⟩ := qx8.c2
 have hgl := qx8.lt
 clear qx8
 go_wp2_with fail
 have hb89 : Below w8.heap.size w8 (w8.alloc (Obj.cells #[.int .i64 2, .int .i64 2] 31)) := by exact blw
 generalize w8.alloc (Obj.cells #[.int .i64 2, .int .i64 2] 31) = w9 at *
 have hl9 := hl8.out.below hb89
 have hbw9 := bch hbw8.out hb89
 clear hl8 hbw8 hb89 c0 c1 hgl
 have hCb := Lib.hid (log_cells w.heap.size q Logged.b2 hb8 wb8 w9 (hl9.each 1 (by simp)) Logged.okb2.right_ (by decide))
 replace hl9 := Lib.hid hl9
 refine hCb.out.mono ?_
 rintro _ w10 ⟨v10, L10, rfl, hO10, -, hI10, hb10⟩
 have hn10 := Logged.cells_b hI10
 rw [List.length_map] at hn10
 rw [hn10] at hO10
 obtain ⟨o10, c10, rfl⟩ := owns_slice_ hO10
 have hl10 := hl9.out.below hb10
 have hbw10 := bch hbw9 hb10
 clear hCb hO10 hI10 hn10 hb10 hl9 hbw9
 have hCa := Lib.hid (log_cells w.heap.size p Logged.a1 ha wa w10 (hl10.each 0 (by simp)) Logged.oka1.right_ (by decide))
 replace hl10 := Lib.hid hl10
 go_wp2_with fail
 refine hCa.out.mono ?_
 rintro _ w11 ⟨v11, L11, rfl, hO11, -, hI11, hb11⟩
 have hn11 := Logged.cells_a hI11
 rw [List.length_map] at hn11
 rw [hn11] at hO11
 obtain ⟨o11, c11, rfl⟩ := owns_slice_ hO11
 have hl11 := hl10.out.below hb11
 have hbw11 := bch hbw10 hb11
 clear hCa hO11 hI11 hn11 hb11 hl10 hbw10
 have hHb := Lib.hid (log_have w.heap.size q Logged.b2 hb8 wb8 w11 (hl11.each 1 (by simp)) (by decide))
 replace hl11 := Lib.hid hl11
 go_wp2_with fail
 refine hHb.out.mono ?_
 rintro _ w12 ⟨⟨v12, rfl, hO12⟩, hb12⟩
 have hl12 := hl11.out.below hb12
 have hbw12 := bch hbw11 hb12
 have hV12 : VecIs w12 v12 [⟨1, 1⟩, ⟨2, 2⟩] := ListIs.of_owns hO12
 clear hHb hO12 hb12 hl11 hbw11
 have hHa := Lib.hid (log_have w.heap.size p Logged.a1 ha wa w12 (hl12.each 0 (by simp)) (by decide))
 clear hl12
 go_wp2_with fail
 refine hHa.out.mono ?_
 rintro _ w13 ⟨⟨v13, rfl, hO13⟩, hb13⟩
 have hV13 : VecIs w13 v13 [⟨1, 1⟩] := ListIs.of_owns hO13
 have hCv := Lib.hid (vector_covers _ _ _ _ w13 (hV12.below hb13) hV13 (by simp) (by simp))
 have hbw13 := bch hbw12 hb13
 clear hHa hO13 hb13 hbw12 hV13 hV12
 go_wp2_with fail
 refine hCv.out.mono ?_
 rintro _ w14 ⟨rfl, hb14⟩
 rw [show coversB [⟨1, 1⟩, ⟨2, 2⟩] [⟨1, 1⟩] = true from (Lg.covB Logged.okb2.have_ Logged.fineH).2 ((Vec.covers_iff (List.pairwise_singleton _ _) ((Vec.right_iff _).1 Logged.okb2.have_).pos).1 (fun x hx => by rw [List.mem_singleton] at hx; subst hx; decide))]
 go_wp2
 go_ret
 exact ⟨rfl, bch hbw13 hb14⟩
end Go.Proofs.YtognjohloobliaaGreatDoor
/- slices.Equal, vector.Covers and batch.Right of what is one, and right. -/
namespace Go.Proofs.YtognjohloobliaaGreatDoor
open Go.RowKit
set_option linter.unusedVariables false
theorem eq_ent_same (va vb : Value) (a : List Vec.Entry) (w : World) (ha : VecIs w va a) (hb : VecIs w vb a) (hl : a.length ≤ 140737488351232) :
  Calls Tryz.prog 19 #[va, vb] w fun e w' => e = .returned (.bool true) ∧ Below w.heap.size w w' := by
 have h := eq_ent va vb a a w ha hb hl hl
 rwa [decide_eq_true rfl] at h
theorem eq_wrs_same (va vb : Value) (a : List WrB) (w : World) (ha : WrsIs w va a) (hb : WrsIs w vb a) (hl : a.length ≤ 140737488351232) :
  Calls Tryz.prog 17 #[va, vb] w fun e w' => e = .returned (.bool true) ∧ Below w.heap.size w w' := by
 have h := eq_wrs va vb a a w ha hb hl hl
 rwa [decide_eq_true rfl] at h
end Go.Proofs.YtognjohloobliaaGreatDoor
