/- Plain laws of logs that take what others send. -/
import Derived.Test.YtognjohloobliaaGreatDoorK30
namespace Go.Proofs.YtognjohloobliaaGreatDoor
set_option linter.unusedVariables false
set_option linter.unusedSimpArgs false
namespace Lg
/-- Rising, each id once. -/
def Asc (l : List WrB) : Prop := l.Pairwise fun a b => cmpW a b < 0
theorem cmp_refl (x : WrB) : cmpW x x = 0 := cmpW_zero.2 ⟨rfl, rfl⟩
theorem not_lt_self (x : WrB) : ¬ cmpW x x < 0 := by rw [cmp_refl]; omega
theorem lt_asymm {x y : WrB} (h : cmpW x y < 0) : ¬ cmpW y x < 0 := by rw [cmpW_neg] at *; omega
theorem asc_cons {x : WrB} {l : List WrB} : Asc (x :: l) ↔ (∀ y ∈ l, cmpW x y < 0) ∧ Asc l := List.pairwise_cons
theorem asc_ext : ∀ {a b : List WrB}, Asc a → Asc b → (∀ x, x ∈ a ↔ x ∈ b) → a = b
 | [], b, _, _, h => by
  cases b with
  | nil => rfl
  | cons y b => exact absurd ((h y).2 (by simp)) (by simp)
 | x :: a, [], _, _, h => absurd ((h x).1 (by simp)) (by simp)
 | x :: a, y :: b, ha, hb, h => by
  obtain ⟨a1, a2⟩ := asc_cons.1 ha
  obtain ⟨b1, b2⟩ := asc_cons.1 hb
  have hxy : x = y := by
   rcases List.mem_cons.1 ((h x).1 (by simp)) with e | e
   ·exact e
   rcases List.mem_cons.1 ((h y).2 (by simp)) with e2 | e2
   ·exact e2.symm
   exact absurd (a1 y e2) (lt_asymm (b1 x e))
  subst hxy
  rw [asc_ext a2 b2 fun z => ⟨fun hz => ?_, fun hz => ?_⟩]
  ·rcases List.mem_cons.1 ((h z).1 (List.mem_cons_of_mem _ hz)) with e | e
   ·subst e; exact absurd (a1 z hz) (not_lt_self z)
   ·exact e
  ·rcases List.mem_cons.1 ((h z).2 (List.mem_cons_of_mem _ hz)) with e | e
   ·subst e; exact absurd (b1 z hz) (not_lt_self z)
   ·exact e
theorem at_place : ∀ {l : List WrB} (y : WrB), Asc l → Place l y (at_ l y)
 | [], y, _ => ⟨by simp [at_], fun k hk => absurd hk (by simp), fun k hk => absurd hk (by simp)⟩
 | x :: l, y, h => by
  obtain ⟨h1, h2⟩ := asc_cons.1 h
  obtain ⟨p1, p2, p3⟩ := at_place y h2
  by_cases hx : cmpW x y < 0
  ·have e : at_ (x :: l) y = at_ l y + 1 := by
    unfold at_; rw [List.takeWhile_cons_of_pos (by simpa using hx), List.length_cons]
   rw [e]
   refine ⟨by simp only [List.length_cons]; omega, fun k hk hk2 => ?_, fun k hk hk2 => ?_⟩
   ·cases k with
    | zero => exact hx
    | succ k => exact p2 k (by simpa using hk) (by omega)
   ·cases k with
    | zero => omega
    | succ k => exact p3 k (by simpa using hk) (by omega)
  ·have e : at_ (x :: l) y = 0 := by
    unfold at_; rw [List.takeWhile_cons_of_neg (by simpa using hx)]; rfl
   rw [e]
   refine ⟨by omega, fun k hk hk2 => by omega, fun k hk _ => ?_⟩
   cases k with
   | zero => simpa using hx
   | succ k =>
    have hkl : k < l.length := by simpa using hk
    show 0 ≤ cmpW l[k] y
    have := h1 l[k] (List.getElem_mem hkl)
    rw [cmpW_neg] at this hx
    apply Int.not_lt.1
    rw [cmpW_neg]
    omega
theorem find_iff {l : List WrB} {y : WrB} (hs : Asc l) : (∃ h : at_ l y < l.length, cmpW l[at_ l y] y = 0) ↔ ∃ x ∈ l, cmpW x y = 0 := by
 constructor
 ·rintro ⟨h, e⟩; exact ⟨_, List.getElem_mem h, e⟩
 ·rintro ⟨x, hx, e⟩
  obtain ⟨k, hk, rfl⟩ := List.getElem_of_mem hx
  obtain ⟨p1, p2, p3⟩ := at_place y hs
  have hka : at_ l y ≤ k := by
   rcases Nat.lt_or_ge k (at_ l y) with h | h
   ·have := p2 k hk h; omega
   ·exact h
  refine ⟨by omega, ?_⟩
  rcases Nat.lt_or_ge (at_ l y) k with h | h
  ·have h1 := p3 (at_ l y) (by omega) (Nat.le_refl _)
   have h2 := pair_lt hs (by omega) hk h
   have h3 : ¬ cmpW l[at_ l y] y < 0 := by omega
   rw [cmpW_neg] at h2 h3
   rw [cmpW_zero] at e ⊢
   omega
  ·have : at_ l y = k := by omega
   simp only [this]; exact e
theorem put_mem (l : List WrB) (i : Nat) (x y : WrB) : x ∈ l.take i ++ [y] ++ l.drop i ↔ x ∈ l ∨ x = y := by
 rw [List.mem_append, List.mem_append, List.mem_singleton]
 have : x ∈ l ↔ x ∈ l.take i ∨ x ∈ l.drop i := by rw [← List.mem_append, List.take_append_drop]
 rw [this]; constructor <;> (intro h; rcases h with (h | h) | h <;> simp [h])
/-- Of writes that agree with what is there: all are there then; and as many are new as weren't. -/
theorem acc_ok : ∀ (ws : List WrB) {next : List WrB} (i many : Nat), Asc next → (∀ y ∈ ws, ∀ x ∈ next, cmpW x y = 0 → x = y) → ws.Pairwise (fun a b => cmpW a b ≠ 0) →
  ∃ W' n, acc next ws i many = .inr (W', many + n) ∧ Asc W' ∧ (∀ x, x ∈ W' ↔ x ∈ next ∨ x ∈ ws) ∧ W'.length = next.length + n ∧ n ≤ ws.length ∧ ((∀ y ∈ ws, y ∈ next) → n = 0) ∧ ((∀ y ∈ ws, y ∉ next) → n = ws.length)
 | [], next, i, many, hs, _, _ => ⟨next, 0, by simp [acc], hs, by simp, by simp, by simp, by simp, by simp⟩
 | y :: ws, next, i, many, hs, hc, hd => by
  obtain ⟨d1, d2⟩ := List.pairwise_cons.1 hd
  by_cases hf : ∃ h : at_ next y < next.length, cmpW next[at_ next y] y = 0
  ·have hy : next[at_ next y]? = some y := by
    obtain ⟨h1, h2⟩ := hf
    rw [List.getElem?_eq_getElem h1, hc y (by simp) _ (List.getElem_mem h1) h2]
   have hyn : y ∈ next := List.mem_of_getElem? hy
   obtain ⟨W', n, e, hs', hm, hl, hn, h0, h1⟩ := acc_ok ws (i + 1) many hs (fun z hz => hc z (List.mem_cons_of_mem _ hz)) d2
   refine ⟨W', n, ?_, hs', fun x => ?_, hl, by simp only [List.length_cons]; omega, fun h => h0 fun z hz => h z (List.mem_cons_of_mem _ hz), fun h => absurd hyn (h y (by simp))⟩
   ·rw [acc, if_pos hf, if_pos hy]; exact e
   ·rw [hm, List.mem_cons]
    constructor
    ·rintro (h | h) <;> simp [h]
    ·rintro (h | rfl | h)
     ·exact .inl h
     ·exact .inl hyn
     ·exact .inr h
  ·have hyn : y ∉ next := fun h => hf ((find_iff hs).2 ⟨y, h, cmp_refl y⟩)
   have hs2 : Asc (next.take (at_ next y) ++ [y] ++ next.drop (at_ next y)) := put_sorted hs (at_place y hs) hf
   obtain ⟨W', n, e, hs', hm, hl, hn, h0, h1⟩ := acc_ok ws (i + 1) (many + 1) hs2 (fun z hz x hx => by
    rw [put_mem] at hx
    rcases hx with hx | rfl
    ·exact hc z (List.mem_cons_of_mem _ hz) x hx
    ·exact fun e => absurd e (d1 z hz)) d2
   refine ⟨W', n + 1, ?_, hs', fun x => ?_, ?_, by simp only [List.length_cons]; omega, fun h => absurd (h y (by simp)) hyn, fun h => ?_⟩
   ·rw [acc, if_neg hf, e]; congr 2; omega
   ·rw [hm, put_mem, List.mem_cons]
    constructor
    ·rintro ((h | h) | h) <;> simp [h]
    ·rintro (h | h | h) <;> simp [h]
   ·rw [hl]
    have := (at_place y hs).1
    simp only [List.length_append, List.length_take, List.length_drop, List.length_singleton]; omega
   ·rw [h1 fun z hz hzn => ?_]
    ·rfl
    ·rw [put_mem] at hzn
     rcases hzn with hzn | rfl
     ·exact h z (List.mem_cons_of_mem _ hz) hzn
     ·exact d1 z hz (cmp_refl z)
theorem asc_ne {l : List WrB} (h : Asc l) : l.Pairwise (fun a b => cmpW a b ≠ 0) := h.imp fun h => by omega
theorem asc_nodup {l : List WrB} (h : Asc l) : l.Nodup := h.imp fun {a b} h e => by subst e; exact not_lt_self _ h
theorem len_le {a b : List WrB} (h : Asc a) (hs : ∀ x ∈ a, x ∈ b) : a.length ≤ b.length := (asc_nodup h).length_le_of_subset hs
/-- What is joined. -/
theorem joined_of {a b : List Vec.Entry} (ha : Vec.Fine a) (hb : Vec.Fine b) (h : (Vec.merge a b).length ≤ 16) : joined a b = .inr (Vec.merge a b) := by
 unfold joined
 rw [if_neg (by simp [(Vec.right_iff _).2 ha]), if_neg (by simp [(Vec.right_iff _).2 hb]), if_neg (by omega)]
theorem joined_inr {a b l : List Vec.Entry} (h : joined a b = .inr l) : Vec.Fine a ∧ Vec.Fine b ∧ l = Vec.merge a b ∧ l.length ≤ 16 := by
 unfold joined at h
 by_cases h1 : Vec.right a ≠ .ok
 ·rw [if_pos h1] at h; cases h
 rw [if_neg h1] at h
 by_cases h2 : Vec.right b ≠ .ok
 ·rw [if_pos h2] at h; cases h
 rw [if_neg h2] at h
 by_cases h3 : 16 < (Vec.merge a b).length
 ·rw [if_pos h3] at h; cases h
 rw [if_neg h3] at h
 injection h with h
 exact ⟨(Vec.right_iff _).1 (by simpa using h1), (Vec.right_iff _).1 (by simpa using h2), h.symm, by rw [← h]; omega⟩
theorem of_one (r t q : Int) : Vec.of [⟨r, t⟩] q = if r = q then t else 0 := by
 by_cases h : r = q
 ·subst h; rw [if_pos rfl]; exact Vec.of_self
 ·rw [if_neg h, Vec.of_head h]; exact Vec.of_zero fun y hy => absurd hy (by simp)
theorem step_of {H b : List Vec.Entry} {x : WrB} (hH : Vec.Fine H) (hb : Vec.Fine b) (hc : Vec.Covers H b) (hx : Right_ x) (hk : x.t ≤ Vec.of H x.r) (r : Int) : Vec.of (step_ b x) r = max (Vec.of b r) (if x.r = r then x.t else 0) := by
 obtain ⟨hj, -, -⟩ := step_ok hH hb hc hx hk
 obtain ⟨-, h1, h2, -⟩ := joined_inr hj
 rw [h2, Vec.of_merge _ _ hb.sorted h1.sorted hb.pos h1.pos, of_one]
theorem told_has {H f : List Vec.Entry} (hH : Vec.Fine H) (hf : Vec.Fine f) (hc : Vec.Covers H f) : ∀ (l : List WrB), (∀ x ∈ l, Right_ x ∧ x.t ≤ Vec.of H x.r) → Vec.Covers (told f l) f ∧ ∀ x ∈ l, x.t ≤ Vec.of (told f l) x.r := by
 intro l
 induction l generalizing f with
 | nil => exact fun _ => ⟨Vec.covers_refl _, fun x hx => absurd hx (by simp)⟩
 | cons x l ih =>
  intro h
  have hx := h x (by simp)
  obtain ⟨-, h2, h3⟩ := step_ok hH hf hc hx.1 hx.2
  obtain ⟨g1, g2⟩ := ih h2 h3 fun y hy => h y (List.mem_cons_of_mem _ hy)
  have hs := step_of hH hf hc hx.1 hx.2
  refine ⟨Vec.covers_trans g1 fun r => by rw [hs]; omega, fun y hy => ?_⟩
  rcases List.mem_cons.1 hy with rfl | hy
  ·have := g1 y.r
   rw [hs, if_pos rfl] at this
   show y.t ≤ Vec.of (told (step_ f y) l) y.r
   omega
  ·exact g2 y hy
/-- What a log that is right sends is a batch that is right. -/
theorem sent_fine {s : Lg} {f : List Vec.Entry} (hok : s.Ok) (ha : Asc s.W) (hf : Vec.right f = .ok) (hc : Vec.Covers s.H f) : Bat.right f (sentHave s f) ((sent s f).map WrB.plain) = .ok := by
 have hH := (Vec.right_iff _).1 hok.have_
 have hF := (Vec.right_iff _).1 hf
 have hsub : ∀ x ∈ sent s f, x ∈ s.W ∧ new_ f x = true := fun x hx => List.mem_filter.1 (List.mem_of_mem_take hx)
 have hh : Vec.Fine (sentHave s f) ∧ Vec.Covers s.H (sentHave s f) ∧ Vec.Covers (sentHave s f) f ∧ ∀ x ∈ sent s f, x.t ≤ Vec.of (sentHave s f) x.r := by
  by_cases hl : (s.W.filter (new_ f)).length ≤ 60
  ·rw [(sent_all hl).2]
   exact ⟨hH, Vec.covers_refl _, hc, fun x hx => hok.known x (hsub x hx).1⟩
  ·have e : sentHave s f = told f (sent s f) := by unfold sentHave; rw [if_neg hl]
   rw [e]
   obtain ⟨t1, t2⟩ := told_ok hH hF hc (sent s f) fun x hx => ⟨hok.right_ x (hsub x hx).1, hok.known x (hsub x hx).1⟩
   obtain ⟨t3, t4⟩ := told_has hH hF hc (sent s f) fun x hx => ⟨hok.right_ x (hsub x hx).1, hok.known x (hsub x hx).1⟩
   exact ⟨t1, t2, t3, t4⟩
 obtain ⟨h1, h2, h3, h4⟩ := hh
 refine (Bat.right_iff _ _ _).2 ⟨hf, (Vec.right_iff _).2 h1, Bat.covers_iff'.2 ⟨(Vec.right_iff _).2 h1, hf, h3⟩, ?_, ?_, ?_⟩
 ·rw [List.length_map]; unfold sent; rw [List.length_take]; omega
 ·intro x hx
  obtain ⟨y, hy, rfl⟩ := List.mem_map.1 hx
  refine ⟨hok.right_ y (hsub y hy).1, ?_⟩
  have h5 := of_decide_eq_true (hsub y hy).2
  unfold Bat.within
  rw [Bool.and_eq_true, decide_eq_true_eq, decide_eq_true_eq]
  exact ⟨h5, h4 y hy⟩
 ·rw [List.pairwise_map]
  have : Asc (sent s f) := (ha.filter _).sublist (List.take_sublist _ _)
  refine this.imp fun {a b} h => ?_
  rw [cmpW_neg] at h
  exact h
theorem covB {a b : List Vec.Entry} (ha : Vec.right a = .ok) (hb : Vec.right b = .ok) : coversB a b = true ↔ Vec.Covers a b := by
 have : coversB a b = Bat.covers a b := rfl
 rw [this, Bat.covers_iff']
 exact ⟨fun h => h.2.2, fun h => ⟨ha, hb, h⟩⟩
theorem of_merge_ {a b : List Vec.Entry} (ha : Vec.Fine a) (hb : Vec.Fine b) (r : Int) : Vec.of (Vec.merge a b) r = max (Vec.of a r) (Vec.of b r) := Vec.of_merge _ _ ha.sorted hb.sorted ha.pos hb.pos r
/-- A batch that is right, and agrees, is taken. -/
theorem accept_good {m : Lg} {f h : List Vec.Entry} {ws : List WrB} (hm : m.Ok) (ha : Asc m.W) (hb : Bat.right f h (ws.map WrB.plain) = .ok) (hc : Vec.Covers m.H f) (hag : ∀ y ∈ ws, ∀ x ∈ m.W, cmpW x y = 0 → x = y) (hj : (Vec.merge m.H h).length ≤ 16)
  (hl : ∀ W', Asc W' → (∀ x, x ∈ W' ↔ x ∈ m.W ∨ x ∈ ws) → W'.length ≤ 300) :
  ∃ W' n, accept m f h ws = .inr (⟨m.rep, Vec.merge m.H h, W'⟩, n) ∧ Ok ⟨m.rep, Vec.merge m.H h, W'⟩ ∧ Asc W' ∧ (∀ x, x ∈ W' ↔ x ∈ m.W ∨ x ∈ ws) ∧ W'.length = m.W.length + n ∧ n ≤ ws.length ∧ ((∀ y ∈ ws, y ∈ m.W) → n = 0) ∧ ((∀ y ∈ ws, y ∉ m.W) → n = ws.length) := by
 have hB := (Bat.right_iff _ _ _).1 hb
 have hH := (Vec.right_iff _).1 hm.have_
 have hh := (Vec.right_iff _).1 hB.have_
 have hws : Asc ws := by
  have := hB.order
  rw [List.pairwise_map] at this
  refine this.imp fun {a b} h => ?_
  rw [cmpW_neg]; exact h
 obtain ⟨W', n, e, h1, h2, h3, h4, h5, h6⟩ := acc_ok ws 0 0 ha hag (asc_ne hws)
 refine ⟨W', n, ?_, ⟨?_, hl W' h1 h2, hm.rep0, hm.rep1, fun x hx => ?_, fun x hx => ?_⟩, h1, h2, h3, h4, h5, h6⟩
 ·unfold accept
  rw [if_neg (by simp [hb]), if_neg (by simp [(covB hm.have_ hB.from_).2 hc]), joined_of hH hh hj]
  simp only [e]
  rw [if_neg (by have := hl W' h1 h2; omega)]
  simp
 ·exact (Vec.right_iff _).2 (Vec.merge_fine hH hh hj)
 ·rcases (h2 x).1 hx with hx | hx
  ·exact hm.right_ x hx
  ·exact (hB.each _ (List.mem_map_of_mem hx)).1
 ·show x.t ≤ Vec.of (Vec.merge m.H h) x.r
  rw [of_merge_ hH hh]
  rcases (h2 x).1 hx with hx | hx
  ·have : x.t ≤ Vec.of m.H x.r := hm.known x hx
   omega
  ·have := (hB.each _ (List.mem_map_of_mem hx)).2
   unfold Bat.within at this
   rw [Bool.and_eq_true, decide_eq_true_eq, decide_eq_true_eq] at this
   have h8 : x.t ≤ Vec.of h x.r := this.2
   omega
theorem of_top_go : ∀ (H : List Vec.Entry) (t : Int), t ≤ H.foldl (fun t x => max t x.t) t ∧ ∀ x ∈ H, x.t ≤ H.foldl (fun t x => max t x.t) t
 | [], t => ⟨Int.le_refl _, fun x hx => absurd hx (by simp)⟩
 | y :: H, t => by
  obtain ⟨h1, h2⟩ := of_top_go H (max t y.t)
  rw [List.foldl_cons]
  refine ⟨by omega, fun x hx => ?_⟩
  rcases List.mem_cons.1 hx with rfl | hx
  ·omega
  ·exact h2 x hx
theorem of_mem_or (H : List Vec.Entry) (hs : Vec.Sorted H) (r : Int) : Vec.of H r = 0 ∨ ∃ x ∈ H, x.r = r ∧ Vec.of H r = x.t := by
 by_cases h : ∃ x ∈ H, x.r = r
 ·obtain ⟨x, hx, rfl⟩ := h
  exact .inr ⟨x, hx, rfl, Vec.of_mem hs hx⟩
 ·exact .inl (Vec.of_zero fun y hy e => h ⟨y, hy, e⟩)
theorem of_top {H : List Vec.Entry} (hs : Vec.Sorted H) (r : Int) : Vec.of H r ≤ top H := by
 rcases of_mem_or H hs r with h | ⟨x, hx, -, h⟩
 ·rw [h]; exact (of_top_go H 0).1
 ·rw [h]; exact (of_top_go H 0).2 x hx
theorem top_nonneg (H : List Vec.Entry) : 0 ≤ top H := (of_top_go H 0).1
/-- What one writes is there, last of all. -/
theorem local_inr {m m' : Lg} {x : WrB} (hm : m.Ok) (ha : Asc m.W) (h : local_ m x = .inr m') :
  m' = ⟨m.rep, Vec.merge m.H [⟨m.rep, top m.H + 1⟩], m.W ++ [mine_ m x]⟩ ∧ m'.Ok ∧ Asc m'.W ∧ (∀ r, Vec.of m'.H r = max (Vec.of m.H r) (if m.rep = r then top m.H + 1 else 0)) ∧ Right_ (mine_ m x) := by
 unfold local_ at h
 by_cases h1 : top m.H = 1099511627776
 ·rw [if_pos h1] at h; cases h
 rw [if_neg h1] at h
 by_cases h2 : rightC (mine_ m x) ≠ 0
 ·rw [if_pos h2] at h; cases h
 rw [if_neg h2] at h
 by_cases h3 : 300 ≤ m.W.length
 ·rw [if_pos h3] at h; cases h
 rw [if_neg h3] at h
 have hr : Right_ (mine_ m x) := by simpa [rightC] using h2
 have hH := (Vec.right_iff _).1 hm.have_
 cases hj : joined m.H [⟨m.rep, top m.H + 1⟩] with
 | inl e => rw [hj] at h; cases h
 | inr H' =>
  rw [hj] at h
  injection h with h
  obtain ⟨-, hO, hH', hl⟩ := joined_inr hj
  subst hH'
  subst h
  have hof : ∀ r, Vec.of (Vec.merge m.H [⟨m.rep, top m.H + 1⟩]) r = max (Vec.of m.H r) (if m.rep = r then top m.H + 1 else 0) := fun r => by rw [of_merge_ hH hO, of_one]
  refine ⟨rfl, ⟨(Vec.right_iff _).2 (Vec.merge_fine hH hO hl), ?_, hm.rep0, hm.rep1, fun y hy => ?_, fun y hy => ?_⟩, ?_, hof, hr⟩
  ·simp only [List.length_append, List.length_singleton]; omega
  ·rcases List.mem_append.1 hy with hy | hy
   ·exact hm.right_ y hy
   ·rw [List.mem_singleton] at hy; subst hy; exact hr
  ·show y.t ≤ Vec.of (Vec.merge m.H [⟨m.rep, top m.H + 1⟩]) y.r
   rw [hof]
   rcases List.mem_append.1 hy with hy | hy
   ·have := hm.known y hy; omega
   ·rw [List.mem_singleton] at hy; subst hy
    have : max (Vec.of m.H m.rep) (if m.rep = m.rep then top m.H + 1 else 0) = max (Vec.of m.H m.rep) (top m.H + 1) := by rw [if_pos rfl]
    show top m.H + 1 ≤ max (Vec.of m.H m.rep) (if m.rep = m.rep then top m.H + 1 else 0)
    omega
  ·refine List.pairwise_append.2 ⟨ha, List.pairwise_singleton _ _, fun a h1 b h2 => ?_⟩
   rw [List.mem_singleton] at h2; subst h2
   rw [cmpW_neg]
   have := hm.known a h1
   have := of_top hH.sorted a.r
   exact .inl (show a.t < top m.H + 1 by omega)
theorem local_ok {m : Lg} {x : WrB} (hm : m.Ok) (h1 : top m.H < 1099511627776) (h2 : Right_ (mine_ m x)) (h3 : m.W.length < 300) (h4 : (Vec.merge m.H [⟨m.rep, top m.H + 1⟩]).length ≤ 16) :
  Lg.local_ m x = .inr ⟨m.rep, Vec.merge m.H [⟨m.rep, top m.H + 1⟩], m.W ++ [mine_ m x]⟩ := by
 have ht := top_nonneg m.H
 have hone := one_right hm.rep0 hm.rep1 (show 1 ≤ top m.H + 1 by omega) (show top m.H + 1 ≤ 1099511627776 by omega)
 have hj := joined_of ((Vec.right_iff _).1 hm.have_) ((Vec.right_iff _).1 hone) h4
 rw [local_join (m := m) (x := x) (T1 := top m.H + 1) (by omega) h2 (by omega) rfl rfl, hj]
/-- Logs that began empty, each of its own replica, and wrote, and sent to each other: all that was ever written is G. -/
structure Party (G : List WrB) (ms : List Lg) : Prop where
 ok : ∀ i (h : i < ms.length), ms[i].Ok ∧ Asc ms[i].W ∧ ms[i].rep = i
 has : ∀ i (h : i < ms.length), ∀ x, x ∈ ms[i].W ↔ x ∈ G ∧ x.t ≤ Vec.of ms[i].H x.r
 uniq : ∀ x ∈ G, ∀ y ∈ G, cmpW x y = 0 → x = y
 own : ∀ x ∈ G, ∃ (i : Nat) (h : i < ms.length), x.r = i ∧ x.t ≤ Vec.of ms[i].H i
 most : ∀ k (h : k < ms.length), ∀ r, Vec.of ms[k].H r ≠ 0 → ∃ (i : Nat) (h : i < ms.length), r = i ∧ Vec.of ms[k].H r ≤ Vec.of ms[i].H i
theorem party_new (n : Nat) (hn : n ≤ 200) : Party [] ((List.range n).map fun (i : Nat) => (⟨(i : Int), [], []⟩ : Lg)) := by
 have e : ∀ i (h : i < ((List.range n).map fun (i : Nat) => (⟨(i : Int), [], []⟩ : Lg)).length), ((List.range n).map fun (i : Nat) => (⟨(i : Int), [], []⟩ : Lg))[i] = ⟨(i : Int), [], []⟩ := fun i h => by simp
 have l : ((List.range n).map fun (i : Nat) => (⟨(i : Int), [], []⟩ : Lg)).length = n := by simp
 refine ⟨fun i h => ?_, fun i h x => ?_, fun x hx => absurd hx (by simp), fun x hx => absurd hx (by simp), fun k h r => ?_⟩
 ·rw [e]
  exact ⟨⟨(Vec.right_iff _).2 { len := by simp, each := by simp, sorted := List.Pairwise.nil }, by simp, by simp, by show (i : Int) ≤ 200; omega, fun x hx => absurd hx (by simp), fun x hx => absurd hx (by simp)⟩, List.Pairwise.nil, rfl⟩
 ·rw [e]; simp
 ·rw [e]; exact fun h => absurd (Vec.of_zero fun y hy => absurd hy (by simp)) h
theorem set_get {α : Type} {l : List α} {i k : Nat} {a : α} (h : k < (l.set i a).length) : (l.set i a)[k] = if i = k then a else l[k]'(by simpa using h) := by
 rw [List.getElem_set]
theorem Party.local_ {G : List WrB} {ms : List Lg} (P : Party G ms) {i : Nat} (hi : i < ms.length) {x : WrB} {m' : Lg} (h : Lg.local_ ms[i] x = .inr m') : Party (mine_ ms[i] x :: G) (ms.set i m') := by
 obtain ⟨ok, ha, hr⟩ := P.ok i hi
 obtain ⟨rfl, ok', ha', hof, hrt⟩ := local_inr ok ha h
 have hH := ((Vec.right_iff _).1 ok.have_)
 have hT : ∀ r, Vec.of ms[i].H r ≤ top ms[i].H := of_top hH.sorted
 have hT0 := top_nonneg ms[i].H
 have hge : ∀ r, Vec.of ms[i].H r ≤ Vec.of (Vec.merge ms[i].H [⟨ms[i].rep, top ms[i].H + 1⟩]) r := fun r => by have := hof r; (try simp only at this); omega
 have hat : Vec.of (Vec.merge ms[i].H [⟨ms[i].rep, top ms[i].H + 1⟩]) ms[i].rep = top ms[i].H + 1 := by
  have h1 := hof ms[i].rep; rw [if_pos rfl] at h1; have h2 := hT ms[i].rep; (try simp only at h1); omega
 have hbig : ∀ z ∈ G, z.r = ms[i].rep → z.t ≤ Vec.of ms[i].H z.r := fun z hz hzr => by
  obtain ⟨j, hj, e1, e2⟩ := P.own z hz
  have : j = i := by omega
  subst this
  rw [e1]; exact e2
 have hln : (ms.set i ⟨ms[i].rep, Vec.merge ms[i].H [⟨ms[i].rep, top ms[i].H + 1⟩], ms[i].W ++ [mine_ ms[i] x]⟩).length = ms.length := by simp
 refine ⟨fun k hk => ?_, fun k hk z => ?_, fun a ha b hb e => ?_, fun z hz => ?_, fun k hk r => ?_⟩
 ·rw [set_get]
  by_cases e : i = k
  ·subst e; rw [if_pos rfl]; exact ⟨ok', ha', hr⟩
  ·rw [if_neg e]; exact P.ok k _
 ·rw [set_get]
  by_cases e : i = k
  ·subst e; rw [if_pos rfl]
   show z ∈ ms[i].W ++ [mine_ ms[i] x] ↔ _ ∧ z.t ≤ Vec.of (Vec.merge ms[i].H [⟨ms[i].rep, top ms[i].H + 1⟩]) z.r
   rw [List.mem_append, List.mem_singleton, List.mem_cons, P.has i hi]
   constructor
   ·rintro (⟨h1, h2⟩ | rfl)
    ·exact ⟨.inr h1, Int.le_trans h2 (hge _)⟩
    ·exact ⟨.inl rfl, Int.le_of_eq hat.symm⟩
   ·rintro ⟨rfl | h1, h2⟩
    ·exact .inr rfl
    ·refine .inl ⟨h1, ?_⟩
     by_cases hzr : z.r = ms[i].rep
     ·exact hbig z h1 hzr
     ·have h3 := hof z.r
      (try simp only at h3)
      rw [if_neg (fun e => hzr e.symm)] at h3
      have := Vec.of_pos hH.pos z.r
      omega
  ·rw [if_neg e, List.mem_cons, P.has k _]
   constructor
   ·rintro ⟨h1, h2⟩; exact ⟨.inr h1, h2⟩
   ·rintro ⟨rfl | h1, h2⟩
    ·exfalso
     have h3 : top ms[i].H + 1 ≤ Vec.of (ms[k]'(by simpa using hk)).H ms[i].rep := h2
     obtain ⟨j, hj, e1, e2⟩ := P.most k (by simpa using hk) ms[i].rep (by omega)
     have : j = i := by omega
     subst this
     have := hT j
     omega
    ·exact ⟨h1, h2⟩
 ·rcases List.mem_cons.1 ha with rfl | ha <;> rcases List.mem_cons.1 hb with rfl | hb
  ·rfl
  ·exfalso
   rw [cmpW_zero] at e
   have e1 : top ms[i].H + 1 = b.t := e.1
   have e2 : ms[i].rep = b.r := e.2
   have := hbig b hb e2.symm
   have := hT b.r
   omega
  ·exfalso
   rw [cmpW_zero] at e
   have e1 : a.t = top ms[i].H + 1 := e.1
   have e2 : a.r = ms[i].rep := e.2
   have := hbig a ha e2
   have := hT a.r
   omega
  ·exact P.uniq a ha b hb e
 ·have key : ∀ (j : Nat) (hj : j < ms.length) (t : Int), t ≤ Vec.of ms[j].H j → t ≤ Vec.of ((ms.set i ⟨ms[i].rep, Vec.merge ms[i].H [⟨ms[i].rep, top ms[i].H + 1⟩], ms[i].W ++ [mine_ ms[i] x]⟩)[j]'(by rw [hln]; exact hj)).H j := fun j hj t ht => by
   rw [set_get]
   by_cases e : i = j
   ·subst e; rw [if_pos rfl]; exact Int.le_trans ht (hge _)
   ·rw [if_neg e]; exact ht
  rcases List.mem_cons.1 hz with rfl | hz
  ·refine ⟨i, by rw [hln]; exact hi, hr, ?_⟩
   rw [set_get, if_pos rfl, ← hr]
   exact Int.le_of_eq hat.symm
  ·obtain ⟨j, hj, e1, e2⟩ := P.own z hz
   exact ⟨j, by rw [hln]; exact hj, e1, key j hj _ e2⟩
 ·have key : ∀ (j : Nat) (hj : j < ms.length) (t : Int), t ≤ Vec.of ms[j].H j → t ≤ Vec.of ((ms.set i ⟨ms[i].rep, Vec.merge ms[i].H [⟨ms[i].rep, top ms[i].H + 1⟩], ms[i].W ++ [mine_ ms[i] x]⟩)[j]'(by rw [hln]; exact hj)).H j := fun j hj t ht => by
   rw [set_get]
   by_cases e : i = j
   ·subst e; rw [if_pos rfl]; exact Int.le_trans ht (hge _)
   ·rw [if_neg e]; exact ht
  rw [set_get]
  by_cases e : i = k
  ·subst e; rw [if_pos rfl]
   intro h0
   by_cases hri : ms[i].rep = r
   ·refine ⟨i, by rw [hln]; exact hi, by omega, ?_⟩
    rw [set_get, if_pos rfl]
    have : r = (i : Int) := by omega
    rw [this]; exact Int.le_refl _
   ·have h3 := hof r
    (try simp only at h3)
    rw [if_neg hri] at h3
    have h4 := Vec.of_pos hH.pos r
    have h5 : Vec.of (Vec.merge ms[i].H [⟨ms[i].rep, top ms[i].H + 1⟩]) r = Vec.of ms[i].H r := by omega
    have h0 : Vec.of (Vec.merge ms[i].H [⟨ms[i].rep, top ms[i].H + 1⟩]) r ≠ 0 := h0
    obtain ⟨j, hj, e1, e2⟩ := P.most i hi r (by omega)
    exact ⟨j, by rw [hln]; exact hj, e1, key j hj _ (by show Vec.of (Vec.merge ms[i].H [⟨ms[i].rep, top ms[i].H + 1⟩]) r ≤ _; omega)⟩
  ·rw [if_neg e]
   intro h0
   obtain ⟨j, hj, e1, e2⟩ := P.most k _ r h0
   exact ⟨j, by rw [hln]; exact hj, e1, key j hj _ e2⟩
/-- One took what another one has. -/
theorem Party.take {G : List WrB} {ms : List Lg} (P : Party G ms) {i j : Nat} (hi : i < ms.length) (hj : j < ms.length) {m' : Lg} (hok : m'.Ok) (ha : Asc m'.W) (hr : m'.rep = ms[j].rep)
  (hof : ∀ r, Vec.of m'.H r = max (Vec.of ms[j].H r) (Vec.of ms[i].H r)) (hw : ∀ x, x ∈ m'.W ↔ x ∈ ms[j].W ∨ x ∈ ms[i].W) : Party G (ms.set j m') := by
 have hln : (ms.set j m').length = ms.length := by simp
 have key : ∀ (k : Nat) (hk : k < ms.length) (t : Int), t ≤ Vec.of ms[k].H k → t ≤ Vec.of ((ms.set j m')[k]'(by rw [hln]; exact hk)).H k := fun k hk t ht => by
  rw [set_get]
  by_cases e : j = k
  ·subst e; rw [if_pos rfl, hof]; omega
  ·rw [if_neg e]; exact ht
 refine ⟨fun k hk => ?_, fun k hk z => ?_, P.uniq, fun z hz => ?_, fun k hk r => ?_⟩
 ·rw [set_get]
  by_cases e : j = k
  ·subst e; rw [if_pos rfl]; exact ⟨hok, ha, hr.trans (P.ok j hj).2.2⟩
  ·rw [if_neg e]; exact P.ok k _
 ·rw [set_get]
  by_cases e : j = k
  ·subst e; rw [if_pos rfl, hw, P.has j hj, P.has i hi, hof]
   constructor
   ·rintro (⟨h1, h2⟩ | ⟨h1, h2⟩) <;> exact ⟨h1, by omega⟩
   ·rintro ⟨h1, h2⟩
    by_cases h3 : z.t ≤ Vec.of ms[j].H z.r
    ·exact .inl ⟨h1, h3⟩
    ·exact .inr ⟨h1, by omega⟩
  ·rw [if_neg e]; exact P.has k _ z
 ·obtain ⟨k, hk, e1, e2⟩ := P.own z hz
  exact ⟨k, by rw [hln]; exact hk, e1, key k hk _ e2⟩
 ·rw [set_get]
  have hmost : ∀ (k : Nat) (hk : k < ms.length), Vec.of ms[k].H r ≠ 0 → ∃ (i : Nat) (h : i < (ms.set j m').length), r = i ∧ Vec.of ms[k].H r ≤ Vec.of (ms.set j m')[i].H i := fun k hk h0 => by
   obtain ⟨l, hl, e1, e2⟩ := P.most k hk r h0
   exact ⟨l, by rw [hln]; exact hl, e1, key l hl _ e2⟩
  by_cases e : j = k
  ·subst e; rw [if_pos rfl, hof]
   intro h0
   have p1 := Vec.of_pos ((Vec.right_iff _).1 (P.ok j hj).1.have_).pos r
   have p2 := Vec.of_pos ((Vec.right_iff _).1 (P.ok i hi).1.have_).pos r
   rcases Int.le_total (Vec.of ms[j].H r) (Vec.of ms[i].H r) with h | h
   ·rw [show max (Vec.of ms[j].H r) (Vec.of ms[i].H r) = Vec.of ms[i].H r by omega] at h0 ⊢
    exact hmost i hi h0
   ·rw [show max (Vec.of ms[j].H r) (Vec.of ms[i].H r) = Vec.of ms[j].H r by omega] at h0 ⊢
    exact hmost j hj h0
  ·rw [if_neg e]; exact hmost k _
/-- A party's vectors are of few replicas. -/
theorem Party.few {G : List WrB} {ms : List Lg} (P : Party G ms) {l : List Vec.Entry} (hs : Vec.Sorted l) (hp : Vec.Pos l) (h : ∀ x ∈ l, ∃ k, ∃ hk : k < ms.length, Vec.of ms[k].H x.r ≠ 0) : l.length ≤ ms.length := by
 have hn : (l.map (·.r)).Nodup := by
  rw [List.Nodup, List.pairwise_map]
  exact hs.imp fun hab e => by omega
 have hsub : (l.map (·.r)) ⊆ (List.range ms.length).map (fun (i : Nat) => (i : Int)) := fun r hr => by
  obtain ⟨x, hx, rfl⟩ := List.mem_map.1 hr
  obtain ⟨k, hk, h0⟩ := h x hx
  obtain ⟨i, hi, e, -⟩ := P.most k hk x.r h0
  exact List.mem_map.2 ⟨i, List.mem_range.2 hi, e.symm⟩
 have := hn.length_le_of_subset hsub
 simpa using this
/-- What one sends another one that knows as far as it is sent from is taken. -/
theorem Party.accept {G : List WrB} {ms : List Lg} (P : Party G ms) (hG : G.length ≤ 60) (hn : ms.length ≤ 16) {i j : Nat} (hi : i < ms.length) (hj : j < ms.length) {f : List Vec.Entry} (hf : Vec.right f = .ok) (hci : Vec.Covers ms[i].H f) (hcj : Vec.Covers ms[j].H f) :
  sent ms[i] f = ms[i].W.filter (new_ f) ∧ sentHave ms[i] f = ms[i].H ∧ Bat.right f ms[i].H ((ms[i].W.filter (new_ f)).map WrB.plain) = .ok ∧
  ∃ m' n, Lg.accept ms[j] f ms[i].H (ms[i].W.filter (new_ f)) = .inr (m', n) ∧ m'.H = Vec.merge ms[j].H ms[i].H ∧ m'.Ok ∧ Asc m'.W ∧ (∀ r, Vec.of m'.H r = max (Vec.of ms[j].H r) (Vec.of ms[i].H r)) ∧ (∀ x, x ∈ m'.W ↔ x ∈ ms[j].W ∨ x ∈ ms[i].W) ∧ Party G (ms.set j m') := by
 obtain ⟨oki, ai, ri⟩ := P.ok i hi
 obtain ⟨okj, aj, rj⟩ := P.ok j hj
 have hFi := (Vec.right_iff _).1 oki.have_
 have hFj := (Vec.right_iff _).1 okj.have_
 have hl : (ms[i].W.filter (new_ f)).length ≤ 60 := Nat.le_trans (List.length_filter_le _ _) (Nat.le_trans (len_le ai fun x hx => ((P.has i hi x).1 hx).1) hG)
 obtain ⟨s1, s2⟩ := sent_all hl
 have hb := sent_fine oki ai hf hci
 rw [s1, s2] at hb
 refine ⟨s1, s2, hb, ?_⟩
 have hm := Vec.merge_sorted _ _ hFj.sorted hFi.sorted
 have hmp := Vec.merge_pos hFj.pos hFi.pos
 have hof := of_merge_ hFj hFi
 have hmem : ∀ x, x ∈ ms[j].W ∨ x ∈ ms[i].W.filter (new_ f) ↔ x ∈ ms[j].W ∨ x ∈ ms[i].W := fun x => by
  constructor
  ·rintro (h | h)
   ·exact .inl h
   ·exact .inr (List.mem_filter.1 h).1
  ·rintro (h | h)
   ·exact .inl h
   ·by_cases hnw : new_ f x = true
    ·exact .inr (List.mem_filter.2 ⟨h, hnw⟩)
    ·refine .inl ((P.has j hj x).2 ⟨((P.has i hi x).1 h).1, ?_⟩)
     unfold new_ at hnw
     have h1 : ¬ Vec.of f x.r < x.t := by simpa using hnw
     have := hcj x.r
     omega
 obtain ⟨W', n, e, ok', a', hw, -, -, -, -⟩ := accept_good (m := ms[j]) (f := f) (h := ms[i].H) (ws := ms[i].W.filter (new_ f)) okj aj hb hcj (fun y hy x hx => P.uniq x ((P.has j hj x).1 hx).1 y ((P.has i hi y).1 (List.mem_filter.1 hy).1).1)
  (Nat.le_trans (P.few hm hmp fun x hx => by
   have h1 := Vec.of_mem hm hx
   have h2 := hmp x hx
   have h3 := hof x.r
   by_cases h4 : Vec.of ms[j].H x.r ≠ 0
   ·exact ⟨j, hj, h4⟩
   ·exact ⟨i, hi, fun h5 => by omega⟩) hn)
  (fun W' h1 h2 => Nat.le_trans (len_le h1 fun x hx => by
   rcases (h2 x).1 hx with h | h
   ·exact ((P.has j hj x).1 h).1
   ·exact ((P.has i hi x).1 (List.mem_filter.1 h).1).1) (by omega))
 have hw2 : ∀ x, x ∈ W' ↔ x ∈ ms[j].W ∨ x ∈ ms[i].W := fun x => (hw x).trans (hmem x)
 exact ⟨⟨ms[j].rep, Vec.merge ms[j].H ms[i].H, W'⟩, n, e, rfl, ok', a', hof, hw2, P.take hi hj ok' a' rfl hof hw2⟩
end Lg
end Go.Proofs.YtognjohloobliaaGreatDoor
