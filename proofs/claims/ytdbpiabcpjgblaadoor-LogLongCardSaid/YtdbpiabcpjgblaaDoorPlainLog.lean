/- Plain laws of what a log sends. -/
import Derived.Test.YtdbpiabcpjgblaaDoorWLogL
namespace Go.Proofs.YtdbpiabcpjgblaaDoor
set_option linter.unusedVariables false
set_option linter.unusedSimpArgs false
namespace Lg
/-- A log as all walks leave it. -/
structure Ok (m : Lg) : Prop where
  have_ : Vec.right m.H = .ok
  len : m.W.length ≤ 300
  rep0 : 0 ≤ m.rep
  rep1 : m.rep ≤ 200
  right_ : ∀ x ∈ m.W, Right_ x
  known : ∀ x ∈ m.W, x.t ≤ Vec.of m.H x.r
def new_ (f : List Vec.Entry) (x : WrB) : Bool := decide (Vec.of f x.r < x.t)
def step_ (b : List Vec.Entry) (x : WrB) : List Vec.Entry := match joined b [⟨x.r, x.t⟩] with
  | .inl _ => []
  | .inr l => l
def told (f : List Vec.Entry) (l : List WrB) : List Vec.Entry := l.foldl step_ f
theorem told_snoc (f : List Vec.Entry) (l : List WrB) (x : WrB) : told f (l ++ [x]) = step_ (told f l) x := by
  unfold told; rw [List.foldl_append]; rfl
end Lg
namespace Vec
theorem of_ne {l : List Entry} {r : Int} (h : of l r ≠ 0) : ∃ y ∈ l, y.r = r := by
  by_cases hn : ∃ y ∈ l, y.r = r
  · exact hn
  · exact absurd (of_zero fun y hy e => hn ⟨y, hy, e⟩) h
theorem covers_len {a b : List Entry} (ha : Fine a) (hb : Fine b) (h : Covers a b) : b.length ≤ a.length := by
  have hn : (b.map (·.r)).Nodup := by
    rw [List.Nodup, List.pairwise_map]
    exact hb.sorted.imp fun hab e => by omega
  have hs : (b.map (·.r)) ⊆ a.map (·.r) := fun r hr => by
    obtain ⟨y, hy, rfl⟩ := List.mem_map.1 hr
    have h1 := of_mem hb.sorted hy
    have h2 := h y.r
    have h3 := hb.pos y hy
    obtain ⟨z, hz, e⟩ := of_ne (l := a) (r := y.r) (by omega)
    exact List.mem_map.2 ⟨z, hz, e⟩
  have := hn.length_le_of_subset hs
  simpa using this
end Vec
theorem right_one {x : WrB} (h : Right_ x) : 0 ≤ x.r ∧ x.r ≤ 200 ∧ 1 ≤ x.t ∧ x.t ≤ 1099511627776 := by
  obtain ⟨-, -, i1, i2, i3, i4, -⟩ := Wr.right_zero h
  simp only [wr] at i1 i2 i3 i4
  omega
namespace Lg
theorem step_ok {H b : List Vec.Entry} {x : WrB} (hH : Vec.Fine H) (hb : Vec.Fine b) (hc : Vec.Covers H b) (hx : Right_ x) (hk : x.t ≤ Vec.of H x.r) :
    joined b [⟨x.r, x.t⟩] = .inr (step_ b x) ∧ Vec.Fine (step_ b x) ∧ Vec.Covers H (step_ b x) := by
  obtain ⟨h1, h2, h3, h4⟩ := right_one hx
  have hone := one_right h1 h2 h3 h4
  have hof := (Vec.right_iff _).1 hone
  have hcx : Vec.Covers H [⟨x.r, x.t⟩] := (Vec.covers_iff hof.sorted hH.pos).1 fun y hy => by
    rw [List.mem_singleton] at hy; subst hy; exact hk
  have hcm := Vec.covers_least hb hof hc hcx
  have hm : (Vec.merge b [⟨x.r, x.t⟩]).length ≤ 16 := by
    have hs := Vec.merge_sorted b _ hb.sorted hof.sorted
    have hp := Vec.merge_pos hb.pos hof.pos
    have hn : ((Vec.merge b [⟨x.r, x.t⟩]).map (·.r)).Nodup := by
      rw [List.Nodup, List.pairwise_map]
      exact hs.imp fun hab e => by omega
    have hsub : ((Vec.merge b [⟨x.r, x.t⟩]).map (·.r)) ⊆ H.map (·.r) := fun r hr => by
      obtain ⟨y, hy, rfl⟩ := List.mem_map.1 hr
      have g1 := Vec.of_mem hs hy
      have g2 := hcm y.r
      have g3 := hp y hy
      obtain ⟨z, hz, e⟩ := Vec.of_ne (l := H) (r := y.r) (by omega)
      exact List.mem_map.2 ⟨z, hz, e⟩
    have := hn.length_le_of_subset hsub
    simp only [List.length_map] at this
    have := hH.len
    omega
  have hj : joined b [⟨x.r, x.t⟩] = .inr (Vec.merge b [⟨x.r, x.t⟩]) := by
    unfold joined
    rw [if_neg (by simp [(Vec.right_iff _).2 hb]), if_neg (by simp [hone]), if_neg (by omega)]
  have hs : step_ b x = Vec.merge b [⟨x.r, x.t⟩] := by unfold step_; rw [hj]
  rw [hs]
  exact ⟨hj, Vec.merge_fine hb hof hm, hcm⟩
theorem told_ok {H f : List Vec.Entry} (hH : Vec.Fine H) (hf : Vec.Fine f) (hc : Vec.Covers H f) : ∀ (l : List WrB), (∀ x ∈ l, Right_ x ∧ x.t ≤ Vec.of H x.r) → Vec.Fine (told f l) ∧ Vec.Covers H (told f l) := by
  intro l
  induction l generalizing f with
  | nil => exact fun _ => ⟨hf, hc⟩
  | cons x l ih =>
    intro h
    obtain ⟨-, h2, h3⟩ := step_ok hH hf hc (h x (by simp)).1 (h x (by simp)).2
    exact ih h2 h3 fun y hy => h y (List.mem_cons_of_mem _ hy)
theorem news_snoc {f : List Vec.Entry} {W : List WrB} {k : Nat} (hk : k < W.length) : (W.take (k + 1)).filter (new_ f) = if new_ f W[k] then (W.take k).filter (new_ f) ++ [W[k]] else (W.take k).filter (new_ f) := by
  rw [List.take_succ_eq_append_getElem hk, List.filter_append]
  by_cases h : new_ f W[k] = true
  · rw [if_pos h, List.filter_cons_of_pos h]; rfl
  · rw [if_neg h, List.filter_cons_of_neg h]; simp
/-- What is sent: of what is known behind a vector the earliest sixty; and what is told of. -/
def sent (m : Lg) (f : List Vec.Entry) : List WrB := (m.W.filter (new_ f)).take 60
def sentHave (m : Lg) (f : List Vec.Entry) : List Vec.Entry := if (m.W.filter (new_ f)).length ≤ 60 then m.H else told f (sent m f)
theorem sent_all {m : Lg} {f : List Vec.Entry} (h : (m.W.filter (new_ f)).length ≤ 60) : sent m f = m.W.filter (new_ f) ∧ sentHave m f = m.H := by
  unfold sent sentHave
  rw [if_pos h, List.take_of_length_le h]; exact ⟨rfl, rfl⟩
theorem sent_full {m : Lg} {f : List Vec.Entry} {k : Nat} (hk : k < m.W.length) (hn : new_ f m.W[k] = true) {N : List WrB} (hN : N = (m.W.take k).filter (new_ f)) (h : N.length = 60) : sent m f = N ∧ sentHave m f = told f N := by
  have e : m.W.filter (new_ f) = N ++ m.W[k] :: (m.W.drop (k + 1)).filter (new_ f) := by
    rw [hN]
    have e1 : m.W = m.W.take k ++ m.W[k] :: m.W.drop (k + 1) := by rw [← List.drop_eq_getElem_cons hk, List.take_append_drop]
    have e2 := congrArg (List.filter (new_ f)) e1
    rw [List.filter_append, List.filter_cons_of_pos hn] at e2
    exact e2
  have hs : sent m f = N := by
    unfold sent
    rw [e, List.take_append_of_le_length (by omega), List.take_of_length_le (by omega)]
  refine ⟨hs, ?_⟩
  unfold sentHave
  rw [hs, if_neg (by rw [e, List.length_append, List.length_cons]; omega)]
end Lg
end Go.Proofs.YtdbpiabcpjgblaaDoor
