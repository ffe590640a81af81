/- slices.Reverse over writes that the call owns; rows of elements of any size, put anew. -/
import Derived.Shelf.SlicesQ.Reverse
import Derived.Test.YtpmedolndkidcaaDoorWSortC
import Derived.Test.YtpmedolndkidcaaDoorWBatch
namespace Go.Proofs.YtpmedolndkidcaaDoor
open Go.RowKit
open Go.Sort hiding Below
set_option linter.unusedVariables false
set_option linter.unusedSimpArgs false
section
variable {α : Type} [Inhabited α] {enc : α → List Value} {k : Nat}
theorem flatK_listG (hk0 : 0 < k) (hk : ∀ x, (enc x).length = k) (d : Array α) : (flatK enc k d).toList = d.toList.flatMap enc := by
  have hl : (d.toList.flatMap enc).length = d.size * k := by rw [flat_len hk]; simp
  apply List.ext_getElem?
  intro t
  by_cases ht : t < d.size * k
  · have h1 : t / k < d.size := Nat.div_lt_of_lt_mul (by rw [Nat.mul_comm]; exact ht)
    have h2 : t % k < k := Nat.mod_lt _ hk0
    have hg := flat_get hk d.toList (t / k) (t % k) (by simpa using h1) h2
    rw [show t / k * k + t % k = t by rw [Nat.mul_comm]; exact Nat.div_add_mod t k] at hg
    rw [hg]
    have hkk := get_flatK enc k d t ht
    have hs : t < (flatK enc k d).size := by simpa using ht
    rw [Array.getElem?_toList, Array.getElem?_eq_getElem hs, ← getElem!_pos _ t hs, hkk]
    rw [getElem!_pos d (t / k) h1]
    have h3 : t % k < (enc (d[t / k]'h1)).length := by rw [hk]; exact h2
    rw [getElem!_pos (enc (d[t / k]'h1)) (t % k) h3, ← List.getElem?_eq_getElem h3]
    rfl
  · rw [List.getElem?_eq_none (by simp; omega), List.getElem?_eq_none (by rw [hl]; omega)]
theorem owns_holdsG (hk0 : 0 < k) (hk : ∀ x, (enc x).length = k) {w : World} {base : Nat} {e : TypeId} {g n cap : Nat} {L : List α} (hn : n = L.length) (h : w.ownsRow base e k (.slice (some ⟨g, 0, none⟩) n cap) n (L.flatMap enc)) : HoldsK enc k w g 0 L.toArray := by
  subst hn
  rcases h.2 with ⟨h', _⟩ | ⟨g', cap', cur, h', hb, hg, hn, hm, hs, htake⟩
  · cases h'
  · injection h' with h1 h2 h3
    injection h1 with h1
    injection h1 with h1
    subst h1; subst h3
    intro j hj
    rw [size_flatK] at hj
    have hj0 : j < L.length * k := by simpa using hj
    have hj' : j < (L.flatMap enc).length := by rw [flat_len hk]; exact hj0
    have hjc : j < cur.size := by
      have e := congrArg List.length htake
      rw [List.length_take] at e
      rw [flat_len hk] at e
      simp only [Array.length_toList] at e
      omega
    have hf := flatK_listG hk0 hk L.toArray
    rw [List.toList_toArray] at hf
    have hF : (flatK enc k L.toArray)[j]! = (L.flatMap enc)[j] := by
      have hs : j < (flatK enc k L.toArray).size := by simpa using hj
      rw [getElem!_pos _ j hs]
      have := congrArg (fun l => l[j]?) hf
      simp only [Array.getElem?_toList, Array.getElem?_eq_getElem hs, List.getElem?_eq_getElem hj', Option.some.injEq] at this
      exact this
    constructor
    · rw [Nat.zero_add, hF]
      simp only [World.cell?, hg]
      rw [Array.getElem?_eq_getElem hjc]
      have := congrArg (fun l => l[j]?) htake
      simp only [List.getElem?_take, List.getElem?_eq_getElem hj'] at this
      rw [if_pos hj0, Array.getElem?_toList, Array.getElem?_eq_getElem hjc] at this
      exact this
    · simp [World.frozen?, hg]
theorem put_worldG (hk0 : 0 < k) (hk : ∀ x, (enc x).length = k) {w : World} {base : Nat} {e : TypeId} {g n cap : Nat} {L : List α} (h : w.ownsRow base e k (.slice (some ⟨g, 0, none⟩) n cap) n (L.flatMap enc)) (m : Nat) (d' : Array α) (hn : n = L.length) (hd : d'.size = L.length) :
    (putRowK enc k (Go.Sort.ahead w m) g 0 d').ownsRow base e k (.slice (some ⟨g, 0, none⟩) n cap) n (d'.toList.flatMap enc) ∧ Only (fun j => j = g) w (putRowK enc k (Go.Sort.ahead w m) g 0 d') := by
  constructor
  · refine ⟨by rw [flat_len hk, hn]; simp [hd], ?_⟩
    rcases h.2 with ⟨h', _⟩ | ⟨g', cap', cur, h', hb, hg, hnc, hm, hs, htake⟩
    · cases h'
    · injection h' with h1 h2 h3
      injection h1 with h1
      injection h1 with h1
      subst h1; subst h3
      have hF : (flatK enc k d').size = n * k := by rw [size_flatK, hd, hn]
      refine .inr ⟨g, cap, putCells id 0 (flatK enc k d') cur, rfl, hb, ?_, hnc, hm, by unfold putCells; simpa using hs, ?_⟩
      · unfold putRowK putRow
        simp [mapBlock, Array.getElem?_modify, hg, onCells, Go.Sort.ahead]
      · rw [← hF, putCells_take _ _ (by rw [hF, hs]; exact Nat.mul_le_mul_right _ hnc), flatK_listG hk0 hk]
  · refine ⟨rfl, rfl, rfl, ?_, fun j hj hne => ?_⟩
    · simp [size_putRowK, Go.Sort.ahead]
    · unfold putRowK putRow
      simp only [mapBlock, Array.getElem?_modify]
      rw [if_neg (fun e => hne e.symm)]
      rfl
end
instance : Inhabited WrB := ⟨⟨0, 0, 0, ⟨#[]⟩, ⟨#[]⟩, 0⟩⟩
theorem wrBCells_one (x : WrB) : ∀ v ∈ wrBCells x, v.oneCell' = true := fun v hv => by
  simp only [wrBCells, List.mem_cons, List.not_mem_nil, or_false] at hv
  rcases hv with rfl | rfl | rfl | rfl | rfl | rfl <;> rfl
theorem rev_wr (v : Value) (L : List WrB) (base : Nat) (w : World) (hown : w.ownsRow base 36 6 v L.length (L.flatMap wrBCells)) (hl : L.length ≤ 1000000) :
    Calls Tryd.prog 20 #[v] w fun e w' => e = .returned (.tuple #[]) ∧ w'.ownsRow base 36 6 v L.length (L.reverse.flatMap wrBCells) ∧ Only (fun j => v.ownBlock = some j) w w' := by
  rcases hown.2 with ⟨rfl, h0⟩ | ⟨g, cap, cur, rfl, hb, hg, rest⟩
  · have hL : L = [] := List.eq_nil_of_length_eq_zero h0
    subst hL
    have hcon := AnyQ.slices_Reverse_empty Tryd.reverseWr none 0 w
    change Calls Tryd.prog _ _ _ _ at hcon
    exact hcon.mono fun e w' ⟨he, hw⟩ => ⟨he, by rw [hw]; exact World.ownsRow_nil _ _ _ _, by rw [hw]; exact Only.refl _ _⟩
  · have hcon := AnyQ.slices_Reverse Tryd.reverseWr 6 Tryd.isAgg36 Tryd.sizeOf36 wrBCells wrBCells_len wrBCells_one g 0 cap L.toArray w (owns_holdsG (by decide) wrBCells_len rfl hown) (by simp; omega)
    change Calls Tryd.prog _ _ _ _ at hcon
    simp only [List.size_toArray] at hcon
    refine hcon.mono fun e w' ⟨he, n, hw⟩ => ⟨he, ?_, ?_⟩
    · rw [hw]
      have := (put_worldG (by decide) wrBCells_len hown n L.toArray.reverse rfl (by simp)).1
      simpa using this
    · rw [hw]
      exact (put_worldG (by decide) wrBCells_len hown n L.toArray.reverse rfl (by simp)).2.mono fun j _ hj => by rw [hj]; rfl
end Go.Proofs.YtpmedolndkidcaaDoor
