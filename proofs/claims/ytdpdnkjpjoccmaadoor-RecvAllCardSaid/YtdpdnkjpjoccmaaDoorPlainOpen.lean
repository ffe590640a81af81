/- A sealed text opened, as a plain function. -/
import Derived.Test.YtdpdnkjpjoccmaaDoorPlainBurst
import Derived.Test.YtdpdnkjpjoccmaaDoorPlainVary
namespace Go.Proofs.YtdpdnkjpjoccmaaDoor
namespace Crc
/-- A text without its sum, or what is wrong. -/
def opened (s : List UInt8) : Nat ⊕ List UInt8 :=
  if s.length < 4 then .inl 7 else if seal_ (s.take (s.length - 4)) = s then .inr (s.take (s.length - 4)) else .inl 15
theorem opened_seal (l : List UInt8) : opened (seal_ l) = .inr l := by
  have hl := seal_len' l
  have ht : (seal_ l).take ((seal_ l).length - 4) = l := by
    rw [hl, Nat.add_sub_cancel]; unfold seal_; exact List.take_left
  unfold opened
  rw [if_neg (by omega), ht, if_pos rfl]
theorem opened_inv {s t : List UInt8} (h : opened s = .inr t) : seal_ t = s := by
  unfold opened at h
  split at h
  · cases h
  · split at h
    · rename_i h2
      injection h with h; subst h; exact h2
    · cases h
end Crc
namespace Vary
theorem int_inv' {l : List UInt8} {m : Int} {n k : Nat} (h : int l m = .ok n k) : get l = .ok n k := by
  unfold int at h
  cases hg : get l with
  | bad e => rw [hg] at h; cases h
  | ok a b =>
    rw [hg] at h
    simp only at h
    split at h
    · cases h
    · exact h
end Vary
end Go.Proofs.YtdpdnkjpjoccmaaDoor
