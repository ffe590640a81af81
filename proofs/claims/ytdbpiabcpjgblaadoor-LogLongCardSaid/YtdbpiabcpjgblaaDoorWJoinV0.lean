/- What the walks of vector.Join, and others, share. -/
import Derived.Test.YtdbpiabcpjgblaaDoorWVec2
import Derived.Deep.RegionHeld3
namespace Go.Proofs.YtdbpiabcpjgblaaDoor
open Go.RowKit
set_option linter.unusedVariables false
/-- What Join comes to. -/
def joined (a b : List Vec.Entry) : Err ⊕ List Vec.Entry :=
  if Vec.right a ≠ .ok then .inl (Vec.right a) else if Vec.right b ≠ .ok then .inl (Vec.right b)
  else if 16 < (Vec.merge a b).length then .inl (.no 4) else .inr (Vec.merge a b)
def RetJoin (x : Err ⊕ List Vec.Entry) (w : World) (e : Ending) (w' : World) : Prop :=
  (match x with
  | .inl r => e = .returned (.tuple #[.slice none 0 0, errV r.code])
  | .inr l => ∃ v, e = .returned (.tuple #[v, .nilIface]) ∧ VecIs w' v l) ∧ Below w.heap.size w w'
/-- A slice that reads as a list, by its parts: the first element's cells, and what is left. -/
theorem vec_cons {w : World} {a : Option Addr} {n cap : Nat} {x : Vec.Entry} {l : List Vec.Entry} (h : VecIs w (.slice a n cap) (x :: l)) : ∃ b off, a = some ⟨b, off, none⟩ ∧ n = l.length + 1 ∧ 1 ≤ cap ∧ n ≤ cap ∧ cap ≤ maxLen ∧ b < w.heap.size ∧ w.cell? ⟨b, off, none⟩ = some (.int .i64 x.r) ∧ w.cell? ⟨b, off + 1, none⟩ = some (.int .i64 x.t) ∧
    VecIs w (.slice (some ⟨b, off + 2, none⟩) l.length (cap - 1)) l ∧ (cap = 1 → l = []) := by
  obtain ⟨a', cap', he, hcap, hcell⟩ := h.list.at entCells_len
  simp only [Value.slice.injEq] at he
  obtain ⟨rfl, rfl, rfl⟩ := he
  obtain ⟨b, off, rfl, hb, hc⟩ := hcell 0 (by simp)
  obtain ⟨hc1, hc2⟩ := hcap (by simp)
  have hl : (x :: l).length = l.length + 1 := rfl
  have h0 := hc 0 (.int .i64 x.r) rfl
  have h1 := hc 1 (.int .i64 x.t) rfl
  simp only [Nat.zero_mul, Nat.add_zero] at h0 h1
  refine ⟨b, off, rfl, rfl, by omega, hc1, hc2, hb (by omega), h0, h1, ?_, fun h => ?_⟩
  · have := ListIs.drop h.list entCells_len 1 (by simp) l.length (cap - 1) (by simp) (by omega) (by omega)
    exact this
  · exact List.eq_nil_of_length_eq_zero (by omega)
theorem vec_nil (w : World) (a : Option Addr) (cap : Nat) : VecIs w (.slice a 0 cap) [] := ⟨rfl, .inl ⟨rfl, a, cap, rfl⟩⟩
theorem run_tail (w : World) (b off n cap : Nat) (h : n + 1 ≤ cap) (hm : cap ≤ maxLen) : (Instr.slice 35 (.slice (some ⟨b, off, none⟩) (n + 1) cap) (some (.int .i64 1)) none none).run Tryd.prog w = .ok (.slice (some (if cap = 1 then ⟨b, off, none⟩ else ⟨b, off + 2, none⟩)) n (cap - 1)) w := by
  unfold maxLen at hm
  by_cases h1 : cap = 1
  · subst h1
    obtain rfl : n = 0 := by omega
    go_simp
  · have e1 : 1 ≤ cap := by omega
    go_simp
    intro h; omega
theorem vec_tail {w : World} {a : Option Addr} {n cap : Nat} {x : Vec.Entry} {l : List Vec.Entry} (h : VecIs w (.slice a n cap) (x :: l)) : ∃ A : Addr, (∀ W, (Instr.slice 35 (.slice a (l.length + 1) cap) (some (.int .i64 1)) none none).run Tryd.prog W = .ok (.slice (some A) l.length (cap - 1)) W) ∧ VecIs w (.slice (some A) l.length (cap - 1)) l := by
  obtain ⟨b, off, rfl, hn, h1, h2, h3, h4, -, -, h5, h6⟩ := vec_cons h
  refine ⟨_, fun W => run_tail W b off l.length cap (by omega) h3, ?_⟩
  by_cases hc : cap = 1
  · rw [if_pos hc]
    have := h6 hc
    subst this
    exact vec_nil w _ _
  · rw [if_neg hc]; exact h5
theorem owns_slice {w : World} {base : Nat} {e : TypeId} {sz n : Nat} {v : Value} {xs : List Value} (h : w.ownsRow base e sz v n xs) : ∃ o c, v = .slice o n c := by
  rcases h.2 with ⟨rfl, rfl⟩ | ⟨g, cap, cur, rfl, _⟩
  · exact ⟨none, 0, rfl⟩
  · exact ⟨_, cap, rfl⟩
def sliceLen : Value → Nat
  | .slice _ n _ => n
  | _ => 0
theorem ent_snoc (out : List Vec.Entry) (x : Vec.Entry) : out.flatMap entCells ++ [.int .i64 x.r, .int .i64 x.t] = (out ++ [x]).flatMap entCells := by simp [entCells]
theorem own_snoc {w : World} {base : Nat} {v : Value} {out : List Vec.Entry} {x : Vec.Entry} (h : w.ownsRow base 34 2 v (out.length + 1) (out.flatMap entCells ++ (#[Value.int .i64 x.r, Value.int .i64 x.t] : Array Value).toList)) : w.ownsRow base 34 2 v (out ++ [x]).length ((out ++ [x]).flatMap entCells) := by
  rw [List.length_append, ← ent_snoc]; exact h
end Go.Proofs.YtdbpiabcpjgblaaDoor
