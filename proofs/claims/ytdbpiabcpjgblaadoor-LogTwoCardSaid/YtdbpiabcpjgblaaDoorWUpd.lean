/- A list of writes in memory, changed one by one. -/
import Derived.Test.YtdbpiabcpjgblaaDoorWCloneWr
namespace Go.Proofs.YtdbpiabcpjgblaaDoor
open Go.RowKit
set_option linter.unusedVariables false
theorem upd_len (g : WrB → WrB) (ws : List WrB) (k : Nat) (hk : k ≤ ws.length) : (((ws.take k).map g).flatMap wrBCells).length = k * 6 := by
  rw [flat_len wrBCells_len, List.length_map, List.length_take, Nat.min_eq_left hk]
theorem upd_at (g : WrB → WrB) (ws : List WrB) (k : Nat) (hk : k < ws.length) (i : Nat) (hi : i < 6) : (((ws.take k).map g ++ ws.drop k).flatMap wrBCells)[k * 6 + i]? = (wrBCells ws[k])[i]? := by
  have hl := upd_len g ws k (by omega)
  rw [List.drop_eq_getElem_cons hk, List.flatMap_append, List.flatMap_cons, List.getElem?_append_right (by omega), hl, show k * 6 + i - k * 6 = i by omega, List.getElem?_append_left (by rw [wrBCells_len]; exact hi)]
theorem upd_next (g : WrB → WrB) (ws : List WrB) (k : Nat) (hk : k < ws.length) (i : Nat) (hi : i < 6) (v : Value) (hy : wrBCells (g ws[k]) = (wrBCells ws[k]).set i v) :
    (((ws.take k).map g ++ ws.drop k).flatMap wrBCells).set (k * 6 + i) v = ((ws.take (k + 1)).map g ++ ws.drop (k + 1)).flatMap wrBCells := by
  have hl := upd_len g ws k (by omega)
  rw [List.drop_eq_getElem_cons hk, List.flatMap_append, List.flatMap_cons, List.set_append_right _ _ (by omega), hl, show k * 6 + i - k * 6 = i by omega, List.set_append_left _ _ (by rw [wrBCells_len]; exact hi), ← hy,
    List.take_succ_eq_append_getElem hk, List.map_append, List.flatMap_append, List.flatMap_append]
  simp
theorem upd_all (g : WrB → WrB) (ws : List WrB) : (ws.take ws.length).map g ++ ws.drop ws.length = ws.map g := by
  rw [List.take_length, List.drop_length, List.append_nil]
theorem owns_pos {w : World} {base : Nat} {e : TypeId} {sz n : Nat} {o : Option Addr} {c : Nat} {xs : List Value} (h : w.ownsRow base e sz (.slice o n c) n xs) (hn : 0 < n) : ∃ g, o = some ⟨g, 0, none⟩ ∧ base ≤ g := by
  rcases h.2 with ⟨h', h0⟩ | ⟨g', cap', cur, h', hb, _⟩
  · omega
  · injection h' with h1 h2 h3
    exact ⟨g', h1, hb⟩
end Go.Proofs.YtdbpiabcpjgblaaDoor
