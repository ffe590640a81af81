/- The walk of keep.stored: a fact. -/
import Derived.Test.YtognjohloobliaaDoorWCelL
namespace Go.Proofs.YtognjohloobliaaDoor
open Go.RowKit
set_option linter.unusedVariables false
set_option linter.unusedSimpArgs false
namespace Stored
def e0 : ByteArray := ⟨#[]⟩
def ka : ByteArray := ⟨#[97]⟩
def kb : ByteArray := ⟨#[98]⟩
def kc : ByteArray := ⟨#[99]⟩
def kp : ByteArray := ⟨#[112]⟩
def kq : ByteArray := ⟨#[113]⟩
def kx : ByteArray := ⟨#[120]⟩
def five : List WrB := [⟨1, 0, 1, kb, kx, 0⟩, ⟨1, 0, 4, ka, kp, 0⟩, ⟨1, 0, 4, ka, kq, 0⟩, ⟨1, 0, 3, kc, e0, 3⟩, ⟨1, 0, 3, kc, e0, -3⟩]
def two : List St.Cel := [⟨ka, ⟨false, e0, 0, [kq, kp]⟩⟩, ⟨kb, ⟨true, kx, 0, []⟩⟩]
theorem right5 : ∀ x ∈ five, Right_ x := fun x hx => by
  simp only [five, List.mem_cons, List.not_mem_nil, or_false] at hx
  rcases hx with rfl | rfl | rfl | rfl | rfl <;> decide
theorem at_a : St.at_ (five.map WrB.sw) ka = ⟨false, e0, 0, [kq, kp]⟩ := by rfl
theorem at_b : St.at_ (five.map WrB.sw) kb = ⟨true, kx, 0, []⟩ := by rfl
theorem at_c : St.at_ (five.map WrB.sw) kc = St.no := by rfl
theorem at_other (s : ByteArray) (h1 : s ≠ ka) (h2 : s ≠ kb) (h3 : s ≠ kc) : St.at_ (five.map WrB.sw) s = St.no :=
  St.at_none _ _ fun x hx e => by
    simp only [five, List.map_cons, List.map_nil, List.mem_cons, List.not_mem_nil, or_false] at hx
    rcases hx with rfl | rfl | rfl | rfl | rfl
    · exact h2 e.symm
    · exact h1 e.symm
    · exact h1 e.symm
    · exact h3 e.symm
    · exact h3 e.symm
theorem cells2 : St.IsCells two (St.at_ (five.map WrB.sw)) := by
  refine ⟨?_, fun c => ?_⟩
  · refine List.pairwise_cons.2 ⟨fun x hx => ?_, List.pairwise_cons.2 ⟨fun x hx => (by cases hx), List.Pairwise.nil⟩⟩
    rw [List.mem_singleton.1 hx]
    decide
  · constructor
    · intro hc
      simp only [two, List.mem_cons, List.not_mem_nil, or_false] at hc
      rcases hc with rfl | rfl
      · exact ⟨by decide, at_a⟩
      · exact ⟨by decide, at_b⟩
    · rintro ⟨h1, h2⟩
      obtain ⟨k, v⟩ := c
      simp only at h1 h2
      by_cases ha : k = ka
      · subst ha; rw [at_a] at h2; subst h2; simp [two]
      by_cases hb : k = kb
      · subst hb; rw [at_b] at h2; subst h2; simp [two]
      exfalso
      by_cases hc : k = kc
      · subst hc; rw [at_c] at h2; rw [← h2] at h1; cases h1
      · rw [at_other k ha hb hc] at h2; rw [← h2] at h1; cases h1
end Stored
theorem two_of (L : List CelB) (h : L.map CelB.cel = Stored.two) : ∃ x y, L = [x, y] ∧ x.cel = ⟨Stored.ka, ⟨false, Stored.e0, 0, [Stored.kq, Stored.kp]⟩⟩ ∧ y.cel = ⟨Stored.kb, ⟨true, Stored.kx, 0, []⟩⟩ := by
  match L with
  | [] => cases h
  | [x] => simp [Stored.two] at h
  | x :: y :: z :: l => simp [Stored.two] at h
  | [x, y] =>
    simp only [List.map_cons, List.map_nil, Stored.two, List.cons.injEq, and_true] at h
    exact ⟨x, y, rfl, h.1, h.2⟩
set_option maxHeartbeats 4000000 in
set_option maxRecDepth 20000 in
theorem keep_stored (w : World) : Calls Tryd.prog 4 #[] w fun e w' => e = .returned (.bool true) ∧ Below w.heap.size w w' := by
  have hOf := Lib.hid (fun (v : Value) W (hv : WrsIs W v Stored.five) => store_of v Stored.five W hv Stored.right5 (by decide))
  have hEq := Lib.hid eq_strs
  go_enter Tryd.func4, Tryd.ntmps4
  go_wp2_with fail
  have hs1 : (w.alloc (Obj.cells #[Value.int IntKind.i64 1, Value.int IntKind.i64 0] 27)).heap.size = w.heap.size + 1 := by simp
  have hb1 : Below w.heap.size w (w.alloc (Obj.cells #[Value.int IntKind.i64 1, Value.int IntKind.i64 0] 27)) := by exact blw
  generalize w.alloc (Obj.cells #[Value.int IntKind.i64 1, Value.int IntKind.i64 0] 27) = w1 at *
  have hv := ListIs.of_alloc (f := wrBCells) w1 29 Stored.five #[Value.int IntKind.i64 1, Value.int IntKind.i64 0, Value.int IntKind.i64 1, Value.string { data := #[98] }, Value.string { data := #[120] }, Value.int IntKind.i64 0, Value.int IntKind.i64 1, Value.int IntKind.i64 0, Value.int IntKind.i64 4, Value.string { data := #[97] }, Value.string { data := #[112] }, Value.int IntKind.i64 0, Value.int IntKind.i64 1, Value.int IntKind.i64 0, Value.int IntKind.i64 4, Value.string { data := #[97] }, Value.string { data := #[113] }, Value.int IntKind.i64 0, Value.int IntKind.i64 1, Value.int IntKind.i64 0, Value.int IntKind.i64 3, Value.string { data := #[99] }, Value.string { data := #[] }, Value.int IntKind.i64 3, Value.int IntKind.i64 1, Value.int IntKind.i64 0, Value.int IntKind.i64 3, Value.string { data := #[99] }, Value.string { data := #[] }, Value.int IntKind.i64 (-3)] rfl wrBCells_len (by decide) 5 rfl
  rw [hs1] at hv
  refine (hOf.out _ _ hv).mono ?_
  rintro _ w3 ⟨v3, L, rfl, hO, hS, hI, hb3⟩
  replace hb1 := bch hb1 (bch (bal (Below.refl _ _) _) hb3)
  have hL := hI.unique Stored.cells2
  clear hv hb3 hI hOf
  obtain ⟨x, y, rfl, hx, hy⟩ := two_of L hL
  clear hL
  have hne : v3 ≠ .slice none 0 0 := fun e => by
    subst e
    rcases hO.2 with ⟨-, h0⟩ | ⟨g, cap, cur, h0, -⟩
    · cases h0
    · cases h0
  obtain ⟨g, cap, rfl⟩ := owns_addr hO hne
  have hq := hS x (by simp)
  rw [hx] at hq
  have hsx := (ListIs.of_owns hq : StrsIs w3 (.slice x.la x.ln x.lc) [Stored.kq, Stored.kp])
  have hc := hO.cells (g := g) rfl
  have hcc : ∀ (j : Nat) (u : Value), ([x, y].flatMap celCells)[j]? = some u → w3.cell? ⟨g, j, none⟩ = some u := fun j u hu => by have := hc j u hu; rw [Addr.add_lit, Nat.zero_add] at this; exact this
  have c0 := hcc 0 _ rfl
  have c4 := hcc 4 _ rfl
  have c6 := hcc 6 _ rfl
  have c7 := hcc 7 _ rfl
  rw [hx] at c0
  rw [hy] at c6 c7
  clear hcc hc hO hS hq hx hy hne
  (try simp only [Stored.ka, Stored.kx] at c0 c7)
  go_wp2_with fail
  have hb4 : Below w3.heap.size w3 (w3.alloc (Obj.cells #[Value.string { data := #[113] }, Value.string { data := #[112] }] 9)) := by exact blw
  have hv2 := ListIs.of_alloc (f := strCells) w3 9 [Stored.kq, Stored.kp] #[Value.string { data := #[113] }, Value.string { data := #[112] }] rfl strCells_len (by decide) 2 rfl
  have hd : decide ([Stored.kq, Stored.kp] = [Stored.kq, Stored.kp]) = true := by simp
  refine (hEq.out _ _ _ _ _ (ListIs.below hsx (by omega) hb4) hv2 (by decide) (by decide)).mono ?_
  rintro _ w5 ⟨rfl, hb5⟩
  rw [hd]
  replace hb4 := bch hb4 hb5
  replace c6 := cell_below hb4 c6
  replace c7 := cell_below hb4 c7
  clear hv2 hd hb5 c0 c4 hsx
  go_wp2
  go_ret
  exact ⟨rfl, bch hb1 hb4⟩
end Go.Proofs.YtognjohloobliaaDoor
