/- The fact on links; recv's Text of one text. -/
import Derived.Test.YtdpdnkjpjoccmaaDoorWLinkC
namespace Go.Proofs.YtdpdnkjpjoccmaaDoor
open Go.RowKit
set_option linter.unusedVariables false
set_option linter.unusedSimpArgs false
theorem text_full (w : World) (p m : Nat) (O : Nat → Prop) (R : Recv.Rec) (hR : RecvIs w p O m R) (s : ByteArray) (hI : Recv.Inv s.data.toList R) (h2 : s.size ≤ 4096) (hc : R.came ≠ []) (ho : R.offer = s.size) :
    Calls Tryd.prog 17 #[.pointer (some ⟨p, 0, none⟩)] w fun e w' => e = .returned (.tuple #[.string s, .nilIface]) ∧ Below w.heap.size w w' := by
  obtain ⟨t1, t2⟩ := Link.text_is s R hI hc ho
  have hl := (hI.some_ hc).2.len2
  rw [Link.size_len] at hl
  have hl' : R.came.length = s.size := hl
  have h := recv_text_all w p m O R hR (by omega) (fun e => hc (List.eq_nil_of_length_eq_zero e)) (by omega) t2
  rw [t1, ba_mk] at h
  exact h
def s8 : ByteArray := ⟨#[97, 98, 99, 100, 101, 102, 103, 104]⟩
theorem s8_size : s8.size = 8 := rfl
def stepsA : List Link.Stp := [⟨1, 0, 0⟩, ⟨1, 1, 0⟩, ⟨2, 0, 0⟩, ⟨1, 2, 0⟩, ⟨3, 0, 0⟩, ⟨4, 0, 0⟩]
def stepsB : List Link.Stp := [⟨1, 0, 0⟩, ⟨9, 0, 0⟩]
theorem stepsA_ok : ∀ x ∈ stepsA, StpOk x := by
  intro x hx
  simp only [stepsA, List.mem_cons, List.not_mem_nil, or_false] at hx
  rcases hx with rfl | rfl | rfl | rfl | rfl | rfl <;> exact ⟨by decide, by decide, by decide⟩
theorem stepsB_ok : ∀ x ∈ stepsB, StpOk x := by
  intro x hx
  simp only [stepsB, List.mem_cons, List.not_mem_nil, or_false] at hx
  rcases hx with rfl | rfl <;> exact ⟨by decide, by decide, by decide⟩
theorem link_run_lit (W : World) (l : Nat) (Z : Nat → Prop) (s : ByteArray) (n c : Nat) (L : Link.St) (h : LinkZ W l Z s n L c) (F : Fits s n) (T : List Link.Stp) (hT : ∀ x ∈ T, StpOk x) (hl : T.length ≤ 1000) (hc : c ≤ 800000) (cs : Array Value) (hcs : cs.toList = T.flatMap stepCells) (N : Nat) (hN : N = T.length) :
    Calls Tryd.prog 53 #[.pointer (some ⟨l, 0, none⟩), .slice (some ⟨W.heap.size, 0, none⟩) N N] (W.alloc (.cells cs 53)) fun e w' => e = .returned (.int .i64 (goods s n L T)) ∧ LinkZ w' l (fun k => Z k ∨ W.heap.size ≤ k) s n (steps s n L T) (c + T.length) ∧ Only Z W w' := by
  have hba : Below W.heap.size W (W.alloc (.cells cs 53)) := bal (Below.refl _ _) _
  refine (link_run _ l _ s n c L ((h.bound F).below hba) F _ T (ListIs.of_alloc W 53 T cs hcs stepCells_len (by unfold maxLen; omega) N hN) hT (fun k hk hZ => ?_) hl hc).mono ?_
  · have : W.heap.size = k := by simpa [Value.ownBlock] using hk
    omega
  · rintro e w' ⟨he, hL, ho⟩
    refine ⟨he, hL.mono (fun k hk => ?_) (Nat.le_refl _), ((Only.of_below Z hba).trans (ho.mono (fun k _ hk => hk.1)))⟩
    rcases hk with hk | hk
    · exact Or.inl hk.1
    · exact Or.inr (Nat.le_trans hba.size hk)
set_option maxHeartbeats 4000000 in
set_option maxRecDepth 20000 in
theorem linked (w : World) : Calls Tryd.prog 25 #[] w fun e w' => e = .returned (.bool true) ∧ Below w.heap.size w w' := by
  have hN := Lib.hid (link_new s8 3 w (by decide) (by decide) (by decide) (by decide))
  have F : Fits s8 3 := ⟨by decide, by decide, by decide, by decide⟩
  obtain ⟨K6, K8, r1, r2, r3, r4, r5, r6, g8, g6⟩ := Link.fact s8 rfl
  have hsA : steps s8 3 Link.new stepsA = K6 := by unfold steps; exact congrArg Prod.fst r1
  have hgA : goods s8 3 Link.new stepsA = 6 := by unfold goods; exact congrArg Prod.snd r1
  have hsB : steps s8 3 K6 stepsB = K8 := by unfold steps; exact congrArg Prod.fst r3
  have hgB : goods s8 3 K6 stepsB = 1 := by unfold goods; exact congrArg Prod.snd r3
  have hs8 : Hid (s8 = ⟨#[97, 98, 99, 100, 101, 102, 103, 104]⟩) := Lib.hid rfl
  clear r1 r3
  replace hsA := Lib.hid hsA
  replace hgA := Lib.hid hgA
  replace hsB := Lib.hid hsB
  replace hgB := Lib.hid hgB
  replace r2 := Lib.hid r2
  replace r4 := Lib.hid r4
  replace r5 := Lib.hid r5
  replace r6 := Lib.hid r6
  go_enter Tryd.func25, Tryd.ntmps25
  go_wp2_with fail
  refine hN.out.mono ?_
  rintro e w1 ⟨⟨l, rfl, hL0⟩, hb1⟩
  have hL : LinkZ w1 l (fun k => w.heap.size ≤ k) s8 3 Link.new 0 := ⟨hL0, Link.good_new s8, Nat.le_refl _⟩
  clear hL0 hN
  replace hL := Lib.hid hL
  go_wp2_with fail
  refine (link_run_lit w1 l _ s8 3 0 Link.new hL.out F stepsA stepsA_ok (by decide) (by omega) _ rfl 6 rfl).mono ?_
  rintro e w2 ⟨rfl, hL2, ho2⟩
  rw [hsA.out] at hL2
  rw [hgA.out]
  have hs1 := hb1.size
  have hb2 : Below w.heap.size w w2 := hb1.trans (ho2.below (B := w.heap.size) (fun k hk => hk) hs1)
  replace hL2 : LinkZ w2 l (fun k => w.heap.size ≤ k) s8 3 K6 6 := hL2.mono (fun k hk => by rcases hk with h | h <;> omega) (by decide)
  have hLf := Lib.hid (link_LeftZ w2 l _ s8 3 6 K6 hL2 F)
  rw [r2.out] at hLf
  replace hL2 := Lib.hid hL2
  clear ho2 hL
  go_wp2_with fail
  refine hLf.out.mono ?_
  rintro e w3 ⟨rfl, hb3⟩
  have hL3 := Lib.hid (hL2.out.below hb3)
  have hs3 := hb3.size
  have hs2 := hb2.size
  go_wp2_with fail
  refine (link_run_lit w3 l _ s8 3 6 K6 hL3.out F stepsB stepsB_ok (by decide) (by omega) _ rfl 2 rfl).mono ?_
  rintro e w4 ⟨rfl, hL4, ho4⟩
  rw [hsB.out] at hL4
  rw [hgB.out]
  have hb4 : Below w.heap.size w w4 := (bch hb2 hb3).trans (ho4.below (B := w.heap.size) (fun k hk => hk) (by omega))
  obtain ⟨p, O, l4, hR4⟩ := hL4.open_
  have hT := Lib.hid (text_full w4 p 0 O K8.R hR4 s8 hL4.good.inv (by decide) r5.out r4.out)
  have hS := Lib.hid (fun W (hW : Below w4.heap.size w4 W) => recv_safe W p 0 O K8.R (hR4.below hW))
  clear hL4 hR4 ho4 hL3
  go_wp2_with fail
  refine hT.out.mono ?_
  rintro e w5 ⟨rfl, hb5⟩
  have l5 := cell_below hb5 l4
  have hS5 := Lib.hid (hS.out w5 hb5)
  rw [r6.out] at hS5
  rw [hs8.out]
  go_wp2_with fail
  refine hS5.out.mono ?_
  rintro e w6 ⟨rfl, hb6⟩
  go_wp2
  go_ret
  exact ⟨rfl, bch (bch hb4 hb5) hb6⟩
end Go.Proofs.YtdpdnkjpjoccmaaDoor
