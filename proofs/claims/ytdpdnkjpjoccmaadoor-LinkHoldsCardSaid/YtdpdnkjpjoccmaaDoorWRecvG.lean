/- What recv's Take and Mark do to who gets pieces of one text. -/
import Derived.Test.YtdpdnkjpjoccmaaDoorWRecvM
import Derived.Test.YtdpdnkjpjoccmaaDoorWCrash
import Derived.Test.YtdpdnkjpjoccmaaDoorWLinkB
namespace Go.Proofs.YtdpdnkjpjoccmaaDoor
open Go.RowKit
set_option linter.unusedVariables false
set_option linter.unusedSimpArgs false
theorem recv_mark_none (w : World) (p m : Nat) (O : Nat → Prop) (R : Recv.Rec) (hR : RecvIs w p O m R) (h0 : R.came = []) :
    Calls Tryd.prog 22 #[.pointer (some ⟨p, 0, none⟩)] w fun e w' => e = .returned (.tuple #[]) ∧ RecvIs w' p O m R.marks ∧ Only O w w' := by
  have hmk : Hid (R.marks = R) := Lib.hid (by unfold Recv.Rec.marks; rw [if_pos h0])
  have hR' := Lib.hid hR
  obtain ⟨d, gs, b, g3, g4, v3, v4, hR⟩ := hR
  have c2 : w.cell? ⟨p, 2, none⟩ = some (.int .i64 R.came.length) := hR.row.cell 2
  rw [h0] at c2
  have c2' : w.cell? ⟨p, 2, none⟩ = some (.int .i64 0) := c2
  clear hR c2 h0
  go_enter Tryd.func22, Tryd.ntmps22
  go_wp2
  exact bodyPost_ret (v := .tuple #[]) (by simp [results, Tryd.results22, go_sem]) rfl ⟨rfl, by rw [hmk.out]; exact hR'.out, Only.refl _ _⟩
theorem recv_mark (w : World) (p m : Nat) (O : Nat → Prop) (R : Recv.Rec) (hR : RecvIs w p O m R) (s : List UInt8) (hI : Recv.Inv s R) (hs : s.length ≤ 4096) (hmk : R.mark ≤ 1000000) (hm : m ≤ 900000) :
    Calls Tryd.prog 22 #[.pointer (some ⟨p, 0, none⟩)] w fun e w' => e = .returned (.tuple #[]) ∧ (∃ m', m' ≤ m + 1 ∧ RecvIs w' p O m' R.marks) ∧ Only O w w' := by
  by_cases h0 : R.came = []
  · exact (recv_mark_none w p m O R hR h0).mono fun _ _ ⟨a, b, c⟩ => ⟨a, ⟨m, by omega, b⟩, c⟩
  · obtain ⟨h1, h2⟩ := hI.some_ h0
    have h3 : R.came.length = s.length := h2.len2
    have h4 := Recv.inv_offer_le s R hI
    have h5 := hI.le1
    have h6 := hI.le2
    exact (recv_mark_some w p m O R hR h0 (by omega) (by rw [h1]; exact Crc.sum_lt _) (by omega) hmk hm).mono fun _ _ ⟨a, b, c⟩ => ⟨a, ⟨m + 1, by omega, b⟩, c⟩
/-- A link whose receiver has changed. -/
theorem LinkAt.change {w w' : World} {l p : Nat} {vp : Value} {O O' : Nat → Prop} {s : ByteArray} {n : Nat} {L : Link.St} (h : LinkAt w l p vp O s n L) (ho : Only O w w') (R' : Recv.Rec) (hR : RecvIs w' p O' 0 R') (hO : ∀ k, O' k → O k ∨ w.heap.size ≤ k) (hc : 0 < Chunk.cuts s.size n) : LinkAt w' l p vp O' s n { L with R := R' } := by
  have hv := h.pcs.own_lt strCells_len (by omega) (by rw [linesTo_len]; exact hc)
  exact { row := h.row.only ho h.nl, pcs := h.pcs.only ho (fun k hk => (h.npc k hk).1), recv := hR
          nl := fun hk => by rcases hO l hk with hk | hk
                             · exact h.nl hk
                             · have := h.row.lt; omega
          npc := fun k hk => ⟨fun hk2 => by rcases hO k hk2 with hk2 | hk2
                                            · exact (h.npc k hk).1 hk2
                                            · have := hv k hk; omega, (h.npc k hk).2⟩ }
end Go.Proofs.YtdpdnkjpjoccmaaDoor
