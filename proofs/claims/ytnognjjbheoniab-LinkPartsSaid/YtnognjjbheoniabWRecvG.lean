/- What recv's Take and Mark do to who gets pieces of one text. -/
import Derived.Test.YtnognjjbheoniabWRecvM
import Derived.Test.YtnognjjbheoniabWCrash
import Derived.Test.YtnognjjbheoniabWLinkB
namespace Go.Proofs.Ytnognjjbheoniab
open Go.RowKit
set_option linter.unusedVariables false
set_option linter.unusedSimpArgs false
theorem recv_mark_none (w : World) (p m : Nat) (O : Nat → Prop) (R : Recv.Rec) (hR : RecvIs w p O m R) (h0 : R.came = []) :
    Calls Try.prog 25 #[.pointer (some ⟨p, 0, none⟩)] w fun e w' => e = .returned (.tuple #[]) ∧ RecvIs w' p O m R.marks ∧ Only O w w' := by
  have hmk : Hid (R.marks = R) := Lib.hid (by unfold Recv.Rec.marks; rw [if_pos h0])
  have hR' := Lib.hid hR
  obtain ⟨d, gs, b, g3, g4, v3, v4, hR⟩ := hR
  have c2 : w.cell? ⟨p, 2, none⟩ = some (.int .i64 R.came.length) := hR.row.cell 2
  rw [h0] at c2
  have c2' : w.cell? ⟨p, 2, none⟩ = some (.int .i64 0) := c2
  clear hR c2 h0
  go_enter Try.func25, Try.ntmps25
  go_wp2
  exact bodyPost_ret (v := .tuple #[]) (by simp [results, Try.results25, go_sem]) rfl ⟨rfl, by rw [hmk.out]; exact hR'.out, Only.refl _ _⟩
theorem recv_mark (w : World) (p m : Nat) (O : Nat → Prop) (R : Recv.Rec) (hR : RecvIs w p O m R) (s : List UInt8) (hI : Recv.Inv s R) (hs : s.length ≤ 4096) (hmk : R.mark ≤ 1000000) (hm : m ≤ 900000) :
    Calls Try.prog 25 #[.pointer (some ⟨p, 0, none⟩)] w fun e w' => e = .returned (.tuple #[]) ∧ (∃ m', m' ≤ m + 1 ∧ RecvIs w' p O m' R.marks) ∧ Only O w w' := by
  by_cases h0 : R.came = []
  · exact (recv_mark_none w p m O R hR h0).mono fun _ _ ⟨a, b, c⟩ => ⟨a, ⟨m, by omega, b⟩, c⟩
  · obtain ⟨h1, h2⟩ := hI.some_ h0
    have h3 : R.came.length = s.length := h2.len2
    have h4 := Recv.inv_offer_le s R hI
    have h5 := hI.le1
    have h6 := hI.le2
    exact (recv_mark_some w p m O R hR h0 (by omega) (by rw [h1]; exact Crc.sum_lt _) (by omega) hmk hm).mono fun _ _ ⟨a, b, c⟩ => ⟨a, ⟨m + 1, by omega, b⟩, c⟩
theorem line_size (s : ByteArray) (n i : Nat) (h : i * n < s.size) (hs : 1 ≤ n) (hm : n ≤ 256) (hn : s.size ≤ 4096) : (lineAt s n i).size ≤ 304 := by
  unfold lineAt
  rw [ba_size]
  exact Chunk.write_len _ (Chunk.pieceAt_fine s n i h hs hm hn)
theorem line_data (s : ByteArray) (n i : Nat) : (lineAt s n i).data.toList = Chunk.write (Chunk.pieceAt s n i) := rfl
/-- A piece of the text is taken. -/
theorem recv_take_got (w : World) (p m : Nat) (O : Nat → Prop) (R : Recv.Rec) (hR : RecvIs w p O m R) (s : ByteArray) (n i : Nat) (hI : Recv.Inv s.data.toList R) (h1 : s.size ≠ 0) (h2 : s.size ≤ 4096) (h3 : 1 ≤ n) (h4 : n ≤ 256) (hi : i * n < s.size) (x : ByteArray) (hx : x.data.toList = Chunk.write (Chunk.pieceAt s n i)) :
    Calls Try.prog 22 #[.pointer (some ⟨p, 0, none⟩), .string x] w fun e w' => e = .returned .nilIface ∧ ∃ O', RecvIs w' p O' m (Link.got s n R i) ∧ Only O w w' ∧ ∀ k, O' k → O k ∨ w.heap.size ≤ k := by
  have hf := Chunk.pieceAt_fine s n i hi h3 h4 h2
  have hn := Chunk.pieceAt_name s n i
  have hrd : Chunk.read x.data.toList = .ok ⟨(Chunk.pieceAt s n i).name, (s.size : Nat), ((i * n : Nat) : Int), (Chunk.pieceAt s n i).data⟩ := by rw [hx]; exact Chunk.read_write _ hf hn
  have hsz : x.size ≤ 1000000 := by
    have h5 := Chunk.write_len _ hf
    rw [← hx, Array.length_toList] at h5
    have : x.data.size = x.size := rfl
    omega
  obtain ⟨g1, g2, _⟩ := Link.got_spec s n R hI h1 i
  have e1 : (Chunk.pieceAt s n i).name = Crc.sum s.data.toList := rfl
  rw [e1] at hrd
  have hf' : Chunk.Fine ⟨Crc.sum s.data.toList, (s.size : Nat), ((i * n : Nat) : Int), (Chunk.pieceAt s n i).data⟩ := hf
  by_cases h0 : R.came = []
  · refine (recv_take_open w p m O R hR x hsz _ s.size (i * n) _ hrd (Crc.sum_lt _) hf' h0).mono ?_
    rintro e w' ⟨he, O', R', hR', hr, ho, hO⟩
    rw [g1] at hR'
    injection hR' with hR'
    rw [← hR'] at hr
    exact ⟨he, O', hr, ho, hO⟩
  · obtain ⟨q1, q2⟩ := hI.some_ h0
    have q3 := q2.len2
    rw [Link.size_len] at q3
    refine (recv_take_more w p m O R hR x hsz _ s.size (i * n) _ hrd (Crc.sum_lt _) hf' h0 q1 q3).mono ?_
    rintro e w' ⟨he, O', R', hR', hr, ho, hO⟩
    rw [g1] at hR'
    injection hR' with hR'
    rw [← hR'] at hr
    exact ⟨he, O', hr, ho, hO⟩
/-- A link whose receiver has changed. -/
theorem LinkAt.change {w w' : World} {l p : Nat} {vp : Value} {O O' : Nat → Prop} {s : ByteArray} {n : Nat} {L : Link.St} (h : LinkAt w l p vp O s n L) (ho : Only O w w') (R' : Recv.Rec) (hR : RecvIs w' p O' 0 R') (hO : ∀ k, O' k → O k ∨ w.heap.size ≤ k) (hc : 0 < Chunk.cuts s.size n) : LinkAt w' l p vp O' s n { L with R := R' } := by
  have hv := h.pcs.own_lt strCells_len (by omega) (by rw [linesTo_len]; exact hc)
  exact { row := h.row.only ho h.nl, pcs := h.pcs.only ho (fun k hk => (h.npc k hk).1), recv := hR
          nl := fun hk => by rcases hO l hk with hk | hk
                             · exact h.nl hk
                             · have := h.row.lt; omega
          npc := fun k hk => ⟨fun hk2 => by rcases hO k hk2 with hk2 | hk2
                                            · exact (h.npc k hk).1 hk2
                                            · have := hv k hk; omega, (h.npc k hk).2⟩ }
end Go.Proofs.Ytnognjjbheoniab
