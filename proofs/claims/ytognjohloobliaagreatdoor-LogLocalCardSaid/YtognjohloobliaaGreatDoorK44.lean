/- The walk of old.First. -/
import Derived.Test.YtognjohloobliaaGreatDoorK25
import Derived.Test.YtognjohloobliaaGreatDoorK42
import Derived.Test.YtognjohloobliaaGreatDoorK21
import Derived.Test.YtognjohloobliaaGreatDoorK43
import Derived.Test.YtognjohloobliaaGreatDoorK23
namespace Go.Proofs.YtognjohloobliaaGreatDoor
open Go.RowKit
set_option linter.unusedVariables false
set_option linter.unusedSimpArgs false
theorem ents_snoc (l : List Vec.Entry) (k : Nat) (hk : k < l.length) : (l.take k).flatMap Fst.ent ++ (Vary.put l[k].r.toNat ++ Vary.put l[k].t.toNat) = (l.take (k + 1)).flatMap Fst.ent := by
 rw [List.take_succ_eq_append_getElem hk, List.flatMap_append]
 simp [Fst.ent]
theorem ent_len (x : Vec.Entry) (h : 0 ≤ x.r ∧ x.r ≤ 200 ∧ 1 ≤ x.t ∧ x.t ≤ 1099511627776) : (Fst.ent x).length ≤ 20 := by
 have := Vary.put_len x.r.toNat (by omega)
 have := Vary.put_len x.t.toNat (by omega)
 unfold Fst.ent
 rw [List.length_append]; omega
theorem flat_le {α : Type} (f : α → List UInt8) (c : Nat) : ∀ l : List α, (∀ x ∈ l, (f x).length ≤ c) → (l.flatMap f).length ≤ c * l.length
 | [], _ => by simp
 | x :: l, h => by
  have h1 := h x (List.mem_cons_self ..)
  have h2 := flat_le f c l fun y hy => h y (List.mem_cons_of_mem _ hy)
  rw [List.flatMap_cons, List.length_append, List.length_cons, Nat.mul_add]; omega
set_option maxHeartbeats 4000000 in
set_option maxRecDepth 20000 in
theorem old_plain (v : Value) (l : List Vec.Entry) (w : World) (hv : VecIs w v l) (hF : Vec.Fine l) :
  Calls Tryz.prog 69 #[v] w fun e w' => e = .returned (.string ⟨(Fst.plain l).toArray⟩) ∧ Below w.heap.size w w' := by
 obtain ⟨o, c, rfl, -, hcell⟩ := hv.list.at entCells_len
 have h16 := hF.len
 have hea := hF.each
 have hP := fun (n : Nat) (hn : n < 18446744073709551616) W => vary_put n W hn
 have hl0 := Vary.put_len l.length (by omega)
 have hwl : IntKind.u64.wrap (l.length : Int) = (l.length : Int) := by rw [IntKind.wrap_u64]; omega
 have hlen : ∀ k, k ≤ l.length → ((⟨(Vary.put l.length ++ (l.take k).flatMap Fst.ent).toArray⟩ : ByteArray)).size ≤ 1000 := fun k hk => by
  rw [ba_size, List.length_append]
  have := flat_le Fst.ent 20 (l.take k) (fun x hx => ent_len x (hea x (List.mem_of_mem_take hx)))
  rw [List.length_take] at this
  omega
 clear hv hF
 replace hcell := Lib.hid hcell
 replace hea := Lib.hid hea
 replace hlen := Lib.hid hlen
 have h0 := hP l.length (by omega)
 replace h0 := Lib.hid h0
 replace hP := Lib.hid hP
 go_enter Tryz.func69, Tryz.ntmps69
 go_wp2_with fail
 refine (h0.out _).mono ?_
 rintro _ w1 ⟨rfl, hb1⟩
 go_wp2
 go_loopw [3, 12] (fun o i wr => ∃ (k : Nat), k ≤ l.length ∧ i = .int .i64 k ∧ o = .string ⟨(Vary.put l.length ++ (l.take k).flatMap Fst.ent).toArray⟩ ∧ Below w.heap.size w wr) (fun _ i _ => l.length - (intOf i).toNat)
 case atStart => exact ⟨0, by omega, rfl, by simp, hb1⟩
 case round =>
  obtain ⟨k, hk, rfl, rfl, hbel⟩ := hrel
  by_cases hlt : k < l.length
  ·obtain ⟨b, off, rfl, hbl, hx⟩ := hcell.out k hlt
   have hbl := hbl (by decide)
   have x0 : wr.cell? ⟨b, off + k * 2, none⟩ = some (.int .i64 l[k].r) := (hbel.cell (p := ⟨b, off + k * 2, none⟩) hbl).trans (hx 0 _ rfl)
   have x1 : wr.cell? ⟨b, off + k * 2 + 1, none⟩ = some (.int .i64 l[k].t) := (hbel.cell (p := ⟨b, off + k * 2 + 1, none⟩) hbl).trans (hx 1 _ rfl)
   have hxk := hea.out _ (List.getElem_mem hlt)
   obtain ⟨rn, hrn⟩ : ∃ rn, rn = l[k].r.toNat := ⟨_, rfl⟩
   obtain ⟨tn, htn⟩ : ∃ tn, tn = l[k].t.toNat := ⟨_, rfl⟩
   have er : l[k].r = (rn : Int) := by omega
   have et : l[k].t = (tn : Int) := by omega
   have hsn := ents_snoc l k hlt
   rw [← hrn, ← htn] at hsn
   rw [er] at x0
   rw [et] at x1
   have hr1 : rn ≤ 200 := by omega
   have ht1 : tn ≤ 1099511627776 := by omega
   have w0 : IntKind.u64.wrap (rn : Int) = (rn : Int) := by rw [IntKind.wrap_u64]; omega
   have w1 : IntKind.u64.wrap (tn : Int) = (tn : Int) := by rw [IntKind.wrap_u64]; omega
   have hl1 := hlen.out k hk
   have hl2 := Vary.put_len rn (by omega)
   have hl3 := Vary.put_len tn (by omega)
   have hz2 := ba_size (Vary.put rn)
   have hz3 := ba_size (Vary.put tn)
   have hP1 := fun W => hP.out rn (by omega) W
   have hP2 := fun W => hP.out tn (by omega) W
   have hfin : (⟨(Vary.put l.length ++ (l.take k).flatMap Fst.ent).toArray⟩ : ByteArray) ++ (⟨(Vary.put rn).toArray⟩ ++ ⟨(Vary.put tn).toArray⟩) = ⟨(Vary.put l.length ++ (l.take (k + 1)).flatMap Fst.ent).toArray⟩ := by
    apply ba_ext
    rw [ba_app, ba_app, ← hsn]
    simp only [List.append_assoc]
   generalize (⟨(Vary.put l.length ++ (l.take k).flatMap Fst.ent).toArray⟩ : ByteArray) = S0 at *
   generalize Vary.put rn = p1 at *
   generalize Vary.put tn = p2 at *
   have hs1 : ¬ 9223372036854775807 < p1.length + p2.length := by omega
   have hs2 : ¬ 9223372036854775807 < S0.size + (p1.length + p2.length) := by omega
   replace hP1 := Lib.hid hP1
   replace hP2 := Lib.hid hP2
   replace hfin := Lib.hid hfin
   replace hsn := Lib.hid hsn
   clear hrn htn er et hxk hx
   go_wp2_with fail
   have qx := row_at #[.int .i64 rn, .int .i64 tn] 45 (rfl : wr.heap.size = wr.heap.size)
   have hb5 := bal hbel (Obj.cells #[.int .i64 rn, .int .i64 tn] 45)
   generalize wr.alloc (Obj.cells #[.int .i64 rn, .int .i64 tn] 45) = w5 at *
   generalize wr.heap.size = gx at *
   obtain ⟨c0, c1⟩ := qx.c2
   have o0 := Old.cell c0
   have o1 := Old.cell c1
   (have hN := Old.ne w5; refine wp_region_kept (Old w5.heap.size w5) (by kernel_rfl) (by kernel_rfl) (Old.start w5) ?_; (repeat (first | go_big_quiet_step ((first | (go_at_call 49; first | with_reducible exact calls_kept (hP1.out _) Old.below | with_reducible exact calls_kept (hP2.out _) Old.below))) | quiet_step ((first | (go_at_call 49; first | with_reducible exact calls_kept (hP1.out _) Old.below | with_reducible exact calls_kept (hP2.out _) Old.below))))); refine wpQuiet_nil ?_; rintro _ ⟨X, rfl⟩)
   have hX := X.ok.2
   generalize X.val = w6 at *
   clear o0 o1 c0 c1 qx
   go_wp2
   go_roundw
   case rel => exact ⟨k + 1, by omega, by go_num, by rw [hfin.out], bch hb5 hX⟩
   case measure => simp [intOf]; omega
  ·obtain rfl : k = l.length := by omega
   rw [List.take_length]
   go_wp2
   go_ret
   exact ⟨rfl, hbel⟩
end Go.Proofs.YtognjohloobliaaGreatDoor
/- The walk of old.First: a batch in a frame of version 1. -/
namespace Go.Proofs.YtognjohloobliaaGreatDoor
open Go.RowKit
set_option linter.unusedVariables false
set_option linter.unusedSimpArgs false
theorem str_oneB (W0 : World) (b : UInt8) (kn : Nat) (hb : b.toNat = kn) (g : Nat) (hg : g = W0.heap.size) (W : World) (hW : Below (W0.alloc (.cells #[.int .u8 kn] 5)).heap.size (W0.alloc (.cells #[.int .u8 kn] 5)) W) :
  Sem.run Tryz.prog (convert 121 9 (.slice (some ⟨g, 0, none⟩) 1 1)) W = .ok (.string ⟨#[b]⟩) W := by
 subst hg; subst hb
 exact str_of_row ((row_alloc W0 #[.int .u8 b.toNat] 5).below hW) (l := [b]) 121 9 Tryz.underlying121 Tryz.underlying5 Tryz.underlying9 1 1 rfl
theorem one_le (x : Wr) (h : Wr.right x = 0) : (Fst.one x).length ≤ 500 := by
 obtain ⟨h1, h2, h3, h4, h5, h6, h7, h8, -⟩ := Wr.right_zero h
 have a1 := Vary.put_len x.t.toNat (by omega)
 have a2 := Vary.put_len x.r.toNat (by omega)
 have a3 := Vary.put_len x.key.length (by omega)
 have a4 := wtail_len h
 unfold Fst.one Span.put
 simp only [List.length_cons, List.length_append]
 omega
theorem ones_snoc (l : List WrB) (k : Nat) (hk : k < l.length) : ((l.take k).map WrB.plain).flatMap Fst.one ++ Fst.one l[k].plain = ((l.take (k + 1)).map WrB.plain).flatMap Fst.one := by
 rw [List.take_succ_eq_append_getElem hk, List.map_append, List.flatMap_append]
 simp
/-- What holds behind each step. -/
def FC (g : Nat) (t r k : Nat) (W2 W : World) : Prop := Below W2.heap.size W2 W ∧ W.cell? ⟨g, 0, none⟩ = some (.int .i64 t) ∧ W.cell? ⟨g, 1, none⟩ = some (.int .i64 r) ∧ W.cell? ⟨g, 2, none⟩ = some (.int .i64 k)
theorem FC.below {g t r k : Nat} {W2 W W' : World} (h : FC g t r k W2 W) (hb : Below W.heap.size W W') : FC g t r k W2 W' :=
 ⟨bch h.1 hb, cell_below hb h.2.1, cell_below hb h.2.2.1, cell_below hb h.2.2.2⟩
theorem FC.alloc {g t r k : Nat} {W2 W : World} (h : FC g t r k W2 W) (o : Obj) : FC g t r k W2 (W.alloc o) := h.below (bal (Below.refl _ _) o)
theorem byWOldLen1 {p : Prop} (h : p := by
 (refine wpAnyH_done (by kernel_rfl) ?_ _)
 have hbf : Below w.heap.size w _ := bch hb5 hHeld.1.1
 replace hbf := Lib.hid hbf
 clear hHeld
 rw [hsum.out]
 go_wp2
 go_roundw
 case rel => exact ⟨k + 1, by omega, by go_num, rfl, hbf.out⟩
 case measure => simp [intOf]; omega) : p := h
set_option maxHeartbeats 20000000 in
set_option maxRecDepth 20000 in
theorem old_first_ok (vf vh vw : Value) (f h : List Vec.Entry) (ws : List WrB) (w : World) (hL : Laid w) (hf : VecIs w vf f) (hh : VecIs w vh h) (hw : WrsIs w vw ws) (hlf : f.length ≤ 140737488351232) (hlh : h.length ≤ 140737488351232) (hlw : ws.length ≤ 140737488351232) (hok : Bat.right f h (ws.map WrB.plain) = .ok) :
  Calls Tryz.prog 53 #[.agg #[vf, vh, vw]] w fun e w' => e = .returned (.tuple #[.string ⟨(Fst.write f h (ws.map WrB.plain)).toArray⟩, .nilIface]) ∧ Below w.heap.size w w' := by
 have hR := fun W (hW : Below w.heap.size w W) => batch_right vf vh vw f h ws W (hL.below hW) (hf.below hW) (hh.below hW) (hw.below hW) hlf hlh hlw
 rw [hok] at hR
 have hFi := (Bat.right_iff _ _ _).1 hok
 have hF1 := (Vec.right_iff f).1 hFi.from_
 have hF2 := (Vec.right_iff h).1 hFi.have_
 have hlw60 : ws.length ≤ 60 := by have := hFi.len; rwa [List.length_map] at this
 have heach : ∀ k (hk : k < ws.length), Wr.right ws[k].plain = 0 := fun k hk => (hFi.each _ (List.mem_map.2 ⟨ws[k], List.getElem_mem hk, rfl⟩)).1
 have hp1 : From 69 #[vf] w (.string ⟨(Fst.plain f).toArray⟩) := fun W hW => old_plain vf f W (hf.below hW) hF1
 have hp2 : From 69 #[vh] w (.string ⟨(Fst.plain h).toArray⟩) := fun W hW => old_plain vh h W (hh.below hW) hF2
 have hp3 : From 49 #[.int .u64 ws.length] w (.string ⟨(Vary.put ws.length).toArray⟩) := fun W hW => vary_put ws.length W (by omega)
 have hpl : ∀ l : List Vec.Entry, Vec.Fine l → (Fst.plain l).length ≤ 400 := fun l hF => by
  have h16 := hF.len
  have a1 := Vary.put_len l.length (by omega)
  have a2 := flat_le Fst.ent 20 l (fun x hx => ent_len x (hF.each x hx))
  unfold Fst.plain
  rw [List.length_append]; omega
 have hpl1 := hpl f hF1
 have hpl2 := hpl h hF2
 have hpl3 := Vary.put_len ws.length (by omega)
 have hwl : IntKind.u64.wrap (ws.length : Int) = (ws.length : Int) := by rw [IntKind.wrap_u64]; omega
 obtain ⟨o1, m1, e1, -, -⟩ := hf.list.at entCells_len
 obtain ⟨o2, m2, e2, -, -⟩ := hh.list.at entCells_len
 obtain ⟨o3, m3, e3, -, hcell⟩ := ListIs.at hw wrBCells_len
 clear hf hh hw hF1 hF2 hpl
 subst e1 e2 e3
 have hhead : ((⟨#[80, 84, 1]⟩ : ByteArray) ++ ⟨(Fst.plain f).toArray⟩ ++ ⟨(Fst.plain h).toArray⟩ ++ ⟨(Vary.put ws.length).toArray⟩).data.toList = 80 :: 84 :: 1 :: (Fst.plain f ++ (Fst.plain h ++ Vary.put ws.length)) := by
  rw [ba_app, ba_app, ba_app]; simp
 have hfin : ∀ O : List UInt8, O = (80 :: 84 :: 1 :: (Fst.plain f ++ (Fst.plain h ++ Vary.put ws.length))) ++ (ws.map WrB.plain).flatMap Fst.one → Crc.seal_ O = Fst.write f h (ws.map WrB.plain) := fun O hO => by
  rw [hO]
  unfold Fst.write Fst.inner Frame.around
  rw [List.length_map]
  simp only [List.cons_append, List.append_assoc]
 generalize Fst.write f h (ws.map WrB.plain) = FR at *
 have hHl : (80 :: 84 :: 1 :: (Fst.plain f ++ (Fst.plain h ++ Vary.put ws.length))).length ≤ 900 := by
  simp only [List.length_cons, List.length_append]; omega
 obtain ⟨HD, hHD⟩ : ∃ HD, HD = 80 :: 84 :: 1 :: (Fst.plain f ++ (Fst.plain h ++ Vary.put ws.length)) := ⟨_, rfl⟩
 rw [← hHD] at hhead hHl
 rw [← hHD] at hfin
 have hoL : ∀ k, k ≤ ws.length → (HD ++ ((ws.take k).map WrB.plain).flatMap Fst.one).length ≤ 40000 := fun k hk => by
  have := flat_le Fst.one 500 ((ws.take k).map WrB.plain) (fun x hx => by
   obtain ⟨y, hy, rfl⟩ := List.mem_map.1 hx
   exact one_le _ (hFi.each _ (List.mem_map.2 ⟨y, List.mem_of_mem_take hy, rfl⟩)).1)
  rw [List.length_map, List.length_take] at this
  rw [List.length_append]; omega
 have hhead2 : (⟨#[80, 84, 1]⟩ : ByteArray) ++ ⟨(Fst.plain f).toArray⟩ ++ ⟨(Fst.plain h).toArray⟩ ++ ⟨(Vary.put ws.length).toArray⟩ = ⟨HD.toArray⟩ := ba_ext hhead
 generalize Fst.plain f = p1 at *
 generalize Fst.plain h = p2 at *
 generalize Vary.put ws.length = p3 at *
 have hz1 := ba_size p1
 have hz2 := ba_size p2
 have hz3 := ba_size p3
 have hs1 : ¬ 9223372036854775807 < 3 + p1.length := by omega
 have hs2 : ¬ 9223372036854775807 < 3 + p1.length + p2.length := by omega
 have hs3 : ¬ 9223372036854775807 < 3 + p1.length + p2.length + p3.length := by omega
 clear hhead hFi hok hHD
 replace heach := Lib.hid heach
 replace hcell := Lib.hid hcell
 replace hfin := Lib.hid hfin
 replace hoL := Lib.hid hoL
 replace hhead2 := Lib.hid hhead2
 replace hR := Lib.hid hR
 replace hp1 := Lib.hid hp1
 replace hp2 := Lib.hid hp2
 replace hp3 := Lib.hid hp3
 go_enter Tryz.func53, Tryz.ntmps53
 go_wp2_with fail
 have q0 := row_at #[.slice o1 f.length m1, .slice o2 h.length m2, .slice o3 ws.length m3] 25 (rfl : w.heap.size = w.heap.size)
 have hb1 := bal (Below.refl w.heap.size w) (Obj.cells #[.slice o1 f.length m1, .slice o2 h.length m2, .slice o3 ws.length m3] 25)
 generalize w.alloc (Obj.cells #[.slice o1 f.length m1, .slice o2 h.length m2, .slice o3 ws.length m3] 25) = w1 at *
 refine (hR.out _ hb1).mono ?_
 rintro _ w2 ⟨v, rfl, hv, hb2⟩
 have hv : v = .nilIface := hv
 subst hv
 replace q0 := q0.below hb2
 replace hb1 := bch hb1 hb2
 clear hb2
 obtain ⟨c0, c1, c2⟩ := q0.c3
 go_wp2_with fail
 have k0 := Old.cell c0
 have k1 := Old.cell c1
 have k2 := Old.cell c2
 have hq1 := hp1.out.later hb1
 have hq2 := hp2.out.later hb1
 have hq3 := hp3.out.later hb1
 (have hN := Old.ne w2; refine wp_region_kept (Old w2.heap.size w2) (by kernel_rfl) (by kernel_rfl) (Old.start w2) ?_; (repeat (first | go_big_quiet_step ((first | (go_at_call 69; with_reducible exact (From.kept hq1 _)) | (go_at_call 69; with_reducible exact (From.kept hq2 _)) | (go_at_call 49; with_reducible exact (From.kept hq3 _)))) | quiet_step ((first | (go_at_call 69; with_reducible exact (From.kept hq1 _)) | (go_at_call 69; with_reducible exact (From.kept hq2 _)) | (go_at_call 49; with_reducible exact (From.kept hq3 _)))))); refine wpQuiet_nil ?_; rintro _ ⟨X, rfl⟩)
 have hX := X.ok.2
 generalize X.val = w3 at *
 replace q0 := q0.below hX
 replace hb1 := bch hb1 hX
 clear k0 k1 k2 hq1 hq2 hq3 c0 c1 c2 hX
 obtain ⟨c0, c1, c2⟩ := q0.c3
 rw [hhead2.out]
 -- LOOP
 go_wp2_with fail
 go_loopw [5, 34] (fun o i wl => ∃ (k : Nat), k ≤ ws.length ∧ i = .int .i64 k ∧ o = .string ⟨(HD ++ ((ws.take k).map WrB.plain).flatMap Fst.one).toArray⟩ ∧ Below w.heap.size w wl) (fun _ i _ => ws.length - (intOf i).toNat)
 case atStart => exact ⟨0, by omega, rfl, by simp, hb1⟩
 case round =>
  clear q0 c0 c1 c2 hb1
  obtain ⟨wl, hwl⟩ : ∃ x, x = wr := ⟨_, rfl⟩
  subst hwl
  obtain ⟨k, hk, rfl, rfl, hbel⟩ := hrel
  by_cases hlt : k < ws.length
  ·obtain ⟨b, off, rfl, hbl, hx⟩ := hcell.out k hlt
   have hbl := hbl (by decide)
   have hx' : ∀ (j : Nat) (u : Value), (wrBCells ws[k])[j]? = some u → wl.cell? ⟨b, off + k * 6 + j, none⟩ = some u := fun j u hu => (hbel.cell (p := ⟨b, off + k * 6 + j, none⟩) hbl).trans (hx j u hu)
   have x0 : wl.cell? ⟨b, off + k * 6, none⟩ = some (.int .i64 ws[k].t) := hx' 0 _ rfl
   have x1 : wl.cell? ⟨b, off + k * 6 + 1, none⟩ = some (.int .i64 ws[k].r) := hx' 1 _ rfl
   have x2 : wl.cell? ⟨b, off + k * 6 + 2, none⟩ = some (.int .i64 ws[k].k) := hx' 2 _ rfl
   have x3 : wl.cell? ⟨b, off + k * 6 + 3, none⟩ = some (.string ws[k].key) := hx' 3 _ rfl
   have x4 : wl.cell? ⟨b, off + k * 6 + 4, none⟩ = some (.string ws[k].val) := hx' 4 _ rfl
   have x5 : wl.cell? ⟨b, off + k * 6 + 5, none⟩ = some (.int .i64 ws[k].n) := hx' 5 _ rfl
   have hrk := heach.out k hlt
   have hsn := ones_snoc ws k hlt
   have hT := fun W => write_tail_ok ws[k].t ws[k].r ws[k].k ws[k].key ws[k].val ws[k].n W hrk
   have hTl := wtail_len hrk
   change (Wr.tail (Go.Proofs.YtognjohloobliaaGreatDoor.wr ws[k].t ws[k].r ws[k].k ws[k].key ws[k].val ws[k].n)).length ≤ 400 at hTl
   obtain ⟨h1, h2, h3, h4, h5, h6, h7, -⟩ := Wr.right_zero hrk
   change 1 ≤ ws[k].k at h1
   change ws[k].k ≤ 4 at h2
   change 1 ≤ ws[k].t at h3
   change ws[k].t ≤ 1099511627776 at h4
   change 0 ≤ ws[k].r at h5
   change ws[k].r ≤ 200 at h6
   change ws[k].key.data.toList.length ≤ 40 at h7
   rw [show ws[k].key.data.toList.length = ws[k].key.size from Array.length_toList] at h7
   have hone : Fst.one ws[k].plain = UInt8.ofNat ws[k].k.toNat :: (Vary.put ws[k].t.toNat ++ (Vary.put ws[k].r.toNat ++ (Span.put ws[k].key.data.toList ++ Wr.tail (Go.Proofs.YtognjohloobliaaGreatDoor.wr ws[k].t ws[k].r ws[k].k ws[k].key ws[k].val ws[k].n)))) := rfl
   rw [hone] at hsn
   have hG := fun W => span_put ws[k].key W (by omega)
   have hGl : (Span.put ws[k].key.data.toList).length ≤ 100 := by
    have e1 : ws[k].key.data.toList.length = ws[k].key.size := Array.length_toList
    have := Vary.put_len ws[k].key.data.toList.length (by omega)
    unfold Span.put; rw [List.length_append]; omega
   generalize Wr.tail (Go.Proofs.YtognjohloobliaaGreatDoor.wr ws[k].t ws[k].r ws[k].k ws[k].key ws[k].val ws[k].n) = TL at *
   generalize Span.put ws[k].key.data.toList = KL at *
   generalize ws[k].key = key at *
   generalize ws[k].val = val at *
   generalize ws[k].n = nn at *
   obtain ⟨kn, hkn⟩ : ∃ kn, kn = ws[k].k.toNat := ⟨_, rfl⟩
   obtain ⟨tn, htn⟩ : ∃ tn, tn = ws[k].t.toNat := ⟨_, rfl⟩
   obtain ⟨rn, hrn⟩ : ∃ rn, rn = ws[k].r.toNat := ⟨_, rfl⟩
   rw [← hkn, ← htn, ← hrn] at hsn
   have ek : ws[k].k = (kn : Int) := by omega
   have et : ws[k].t = (tn : Int) := by omega
   have er : ws[k].r = (rn : Int) := by omega
   rw [et] at x0
   rw [er] at x1
   rw [ek] at x2
   rw [ek, et, er] at hT
   have k4 : kn ≤ 4 := by omega
   have t4 : tn ≤ 1099511627776 := by omega
   have r4 : rn ≤ 200 := by omega
   have hkb : (UInt8.ofNat kn).toNat = kn := Vary.u8_small (by omega)
   have hstr := Lib.hid (fun W0 g' hg' W hW => str_oneB W0 (UInt8.ofNat kn) kn hkb g' hg' W hW)
   have hwk : IntKind.u8.wrap (kn : Int) = (kn : Int) := by rw [IntKind.wrap_u8]; omega
   have hwt : IntKind.u64.wrap (tn : Int) = (tn : Int) := by rw [IntKind.wrap_u64]; omega
   have hwr : IntKind.u64.wrap (rn : Int) = (rn : Int) := by rw [IntKind.wrap_u64]; omega
   have hP1 := Lib.hid (fun W => vary_put tn W (by omega))
   have hP2 := Lib.hid (fun W => vary_put rn W (by omega))
   have hl1 := Vary.put_len tn (by omega)
   have hl2 := Vary.put_len rn (by omega)
   have hz1 := ba_size (Vary.put tn)
   have hz2 := ba_size (Vary.put rn)
   have hz3 := ba_size KL
   have hz4 := ba_size TL
   have hOl := hoL.out k hk
   have hz5 := ba_size (HD ++ ((ws.take k).map WrB.plain).flatMap Fst.one)
   have hsum : (⟨(HD ++ ((ws.take k).map WrB.plain).flatMap Fst.one).toArray⟩ : ByteArray) ++ ((⟨#[UInt8.ofNat kn]⟩ : ByteArray) ++ ⟨(Vary.put tn).toArray⟩ ++ ⟨(Vary.put rn).toArray⟩ ++ ⟨KL.toArray⟩ ++ ⟨TL.toArray⟩) = ⟨(HD ++ ((ws.take (k + 1)).map WrB.plain).flatMap Fst.one).toArray⟩ := by
    apply ba_ext
    rw [ba_app, ba_app, ba_app, ba_app, ba_app, ← hsn]
    simp
   generalize HD ++ ((ws.take k).map WrB.plain).flatMap Fst.one = OL at *
   generalize Vary.put tn = P1 at *
   generalize Vary.put rn = P2 at *
   have hs4 : ¬ 9223372036854775807 < 1 + P1.length := by omega
   have hs5 : ¬ 9223372036854775807 < 1 + P1.length + P2.length := by omega
   have hs6 : ¬ 9223372036854775807 < 1 + P1.length + P2.length + KL.length := by omega
   have hs7 : ¬ 9223372036854775807 < 1 + P1.length + P2.length + KL.length + TL.length := by omega
   have hs8 : ¬ 9223372036854775807 < OL.length + (1 + P1.length + P2.length + KL.length + TL.length) := by omega
   unfold wrV at hT
   replace hsum := Lib.hid hsum
   replace hsn := Lib.hid hsn
   replace hT := Lib.hid hT
   replace hG := Lib.hid hG
   replace hkb := Lib.hid hkb
   clear hkn htn hrn ek et er hx hx' hrk hone h1 h2 h3 h4 h5 h6 h7
   go_wp2_with fail
   have qx := row_at #[.int .i64 tn, .int .i64 rn, .int .i64 kn, .string key, .string val, .int .i64 nn] 33 (rfl : wl.heap.size = wl.heap.size)
   have hb2 := bal hbel (Obj.cells #[.int .i64 tn, .int .i64 rn, .int .i64 kn, .string key, .string val, .int .i64 nn] 33)
   generalize wl.alloc (Obj.cells #[.int .i64 tn, .int .i64 rn, .int .i64 kn, .string key, .string val, .int .i64 nn] 33) = w4 at *
   obtain ⟨gx, hgx⟩ : ∃ g, g = wl.heap.size := ⟨_, rfl⟩
   rw [← hgx] at qx ⊢
   replace hgx := Lib.hid hgx
   clear x0 x1 x2 x3 x4 x5
   refine (hG.out _).mono ?_
   rintro _ w4' ⟨rfl, hbn⟩
   replace qx := qx.below hbn
   replace hb2 := bch hb2 hbn
   clear hbn
   obtain ⟨c0, c1, c2, c3, c4, c5⟩ := qx.c6
   go_wp2_with fail
   refine (hT.out _).mono ?_
   rintro _ w5 ⟨rfl, hbn⟩
   replace qx := qx.below hbn
   have hb5 := bch hb2 hbn
   clear hbn hb2 c0 c1 c2 c3 c4 c5
   obtain ⟨c0, c1, c2, c3, c4, c5⟩ := qx.c6
   go_wp2_with fail
   have hS0 : FC gx tn rn kn w5 w5.drew := ⟨bdr (Below.refl _ _), c0, c1, c2⟩
   clear c0 c1 c2 c3 c4 c5 qx
   (refine wp_region_held_drew (S := (FC gx tn rn kn w5)) (by kernel_rfl) ?_ (fun hHeld => ?_); ((try dsimp only); exact hS0))
   (refine tkO 0 ?_; refine tkO 1 ?_; refine tkO 2 ?_; refine tkO 3 ?_; refine tkO 6 ?_; refine tkO 7 ?_; refine tkO 8 ?_; refine tkO 9 ?_; refine tkO 12 ?_; refine tkO 13 ?_; refine tkO 14 ?_; refine tkO 15 ?_; refine tkO 18 ?_; refine tkO 20 ?_)
   clear hS0
   refine wpAnyH_ready (P := Tryz.prog) (md := .any) (rs := [4, 10]) (by kernel_rfl) (by simp) ?_
   refine held_cons rfl (by kernel_rfl) (fun K hK => ?_) (held_cons rfl (by kernel_rfl) (fun K hK => ?_) AllReadyH.nil)
   ·(go_simp; refine hK.out _ _ ?_ (fun hHeld => ?_); ((try dsimp only); exact FC.alloc hHeld _); clear hK K; (try clear hHeld0); (try rename_i hHeld0))
    refine held_mono (S' := fun W => FC gx tn rn kn w5 W ∧ Below (w5.drew.alloc (Obj.cells #[.int .u8 kn] 5)).heap.size (w5.drew.alloc (Obj.cells #[.int .u8 kn] 5)) W) (fun _ h => h.1) _ _ _ _ ?_
    replace hHeld : FC gx tn rn kn w5 (w5.drew.alloc (Obj.cells #[.int .u8 kn] 5)) ∧ Below (w5.drew.alloc (Obj.cells #[.int .u8 kn] 5)).heap.size (w5.drew.alloc (Obj.cells #[.int .u8 kn] 5)) (w5.drew.alloc (Obj.cells #[.int .u8 kn] 5)) := ⟨hHeld, Below.refl _ _⟩
    have hst := fun W (h : FC gx tn rn kn w5 W ∧ Below (w5.drew.alloc (Obj.cells #[.int .u8 kn] 5)).heap.size (w5.drew.alloc (Obj.cells #[.int .u8 kn] 5)) W) => hstr.out w5.drew w5.heap.size rfl W h.2
    refine held_take (i := 5) (v := ?_) rfl (by kernel_rfl) (by kernel_rfl) (by kernel_rfl) (fun _ _ _ h => h) (by kernel_rfl) hHeld ?_ ?_; rotate_left; (focus (intro w hSw; have hx := hst w hSw; go_simp; (try with_reducible rfl); done)); (simp only [Act.put, List.setIfInBounds_toArray, List.set_cons_zero, List.set_cons_succ]); clear hst
    (refine tdoO 10 (fun K hK => ?_); ((go_simp; refine (hP1.out _).mono ?_; rintro _ wn ⟨rfl, hbn⟩); refine hK.out _ _ ?_ (fun hHeld => ?_); ((try dsimp only); exact ⟨FC.below hHeld.1 hbn, bch hHeld.2 hbn⟩); clear hK K; (try clear hHeld0); (try rename_i hHeld0)))
    (refine tkO 11 ?_)
    (refine tdoO 16 (fun K hK => ?_); ((go_simp; refine (hP2.out _).mono ?_; rintro _ wm ⟨rfl, hbn⟩); refine hK.out _ _ ?_ (fun hHeld => ?_); ((try dsimp only); exact ⟨FC.below hHeld.1 hbn, bch hHeld.2 hbn⟩); clear hK K; (try clear hHeld0); (try rename_i hHeld0)))
    (refine tkO 17 ?_; refine tkO 19 ?_; refine tkO 21 ?_; refine tkO 22 ?_; refine tkO 23 ?_)
    exact byWOldLen1
   ·((go_simp; refine (hP1.out _).mono ?_; rintro _ wn ⟨rfl, hbn⟩); refine hK.out _ _ ?_ (fun hHeld => ?_); ((try dsimp only); exact FC.below hHeld hbn); clear hK K; (try clear hHeld0); (try rename_i hHeld0))
    refine wpAnyH_ready (P := Tryz.prog) (md := .any) (rs := [4, 16]) (by kernel_rfl) (by simp) ?_
    refine held_cons rfl (by kernel_rfl) (fun K hK => ?_) (held_cons rfl (by kernel_rfl) (fun K hK => ?_) AllReadyH.nil)
    ·(go_simp; refine hK.out _ _ ?_ (fun hHeld => ?_); ((try dsimp only); exact FC.alloc hHeld _); clear hK K; (try clear hHeld0); (try rename_i hHeld0))
     refine held_mono (S' := fun W => FC gx tn rn kn w5 W ∧ Below (wn.alloc (Obj.cells #[.int .u8 kn] 5)).heap.size (wn.alloc (Obj.cells #[.int .u8 kn] 5)) W) (fun _ h => h.1) _ _ _ _ ?_
     replace hHeld : FC gx tn rn kn w5 (wn.alloc (Obj.cells #[.int .u8 kn] 5)) ∧ Below (wn.alloc (Obj.cells #[.int .u8 kn] 5)).heap.size (wn.alloc (Obj.cells #[.int .u8 kn] 5)) (wn.alloc (Obj.cells #[.int .u8 kn] 5)) := ⟨hHeld, Below.refl _ _⟩
     have hst := fun W (h : FC gx tn rn kn w5 W ∧ Below (wn.alloc (Obj.cells #[.int .u8 kn] 5)).heap.size (wn.alloc (Obj.cells #[.int .u8 kn] 5)) W) => hstr.out wn wn.heap.size rfl W h.2
     refine held_take (i := 5) (v := ?_) rfl (by kernel_rfl) (by kernel_rfl) (by kernel_rfl) (fun _ _ _ h => h) (by kernel_rfl) hHeld ?_ ?_; rotate_left; (focus (intro w hSw; have hx := hst w hSw; go_simp; (try with_reducible rfl); done)); (simp only [Act.put, List.setIfInBounds_toArray, List.set_cons_zero, List.set_cons_succ]); clear hst
     (refine tkO 11 ?_)
     (refine tdoO 16 (fun K hK => ?_); ((go_simp; refine (hP2.out _).mono ?_; rintro _ wm ⟨rfl, hbn⟩); refine hK.out _ _ ?_ (fun hHeld => ?_); ((try dsimp only); exact ⟨FC.below hHeld.1 hbn, bch hHeld.2 hbn⟩); clear hK K; (try clear hHeld0); (try rename_i hHeld0)))
     (refine tkO 17 ?_; refine tkO 19 ?_; refine tkO 21 ?_; refine tkO 22 ?_; refine tkO 23 ?_)
     exact byWOldLen1
    ·((go_simp; refine (hP2.out _).mono ?_; rintro _ wm ⟨rfl, hbn⟩); refine hK.out _ _ ?_ (fun hHeld => ?_); ((try dsimp only); exact FC.below hHeld hbn); clear hK K; (try clear hHeld0); (try rename_i hHeld0))
     (refine tdoO 4 (fun K hK => ?_); (go_simp; refine hK.out _ _ ?_ (fun hHeld => ?_); ((try dsimp only); exact FC.alloc hHeld _); clear hK K; (try clear hHeld0); (try rename_i hHeld0)))
     refine held_mono (S' := fun W => FC gx tn rn kn w5 W ∧ Below (wm.alloc (Obj.cells #[.int .u8 kn] 5)).heap.size (wm.alloc (Obj.cells #[.int .u8 kn] 5)) W) (fun _ h => h.1) _ _ _ _ ?_
     replace hHeld : FC gx tn rn kn w5 (wm.alloc (Obj.cells #[.int .u8 kn] 5)) ∧ Below (wm.alloc (Obj.cells #[.int .u8 kn] 5)).heap.size (wm.alloc (Obj.cells #[.int .u8 kn] 5)) (wm.alloc (Obj.cells #[.int .u8 kn] 5)) := ⟨hHeld, Below.refl _ _⟩
     have hst := fun W (h : FC gx tn rn kn w5 W ∧ Below (wm.alloc (Obj.cells #[.int .u8 kn] 5)).heap.size (wm.alloc (Obj.cells #[.int .u8 kn] 5)) W) => hstr.out wm wm.heap.size rfl W h.2
     refine held_take (i := 5) (v := ?_) rfl (by kernel_rfl) (by kernel_rfl) (by kernel_rfl) (fun _ _ _ h => h) (by kernel_rfl) hHeld ?_ ?_; rotate_left; (focus (intro w hSw; have hx := hst w hSw; go_simp; (try with_reducible rfl); done)); (simp only [Act.put, List.setIfInBounds_toArray, List.set_cons_zero, List.set_cons_succ]); clear hst
     (refine tkO 11 ?_; refine tkO 17 ?_; refine tkO 19 ?_; refine tkO 21 ?_; refine tkO 22 ?_; refine tkO 23 ?_)
     exact byWOldLen1
  ·obtain rfl : k = ws.length := by omega
   have hfb := hfin.out _ (congrArg (fun l => HD ++ (List.map WrB.plain l).flatMap Fst.one) (List.take_length (l := ws)))
   have hOl := hoL.out ws.length (Nat.le_refl _)
   have hz5 := ba_size (HD ++ ((ws.take ws.length).map WrB.plain).flatMap Fst.one)
   generalize HD ++ ((ws.take ws.length).map WrB.plain).flatMap Fst.one = OL at *
   have hSe := fun W => crc_seal ⟨OL.toArray⟩ W (by unfold maxLen; omega)
   rw [show (ByteArray.mk OL.toArray).data.toList = OL from rfl, hfb] at hSe
   replace hSe := Lib.hid hSe
   go_wp2_with fail
   refine (hSe.out _).mono ?_
   rintro _ w6 ⟨rfl, hb6⟩
   go_wp2
   go_ret2
   exact ⟨rfl, bch hbel hb6⟩
end Go.Proofs.YtognjohloobliaaGreatDoor
/- How long frames are; the walk of old.Lift. -/
namespace Go.Proofs.YtognjohloobliaaGreatDoor
open Go.RowKit
set_option linter.unusedVariables false
set_option linter.unusedSimpArgs false
namespace Fst
theorem frame_len (f h : List Vec.Entry) (ws : List WrB) (hl : (bodyOf f h ws).length ≤ 20000) : (Frame.write f h (ws.map WrB.plain)).length ≤ 30000 := by
 rw [Frame.write_len]
 change 8 + (Vary.put (bodyOf f h ws).length).length + (if (Frame.squeeze (bodyOf f h ws)).length < (bodyOf f h ws).length then (Frame.squeeze (bodyOf f h ws)).length else (bodyOf f h ws).length) ≤ 30000
 have := Vary.put_len (bodyOf f h ws).length (by omega)
 split <;> omega
theorem plain_len (l : List Vec.Entry) (hr : Vec.right l = .ok) : (plain l).length ≤ 400 := by
 have hF := (Vec.right_iff l).1 hr
 have h16 := hF.len
 have a1 := Vary.put_len l.length (by omega)
 have a2 := flat_le ent 20 l (fun x hx => ent_len x (hF.each x hx))
 unfold plain
 rw [List.length_append]; omega
theorem first_len {f h : List Vec.Entry} {ws : List Wr} (hr : Bat.right f h ws = .ok) : (write f h ws).length ≤ 41000 := by
 have hF := (Bat.right_iff _ _ _).1 hr
 have h1 := plain_len f hF.from_
 have h2 := plain_len h hF.have_
 have h3 := Vary.put_len ws.length (by have := hF.len; omega)
 have h4 := flat_le one 500 ws (fun x hx => one_le x (hF.each x hx).1)
 have h5 := hF.len
 unfold write inner
 rw [Frame.around_len]
 simp only [List.length_append]
 omega
end Fst
end Go.Proofs.YtognjohloobliaaGreatDoor
/- A batch in a frame of any version, and out again. -/
namespace Go.Proofs.YtognjohloobliaaGreatDoor
open Go.RowKit
set_option linter.unusedVariables false
set_option linter.unusedSimpArgs false
theorem wrb_of_plain (x : WrB) : WrB.of x.plain = x := by
 obtain ⟨t, r, k, key, val, n⟩ := x
 show WrB.mk t r k ⟨key.data.toList.toArray⟩ ⟨val.data.toList.toArray⟩ n = _
 rw [ba_mk, ba_mk]
theorem wrbs_of_plains (ws : List WrB) : (ws.map WrB.plain).map WrB.of = ws := by
 rw [List.map_map]
 exact (List.map_congr_left (g := id) fun x _ => wrb_of_plain x).trans (List.map_id ws)
set_option maxHeartbeats 4000000 in
set_option maxRecDepth 20000 in
theorem frame_write_long (vf vh vw : Value) (f h : List Vec.Entry) (ws : List WrB) (w : World) (hL : Laid w) (hf : VecIs w vf f) (hh : VecIs w vh h) (hw : WrsIs w vw ws) (hlf : f.length ≤ 140737488351232) (hlh : h.length ≤ 140737488351232) (hlw : ws.length ≤ 140737488351232) (hok : Bat.right f h (ws.map WrB.plain) = .ok) (hl : 20000 < (bodyOf f h ws).length) :
  Calls Tryz.prog 52 #[.agg #[vf, vh, vw]] w fun e w' => e = .returned (.tuple #[.string ⟨#[]⟩, .iface 67 (.int .i64 4)]) ∧ Below w.heap.size w w' := by
 have hWo := fun W (hW : Below w.heap.size w W) => body_write_ok vf vh vw f h ws W (hL.below hW) (hf.below hW) (hh.below hW) (hw.below hW) hlf hlh hlw hok
 rw [if_pos hl] at hWo
 unfold errV at hWo
 obtain ⟨o1, m1, e1, -, -⟩ := hf.list.at entCells_len
 obtain ⟨o2, m2, e2, -, -⟩ := hh.list.at entCells_len
 obtain ⟨o3, m3, e3, -, -⟩ := ListIs.at hw wrBCells_len
 clear hf hh hw
 subst e1 e2 e3
 have hb1 := bal (Below.refl w.heap.size w) (Obj.cells #[.slice o1 f.length m1, .slice o2 h.length m2, .slice o3 ws.length m3] 25)
 have hWr := Lib.hid (hWo _ hb1)
 clear hWo hl hok
 go_enter Tryz.func52, Tryz.ntmps52
 go_wp2_with fail
 refine hWr.out.mono ?_
 rintro _ w5 ⟨rfl, hb2⟩
 go_wp2
 go_ret2
 exact ⟨rfl, bch hb1 hb2⟩
/-- What comes of a batch's writing: a frame that any reads, or that it is too long. -/
def Carried (f h : List Vec.Entry) (ws : List WrB) (w : World) (e : Ending) (w' : World) : Prop :=
 (∃ S : List UInt8, e = .returned (.tuple #[.string ⟨S.toArray⟩, .nilIface]) ∧ S.length ≤ 50000 ∧ Fst.anyB S = some (f, h, ws.map WrB.plain)) ∧ Below w.heap.size w w' ∨
 (e = .returned (.tuple #[.string ⟨#[]⟩, .iface 67 (.int .i64 4)])) ∧ Below w.heap.size w w'
theorem carry_frame (vf vh vw : Value) (f h : List Vec.Entry) (ws : List WrB) (w : World) (hL : Laid w) (hf : VecIs w vf f) (hh : VecIs w vh h) (hw : WrsIs w vw ws) (hok : Bat.right f h (ws.map WrB.plain) = .ok) (hlf : f.length ≤ 140737488351232) (hlh : h.length ≤ 140737488351232) (hlw : ws.length ≤ 140737488351232) :
  Calls Tryz.prog 52 #[.agg #[vf, vh, vw]] w (Carried f h ws w) := by
 by_cases hl : 20000 < (bodyOf f h ws).length
 ·exact (frame_write_long vf vh vw f h ws w hL hf hh hw hlf hlh hlw hok hl).mono fun e w' hr => .inr hr
 ·refine (frame_write_all vf vh vw f h ws w hL hf hh hw hlf hlh hlw).mono fun e w' ⟨⟨s, E, he, hfw⟩, hb⟩ => ?_
  have hbl : (bodyOf f h ws).length ≤ 20000 := by omega
  rcases hfw with ⟨rfl, -, -, rfl⟩ | ⟨-, h2, -⟩
  ·exact .inl ⟨⟨_, he, by have := Fst.frame_len f h ws hbl; omega, Fst.anyB_third hok hbl⟩, hb⟩
  ·exact absurd ⟨hok, hbl⟩ h2
theorem carry_first (vf vh vw : Value) (f h : List Vec.Entry) (ws : List WrB) (w : World) (hL : Laid w) (hf : VecIs w vf f) (hh : VecIs w vh h) (hw : WrsIs w vw ws) (hok : Bat.right f h (ws.map WrB.plain) = .ok) (hlf : f.length ≤ 140737488351232) (hlh : h.length ≤ 140737488351232) (hlw : ws.length ≤ 140737488351232) :
  Calls Tryz.prog 53 #[.agg #[vf, vh, vw]] w (Carried f h ws w) :=
 (old_first_ok vf vh vw f h ws w hL hf hh hw hlf hlh hlw hok).mono fun e w' ⟨he, hb⟩ => .inl ⟨⟨_, he, by have := Fst.first_len hok; omega, Fst.anyB_first hok⟩, hb⟩
theorem carry_second (vf vh vw : Value) (f h : List Vec.Entry) (ws : List WrB) (w : World) (hL : Laid w) (hf : VecIs w vf f) (hh : VecIs w vh h) (hw : WrsIs w vw ws) (hok : Bat.right f h (ws.map WrB.plain) = .ok) (hlf : f.length ≤ 140737488351232) (hlh : h.length ≤ 140737488351232) (hlw : ws.length ≤ 140737488351232) :
  Calls Tryz.prog 54 #[.agg #[vf, vh, vw]] w (Carried f h ws w) := by
 by_cases hl : 20000 < (bodyOf f h ws).length
 ·exact (old_second_long vf vh vw f h ws w hL hf hh hw hlf hlh hlw hok hl).mono fun e w' hr => .inr hr
 ·refine (old_second vf vh vw f h ws w hL hf hh hw hlf hlh hlw hok hl).mono fun e w' ⟨he, hb⟩ => ?_
  exact .inl ⟨⟨_, he, by rw [Frame.around_len]; omega, Fst.anyB_second (ws := ws.map WrB.plain) hok (by show (bodyOf f h ws).length ≤ 20000; omega)⟩, hb⟩
theorem carry_any (S : List UInt8) (f h : List Vec.Entry) (ws : List WrB) (w : World) (hL : Laid w) (hl : S.length ≤ 50000) (ha : Fst.anyB S = some (f, h, ws.map WrB.plain)) :
  Calls Tryz.prog 55 #[.string ⟨S.toArray⟩] w fun e w' => (∃ vf vh vw, e = .returned (.tuple #[.agg #[vf, vh, vw], .nilIface]) ∧ VecIs w' vf f ∧ VecIs w' vh h ∧ WrsIs w' vw ws) ∧ Below w.heap.size w w' := by
 have := old_any ⟨S.toArray⟩ w (by rw [ba_size]; omega) hL
 rw [show (ByteArray.mk S.toArray).data.toList = S from rfl, ha] at this
 unfold OldRes at this
 simp only at this
 rw [wrbs_of_plains] at this
 exact this
end Go.Proofs.YtognjohloobliaaGreatDoor
