/- Worlds that differ in some blocks alone. -/
import Derived.Test.YtognjohloobliaaGreatDoorK01
import Derived.Test.YtognjohloobliaaGreatDoorRows
import Derived.Test.YtognjohloobliaaGreatDoorK10
namespace Go.Proofs.YtognjohloobliaaGreatDoor
open Go.RowKit
set_option linter.unusedVariables false
/-- All that stood is as it was, but for the blocks of S. -/
structure Only (S : Nat → Prop) (w w' : World) : Prop where
 os : w'.os = w.os
 tape : w'.tape = w.tape
 output : w'.output = w.output
 size : w.heap.size ≤ w'.heap.size
 block : ∀ k, k < w.heap.size → ¬ S k → w'.heap[k]? = w.heap[k]?
namespace Only
variable {S : Nat → Prop} {w a b : World}
theorem refl (S : Nat → Prop) (w : World) : Only S w w := ⟨rfl, rfl, rfl, Nat.le_refl _, fun _ _ _ => rfl⟩
theorem trans (h : Only S w a) (k : Only S a b) : Only S w b :=
 ⟨k.os.trans h.os, k.tape.trans h.tape, k.output.trans h.output, Nat.le_trans h.size k.size, fun i hi hn => (k.block i (Nat.lt_of_lt_of_le hi h.size) hn).trans (h.block i hi hn)⟩
theorem of_below (S : Nat → Prop) (h : Below w.heap.size w a) : Only S w a := ⟨h.os, h.tape, h.output, h.size, fun i hi _ => h.block i hi⟩
theorem chain (h : Only S w a) (k : Below a.heap.size a b) : Only S w b := h.trans (of_below S k)
theorem below {B : Nat} (h : Only S w a) (hS : ∀ k, S k → B ≤ k) (hB : B ≤ w.heap.size) : Below B w a :=
 ⟨h.os, h.tape, h.output, h.size, fun i hi => h.block i (Nat.lt_of_lt_of_le hi hB) fun hs => by have := hS i hs; omega⟩
theorem alloc (h : Only S w a) (o : Obj) : Only S w (a.alloc o) := h.chain ((Below.refl _ a).alloc (Nat.le_refl _) o)
theorem drew (h : Only S w a) : Only S w a.drew := ⟨h.os, h.tape, h.output, h.size, h.block⟩
theorem grown {row : Option Nat} (h : Only S w a) (hg : a.grownBy b row) (hr : ∀ k, row = some k → S k ∨ w.heap.size ≤ k) : Only S w b :=
 ⟨hg.os.trans h.os, hg.tape.trans h.tape, hg.output.trans h.output, Nat.le_trans h.size hg.size, fun i hi hn =>
  (hg.block i (Nat.lt_of_lt_of_le hi h.size) (fun e => by
   rcases hr i e.symm with hs | hs
   ·exact hn hs
   ·omega)).trans (h.block i hi hn)⟩
theorem set (h : Only S w a) {p : Addr} (hp : S p.block ∨ w.heap.size ≤ p.block) (v : Value) : Only S w (a.setCell p v) :=
 ⟨h.os, h.tape, h.output, by have := h.size; simpa [World.setCell] using this, fun i hi hn => (Below.heap_setCell a p v i (fun e => by
   rcases hp with hs | hs
   ·exact hn (e ▸ hs)
   ·omega)).trans (h.block i hi hn)⟩
theorem mono {S' : Nat → Prop} (h : Only S w a) (hS : ∀ k, k < w.heap.size → S k → S' k) : Only S' w a := ⟨h.os, h.tape, h.output, h.size, fun i hi hn => h.block i hi fun hs => hn (hS i hi hs)⟩
theorem cell (h : Only S w a) {p : Addr} {v : Value} (hc : w.cell? p = some v) (hn : ¬ S p.block) : a.cell? p = some v :=
 (World.cell?_of_block (w := w) (h.block p.block (World.block_lt_of_cell? w p hc) hn)).trans hc
end Only
theorem Only.step {S T : Nat → Prop} {w a b : World} (h : Only S w a) (k : Only T a b) (hT : ∀ j, T j → S j ∨ w.heap.size ≤ j) : Only S w b :=
 ⟨k.os.trans h.os, k.tape.trans h.tape, k.output.trans h.output, Nat.le_trans h.size k.size, fun i hi hn => (k.block i (Nat.lt_of_lt_of_le hi h.size) (fun hs => by
  rcases hT i hs with h1 | h1
  ·exact hn h1
  ·omega)).trans (h.block i hi hn)⟩
theorem Row.only {S : Nat → Prop} {w a : World} {g : Nat} {e : TypeId} {cs : List Value} (h : Row w g e cs) (ho : Only S w a) (hn : ¬ S g) : Row a g e cs := h.of_block (ho.block g h.lt hn)
theorem owns_only {S : Nat → Prop} {w w' : World} {base : Nat} {e : TypeId} {sz n : Nat} {v : Value} {xs : List Value} (h : w.ownsRow base e sz v n xs) (ho : Only S w w') (hn : ∀ k, v.ownBlock = some k → ¬ S k) : w'.ownsRow base e sz v n xs := by
 refine ⟨h.1, ?_⟩
 rcases h.2 with hn0 | ⟨g, cap, cur, rfl, hb1, hg, rest⟩
 ·exact .inl hn0
 ·exact .inr ⟨g, cap, cur, rfl, hb1, (ho.block g (Array.getElem?_eq_some_iff.1 hg).1 (hn g rfl)).trans hg, rest⟩
end Go.Proofs.YtognjohloobliaaGreatDoor
/- A region that draws its order and ends with an operation that waits for all others: behind that one nothing need be shown of the world. -/
namespace Go.Proofs.YtognjohloobliaaGreatDoor
set_option linter.unusedSimpArgs false
open Go.RowKit
set_option linter.unusedVariables false
section
variable {P : Program} {md : Region.Mode} {ops : Array Oper} {Q : Exit → Act → World → Prop} {S : World → Prop} {m : Nat}
/-- In whatever order; S holds behind each operation but number m. -/
def WpLast (P : Program) (md : Region.Mode) (ops : Array Oper) (Q : Exit → Act → World → Prop) (S : World → Prop) (m : Nat) : Nat → Array Bool → Act → World → Prop
 | 0, L, a, w => Region.ready md ops L = [] ∧ Q .normal a w
 | n + 1, L, a, w => (Region.ready md ops L = [] → Q .normal a w) ∧ ∀ i ∈ Region.ready md ops L, wpOp P ops Q i (fun a' w' => (i = m ∨ S w') ∧ WpLast P md ops Q S m n (L.setIfInBounds i true) a' w') a w
theorem wpLast_any : ∀ (n : Nat) (L : Array Bool) (a : Act) (w : World), WpLast P md ops Q S m n L a w → wpAny P md ops Q n L a w
 | 0, _, _, _, h => h
 | n + 1, _, _, _, h => ⟨h.1, fun i hi => wpOp_mono (fun a' w' k => wpLast_any n _ a' w' k.2) (h.2 i hi)⟩
/-- Number m waits for number i. -/
def waits (md : Region.Mode) (ops : Array Oper) (m i : Nat) : Bool := match ops[m]? with
 | some o => o.after.any fun e => Region.binds md e && e.on == i
 | none => true
theorem waits_edge {i : Nat} (h : waits md ops m i = true) {o : Oper} (ho : ops[m]? = some o) : ∃ e ∈ o.after, Region.binds md e = true ∧ e.on = i := by
 unfold waits at h
 rw [ho] at h
 obtain ⟨e, he, hb⟩ := Array.any_eq_true'.1 h
 simp only [Bool.and_eq_true, beq_iff_eq] at hb
 exact ⟨e, he, hb.1, hb.2⟩
theorem wpLast_first {i : Nat} {oi : Oper} {v : Value} (hi : ops[i]? = some oi) (hs : Region.noSelect ops = true) (hne : i ≠ m) (hm : waits md ops m i = true)
  (hQ : ∀ c a w, Q (.panic c) (a.put oi.dst v) w → Q (.panic c) a w) : ∀ (n : Nat) (L : Array Bool) (a : Act) (w : World),
  (∀ j oj, ops[j]? = some oj → j ≠ i → L.getD j true = false → (∀ e ∈ oj.after, Region.binds md e = true → e.on ≠ i) → oi.apart ops oj = true) →
  i ∈ Region.ready md ops L → YieldsIf P ops S oi v a → S w → WpLast P md ops Q S m n (L.setIfInBounds i true) (a.put oi.dst v) w → WpLast P md ops Q S m (n + 1) L a w := by
 intro n
 induction n with
 | zero =>
  intro L a w _ hr hy hS H
  constructor
  ·intro h; rw [h] at hr; cases hr
  ·intro j hj
   rcases Nat.decEq j i with hji | hji
   ·have := ready_mono hj hji
    rw [H.1] at this; cases this
   ·subst hji; exact hy.wpOp hi hS ⟨.inr hS, H⟩
 | succ n ih =>
  intro L a w hf hr hy hS H
  constructor
  ·intro h; rw [h] at hr; cases hr
  ·intro j hj
   rcases Nat.decEq j i with hji | hji
   ·obtain ⟨hun, oj, hoj, hall⟩ := mem_ready.1 hj
    have hfalse := (mem_ready.1 hr).1
    have hno : ∀ e ∈ oj.after, Region.binds md e = true → e.on ≠ i := fun e he hb hei => by
     have h1 := hall e he hb
     rw [hei] at h1
     rcases Nat.lt_or_ge i L.size with h' | h'
     ·simp [h'] at hfalse h1; rw [hfalse] at h1; cases h1
     ·simp [Array.getElem?_eq_none h'] at h1
    have hjm : j ≠ m := fun e => by
     subst e
     obtain ⟨x, hx, hb, hxi⟩ := waits_edge hm hoj
     exact hno x hx hb hxi
    have h1 := wpOp_putIf hoj (hf j oj hoj hji hun hno) (fun cs b => Region.noSelect_spec hs i oi cs b hi) (fun cs b => Region.noSelect_spec hs j oj cs b hoj) hQ hy (H.2 j (ready_mono hj hji))
    refine wpOp_mono (fun a' w' k => ?_) h1
    have hSw := k.2.1.resolve_left hjm
    refine ⟨.inr hSw, ih _ a' w' (fun l ol hol hli hlun hlno => hf l ol hol hli ?_ hlno) (ready_mono hr (Ne.symm hji)) k.1 hSw ?_⟩
    ·by_cases hjl : j = l
     ·subst hjl; exact hun
     ·rw [getD_set_ne true hjl] at hlun; exact hlun
    ·rw [Array.setIfInBounds_comm _ _ hji]; exact k.2.2
   ·subst hji; exact hy.wpOp hi hS ⟨.inr hS, H⟩
end
section
variable {P : Program} {l : List Oper} {Q : Exit → Act → World → Prop} {S : World → Prop} {m : Nat}
theorem last_take {i : Nat} {oi : Oper} {v : Value} {n : Nat} {L : Array Bool} {a : Act} {w : World} (hi : (l.drop i).head? = some oi)
  (hs : Region.noSelect l.toArray = true) (hf : Region.free .any l.toArray L i = true) (hr : (Region.ready .any l.toArray L).contains i = true) (hne : i ≠ m) (hm : waits .any l.toArray m i = true)
  (hQ : ∀ c a w, Q (.panic c) (a.put oi.dst v) w → Q (.panic c) a w) (hw : Region.wanted oi (yielded l.toArray a.tmps) = true) (hS : S w) (hy : ∀ w, S w → (execOp a.eval oi).run P w = .ok (.value v) w)
  (h : WpLast P .any l.toArray Q S m n (L.setIfInBounds i true) (a.put oi.dst v) w) : WpLast P .any l.toArray Q S m (n + 1) L a w :=
 wpLast_first (drop_get hi) hs hne hm hQ n L a w (Region.free_spec (drop_get hi) hf) (by simpa using hr) (Or.inl ⟨hw, hy⟩) hS h
theorem lkO (i : Nat) {oi : Oper} {v : Value} {n : Nat} {L L' : Array Bool} {a a' : Act} {w : World} (h : WpLast P .any l.toArray Q S m n L' a' w)
  (hi : (l.drop i).head? = some oi := by rfl) (hs : Region.noSelect l.toArray = true := by kernel_rfl) (hf : Region.free .any l.toArray L i = true := by kernel_rfl) (hr : (Region.ready .any l.toArray L).contains i = true := by kernel_rfl) (hne : i ≠ m := by decide) (hm : waits .any l.toArray m i = true := by kernel_rfl)
  (hw : Region.wanted oi (yielded l.toArray a.tmps) = true := by kernel_rfl) (hS : S w := by assumption)
  (hy : ∀ w, S w → (execOp a.eval oi).run P w = .ok (.value v) w := by (intro w hSw; (try unfold SC at hSw); (try unfold FC at hSw); (try unfold LC at hSw); (try unfold TC at hSw); (try unfold MC at hSw); (try unfold BC at hSw); (try unfold RC at hSw); (try unfold KC at hSw); (try unfold KD at hSw); (try dsimp only at hSw); go_simp; (try with_reducible rfl); done))
  (hl : L.setIfInBounds i true = L' := by ((try simp only [List.setIfInBounds_toArray, List.set_cons_zero, List.set_cons_succ]); try rfl))
  (ha : a.put oi.dst v = a' := by ((try simp only [Act.put, List.setIfInBounds_toArray, List.set_cons_zero, List.set_cons_succ]); try rfl))
  (hQ : ∀ c a w, Q (.panic c) (a.put oi.dst v) w → Q (.panic c) a w := by exact fun _ _ _ h => h) : WpLast P .any l.toArray Q S m (n + 1) L a w := by
 subst hl ha
 exact last_take hi hs hf hr hne hm hQ hw hS hy h
def ReadyL (P : Program) (l : List Oper) (Q : Exit → Act → World → Prop) (S : World → Prop) (m n : Nat) (L : Array Bool) (a : Act) (w : World) (rs : List Nat) : Prop :=
 ∀ i ∈ rs, wpOp P l.toArray Q i (fun a' w' => (i = m ∨ S w') ∧ WpLast P .any l.toArray Q S m n (L.setIfInBounds i true) a' w') a w
theorem ReadyL.nil {n : Nat} {L : Array Bool} {a : Act} {w : World} : ReadyL P l Q S m n L a w [] := fun _ h => by cases h
/-- One that isn't the last. -/
theorem last_cons {n : Nat} {L : Array Bool} {a : Act} {w : World} {i : Nat} {o : Oper} {rs : List Nat} (ho : (l.drop i).head? = some o) (hw : Region.wanted o (yielded l.toArray a.tmps) = true)
  (h : ∀ K' : Act → World → Prop, Shut (∀ a w, S w → (S w → WpLast P .any l.toArray Q S m n (L.setIfInBounds i true) a w) → K' a w) → Oper.wp P o a w K' Q)
  (hs : ReadyL P l Q S m n L a w rs) : ReadyL P l Q S m n L a w (i :: rs) := fun j hj => by
 rcases List.mem_cons.1 hj with rfl | hj
 ·exact wpOp_step (drop_get ho) fun K' hK => by
   rw [if_pos hw]
   exact h K' fun a w hS k => hK a w ⟨.inr hS, k hS⟩
 ·exact hs j hj
/-- The last. -/
theorem last_end {n : Nat} {L : Array Bool} {a : Act} {w : World} {o : Oper} (ho : (l.drop m).head? = some o) (hw : Region.wanted o (yielded l.toArray a.tmps) = true)
  (h : ∀ K' : Act → World → Prop, Shut (∀ a w, WpLast P .any l.toArray Q S m n (L.setIfInBounds m true) a w → K' a w) → Oper.wp P o a w K' Q) : ReadyL P l Q S m n L a w [m] := fun j hj => by
 obtain rfl := List.mem_singleton.1 hj
 exact wpOp_step (drop_get ho) fun K' hK => by
  rw [if_pos hw]
  exact h K' fun a w k => hK a w ⟨.inl rfl, k⟩
theorem last_ready {rs : List Nat} {n : Nat} {L : Array Bool} {a : Act} {w : World} (hr : Region.ready .any l.toArray L = rs) (hne : rs ≠ []) (h : ReadyL P l Q S m n L a w rs) : WpLast P .any l.toArray Q S m (n + 1) L a w :=
 ⟨fun h0 => absurd (hr.symm.trans h0) hne, by rw [hr]; exact h⟩
theorem last_done {L : Array Bool} {a : Act} {w : World} (hr : Region.ready .any l.toArray L = []) (h : Q .normal a w) : ∀ n, WpLast P .any l.toArray Q S m n L a w
 | 0 => ⟨hr, h⟩
 | _ + 1 => ⟨fun _ => h, by rw [hr]; simp⟩
theorem last_start (S : World → Prop) (m : Nat) {id : Nat} {a : Act} {w : World} (hm : P.follows .mixedOrders = true) (hS : S w.drew)
  (h : S w.drew → WpLast P .any l.toArray Q S m l.toArray.size (Array.replicate l.toArray.size false) a w.drew) : (Code.region id l.toArray true).wp P Q a w :=
 wp_region_any hm (wpLast_any _ _ _ _ (h hS))
end
end Go.Proofs.YtognjohloobliaaGreatDoor
/- An append of one element that has just been laid, behind another block. -/
namespace Go.Proofs.YtognjohloobliaaGreatDoor
set_option linter.unusedSimpArgs false
open Go.RowKit
set_option linter.unusedVariables false
/-- An append of one element that has just been laid, behind another block. -/
theorem app_one_g {P : Program} {w0 : World} {ops : Array Oper} {rest : List Oper} {o : Oper} {a : Act} {Q : Exit → Act → World → Prop} (hgd : o.guard = none) (s x : Operand) (t e : TypeId)
  (ho : o.op = .call { callee := .builtin .append, args := #[s, x], argTypes := #[t, t] }) (base : Nat) (z : Value) (size bytes : Nat)
  (ht : P.underlying t = some (.slice e)) (hinfo : (P.info? e).map (fun i => (i.zero, i.size, i.bytes)) = some (some z, size, bytes)) (hzs : z.cells.size = size)
  (v : Value) (n : Nat) (xs : List Value) (hs : a.eval s = v) (hown : w0.ownsRow base e size v n xs)
  (us : Array Value) (g : Nat) (hg : g = w0.heap.size) (hx : a.eval x = .slice (some ⟨g, 0, none⟩) 1 1) (hus : us.size = size) (h1 : ∀ u ∈ us.toList, u.oneCell' = true)
  (h63 : n + 1 ≤ 1000000000) (hby : bytes ≤ 1000) (hbase : base ≤ w0.heap.size)
  (h : ∀ v' w', w'.ownsRow base e size v' (n + 1) (xs ++ us.toList) → w0.grownBy w' v.ownBlock → (v'.ownBlock = v.ownBlock ∨ v'.ownBlock = some (w0.heap.size + 1)) → v' ≠ .slice none 0 0 → Below base w0 w' → wpList P ops Q rest (a.put o.dst v') w') :
  wpList P ops Q (o :: rest) a (w0.alloc (.cells us e)) := by
 subst hg
 exact app_one hgd s x t e ho base z size bytes ht hinfo hzs v n xs hs hown us hx hus h1 h63 hby hbase h
end Go.Proofs.YtognjohloobliaaGreatDoor
/- The walks through crc. -/
namespace Go.Proofs.YtognjohloobliaaGreatDoor
open Go.RowKit
set_option linter.unusedVariables false
theorem u32_and1 {x : Nat} (h : x < 4294967296) : bits .and .u32 (x : Int) 1 = ((x % 2 : Nat) : Int) := by
  have := u32_and_nat x 1 h (by omega)
  rw [Nat.and_one_is_mod] at this
  exact this
theorem u32_poly {x : Nat} (h : x < 4294967296) : bits .xor .u32 ((x : Int) / 2) 2197175160 = (((x / 2) ^^^ 2197175160 : Nat) : Int) := by
  have := u32_xor_nat (x / 2) 2197175160 (by omega) (by omega)
  rw [← this]; rfl
theorem u32_in (x : Nat) (c : UInt8) (h : x < 4294967296) : bits .xor .u32 (bits .and .u32 (x : Int) 255) (c.toNat : Int) = (((x % 256) ^^^ c.toNat : Nat) : Int) := by
  have hc := c.toNat_lt
  have h1 := u32_and_nat x 255 h (by omega)
  rw [show (255 : Nat) = 2 ^ 8 - 1 from rfl, Nat.and_two_pow_sub_one_eq_mod] at h1
  have h2 : bits .and .u32 (x : Int) 255 = ((x % 256 : Nat) : Int) := h1
  rw [h2]
  exact u32_xor_nat (x % 256) c.toNat (by omega) (by omega)
theorem in_lt (x : Nat) (c : UInt8) : (x % 256) ^^^ c.toNat < 4294967296 := Nat.xor_lt_two_pow (n := 32) (by omega) (by have := c.toNat_lt; omega)
theorem u32_out (x : Nat) (c : UInt8) (h : x < 4294967296) : bits .xor .u32 ((Crc.one ((x % 256) ^^^ c.toNat) : Nat) : Int) ((x : Int) / 256) = ((Crc.byte x c : Nat) : Int) := by
  have hc := c.toNat_lt
  have h1 : (x % 256) ^^^ c.toNat < 4294967296 := Nat.xor_lt_two_pow (n := 32) (by omega) (by omega)
  have := u32_xor_nat (Crc.one ((x % 256) ^^^ c.toNat)) (x / 256) (Crc.one_lt h1) (by omega)
  unfold Crc.byte
  rw [← this]; rfl
set_option maxHeartbeats 400000 in
theorem crc_one (n : Nat) (w : World) (hn : n < 4294967296) :
    Calls Tryz.prog 130 #[.int .u32 n] w fun e w' => e = .returned (.int .u32 (Crc.one n)) ∧ w = w' := by
  go_enter Tryz.func130, Tryz.ntmps130
  go_wp2
  go_loop [0, 3] (fun a i => ∃ k : Nat, k ≤ 8 ∧ i = .int .i64 k ∧ a = .int .u32 (Crc.steps k n)) (fun _ i => 8 - (intOf i).toNat)
  case atStart => exact ⟨0, by omega, rfl, rfl⟩
  case round =>
    obtain ⟨k, hk, rfl, rfl⟩ := hrel
    have hx := Crc.steps_lt k hn
    have hs : Hid (Crc.steps (k + 1) n = Crc.step1 (Crc.steps k n)) := Lib.hid rfl
    have h8 : Hid (k = 8 → Crc.steps k n = Crc.one n) := Lib.hid (fun h => by subst h; rfl)
    generalize Crc.steps k n = x at *
    have ha := u32_and1 hx
    go_wp2
    · go_round
      case rel =>
        refine ⟨k + 1, by omega, by go_num, ?_⟩
        rw [hs.out, u32_poly hx]
        unfold Crc.step1
        rw [if_pos (by have : (((x % 2 : Nat) : Int) == 1) = true := by assumption
                       rw [beq_iff_eq] at this; omega)]
      case measure => simp [intOf]; omega
    · go_round
      case rel =>
        refine ⟨k + 1, by omega, by go_num, ?_⟩
        rw [hs.out]
        unfold Crc.step1
        rw [if_neg (by have : (((x % 2 : Nat) : Int) == 1) = false := by assumption
                       rw [beq_eq_false_iff_ne] at this; omega)]
        go_num
      case measure => simp [intOf]; omega
    · go_ret
      have hk8 : k = 8 := by omega
      rw [← h8.out hk8]
      exact ⟨rfl, rfl⟩
theorem u32_inv {n : Nat} (h : n < 4294967296) : bits .xor .u32 IntKind.u32.max (n : Int) = ((Crc.inv n : Nat) : Int) := by
  have := u32_xor_nat 4294967295 n (by omega) h
  rw [show IntKind.u32.max = ((4294967295 : Nat) : Int) from rfl, this]
  congr 1
  unfold Crc.inv
  apply Nat.eq_of_testBit_eq
  intro i
  rw [show (4294967295 : Nat) - n = 2 ^ 32 - (n + 1) from by omega, Nat.testBit_two_pow_sub_succ h, Nat.testBit_xor, show (4294967295 : Nat) = 2 ^ 32 - 1 from rfl, Nat.testBit_two_pow_sub_one]
  by_cases hi : i < 32 <;> simp [hi]
  exact Nat.testBit_lt_two_pow (Nat.lt_of_lt_of_le h (Nat.pow_le_pow_right (n := 2) (by omega) (by omega : 32 ≤ i)))
set_option maxHeartbeats 400000 in
theorem crc_more (n : Nat) (s : ByteArray) (w : World) (hn : n < 4294967296) (hs : s.size ≤ maxLen) :
    Calls Tryz.prog 105 #[.int .u32 n, .string s] w fun e w' => e = .returned (.int .u32 (Crc.more n s.data.toList)) ∧ w = w' := by
  unfold maxLen at hs
  have hi := u32_inv hn
  go_enter Tryz.func105, Tryz.ntmps105
  go_wp2
  clear hi
  go_loop [0, 10] (fun a i => ∃ k : Nat, k ≤ s.size ∧ i = .int .i64 k ∧ a = .int .u32 (Crc.run (Crc.inv n) (s.data.toList.take k))) (fun _ i => s.size - (intOf i).toNat)
  case atStart => exact ⟨0, by omega, rfl, rfl⟩
  case round =>
    obtain ⟨k, hk, rfl, rfl⟩ := hrel
    have hx := Crc.run_lt (s.data.toList.take k) (Crc.inv_lt n)
    by_cases hlt : k < s.size
    · have hs : Hid (Crc.run (Crc.inv n) (s.data.toList.take (k + 1)) = Crc.byte (Crc.run (Crc.inv n) (s.data.toList.take k)) s[k]) := Lib.hid (by rw [take_snoc s k hlt, Crc.run_append]; rfl)
      generalize Crc.run (Crc.inv n) (s.data.toList.take k) = x at *
      have hc := s[k].toNat_lt
      have h1 := u32_in x s[k] hx
      have h2 := u32_out x s[k] hx
      have h3 := in_lt x s[k]
      go_wp2_with (go_at_call 130; refine (crc_one _ _ h3).mono ?_; rintro e w' ⟨rfl, rfl⟩)
      go_round
      case rel => exact ⟨k + 1, by omega, by go_num, by rw [hs.out]⟩
      case measure => simp [intOf]; omega
    · have hs : Hid (Crc.run (Crc.inv n) (s.data.toList.take k) = Crc.run (Crc.inv n) s.data.toList) := Lib.hid (by rw [List.take_of_length_le (by simp; omega)])
      generalize Crc.run (Crc.inv n) (s.data.toList.take k) = x at *
      have hi := u32_inv hx
      go_wp2
      go_ret
      exact ⟨ret_int (by unfold Crc.more; rw [← hs.out]), rfl⟩

set_option maxHeartbeats 400000 in
theorem crc_sum (s : ByteArray) (w : World) (hs : s.size ≤ maxLen) :
    Calls Tryz.prog 88 #[.string s] w fun e w' => e = .returned (.int .u32 (Crc.sum s.data.toList)) ∧ w = w' := by
  go_enter Tryz.func88, Tryz.ntmps88
  go_wp2_with (go_at_call 105; refine (crc_more 0 _ _ (by omega) hs).mono ?_; rintro e w' ⟨rfl, rfl⟩)
  go_ret
  exact ⟨rfl, rfl⟩
theorem seal_eq (s : ByteArray) : s ++ strOfNums [(Crc.sum s.data.toList : Int) % 256, (Crc.sum s.data.toList : Int) / 256 % 256, (Crc.sum s.data.toList : Int) / 65536 % 256, (Crc.sum s.data.toList : Int) / 16777216 % 256] = ⟨(Crc.seal_ s.data.toList).toArray⟩ := by
  rw [str_app]
  unfold Crc.seal_ Crc.four
  generalize Crc.sum s.data.toList = n
  have h1 : ((n : Int) % 256).toNat = n % 256 := by omega
  have h2 : ((n : Int) / 256 % 256).toNat = n / 256 % 256 := by omega
  have h3 : ((n : Int) / 65536 % 256).toNat = n / 65536 % 256 := by omega
  have h4 : ((n : Int) / 16777216 % 256).toNat = n / 16777216 % 256 := by omega
  simp only [List.map_cons, List.map_nil, h1, h2, h3, h4, ofNat_mod]
set_option maxHeartbeats 400000 in
theorem crc_seal (s : ByteArray) (w : World) (hs : s.size + 4 ≤ maxLen) :
    Calls Tryz.prog 68 #[.string s] w fun e w' => e = .returned (.string ⟨(Crc.seal_ s.data.toList).toArray⟩) ∧ Below w.heap.size w w' := by
  unfold maxLen at hs
  have hsz : ∀ a b c d : Int, (strOfNums [a, b, c, d]).size = 4 := fun _ _ _ _ => rfl
  have hcv := str4 (P := Tryz.prog) 121 5 9 Tryz.underlying121 Tryz.underlying5 Tryz.underlying9
  go_enter Tryz.func68, Tryz.ntmps68
  go_wp2_with (go_at_call 88; refine (crc_sum _ _ (by unfold maxLen; omega)).mono ?_; rintro e w' ⟨rfl, rfl⟩)
  go_ret
  exact ⟨ret_str (seal_eq s), (Below.refl _ _).alloc (Nat.le_refl _) _⟩
def err (n : Int) : Value := .iface 67 (.int .i64 n)
/-- What Open answers. -/
def openVal (s : ByteArray) : Value :=
  if s.size < 4 then .tuple #[.string ⟨#[]⟩, err 7]
  else if Crc.seal_ (s.data.toList.take (s.size - 4)) = s.data.toList then .tuple #[.string ⟨(s.data.toList.take (s.size - 4)).toArray⟩, .nilIface]
  else .tuple #[.string ⟨#[]⟩, err 15]
set_option maxHeartbeats 400000 in
theorem crc_open (s : ByteArray) (w : World) (hs : s.size ≤ maxLen) :
    Calls Tryz.prog 90 #[.string s] w fun e w' => e = .returned (openVal s) ∧ Below w.heap.size w w' := by
  unfold maxLen at hs
  by_cases h4 : s.size < 4
  · go_enter Tryz.func90, Tryz.ntmps90
    go_wp2
    go_ret2
    refine ⟨?_, Below.refl _ _⟩
    unfold openVal
    rw [if_pos h4]; rfl
  · have hx : s.toList = s.data.toList := ByteArray.toList_eq s
    by_cases hq : Crc.seal_ (s.data.toList.take (s.size - 4)) = s.data.toList
    all_goals
      have hv : Hid (openVal s = if Crc.seal_ (s.data.toList.take (s.size - 4)) = s.data.toList then .tuple #[.string ⟨(s.data.toList.take (s.size - 4)).toArray⟩, .nilIface] else .tuple #[.string ⟨#[]⟩, err 15]) := Lib.hid (by unfold openVal; rw [if_neg h4])
    · have hb : (!Crc.seal_ (s.data.toList.take (s.size - 4)) == s.data.toList) = false := by simp [hq]
      have hq' := Lib.hid hq
      clear hq
      go_enter Tryz.func90, Tryz.ntmps90
      go_wp2_with (go_at_call 68; refine (crc_seal _ _ (by simp; unfold maxLen; omega)).mono ?_; rintro e w1 ⟨rfl, hb1⟩)
      go_ret2
      rw [hv.out, if_pos hq'.out]
      exact ⟨by rw [show (s.extract 0 (s.size - 4)) = ⟨(s.data.toList.take (s.size - 4)).toArray⟩ from ba_ext (by simp)]; rfl, hb1⟩
    · have hb : (!Crc.seal_ (s.data.toList.take (s.size - 4)) == s.data.toList) = true := by simp [hq]
      have hq' := Lib.hid hq
      clear hq
      go_enter Tryz.func90, Tryz.ntmps90
      go_wp2_with (go_at_call 68; refine (crc_seal _ _ (by simp; unfold maxLen; omega)).mono ?_; rintro e w1 ⟨rfl, hb1⟩)
      go_ret2
      rw [hv.out, if_neg hq'.out]
      exact ⟨rfl, hb1⟩
end Go.Proofs.YtognjohloobliaaGreatDoor
/- The walk of what the laws share: a number that stands for one of n. -/
namespace Go.Proofs.YtognjohloobliaaGreatDoor
open Go.RowKit
set_option linter.unusedVariables false
/-- One of n that a number stands for. -/
def pickN (a : Int) (n : Nat) : Nat := (a % 18446744073709551616 % (n : Int)).toNat
theorem pickN_lt (a : Int) (n : Nat) (h : 0 < n) : pickN a n < n := by
 unfold pickN
 have := Int.emod_lt_of_pos (a % 18446744073709551616) (b := (n : Int)) (by omega)
 have := Int.emod_nonneg (a % 18446744073709551616) (b := (n : Int)) (by omega)
 omega
theorem pick_eq (a : Int) (n : Nat) (hn : 0 < n) (hn2 : n ≤ 10000000000000) : wrap64 ((IntKind.u64.wrap a).tmod (n : Int)) = ((pickN a n : Nat) : Int) := by
 rw [IntKind.wrap_u64, tmod_of_emod]
 have h1 := Int.emod_lt_of_pos (a % 18446744073709551616) (b := (n : Int)) (by omega)
 have h2 := Int.emod_nonneg (a % 18446744073709551616) (b := (n : Int)) (by omega)
 rw [IntWalk.wrap64_in _ ⟨by omega, by omega⟩]
 unfold pickN
 exact (Int.toNat_of_nonneg h2).symm
set_option maxHeartbeats 400000 in
theorem keep_pick (a m : Int) (n : Nat) (w : World) (hm : m = (n : Int)) (hn : 0 < n) (hn2 : n ≤ 10000000000000) :
  Calls Tryz.prog 22 #[.int .i64 a, .int .i64 m] w fun e w' => e = .returned (.int .i64 (pickN a n)) ∧ w = w' := by
 subst hm
 go_enter Tryz.func22, Tryz.ntmps22
 go_wp2
 go_ret
 exact ⟨ret_int (pick_eq a n hn hn2), rfl⟩
end Go.Proofs.YtognjohloobliaaGreatDoor
