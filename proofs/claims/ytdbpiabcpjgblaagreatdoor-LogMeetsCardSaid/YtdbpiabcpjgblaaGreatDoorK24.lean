/- Frames in plain words: what is written, what is read. No program. -/
import Derived.Test.YtdbpiabcpjgblaaGreatDoorK22
import Derived.Test.YtdbpiabcpjgblaaGreatDoorK23
import Derived.Test.YtdbpiabcpjgblaaGreatDoorRows
import Derived.Test.YtdbpiabcpjgblaaGreatDoorK01
namespace Go.Proofs.YtdbpiabcpjgblaaGreatDoor
namespace Frame
set_option linter.unusedVariables false
/-- A text in as few bytes as its tokens need. -/
def squeeze (S : List UInt8) : List UInt8 := Lz.write (Match.tokens S)
/-- What is kept of a body, and whether it is squeezed. -/
def kept (S : List UInt8) : UInt8 × List UInt8 := if (squeeze S).length < S.length then (1, squeeze S) else (0, S)
def inside (S : List UInt8) : List UInt8 := (kept S).1 :: (Vary.put S.length ++ (kept S).2)
/-- A frame of some version around a text. -/
def around (v : UInt8) (I : List UInt8) : List UInt8 := Crc.seal_ (80 :: 84 :: v :: I)
def write (f h : List Vec.Entry) (ws : List Wr) : List UInt8 := around 3 (inside (Body.write f h ws))
/-- A frame's version, or what is wrong. -/
def version (s : List UInt8) : Nat ⊕ Nat :=
  if s.length < 8 then .inl 7 else
  if s.take 2 ≠ [80, 84] then .inl 5 else
  if (s[2]?.getD 0).toNat < 1 ∨ 3 < (s[2]?.getD 0).toNat then .inl 8 else
  match Crc.opened s with
  | .inl e => .inl e
  | .inr _ => .inr (s[2]?.getD 0).toNat
/-- What is inside, of whatever version. -/
def text (s : List UInt8) : List UInt8 := (s.drop 3).take (s.length - 7)
theorem around_len (v : UInt8) (I : List UInt8) : (around v I).length = I.length + 7 := by
  unfold around
  rw [Crc.seal_len']
  simp only [List.length_cons]
theorem text_around (v : UInt8) (I : List UInt8) : text (around v I) = I := by
  unfold text
  rw [around_len, Nat.add_sub_cancel]
  unfold around Crc.seal_
  simp
theorem version_around (v : UInt8) (I : List UInt8) (h1 : 1 ≤ v.toNat) (h3 : v.toNat ≤ 3) (hI : 1 ≤ I.length) : version (around v I) = .inr v.toNat := by
  have hl := around_len v I
  have h2 : (around v I)[2]? = some v := by
    unfold around Crc.seal_
    simp
  have ht : (around v I).take 2 = [80, 84] := by
    unfold around Crc.seal_
    simp
  unfold version
  rw [if_neg (by omega), ht, if_neg (by simp), h2, Option.getD_some, if_neg (by omega)]
  unfold around
  rw [Crc.opened_seal]
/-- What is of some version is a frame around what is inside it. -/
theorem version_inv {s : List UInt8} {v : Nat} (h : version s = .inr v) : ∃ b : UInt8, b.toNat = v ∧ 1 ≤ v ∧ v ≤ 3 ∧ s = around b (text s) ∧ 8 ≤ s.length := by
  unfold version at h
  split at h
  · cases h
  rename_i h8
  split at h
  · cases h
  rename_i hpt
  split at h
  · cases h
  rename_i hv
  split at h
  · cases h
  rename_i t ht
  injection h with h
  have hs := Crc.opened_inv ht
  have hpt : s.take 2 = [80, 84] := by simpa using hpt
  obtain ⟨a, b, c, r, rfl⟩ : ∃ a b c r, s = a :: b :: c :: r := by
    match s, h8 with
    | a :: b :: c :: r, _ => exact ⟨a, b, c, r, rfl⟩
    | [], h => simp at h
    | [_], h => simp at h
    | [_, _], h => simp at h
  simp only [List.take_succ_cons, List.take_zero, List.cons.injEq, and_true] at hpt
  obtain ⟨rfl, rfl⟩ := hpt
  have hc : (([80, 84, c] ++ r : List UInt8)[2]?.getD 0) = c := by simp
  simp only [List.getElem?_cons_succ, List.getElem?_cons_zero, Option.getD_some] at h hv
  have hl : t.length + 4 = (80 :: 84 :: c :: r).length := by rw [← hs, Crc.seal_len']
  have htx : text (80 :: 84 :: c :: r) = t.drop 3 := by
    unfold text
    rw [← hs]
    unfold Crc.seal_
    rw [List.length_append, show (Crc.four (Crc.sum t)).length = 4 from rfl]
    rw [List.drop_append_of_le_length (by simp only [List.length_cons] at hl h8; omega)]
    rw [List.take_append_of_le_length (by rw [List.length_drop]; omega)]
    rw [List.take_of_length_le (by rw [List.length_drop]; omega)]
  have ht3 : t = 80 :: 84 :: c :: t.drop 3 := by
    have h3 : t.take 3 = [80, 84, c] := by
      have : (Crc.seal_ t).take 3 = t.take 3 := by
        unfold Crc.seal_
        rw [List.take_append_of_le_length (by simp only [List.length_cons] at hl h8; omega)]
      rw [← this, hs]
      rfl
    have := List.take_append_drop 3 t
    rw [h3] at this
    exact this.symm
  refine ⟨c, h, by omega, by omega, ?_, by omega⟩
  rw [htx]
  unfold around
  rw [← ht3, hs]
/-- The body that is packed in what is inside a frame of version 3. -/
def unpack (t : List UInt8) : Option (List UInt8) := match t with
  | [] => none
  | b :: r => if 1 < b.toNat then none else match Vary.int r 20000 with
    | .bad _ => none
    | .ok n k => match (if b.toNat = 1 then (Lz.read (r.drop k)).map (Match.text []) else some (r.drop k)) with
      | none => none
      | some z => if z.length ≠ n then none else some z
def packed (b : Bool) (S : List UInt8) : List UInt8 := if b = true then 1 :: (Vary.put S.length ++ squeeze S) else 0 :: (Vary.put S.length ++ S)
theorem inside_packed (S : List UInt8) : inside S = packed (decide ((squeeze S).length < S.length)) S := by
  unfold inside kept packed
  by_cases h : (squeeze S).length < S.length
  · simp only [if_pos h, decide_eq_true h, if_true]
  · simp only [if_neg h, decide_eq_false h, Bool.false_eq_true, if_false]
theorem read_squeeze (S : List UInt8) (h : S.length ≤ 20000) : (Lz.read (squeeze S)).map (Match.text []) = some S := by
  unfold squeeze
  rw [Lz.read_write _ (Match.tokens_right S h), Option.map_some, Match.tokens_text]
theorem unpack_packed (b : Bool) (S : List UInt8) (h : S.length ≤ 20000) : unpack (packed b S) = some S := by
  unfold packed
  have hi : ∀ R : List UInt8, Vary.int (Vary.put S.length ++ R) 20000 = .ok S.length (Vary.put S.length).length := fun R => Vec.int_put' S.length 20000 R (by omega) (by omega)
  cases b with
  | true =>
    rw [if_pos rfl]
    unfold unpack
    simp only
    rw [if_neg (by decide), hi]
    simp only
    rw [if_pos (by decide), List.drop_left, read_squeeze S h]
    simp
  | false =>
    rw [if_neg (by decide)]
    unfold unpack
    simp only
    rw [if_neg (by decide), hi]
    simp only
    rw [if_neg (by decide), List.drop_left]
    simp
/-- What is read, ahead of the last test. -/
def readB (s : List UInt8) : Option (List Vec.Entry × List Vec.Entry × List Wr) := match version s with
  | .inl _ => none
  | .inr v => if v ≠ 3 then none else match unpack (text s) with
    | none => none
    | some y => match Body.read y with
      | .error _ => none
      | .ok b => some b
theorem readB_packed (b : Bool) {f h : List Vec.Entry} {ws : List Wr} (hr : Bat.right f h ws = .ok) (hl : (Body.write f h ws).length ≤ 20000) : readB (around 3 (packed b (Body.write f h ws))) = some (f, h, ws) := by
  unfold readB
  have h1 : 1 ≤ (packed b (Body.write f h ws)).length := by unfold packed; split <;> simp
  rw [version_around 3 _ (by decide) (by decide) h1]
  simp only
  rw [if_neg (by decide), text_around, unpack_packed b _ hl]
  simp only
  rw [Body.read_write hr]
theorem readB_write {f h : List Vec.Entry} {ws : List Wr} (hr : Bat.right f h ws = .ok) (hl : (Body.write f h ws).length ≤ 20000) : readB (write f h ws) = some (f, h, ws) := by
  unfold write
  rw [inside_packed]
  exact readB_packed _ hr hl
theorem write_len (f h : List Vec.Entry) (ws : List Wr) : (write f h ws).length = 8 + (Vary.put (Body.write f h ws).length).length + (if (squeeze (Body.write f h ws)).length < (Body.write f h ws).length then (squeeze (Body.write f h ws)).length else (Body.write f h ws).length) := by
  unfold write
  rw [around_len]
  unfold inside kept
  by_cases c : (squeeze (Body.write f h ws)).length < (Body.write f h ws).length
  · simp only [if_pos c, List.length_cons, List.length_append]; omega
  · simp only [if_neg c, List.length_cons, List.length_append]; omega
end Frame
end Go.Proofs.YtdbpiabcpjgblaaGreatDoor
/- Frames of version 1 in plain words: what is written, what is read. No program. -/
namespace Go.Proofs.YtdbpiabcpjgblaaGreatDoor
namespace Fst
set_option linter.unusedVariables false
def ent (x : Vec.Entry) : List UInt8 := Vary.put x.r.toNat ++ Vary.put x.t.toNat
def plain (l : List Vec.Entry) : List UInt8 := Vary.put l.length ++ l.flatMap ent
def one (x : Wr) : List UInt8 := UInt8.ofNat x.k.toNat :: (Vary.put x.t.toNat ++ (Vary.put x.r.toNat ++ (Span.put x.key ++ Wr.tail x)))
def inner (f h : List Vec.Entry) (ws : List Wr) : List UInt8 := plain f ++ (plain h ++ (Vary.put ws.length ++ ws.flatMap one))
def write (f h : List Vec.Entry) (ws : List Wr) : List UInt8 := Frame.around 1 (inner f h ws)
/-- What a taker has: the bytes that are left, and whether something was wrong. -/
structure Tk where
  s : List UInt8
  e : Bool
def num (t : Tk) (most : Int) : Nat × Tk := if t.e = true then (0, t) else match Vary.int t.s most with
  | .ok n k => (n, ⟨t.s.drop k, false⟩)
  | .bad _ => (0, ⟨t.s, true⟩)
def ents : Nat → Tk → List Vec.Entry × Tk
  | 0, t => ([], t)
  | n + 1, t => (⟨(num t 200).1, (num (num t 200).2 1099511627776).1⟩ :: (ents n (num (num t 200).2 1099511627776).2).1, (ents n (num (num t 200).2 1099511627776).2).2)
def vec (t : Tk) : List Vec.Entry × Tk := ents (num t 16).1 (num t 16).2
def zero : Wr := ⟨0, 0, 0, [], [], 0⟩
def rest (k m r : Nat) (t : Tk) : Wr × Tk := if t.e = true then (zero, t) else match Span.get t.s with
  | .bad _ => (zero, ⟨t.s, true⟩)
  | .ok key n => match Wr.fill ⟨m, r, k, key, [], 0⟩ (t.s.drop n) with
    | .bad _ => (zero, ⟨t.s.drop n, true⟩)
    | .ok x i => (x, ⟨(t.s.drop n).drop i, false⟩)
def wrt (t : Tk) : Wr × Tk := if t.e = true then (zero, t) else match t.s with
  | [] => (zero, ⟨[], true⟩)
  | b :: r => if b.toNat < 1 ∨ 4 < b.toNat then (zero, ⟨b :: r, true⟩) else
    rest b.toNat (num ⟨r, false⟩ 1099511627776).1 (num (num ⟨r, false⟩ 1099511627776).2 200).1 (num (num ⟨r, false⟩ 1099511627776).2 200).2
def wrts : Nat → Tk → List Wr × Tk
  | 0, t => ([], t)
  | n + 1, t => ((wrt t).1 :: (wrts n (wrt t).2).1, (wrts n (wrt t).2).2)
def read (S : List UInt8) : Option (List Vec.Entry × List Vec.Entry × List Wr) :=
  let a := vec ⟨S, false⟩
  let b := vec a.2
  let m := num b.2 60
  let c := wrts m.1 m.2
  if c.2.e = true then none else if c.2.s ≠ [] then none else if Bat.right a.1 b.1 c.1 = .ok then some (a.1, b.1, c.1) else none
theorem num_le (t : Tk) (m : Int) (h : 0 ≤ m) : ((num t m).1 : Int) ≤ m := by
  unfold num
  split
  · exact h
  · split
    · rename_i n k hi
      exact (Vec.int_get hi).2
    · exact h
/-! what is written is read -/
theorem num_put (n : Nat) (m : Int) (r : List UInt8) (h : n < 18446744073709551616) (h0 : (n : Int) ≤ m) : num ⟨Vary.put n ++ r, false⟩ m = (n, ⟨r, false⟩) := by
  unfold num
  rw [if_neg (by simp)]
  simp only
  rw [Vec.int_put' n m r h h0]
  simp
theorem ents_put (l : List Vec.Entry) (r : List UInt8) (h : ∀ x ∈ l, 0 ≤ x.r ∧ x.r ≤ 200 ∧ 0 ≤ x.t ∧ x.t ≤ 1099511627776) : ents l.length ⟨l.flatMap ent ++ r, false⟩ = (l, ⟨r, false⟩) := by
  induction l with
  | nil => rfl
  | cons x l ih =>
    obtain ⟨h1, h2, h3, h4⟩ := h x (List.mem_cons_self ..)
    have ih := ih fun y hy => h y (List.mem_cons_of_mem _ hy)
    rw [List.length_cons, ents, List.flatMap_cons]
    unfold ent
    rw [List.append_assoc, List.append_assoc, num_put _ _ _ (by omega) (by omega)]
    simp only
    rw [num_put _ _ _ (by omega) (by omega)]
    simp only
    change _ = (x :: l, _)
    rw [show l.flatMap (fun x => Vary.put x.r.toNat ++ Vary.put x.t.toNat) = l.flatMap ent from rfl, ih]
    simp only
    rw [Int.toNat_of_nonneg h1, Int.toNat_of_nonneg h3]
theorem vec_put (l : List Vec.Entry) (r : List UInt8) (hr : Vec.right l = .ok) : vec ⟨plain l ++ r, false⟩ = (l, ⟨r, false⟩) := by
  have hF := (Vec.right_iff l).1 hr
  have h16 := hF.len
  unfold vec plain
  rw [List.append_assoc, num_put _ _ _ (by omega) (by omega)]
  simp only
  exact ents_put l r fun x hxm => by have := hF.each x hxm; omega
theorem wrt_put (x : Wr) (r : List UInt8) (h : Wr.right x = 0) : wrt ⟨one x ++ r, false⟩ = (x, ⟨r, false⟩) := by
  obtain ⟨h1, h2, h3, h4, h5, h6, h7, h8, -⟩ := Wr.right_zero h
  have hk : (UInt8.ofNat x.k.toNat).toNat = x.k.toNat := Vary.u8_small (by omega)
  unfold wrt one
  rw [if_neg (by simp)]
  simp only [List.cons_append]
  rw [hk, if_neg (by omega)]
  simp only [List.append_assoc]
  rw [num_put _ _ _ (by omega) (by omega)]
  simp only
  rw [num_put _ _ _ (by omega) (by omega)]
  unfold rest
  simp only
  rw [if_neg (by simp), Span.get_put _ _ (by omega)]
  simp only
  rw [List.drop_left]
  have hf := Wr.fill_tail x r h
  have hx : ({ x with val := [], n := 0 } : Wr) = ⟨(x.t.toNat : Int), (x.r.toNat : Int), (x.k.toNat : Int), x.key, [], 0⟩ := by
    rw [Int.toNat_of_nonneg (by omega), Int.toNat_of_nonneg h5, Int.toNat_of_nonneg (by omega)]
  rw [hx] at hf
  rw [hf]
  simp only
  rw [List.drop_left]
theorem wrts_put (l : List Wr) (r : List UInt8) (h : ∀ x ∈ l, Wr.right x = 0) : wrts l.length ⟨l.flatMap one ++ r, false⟩ = (l, ⟨r, false⟩) := by
  induction l with
  | nil => rfl
  | cons x l ih =>
    have ih := ih fun y hy => h y (List.mem_cons_of_mem _ hy)
    rw [List.length_cons, wrts, List.flatMap_cons, List.append_assoc, wrt_put _ _ (h x (List.mem_cons_self ..))]
    simp only
    rw [ih]
theorem read_inner {f h : List Vec.Entry} {ws : List Wr} (hr : Bat.right f h ws = .ok) : read (inner f h ws) = some (f, h, ws) := by
  have hF := (Bat.right_iff f h ws).1 hr
  unfold read inner
  simp only
  rw [vec_put f _ hF.from_]
  simp only
  rw [vec_put h _ hF.have_]
  simp only
  rw [num_put _ _ _ (by have := hF.len; omega) (by have := hF.len; omega)]
  simp only
  have hw := wrts_put ws [] (fun x hx => (hF.each x hx).1)
  rw [List.append_nil] at hw
  rw [hw]
  simp only
  rw [if_neg (by simp), if_neg (by simp), if_pos hr]
/-! just one way -/
theorem ents_len : ∀ (n : Nat) (t : Tk), (ents n t).1.length = n
  | 0, t => rfl
  | n + 1, t => by rw [ents]; simp only [List.length_cons]; rw [ents_len n]
theorem vec_len (t : Tk) : (vec t).1.length ≤ 16 := by
  unfold vec
  rw [ents_len]
  have := num_le t 16 (by omega)
  omega
theorem wrts_len : ∀ (n : Nat) (t : Tk), (wrts n t).1.length = n
  | 0, t => rfl
  | n + 1, t => by rw [wrts]; simp only [List.length_cons]; rw [wrts_len n]
end Fst
end Go.Proofs.YtdbpiabcpjgblaaGreatDoor
/- The walks through crc. -/
namespace Go.Proofs.YtdbpiabcpjgblaaGreatDoor
open Go.RowKit
set_option linter.unusedVariables false
theorem u32_and1 {x : Nat} (h : x < 4294967296) : bits .and .u32 (x : Int) 1 = ((x % 2 : Nat) : Int) := by
  have := u32_and_nat x 1 h (by omega)
  rw [Nat.and_one_is_mod] at this
  exact this
theorem u32_poly {x : Nat} (h : x < 4294967296) : bits .xor .u32 ((x : Int) / 2) 2197175160 = (((x / 2) ^^^ 2197175160 : Nat) : Int) := by
  have := u32_xor_nat (x / 2) 2197175160 (by omega) (by omega)
  rw [← this]; rfl
theorem u32_in (x : Nat) (c : UInt8) (h : x < 4294967296) : bits .xor .u32 (bits .and .u32 (x : Int) 255) (c.toNat : Int) = (((x % 256) ^^^ c.toNat : Nat) : Int) := by
  have hc := c.toNat_lt
  have h1 := u32_and_nat x 255 h (by omega)
  rw [show (255 : Nat) = 2 ^ 8 - 1 from rfl, Nat.and_two_pow_sub_one_eq_mod] at h1
  have h2 : bits .and .u32 (x : Int) 255 = ((x % 256 : Nat) : Int) := h1
  rw [h2]
  exact u32_xor_nat (x % 256) c.toNat (by omega) (by omega)
theorem in_lt (x : Nat) (c : UInt8) : (x % 256) ^^^ c.toNat < 4294967296 := Nat.xor_lt_two_pow (n := 32) (by omega) (by have := c.toNat_lt; omega)
theorem u32_out (x : Nat) (c : UInt8) (h : x < 4294967296) : bits .xor .u32 ((Crc.one ((x % 256) ^^^ c.toNat) : Nat) : Int) ((x : Int) / 256) = ((Crc.byte x c : Nat) : Int) := by
  have hc := c.toNat_lt
  have h1 : (x % 256) ^^^ c.toNat < 4294967296 := Nat.xor_lt_two_pow (n := 32) (by omega) (by omega)
  have := u32_xor_nat (Crc.one ((x % 256) ^^^ c.toNat)) (x / 256) (Crc.one_lt h1) (by omega)
  unfold Crc.byte
  rw [← this]; rfl
set_option maxHeartbeats 400000 in
theorem crc_one (n : Nat) (w : World) (hn : n < 4294967296) :
    Calls Tryz.prog 147 #[.int .u32 n] w fun e w' => e = .returned (.int .u32 (Crc.one n)) ∧ w = w' := by
  go_enter Tryz.func147, Tryz.ntmps147
  go_wp2
  go_loop [0, 3] (fun a i => ∃ k : Nat, k ≤ 8 ∧ i = .int .i64 k ∧ a = .int .u32 (Crc.steps k n)) (fun _ i => 8 - (intOf i).toNat)
  case atStart => exact ⟨0, by omega, rfl, rfl⟩
  case round =>
    obtain ⟨k, hk, rfl, rfl⟩ := hrel
    have hx := Crc.steps_lt k hn
    have hs : Hid (Crc.steps (k + 1) n = Crc.step1 (Crc.steps k n)) := Lib.hid rfl
    have h8 : Hid (k = 8 → Crc.steps k n = Crc.one n) := Lib.hid (fun h => by subst h; rfl)
    generalize Crc.steps k n = x at *
    have ha := u32_and1 hx
    go_wp2
    · go_round
      case rel =>
        refine ⟨k + 1, by omega, by go_num, ?_⟩
        rw [hs.out, u32_poly hx]
        unfold Crc.step1
        rw [if_pos (by have : (((x % 2 : Nat) : Int) == 1) = true := by assumption
                       rw [beq_iff_eq] at this; omega)]
      case measure => simp [intOf]; omega
    · go_round
      case rel =>
        refine ⟨k + 1, by omega, by go_num, ?_⟩
        rw [hs.out]
        unfold Crc.step1
        rw [if_neg (by have : (((x % 2 : Nat) : Int) == 1) = false := by assumption
                       rw [beq_eq_false_iff_ne] at this; omega)]
        go_num
      case measure => simp [intOf]; omega
    · go_ret
      have hk8 : k = 8 := by omega
      rw [← h8.out hk8]
      exact ⟨rfl, rfl⟩
theorem u32_inv {n : Nat} (h : n < 4294967296) : bits .xor .u32 IntKind.u32.max (n : Int) = ((Crc.inv n : Nat) : Int) := by
  have := u32_xor_nat 4294967295 n (by omega) h
  rw [show IntKind.u32.max = ((4294967295 : Nat) : Int) from rfl, this]
  congr 1
  unfold Crc.inv
  apply Nat.eq_of_testBit_eq
  intro i
  rw [show (4294967295 : Nat) - n = 2 ^ 32 - (n + 1) from by omega, Nat.testBit_two_pow_sub_succ h, Nat.testBit_xor, show (4294967295 : Nat) = 2 ^ 32 - 1 from rfl, Nat.testBit_two_pow_sub_one]
  by_cases hi : i < 32 <;> simp [hi]
  exact Nat.testBit_lt_two_pow (Nat.lt_of_lt_of_le h (Nat.pow_le_pow_right (n := 2) (by omega) (by omega : 32 ≤ i)))
set_option maxHeartbeats 400000 in
theorem crc_more (n : Nat) (s : ByteArray) (w : World) (hn : n < 4294967296) (hs : s.size ≤ maxLen) :
    Calls Tryz.prog 128 #[.int .u32 n, .string s] w fun e w' => e = .returned (.int .u32 (Crc.more n s.data.toList)) ∧ w = w' := by
  unfold maxLen at hs
  have hi := u32_inv hn
  go_enter Tryz.func128, Tryz.ntmps128
  go_wp2
  clear hi
  go_loop [0, 10] (fun a i => ∃ k : Nat, k ≤ s.size ∧ i = .int .i64 k ∧ a = .int .u32 (Crc.run (Crc.inv n) (s.data.toList.take k))) (fun _ i => s.size - (intOf i).toNat)
  case atStart => exact ⟨0, by omega, rfl, rfl⟩
  case round =>
    obtain ⟨k, hk, rfl, rfl⟩ := hrel
    have hx := Crc.run_lt (s.data.toList.take k) (Crc.inv_lt n)
    by_cases hlt : k < s.size
    · have hs : Hid (Crc.run (Crc.inv n) (s.data.toList.take (k + 1)) = Crc.byte (Crc.run (Crc.inv n) (s.data.toList.take k)) s[k]) := Lib.hid (by rw [take_snoc s k hlt, Crc.run_append]; rfl)
      generalize Crc.run (Crc.inv n) (s.data.toList.take k) = x at *
      have hc := s[k].toNat_lt
      have h1 := u32_in x s[k] hx
      have h2 := u32_out x s[k] hx
      have h3 := in_lt x s[k]
      go_wp2_with (go_at_call 147; refine (crc_one _ _ h3).mono ?_; rintro e w' ⟨rfl, rfl⟩)
      go_round
      case rel => exact ⟨k + 1, by omega, by go_num, by rw [hs.out]⟩
      case measure => simp [intOf]; omega
    · have hs : Hid (Crc.run (Crc.inv n) (s.data.toList.take k) = Crc.run (Crc.inv n) s.data.toList) := Lib.hid (by rw [List.take_of_length_le (by simp; omega)])
      generalize Crc.run (Crc.inv n) (s.data.toList.take k) = x at *
      have hi := u32_inv hx
      go_wp2
      go_ret
      exact ⟨ret_int (by unfold Crc.more; rw [← hs.out]), rfl⟩

set_option maxHeartbeats 400000 in
theorem crc_sum (s : ByteArray) (w : World) (hs : s.size ≤ maxLen) :
    Calls Tryz.prog 104 #[.string s] w fun e w' => e = .returned (.int .u32 (Crc.sum s.data.toList)) ∧ w = w' := by
  go_enter Tryz.func104, Tryz.ntmps104
  go_wp2_with (go_at_call 128; refine (crc_more 0 _ _ (by omega) hs).mono ?_; rintro e w' ⟨rfl, rfl⟩)
  go_ret
  exact ⟨rfl, rfl⟩
theorem seal_eq (s : ByteArray) : s ++ strOfNums [(Crc.sum s.data.toList : Int) % 256, (Crc.sum s.data.toList : Int) / 256 % 256, (Crc.sum s.data.toList : Int) / 65536 % 256, (Crc.sum s.data.toList : Int) / 16777216 % 256] = ⟨(Crc.seal_ s.data.toList).toArray⟩ := by
  rw [str_app]
  unfold Crc.seal_ Crc.four
  generalize Crc.sum s.data.toList = n
  have h1 : ((n : Int) % 256).toNat = n % 256 := by omega
  have h2 : ((n : Int) / 256 % 256).toNat = n / 256 % 256 := by omega
  have h3 : ((n : Int) / 65536 % 256).toNat = n / 65536 % 256 := by omega
  have h4 : ((n : Int) / 16777216 % 256).toNat = n / 16777216 % 256 := by omega
  simp only [List.map_cons, List.map_nil, h1, h2, h3, h4, ofNat_mod]
set_option maxHeartbeats 400000 in
theorem crc_seal (s : ByteArray) (w : World) (hs : s.size + 4 ≤ maxLen) :
    Calls Tryz.prog 84 #[.string s] w fun e w' => e = .returned (.string ⟨(Crc.seal_ s.data.toList).toArray⟩) ∧ Below w.heap.size w w' := by
  unfold maxLen at hs
  have hsz : ∀ a b c d : Int, (strOfNums [a, b, c, d]).size = 4 := fun _ _ _ _ => rfl
  have hcv := str4 (P := Tryz.prog) 140 5 9 Tryz.underlying140 Tryz.underlying5 Tryz.underlying9
  go_enter Tryz.func84, Tryz.ntmps84
  go_wp2_with (go_at_call 104; refine (crc_sum _ _ (by unfold maxLen; omega)).mono ?_; rintro e w' ⟨rfl, rfl⟩)
  go_ret
  exact ⟨ret_str (seal_eq s), (Below.refl _ _).alloc (Nat.le_refl _) _⟩
def err (n : Int) : Value := .iface 66 (.int .i64 n)
/-- What Open answers. -/
def openVal (s : ByteArray) : Value :=
  if s.size < 4 then .tuple #[.string ⟨#[]⟩, err 7]
  else if Crc.seal_ (s.data.toList.take (s.size - 4)) = s.data.toList then .tuple #[.string ⟨(s.data.toList.take (s.size - 4)).toArray⟩, .nilIface]
  else .tuple #[.string ⟨#[]⟩, err 15]
set_option maxHeartbeats 400000 in
theorem crc_open (s : ByteArray) (w : World) (hs : s.size ≤ maxLen) :
    Calls Tryz.prog 106 #[.string s] w fun e w' => e = .returned (openVal s) ∧ Below w.heap.size w w' := by
  unfold maxLen at hs
  by_cases h4 : s.size < 4
  · go_enter Tryz.func106, Tryz.ntmps106
    go_wp2
    go_ret2
    refine ⟨?_, Below.refl _ _⟩
    unfold openVal
    rw [if_pos h4]; rfl
  · have hx : s.toList = s.data.toList := ByteArray.toList_eq s
    by_cases hq : Crc.seal_ (s.data.toList.take (s.size - 4)) = s.data.toList
    all_goals
      have hv : Hid (openVal s = if Crc.seal_ (s.data.toList.take (s.size - 4)) = s.data.toList then .tuple #[.string ⟨(s.data.toList.take (s.size - 4)).toArray⟩, .nilIface] else .tuple #[.string ⟨#[]⟩, err 15]) := Lib.hid (by unfold openVal; rw [if_neg h4])
    · have hb : (!Crc.seal_ (s.data.toList.take (s.size - 4)) == s.data.toList) = false := by simp [hq]
      have hq' := Lib.hid hq
      clear hq
      go_enter Tryz.func106, Tryz.ntmps106
      go_wp2_with (go_at_call 84; refine (crc_seal _ _ (by simp; unfold maxLen; omega)).mono ?_; rintro e w1 ⟨rfl, hb1⟩)
      go_ret2
      rw [hv.out, if_pos hq'.out]
      exact ⟨by rw [show (s.extract 0 (s.size - 4)) = ⟨(s.data.toList.take (s.size - 4)).toArray⟩ from ba_ext (by simp)]; rfl, hb1⟩
    · have hb : (!Crc.seal_ (s.data.toList.take (s.size - 4)) == s.data.toList) = true := by simp [hq]
      have hq' := Lib.hid hq
      clear hq
      go_enter Tryz.func106, Tryz.ntmps106
      go_wp2_with (go_at_call 84; refine (crc_seal _ _ (by simp; unfold maxLen; omega)).mono ?_; rintro e w1 ⟨rfl, hb1⟩)
      go_ret2
      rw [hv.out, if_neg hq'.out]
      exact ⟨rfl, hb1⟩
end Go.Proofs.YtdbpiabcpjgblaaGreatDoor
