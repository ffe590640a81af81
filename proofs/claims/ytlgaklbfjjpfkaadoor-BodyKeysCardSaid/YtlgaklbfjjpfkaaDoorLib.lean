/- Small laws of any program: new byte rows turned into strings; small equations. -/
import Derived.WalkKit
import Derived.WalkSpells
import Derived.WalkLawsBesides
import Derived.Lib.Hide
import Derived.SizedLaws
import Derived.Deep.OwnRows
import Derived.Deep.QuietTactic
import Derived.BigQuiet
import Derived.Laws.IdiomStrings
namespace Go.Proofs.YtlgaklbfjjpfkaaDoor
open Go.RowKit
theorem ret_int {k : IntKind} {a b : Int} (h : a = b) : Ending.returned (.int k a) = .returned (.int k b) := by rw [h]
theorem ret_bool {a b : Bool} (h : a = b) : Ending.returned (.bool a) = .returned (.bool b) := by rw [h]
theorem ret_str {a b : ByteArray} (h : a = b) : Ending.returned (.string a) = .returned (.string b) := by rw [h]
/-- 'string(b)' of a row of bytes that has just been laid. -/
theorem str_of_new {P : Program} (W : World) (src e dst : TypeId) (hs : P.underlying src = some (.slice e)) (he : P.underlying e = some (.int .u8)) (hd : P.underlying dst = some .string) (xs : List Int) (n : Nat) (hn : xs.length = n) :
    Sem.run P (convert src dst (.slice (some ⟨W.heap.size, 0, none⟩) n n)) (W.alloc (.cells (xs.map (Value.int .u8)).toArray e)) = .ok (.string (strOfNums xs)) (W.alloc (.cells (xs.map (Value.int .u8)).toArray e)) := by
  refine run_convert_bytes_arg (W.alloc _) src e hs he W.heap.size 0 n n xs hn (fun i hi => ?_) dst hd
  rw [World.cell?_alloc_at _ _ _ _ rfl]
  simp [List.getD, List.getElem?_eq_getElem (show i < xs.length by omega)]
theorem str1 {P : Program} (src e dst : TypeId) (hs : P.underlying src = some (.slice e)) (he : P.underlying e = some (.int .u8)) (hd : P.underlying dst = some .string) (W : World) (a : Int) :
    Sem.run P (convert src dst (.slice (some ⟨W.heap.size, 0, none⟩) 1 1)) (W.alloc (.cells #[.int .u8 a] e)) = .ok (.string (strOfNums [a])) (W.alloc (.cells #[.int .u8 a] e)) :=
  str_of_new W src e dst hs he hd [a] 1 rfl
theorem str4 {P : Program} (src e dst : TypeId) (hs : P.underlying src = some (.slice e)) (he : P.underlying e = some (.int .u8)) (hd : P.underlying dst = some .string) (W : World) (a b c d : Int) :
    Sem.run P (convert src dst (.slice (some ⟨W.heap.size, 0, none⟩) 4 4)) (W.alloc (.cells #[.int .u8 a, .int .u8 b, .int .u8 c, .int .u8 d] e)) = .ok (.string (strOfNums [a, b, c, d])) (W.alloc (.cells #[.int .u8 a, .int .u8 b, .int .u8 c, .int .u8 d] e)) :=
  str_of_new W src e dst hs he hd [a, b, c, d] 4 rfl
theorem take_snoc (s : ByteArray) (k : Nat) (h : k < s.size) : s.data.toList.take (k + 1) = s.data.toList.take k ++ [s[k]] := by
  rw [List.take_succ_eq_append_getElem (by simpa using h)]; rfl
theorem ba_ext {a b : ByteArray} (h : a.data.toList = b.data.toList) : a = b := by
  cases a; cases b; simp_all
theorem ba_app (a b : ByteArray) : (a ++ b).data.toList = a.data.toList ++ b.data.toList := by
  simp [ByteArray.data_append]
theorem str_app (s : ByteArray) (l : List Int) : s ++ strOfNums l = ⟨(s.data.toList ++ l.map (fun n => UInt8.ofNat n.toNat)).toArray⟩ :=
  ba_ext (by rw [ba_app, strOfNums_data])
theorem ofNat_mod (n : Nat) : UInt8.ofNat (n % 256) = UInt8.ofNat n := by
  apply UInt8.toNat_inj.1; simp
theorem reach_str (a : ByteArray) (h : a.data.toList.length ≤ reachBytes) : a.size ≤ 140737488351232 := by
  rw [Array.length_toList] at h
  exact h
theorem bch {w a b : World} (h : Below w.heap.size w a) (k : Below a.heap.size a b) : Below w.heap.size w b := h.trans (k.mono h.size)
theorem bal {w a : World} (h : Below w.heap.size w a) (o : Obj) : Below w.heap.size w (a.alloc o) := h.alloc h.size o
theorem bdr {w a : World} (h : Below w.heap.size w a) : Below w.heap.size w a.drew := h.drew
theorem bst {w a : World} (h : Below w.heap.size w a) {p : Addr} (hp : w.heap.size ≤ p.block) (v : Value) : Below w.heap.size w (a.setCell p v) := h.setCell hp v
/-- Block g is a row of these cells, none of them frozen. -/
def Row (w : World) (g : Nat) (e : TypeId) (cs : List Value) : Prop :=
  ∃ fr : Nat × Nat, w.heap[g]? = some (.cells cs.toArray e fr) ∧ (fr = (0, 0) ∨ cs.length ≤ fr.1)
theorem Row.lt {w : World} {g : Nat} {e : TypeId} {cs : List Value} (h : Row w g e cs) : g < w.heap.size := by
  obtain ⟨fr, h, _⟩ := h; exact (Array.getElem?_eq_some_iff.1 h).1
theorem Row.cell {w : World} {g : Nat} {e : TypeId} {cs : List Value} (h : Row w g e cs) (j : Nat) : w.cell? ⟨g, j, none⟩ = cs[j]? := by
  obtain ⟨fr, h, _⟩ := h
  simp [World.cell?, h]
theorem Row.frozen {w : World} {g : Nat} {e : TypeId} {cs : List Value} (h : Row w g e cs) (j : Nat) (hj : j < cs.length) : w.frozen? ⟨g, j, none⟩ = false := by
  obtain ⟨⟨lo, hi⟩, h, hf⟩ := h
  simp only [World.frozen?, h]
  rcases hf with hf | hf
  · simp only [Prod.mk.injEq] at hf
    obtain ⟨rfl, rfl⟩ := hf
    simp
  · simp at hf
    simp; omega
theorem Row.of_block {w w' : World} {g : Nat} {e : TypeId} {cs : List Value} (h : Row w g e cs) (hb : w'.heap[g]? = w.heap[g]?) : Row w' g e cs := by
  obtain ⟨fr, h, hf⟩ := h; exact ⟨fr, hb.trans h, hf⟩
theorem Row.alloc {w : World} {g : Nat} {e : TypeId} {cs : List Value} (h : Row w g e cs) (o : Obj) : Row (w.alloc o) g e cs :=
  h.of_block (Below.heap_alloc w o g h.lt)
theorem Row.drew {w : World} {g : Nat} {e : TypeId} {cs : List Value} (h : Row w g e cs) : Row w.drew g e cs := h
theorem Row.drewN {w : World} {g : Nat} {e : TypeId} {cs : List Value} (h : Row w g e cs) (n : Nat) : Row (w.drewN n) g e cs := h
theorem Row.below {w w' : World} {g : Nat} {e : TypeId} {cs : List Value} (h : Row w g e cs) (hb : Below w.heap.size w w') : Row w' g e cs :=
  h.of_block (hb.block g h.lt)
theorem Row.set {w : World} {g : Nat} {e : TypeId} {cs : List Value} (h : Row w g e cs) (j : Nat) (v : Value) : Row (w.setCell ⟨g, j, none⟩ v) g e (cs.set j v) := by
  obtain ⟨fr, h, hf⟩ := h
  refine ⟨fr, ?_, by simpa using hf⟩
  simp only [World.setCell, Array.getElem?_modify, if_pos, h, Option.map_some]
  simp
theorem Row.other {w : World} {g : Nat} {e : TypeId} {cs : List Value} (h : Row w g e cs) {p : Addr} (hp : p.block ≠ g) (v : Value) : Row (w.setCell p v) g e cs :=
  h.of_block (Below.heap_setCell w p v g (fun he => hp he.symm))
theorem row_alloc (w : World) (cs : Array Value) (e : TypeId) : Row (w.alloc (.cells cs e)) w.heap.size e cs.toList :=
  ⟨(0, 0), by rw [heap_alloc_new], .inl rfl⟩
/-- 'string(b)' of a row of bytes. -/
theorem str_of_row {P : Program} {w : World} {g : Nat} {e : TypeId} {l : List UInt8} (h : Row w g e (l.map fun b => Value.int .u8 b.toNat)) (src dst : TypeId) (hs : P.underlying src = some (.slice e)) (he : P.underlying e = some (.int .u8)) (hd : P.underlying dst = some .string) (n c : Nat) (hn : n = l.length) :
    Sem.run P (convert src dst (.slice (some ⟨g, 0, none⟩) n c)) w = .ok (.string ⟨l.toArray⟩) w := by
  subst hn
  have := run_convert_bytes_arg w src e hs he g 0 l.length c (l.map fun b => (b.toNat : Int)) (by simp) (fun i hi => by
    rw [Nat.zero_add, h.cell]
    simp [List.getD, List.getElem?_eq_getElem hi]) dst hd
  rw [this]
  congr 2
  apply ba_ext
  rw [strOfNums_data, List.map_map]
  refine (List.map_congr_left (g := id) fun b _ => ?_).trans (List.map_id l)
  simp
theorem quiet_same {P : Program} {f : FuncId} {args : Array Value} {w : World} {n : Nat} {v : Value}
    (h : Calls P f args (w.drewN n) fun e w' => e = .returned v ∧ w.drewN n = w') : Calls P f args (w.drewN n) fun e w'' => e = .returned v ∧ ∃ m, w'' = w.drewN m :=
  h.mono fun _ _ ⟨he, hm⟩ => ⟨he, n, hm.symm⟩
/-- The first k cells are done, the rest is nought yet. -/
def part {α : Type} (X : List α) (z : α) (k : Nat) : List α := X.take k ++ List.replicate (X.length - k) z
theorem part_zero {α : Type} (X : List α) (z : α) : part X z 0 = List.replicate X.length z := by simp [part]
theorem part_all {α : Type} (X : List α) (z : α) : part X z X.length = X := by simp [part]
theorem part_len {α : Type} (X : List α) (z : α) (k : Nat) (h : k ≤ X.length) : (part X z k).length = X.length := by simp [part]; omega
theorem part_set {α : Type} (X : List α) (z : α) (k : Nat) (h : k < X.length) : (part X z k).set k X[k] = part X z (k + 1) := by
  unfold part
  have e : X.length - k = (X.length - (k + 1)) + 1 := by omega
  rw [e, List.replicate_succ, List.set_append_right _ _ (by simp; omega)]
  have : k - (X.take k).length = 0 := by simp; omega
  rw [this, List.set_cons_zero, List.take_succ_eq_append_getElem h, List.append_assoc]
  rfl
theorem madeCells_one (z : Value) (n : Nat) : (madeCells #[z] n).toList = List.replicate n z := by
  rw [madeCells]
  apply List.ext_getElem (by simp)
  intro i h1 h2
  simp [Nat.mod_one]
theorem part_next {α : Type} (X : List α) (z : α) (k : Nat) (h : k < X.length) : (part X z k)[k]? = some z := by
  unfold part
  have hl : (X.take k).length = k := by simp; omega
  rw [List.getElem?_append_right (by omega), hl, Nat.sub_self, List.getElem?_replicate, if_pos (by omega)]
theorem size_mk_le (l : List UInt8) (h : l.length ≤ 1000000) : (ByteArray.mk l.toArray).size ≤ maxLen := by
  have e : (ByteArray.mk l.toArray).size = l.length := by simp [ByteArray.size]
  rw [e]; unfold maxLen; omega
theorem size_small (s : ByteArray) (h : s.size ≤ 1000000) : s.size ≤ maxLen := by unfold maxLen; omega
theorem size_reach (s : ByteArray) (h : s.size ≤ 140737488351232) : s.size ≤ maxLen := by unfold maxLen; omega
theorem bdn {w a : World} (h : Below w.heap.size w a) (n : Nat) : Below w.heap.size w (a.drewN n) := ⟨h.os, h.tape, h.output, h.size, h.block⟩
theorem nat_u8 {a : Int} (h : (Lit.int .u8 a).wf = true) : ∃ c : Nat, a = c ∧ c < 256 := by
  simp [Lit.wf, IntKind.min, IntKind.max, IntKind.signed, IntKind.bits] at h
  exact ⟨a.toNat, by omega, by omega⟩
theorem nat_u32 {a : Int} (h : (Lit.int .u32 a).wf = true) : ∃ c : Nat, a = c ∧ c < 4294967296 := by
  simp [Lit.wf, IntKind.min, IntKind.max, IntKind.signed, IntKind.bits] at h
  exact ⟨a.toNat, by omega, by omega⟩
theorem nat_u64 {a : Int} (h : (Lit.int .u64 a).wf = true) : ∃ c : Nat, a = c ∧ c < 18446744073709551616 := by
  simp [Lit.wf, IntKind.min, IntKind.max, IntKind.signed, IntKind.bits] at h
  exact ⟨a.toNat, by omega, by omega⟩
theorem int_i64 {a : Int} (h : (Lit.int .i64 a).wf = true) : -9223372036854775808 ≤ a ∧ a ≤ 9223372036854775807 := by
  simp [Lit.wf, IntKind.min, IntKind.max, IntKind.signed, IntKind.bits] at h
  omega
/-- Block g is a row that begins with these cells, none of which is frozen. -/
def PRow (w : World) (g : Nat) (e : TypeId) (cs : List Value) : Prop :=
  ∃ (C : List Value) (fr : Nat × Nat), w.heap[g]? = some (.cells (cs ++ C).toArray e fr) ∧ (fr = (0, 0) ∨ cs.length ≤ fr.1)
theorem PRow.lt {w : World} {g : Nat} {e : TypeId} {cs : List Value} (h : PRow w g e cs) : g < w.heap.size := by
  obtain ⟨C, fr, h, _⟩ := h; exact (Array.getElem?_eq_some_iff.1 h).1
theorem PRow.cell {w : World} {g : Nat} {e : TypeId} {cs : List Value} (h : PRow w g e cs) (j : Nat) (hj : j < cs.length) : w.cell? ⟨g, j, none⟩ = some cs[j] := by
  obtain ⟨C, fr, h, _⟩ := h
  simp [World.cell?, h, List.getElem?_append_left hj]
theorem PRow.frozen {w : World} {g : Nat} {e : TypeId} {cs : List Value} (h : PRow w g e cs) (j : Nat) (hj : j < cs.length) : w.frozen? ⟨g, j, none⟩ = false := by
  obtain ⟨C, ⟨lo, hi⟩, h, hf⟩ := h
  simp only [World.frozen?, h]
  rcases hf with hf | hf
  · simp only [Prod.mk.injEq] at hf
    obtain ⟨rfl, rfl⟩ := hf
    simp
  · simp at hf
    simp; omega
theorem PRow.of_block {w w' : World} {g : Nat} {e : TypeId} {cs : List Value} (h : PRow w g e cs) (hb : w'.heap[g]? = w.heap[g]?) : PRow w' g e cs := by
  obtain ⟨C, fr, h, hf⟩ := h; exact ⟨C, fr, hb.trans h, hf⟩
theorem PRow.alloc {w : World} {g : Nat} {e : TypeId} {cs : List Value} (h : PRow w g e cs) (o : Obj) : PRow (w.alloc o) g e cs :=
  h.of_block (Below.heap_alloc w o g h.lt)
theorem PRow.drew {w : World} {g : Nat} {e : TypeId} {cs : List Value} (h : PRow w g e cs) : PRow w.drew g e cs := h
theorem PRow.drewN {w : World} {g : Nat} {e : TypeId} {cs : List Value} (h : PRow w g e cs) (n : Nat) : PRow (w.drewN n) g e cs := h
theorem PRow.below {w w' : World} {g : Nat} {e : TypeId} {cs : List Value} (h : PRow w g e cs) (hb : Below w.heap.size w w') : PRow w' g e cs :=
  h.of_block (hb.block g h.lt)
theorem PRow.set {w : World} {g : Nat} {e : TypeId} {cs : List Value} (h : PRow w g e cs) (j : Nat) (hj : j < cs.length) (v : Value) : PRow (w.setCell ⟨g, j, none⟩ v) g e (cs.set j v) := by
  obtain ⟨C, fr, h, hf⟩ := h
  refine ⟨C, fr, ?_, by simpa using hf⟩
  simp only [World.setCell, Array.getElem?_modify, if_pos, h, Option.map_some]
  simp [List.set_append_left _ _ hj]
theorem PRow.other {w : World} {g : Nat} {e : TypeId} {cs : List Value} (h : PRow w g e cs) {p : Addr} (hp : p.block ≠ g) (v : Value) : PRow (w.setCell p v) g e cs :=
  h.of_block (Below.heap_setCell w p v g (fun he => hp he.symm))
def byteVals (l : List UInt8) : List Value := l.map fun b => Value.int .u8 b.toNat
/-- What '[]byte(s)' lays is a row of its bytes. -/
theorem prow_bytes (w : World) (s : ByteArray) (e : TypeId) (cap : Nat) (a b : Nat) (hsz : a = (bytesRow s cap).size) : PRow (w.alloc (.cells (bytesRow s cap) e (a, b))) w.heap.size e (byteVals s.data.toList) := by
  refine ⟨List.replicate (cap - s.size) (.int .u8 0), (a, b), ?_, .inr ?_⟩
  · rw [heap_alloc_new]
    congr 1
    simp [bytesRow, byteVals]
  · subst hsz; simp [bytesRow, byteVals]
theorem str_of_prow {P : Program} {w : World} {g : Nat} {e : TypeId} {l : List UInt8} (h : PRow w g e (byteVals l)) (src dst : TypeId) (hs : P.underlying src = some (.slice e)) (he : P.underlying e = some (.int .u8)) (hd : P.underlying dst = some .string) (n c : Nat) (hn : n = l.length) :
    Sem.run P (convert src dst (.slice (some ⟨g, 0, none⟩) n c)) w = .ok (.string ⟨l.toArray⟩) w := by
  subst hn
  have := run_convert_bytes_arg w src e hs he g 0 l.length c (l.map fun b => (b.toNat : Int)) (by simp) (fun i hi => by
    rw [Nat.zero_add, h.cell i (by simpa [byteVals] using hi)]
    simp [byteVals, List.getD, List.getElem?_eq_getElem hi]) dst hd
  rw [this]
  congr 2
  apply ba_ext
  rw [strOfNums_data, List.map_map]
  refine (List.map_congr_left (g := id) fun b _ => ?_).trans (List.map_id l)
  simp
/-- 'out = append(out, x)', out nil or the call's own: one element more, of so many cells, which have just been laid. -/
theorem app_new {P : Program} {w0 : World} {ops : Array Oper} {rest : List Oper} {o : Oper} {a : Act} {Q : Exit → Act → World → Prop} (hgd : o.guard = none) (s x : Operand) (t e : TypeId)
    (ho : o.op = .call { callee := .builtin .append, args := #[s, x], argTypes := #[t, t] }) (base : Nat) (z : Value) (size bytes : Nat)
    (ht : P.underlying t = some (.slice e)) (hinfo : (P.info? e).map (fun i => (i.zero, i.size, i.bytes)) = some (some z, size, bytes)) (hzs : z.cells.size = size) (hsz : 0 < size)
    (v : Value) (n : Nat) (xs : List Value) (hs : a.eval s = v) (hown : w0.ownsRow base e size v n xs)
    (us : Array Value) (hx : a.eval x = .slice (some ⟨w0.heap.size, 0, none⟩) 1 1) (hus : us.size = size) (h1 : ∀ u ∈ us.toList, u.oneCell' = true)
    (h63 : n + 1 ≤ 1000000000) (hby : bytes ≤ 1000) (hbase : base ≤ w0.heap.size)
    (h : ∀ v' w', w'.ownsRow base e size v' (n + 1) (xs ++ us.toList) → Below base w0 w' → v' ≠ .slice none 0 0 → wpList P ops Q rest (a.put o.dst v') w') :
    wpList P ops Q (o :: rest) a (w0.alloc (.cells us e)) := by
  obtain ⟨i, hi, hz, hsize, hb⟩ := info_parts hinfo
  refine wpList_append_own _ hgd s x t ho base e i z size bytes ht hi hz hsize hb hzs hsz v n xs hs (hown.alloc _) ⟨w0.heap.size, 0, none⟩ 1 1 us.toList hx (by simp [hus]) ?_ h1 (by unfold maxLen; omega) ?_ (by simp; omega) ?_
  · intro j u hj
    have e1 : (⟨w0.heap.size, 0, none⟩ : Addr).add j = ⟨w0.heap.size, j, none⟩ := by unfold Addr.add; split <;> simp_all
    rw [e1, World.cell?_alloc_at _ _ _ _ rfl]
    simpa using hj
  · have := Nat.mul_le_mul (show n + 1 ≤ 1000000000 from h63) hby
    omega
  · intro v' w' r1 r2 r3
    refine h v' w' r1 ?_ (fun e => by have := r3.1 e; omega)
    refine ((Below.refl base w0).alloc hbase _).grown r2 (by simp; omega) (fun k hk => (hown.lt k hk).1)
/-- What a slice of the call's own owns, as an owned row says it, reads as a row. -/
theorem prow_of_owns {w : World} {base : Nat} {e : TypeId} {g n cap : Nat} {xs : List Value} (h : w.ownsRow base e 1 (.slice (some ⟨g, 0, none⟩) n cap) n xs) : PRow w g e xs ∧ base ≤ g := by
  rcases h.2 with ⟨h', _⟩ | ⟨g', cap', cur, h', hb, hg, hn, hm, hs, htake⟩
  · simp at h'
  · simp only [Value.slice.injEq, Option.some.injEq, Addr.mk.injEq, and_true, true_and] at h'
    obtain ⟨rfl, rfl⟩ := h'
    refine ⟨⟨cur.toList.drop (n * 1), (0, 0), ?_, .inl rfl⟩, hb⟩
    rw [hg]
    congr 2
    apply Array.toList_inj.1
    show cur.toList = xs ++ cur.toList.drop (n * 1)
    rw [← htake, List.take_append_drop]
/-- A slice of the call's own that is not nil, by its address. -/
theorem owns_addr {w : World} {base : Nat} {e : TypeId} {size : Nat} {v : Value} {n : Nat} {xs : List Value} (h : w.ownsRow base e size v n xs) (hv : v ≠ .slice none 0 0) : ∃ g cap, v = .slice (some ⟨g, 0, none⟩) n cap := by
  rcases h.2 with ⟨h', _⟩ | ⟨g', cap', cur, h', _⟩
  · exact absurd h' hv
  · exact ⟨g', cap', h'⟩
theorem ba_mk (s : ByteArray) : (⟨s.data.toList.toArray⟩ : ByteArray) = s := ba_ext rfl
theorem ba_size (l : List UInt8) : (ByteArray.mk l.toArray).size = l.length := by simp [ByteArray.size]
/-- A slice that reads as so many elements, of so many cells each. -/
def SliceIs (w : World) (v : Value) (n sz : Nat) (cs : List Value) : Prop :=
  cs.length = n * sz ∧ ((n = 0 ∧ ∃ a cap, v = .slice a 0 cap) ∨ (0 < n ∧ ∃ b off cap, v = .slice (some ⟨b, off, none⟩) n cap ∧ n ≤ cap ∧ cap ≤ maxLen ∧ ∀ (j : Nat) (h : j < cs.length), w.cell? ⟨b, off + j, none⟩ = some cs[j]))
theorem SliceIs.below {w w' : World} {v : Value} {n sz : Nat} {cs : List Value} (h : SliceIs w v n sz cs) (_hsz : 0 < sz) (hb : Below w.heap.size w w') : SliceIs w' v n sz cs := by
  refine ⟨h.1, ?_⟩
  rcases h.2 with h2 | ⟨h0, b, off, cap, rfl, h3, h4, h5⟩
  · exact .inl h2
  · refine .inr ⟨h0, b, off, cap, rfl, h3, h4, fun j hj => ?_⟩
    have hlt : b < w.heap.size := World.block_lt_of_cell? w _ (h5 j hj)
    rw [hb.cell (p := ⟨b, off + j, none⟩) hlt]
    exact h5 j hj
theorem SliceIs.nil (w : World) (sz : Nat) : SliceIs w (.slice none 0 0) 0 sz [] := ⟨by simp, .inl ⟨rfl, none, 0, rfl⟩⟩
theorem SliceIs.of_row {w : World} {g : Nat} {e : TypeId} {cs : List Value} {n sz cap : Nat} (h : Row w g e cs) (hn : cs.length = n * sz) (h0 : 0 < n) (hc : n ≤ cap) (hm : cap ≤ maxLen) : SliceIs w (.slice (some ⟨g, 0, none⟩) n cap) n sz cs :=
  ⟨hn, .inr ⟨h0, g, 0, cap, rfl, hc, hm, fun j hj => by rw [Nat.zero_add, h.cell, List.getElem?_eq_getElem hj]⟩⟩
end Go.Proofs.YtlgaklbfjjpfkaaDoor
