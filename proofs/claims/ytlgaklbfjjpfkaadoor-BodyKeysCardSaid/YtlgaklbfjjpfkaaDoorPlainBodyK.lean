/- Bodies with other keys, with other values: how long they are. No program. -/
import Derived.Test.YtlgaklbfjjpfkaaDoorWBody0
namespace Go.Proofs.YtlgaklbfjjpfkaaDoor
namespace Body
set_option linter.unusedVariables false
theorem one_len {h : List Vec.Entry} {prev : Int} {x y : Wr} (i : Nat) (ht : y.t = x.t) (hr : y.r = x.r) (htl : (Wr.tail y).length = (Wr.tail x).length) : (one h prev y i).length = (one h prev x i).length := by
  unfold one
  simp only [List.length_cons, List.length_append, ht, hr, htl]
theorem encW_len (h : List Vec.Entry) (g : Wr → Wr) (ht : ∀ x, (g x).t = x.t) (hr : ∀ x, (g x).r = x.r) (htl : ∀ x, (Wr.tail (g x)).length = (Wr.tail x).length) (ws : List Wr) : ∀ (prev : Int) (A : List Nat), (encW h prev (ws.map g) A).length = (encW h prev ws A).length := by
  induction ws with
  | nil => intro prev A; rfl
  | cons x ws ih =>
    intro prev A
    cases A with
    | nil => rfl
    | cons i A =>
      simp only [List.map_cons, encW, List.length_append, ht, ih, one_len i (ht x) (hr x) (htl x)]
theorem table_same (k : List UInt8) (n : Nat) : Keys.table (List.replicate (n + 1) k) = ([k], List.replicate (n + 1) 0) := by
  induction n with
  | zero => rfl
  | succ n ih =>
    rw [List.replicate_succ', Keys.table_snoc, ih]
    unfold Keys.step
    rw [if_pos (List.mem_cons_self ..)]
    simp only [List.idxOf_cons_self]
    rw [← List.replicate_succ']
def keyed (K : List UInt8) (x : Wr) : Wr := { x with key := K }
theorem tail_keyed (K : List UInt8) (x : Wr) : Wr.tail (keyed K x) = Wr.tail x := rfl
theorem keyed_len (f h : List Vec.Entry) (ws : List Wr) (K : List UInt8) (hK : K.length < 128) (hne : ws ≠ []) : (write f h (ws.map (keyed K))).length = (write f h (ws.map (keyed []))).length + K.length := by
  obtain ⟨n, hn⟩ : ∃ n, ws.length = n + 1 := ⟨ws.length - 1, by have : 0 < ws.length := List.length_pos_iff.2 hne; omega⟩
  have hk : ∀ K : List UInt8, (ws.map (keyed K)).map (·.key) = List.replicate (n + 1) K := fun K => by
    rw [List.map_map, ← hn]
    exact List.map_const' ..
  unfold write
  rw [hk, hk, table_same, table_same]
  unfold enc
  have e : ∀ K : List UInt8, (encW h 0 (ws.map (keyed K)) (List.replicate (n + 1) 0)).length = (encW h 0 ws (List.replicate (n + 1) 0)).length := fun K => encW_len h (keyed K) (fun _ => rfl) (fun _ => rfl) (fun _ => rfl) ws 0 _
  simp only [List.length_append, List.flatMap_cons, List.flatMap_nil, List.length_nil, List.length_map, List.length_cons, e, List.append_nil]
  unfold Span.put
  simp only [List.length_append, List.length_nil]
  rw [Vary.put_small hK, Vary.put_small (show 0 < 128 by omega)]
  simp only [List.length_cons, List.length_nil]
  omega
def valued (c : UInt8) (x : Wr) : Wr := { x with val := List.replicate x.val.length c }
theorem tail_valued (c : UInt8) (x : Wr) : (Wr.tail (valued c x)).length = (Wr.tail x).length := by
  unfold Wr.tail valued
  simp only
  by_cases h1 : x.k = 1
  · simp only [h1, if_true, Span.put, List.length_append, List.length_replicate]
  · simp only [h1, if_false]
    by_cases h3 : x.k = 3
    · simp only [h3, if_true]
    · simp only [h3, if_false]
      by_cases h4 : x.k = 4
      · simp only [h4, if_true, Span.put, List.length_append, List.length_replicate]
      · simp only [h4, if_false]
theorem valued_len (f h : List Vec.Entry) (ws : List Wr) (c : UInt8) : (write f h (ws.map (valued c))).length = (write f h ws).length := by
  have hk : (ws.map (valued c)).map (·.key) = ws.map (·.key) := by rw [List.map_map]; rfl
  unfold write
  rw [hk]
  unfold enc
  simp only [List.length_append, List.length_map, encW_len h (valued c) (fun _ => rfl) (fun _ => rfl) (tail_valued c) ws 0]
theorem right_valued {c : UInt8} {x : Wr} (h : Wr.right x = 0) : Wr.right (valued c x) = 0 := by
  obtain ⟨h1, h2, h3, h4, h5, h6, h7, h8, h9, h10, h11, h12⟩ := Wr.right_zero h
  refine Wr.right_of h1 h2 h3 h4 h5 h6 h7 ?_ ?_ h10 h11 h12
  · show (List.replicate x.val.length c).length ≤ 300
    rw [List.length_replicate]; exact h8
  · intro hk
    show List.replicate x.val.length c = []
    rw [h9 hk]; rfl
theorem bright_valued {f h : List Vec.Entry} {ws : List Wr} (c : UInt8) (hr : Bat.right f h ws = .ok) : Bat.right f h (ws.map (valued c)) = .ok := by
  have hF := (Bat.right_iff _ _ _).1 hr
  refine (Bat.right_iff _ _ _).2 ⟨hF.from_, hF.have_, hF.cov, by rw [List.length_map]; exact hF.len, fun x hx => ?_, ?_⟩
  · obtain ⟨y, hy, rfl⟩ := List.mem_map.1 hx
    obtain ⟨h1, h2⟩ := hF.each y hy
    exact ⟨right_valued h1, h2⟩
  · rw [List.pairwise_map]
    exact hF.order
end Body
end Go.Proofs.YtlgaklbfjjpfkaaDoor
