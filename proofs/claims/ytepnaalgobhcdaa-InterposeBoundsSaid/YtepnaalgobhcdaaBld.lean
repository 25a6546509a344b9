/- A slice of whole structs, written out: what its block holds. -/
import Derived.Test.YtepnaalgobhcdaaBase
namespace Go.Proofs.Ytepnaalgobhcdaa
open Go.RowKit

theorem foldl_set_get (c : List Value) : ∀ (s off : Nat) (cells : Array Value) (k : Nat), off + s + c.length ≤ cells.size →
    ((c.zipIdx s).foldl (fun cs (p : Value × Nat) => cs.setIfInBounds (off + p.2) p.1) cells)[k]? = if off + s ≤ k ∧ k < off + s + c.length then c[k - (off + s)]? else cells[k]? := by
  induction c with
  | nil => intro s off cells k _; simp; intro h1 h2; omega
  | cons x c ih =>
    intro s off cells k h
    simp only [List.length_cons] at h
    rw [List.zipIdx_cons, List.foldl_cons, ih (s + 1) off _ k (by simp; omega)]
    simp only [List.length_cons]
    by_cases h1 : off + (s + 1) ≤ k ∧ k < off + (s + 1) + c.length
    · rw [if_pos h1, if_pos (by omega), show k - (off + s) = (k - (off + (s + 1))) + 1 by omega]
      simp
    · rw [if_neg h1]
      by_cases h2 : k = off + s
      · subst h2
        rw [if_pos (by omega)]
        have : off + s < cells.size := by omega
        simp [this]
      · rw [if_neg (by omega), Array.getElem?_setIfInBounds, if_neg (fun e => h2 e.symm)]

theorem foldl_set_size (c : List (Value × Nat)) : ∀ (off : Nat) (cells : Array Value), (c.foldl (fun cs (p : Value × Nat) => cs.setIfInBounds (off + p.2) p.1) cells).size = cells.size := by
  induction c with
  | nil => intro off cells; rfl
  | cons x c ih => intro off cells; rw [List.foldl_cons, ih]; simp

theorem fill_aggs (size : Nat) (l : List (Array Value)) : ∀ (s : Nat) (cells : Array Value), (∀ c ∈ l, c.size = size) → (s + l.length) * size ≤ cells.size →
    ∃ cells', Instr.fill (fun i => some (i * size, size)) cells ((l.zipIdx s).map fun p => (p.2, Value.agg p.1)) = some cells' ∧ cells'.size = cells.size ∧ (∀ k, k < s * size → cells'[k]? = cells[k]?) ∧
      ∀ i c, l[i]? = some c → ∀ j v, c[j]? = some v → cells'[(s + i) * size + j]? = some v := by
  induction l with
  | nil => intro s cells _ _; exact ⟨cells, rfl, rfl, fun _ _ => rfl, fun i c h => by simp at h⟩
  | cons x l ih =>
    intro s cells hl hs
    have hx : x.size = size := hl x (by simp)
    have hs' : (s + 1 + l.length) * size ≤ cells.size := by rw [show s + 1 + l.length = s + (x :: l).length by simp; omega]; exact hs
    have hsx : s * size + size ≤ cells.size := by
      have : (s + 1) * size ≤ (s + 1 + l.length) * size := Nat.mul_le_mul_right _ (by omega)
      rw [Nat.add_mul, Nat.one_mul] at this
      omega
    obtain ⟨c2, h1, h2, h3, h4⟩ := ih (s + 1) ((x.toList.zipIdx).foldl (fun cs (p : Value × Nat) => cs.setIfInBounds (s * size + p.2) p.1) cells) (fun c hc => hl c (by simp [hc])) (by rw [foldl_set_size]; exact hs')
    refine ⟨c2, ?_, by rw [h2, foldl_set_size], fun k hk => ?_, ?_⟩
    · have hc : (Value.agg x).cells = x := rfl
      have hle : ¬ (s * size + x.size > cells.size) := by omega
      have hfl : x.zipIdx.foldl (fun cs p => cs.setIfInBounds (s * size + p.2) p.1) cells = x.toList.zipIdx.foldl (fun cs (p : Value × Nat) => cs.setIfInBounds (s * size + p.2) p.1) cells := by
        rw [← Array.foldl_toList, Array.toList_zipIdx]
      rw [List.zipIdx_cons, List.map_cons, Instr.fill]
      simp [hc, hx, ← h1, ← hfl]
      intro h; omega
    · rw [h3 k (by rw [Nat.add_mul]; omega), foldl_set_get _ _ _ _ _ (by simp; omega), if_neg (by simp; omega)]
    · intro i c hi j v hj
      cases i with
      | zero =>
        simp at hi
        subst hi
        have hjl : j < x.size := by
          rcases Nat.lt_or_ge j x.size with h | h
          · exact h
          · simp [Array.getElem?_eq_none h] at hj
        have e1 : (s + 1) * size = s * size + size := by rw [Nat.add_mul, Nat.one_mul]
        rw [h3 _ (by rw [Nat.add_zero]; omega), foldl_set_get _ _ _ _ _ (by simp; omega), if_pos (by simp; omega)]
        simpa using hj
      | succ i =>
        have := h4 i c (by simpa using hi) j v hj
        rw [show s + (i + 1) = s + 1 + i by omega]
        exact this

section
variable {P : Program} {w : World}
theorem run_buildSlice_aggs (t e : TypeId) (i : TypeInfo) (z : Value) (ht : P.underlying t = some (.slice e)) (hi : P.info? e = some i) (hz : i.zero = some z) (size : Nat) (hsz : i.size = size) (l : List (Array Value))
    (hl : ∀ c ∈ l, c.size = size) (hbig : l.length * size ≤ 16777216) :
    ∃ cells : Array Value, (Instr.buildSlice t l.length ((l.zipIdx.map fun p => (p.2, Value.agg p.1)).toArray)).run P w = .ok (.slice (some ⟨w.heap.size, 0, none⟩) l.length l.length) (w.alloc (.cells cells e)) ∧
      ∀ i c, l[i]? = some c → ∀ j v, c[j]? = some v → cells[i * size + j]? = some v := by
  by_cases h0 : l.length * size = 0
  · obtain ⟨c2, h1, _, _, h4⟩ := fill_aggs size l 0 ((Array.range (l.length * size)).map ((#[] : Array Value)[· % (#[] : Array Value).size]!)) hl (by simp)
    refine ⟨c2, ?_, fun i c hi j v hj => by have := h4 i c hi j v hj; simpa using this⟩
    simp [Instr.buildSlice, run_underlying ht, sizeOf, typeInfo, hi, hsz, h0, newRow, newObj, Sem.run_bind]
    simp [h0] at h1
    simp [h1]
    rfl
  · obtain ⟨c2, h1, _, _, h4⟩ := fill_aggs size l 0 ((Array.range (l.length * size)).map (z.cells[· % z.cells.size]!)) hl (by simp)
    refine ⟨c2, ?_, fun i c hi j v hj => by have := h4 i c hi j v hj; simpa using this⟩
    simp [Instr.buildSlice, run_underlying ht, sizeOf, typeInfo, hi, hsz, h0, newRow, newObj, Sem.run_bind, zeroValue, hz]
    rw [if_neg (by omega), h1]
    rfl
end
section
variable {P : Program} {ops : Array Oper} {rest : List Oper} {o : Oper} {a : Act} {w : World} {Q : Exit → Act → World → Prop}
/-- '[]T{x, y, ..}', each a whole struct: the new block holds them one behind the other. -/
theorem wpList_buildSlice_aggs (hw : Region.wanted o (yielded ops a.tmps) = true) (t e n : TypeId) (parts : Array (Nat × Operand)) (ho : o.op = .buildSlice t n parts) (i : TypeInfo) (z : Value) (ht : P.underlying t = some (.slice e)) (hi : P.info? e = some i) (hz : i.zero = some z)
    (size : Nat) (hsz : i.size = size) (l : List (Array Value)) (hn : n = l.length) (hp : (parts.toList.map fun (i, x) => (i, a.eval x)) = l.zipIdx.map fun p => (p.2, Value.agg p.1))
    (hl : ∀ c ∈ l, c.size = size) (hbig : l.length * size ≤ 16777216)
    (h : ∀ cells : Array Value, (∀ i c, l[i]? = some c → ∀ j v, c[j]? = some v → cells[i * size + j]? = some v) → wpList P ops Q rest (a.put o.dst (.slice (some ⟨w.heap.size, 0, none⟩) l.length l.length)) (w.alloc (.cells cells e))) : wpList P ops Q (o :: rest) a w := by
  obtain ⟨cells, h1, h2⟩ := run_buildSlice_aggs (P := P) (w := w) t e i z ht hi hz size hsz l hl hbig
  have hp' : (parts.map fun (i, x) => (i, a.eval x)) = (l.zipIdx.map fun p => (p.2, Value.agg p.1)).toArray := by rw [← hp]; apply Array.ext'; simp
  refine wpList_run hw _ ?_ (h cells h2)
  unfold execOp
  simp only [ho, hn, hp', Sem.run_bind, h1, Result.andThen_ok, Sem.run_pure]
end
end Go.Proofs.Ytepnaalgobhcdaa
