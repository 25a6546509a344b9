/- A slice of whole structs, written out: what its block holds. From how an argument reads to how its images lie in memory. The sections of an image as values; the iterator over those of pairs. interpose.sections: an iterator over the sections of pairs, in their order. interpose.word, order.number: up to eight bytes as one number. Which pairs an image has: plain mathematics. interpose.Pairs: what lies where while the sections are gone over. interpose.Pairs: the walk. Images as a slide and pairs of address and size; Pairs over them; the table of Map: plain mathematics. A map from addresses to swaps, told as a table: what each operation on it does. interpose.Map: the walk. interpose.Map: the walk. interpose.Swapped; an image of one section of pairs; pairs at nil. The memories of clevislaw21's InterposeBounds and known: plain mathematics. clevislaw21.pair; Pairs at nil. clevislaw21.known: the walk. -/
import Derived.Test.YtepnaalgobhcdaaBnA
import Derived.Deep.Slices
import Derived.OpenShut
import Derived.RangeFuncNested
import Derived.RangeFuncBound
import Derived.RangeFuncCalls
import Derived.RangeFuncLeaves
import Derived.Shelf.Abstract
import Derived.Shelf.RegionOpen
import Derived.WalkKit
import Derived.OwnWalkIn
import Derived.TacticsInMore
import Derived.LoopNIn
import Derived.LoopIn
import Derived.Test.YtepnaalgobhcdaaBnB
import Derived.Sort.CutIn
import Derived.Deep.AppendLies
import Derived.Maps.OwnSet
import Derived.Test.YtepnaalgobhcdaaBnC
import Derived.DeepKeys
namespace Go.Proofs.Ytepnaalgobhcdaa
open Go.RowKit

theorem foldl_set_get (c : List Value) : ∀ (s off : Nat) (cells : Array Value) (k : Nat), off + s + c.length ≤ cells.size →
    ((c.zipIdx s).foldl (fun cs (p : Value × Nat) => cs.setIfInBounds (off + p.2) p.1) cells)[k]? = if off + s ≤ k ∧ k < off + s + c.length then c[k - (off + s)]? else cells[k]? := by
  induction c with
  | nil => intro s off cells k _; simp; intro h1 h2; omega
  | cons x c ih =>
    intro s off cells k h
    simp only [List.length_cons] at h
    rw [List.zipIdx_cons, List.foldl_cons, ih (s + 1) off _ k (by simp; omega)]
    simp only [List.length_cons]
    by_cases h1 : off + (s + 1) ≤ k ∧ k < off + (s + 1) + c.length
    · rw [if_pos h1, if_pos (by omega), show k - (off + s) = (k - (off + (s + 1))) + 1 by omega]
      simp
    · rw [if_neg h1]
      by_cases h2 : k = off + s
      · subst h2
        rw [if_pos (by omega)]
        have : off + s < cells.size := by omega
        simp [this]
      · rw [if_neg (by omega), Array.getElem?_setIfInBounds, if_neg (fun e => h2 e.symm)]

theorem foldl_set_size (c : List (Value × Nat)) : ∀ (off : Nat) (cells : Array Value), (c.foldl (fun cs (p : Value × Nat) => cs.setIfInBounds (off + p.2) p.1) cells).size = cells.size := by
  induction c with
  | nil => intro off cells; rfl
  | cons x c ih => intro off cells; rw [List.foldl_cons, ih]; simp

theorem fill_aggs (size : Nat) (l : List (Array Value)) : ∀ (s : Nat) (cells : Array Value), (∀ c ∈ l, c.size = size) → (s + l.length) * size ≤ cells.size →
    ∃ cells', Instr.fill (fun i => some (i * size, size)) cells ((l.zipIdx s).map fun p => (p.2, Value.agg p.1)) = some cells' ∧ cells'.size = cells.size ∧ (∀ k, k < s * size → cells'[k]? = cells[k]?) ∧
      ∀ i c, l[i]? = some c → ∀ j v, c[j]? = some v → cells'[(s + i) * size + j]? = some v := by
  induction l with
  | nil => intro s cells _ _; exact ⟨cells, rfl, rfl, fun _ _ => rfl, fun i c h => by simp at h⟩
  | cons x l ih =>
    intro s cells hl hs
    have hx : x.size = size := hl x (by simp)
    have hs' : (s + 1 + l.length) * size ≤ cells.size := by rw [show s + 1 + l.length = s + (x :: l).length by simp; omega]; exact hs
    have hsx : s * size + size ≤ cells.size := by
      have : (s + 1) * size ≤ (s + 1 + l.length) * size := Nat.mul_le_mul_right _ (by omega)
      rw [Nat.add_mul, Nat.one_mul] at this
      omega
    obtain ⟨c2, h1, h2, h3, h4⟩ := ih (s + 1) ((x.toList.zipIdx).foldl (fun cs (p : Value × Nat) => cs.setIfInBounds (s * size + p.2) p.1) cells) (fun c hc => hl c (by simp [hc])) (by rw [foldl_set_size]; exact hs')
    refine ⟨c2, ?_, by rw [h2, foldl_set_size], fun k hk => ?_, ?_⟩
    · have hc : (Value.agg x).cells = x := rfl
      have hle : ¬ (s * size + x.size > cells.size) := by omega
      have hfl : x.zipIdx.foldl (fun cs p => cs.setIfInBounds (s * size + p.2) p.1) cells = x.toList.zipIdx.foldl (fun cs (p : Value × Nat) => cs.setIfInBounds (s * size + p.2) p.1) cells := by
        rw [← Array.foldl_toList, Array.toList_zipIdx]
      rw [List.zipIdx_cons, List.map_cons, Instr.fill]
      simp [hc, hx, ← h1, ← hfl]
      intro h; omega
    · rw [h3 k (by rw [Nat.add_mul]; omega), foldl_set_get _ _ _ _ _ (by simp; omega), if_neg (by simp; omega)]
    · intro i c hi j v hj
      cases i with
      | zero =>
        simp at hi
        subst hi
        have hjl : j < x.size := by
          rcases Nat.lt_or_ge j x.size with h | h
          · exact h
          · simp [Array.getElem?_eq_none h] at hj
        have e1 : (s + 1) * size = s * size + size := by rw [Nat.add_mul, Nat.one_mul]
        rw [h3 _ (by rw [Nat.add_zero]; omega), foldl_set_get _ _ _ _ _ (by simp; omega), if_pos (by simp; omega)]
        simpa using hj
      | succ i =>
        have := h4 i c (by simpa using hi) j v hj
        rw [show s + (i + 1) = s + 1 + i by omega]
        exact this

section
variable {P : Program} {w : World}
theorem run_buildSlice_aggs (t e : TypeId) (i : TypeInfo) (z : Value) (ht : P.underlying t = some (.slice e)) (hi : P.info? e = some i) (hz : i.zero = some z) (size : Nat) (hsz : i.size = size) (l : List (Array Value))
    (hl : ∀ c ∈ l, c.size = size) (hbig : l.length * size ≤ 16777216) :
    ∃ cells : Array Value, (Instr.buildSlice t l.length ((l.zipIdx.map fun p => (p.2, Value.agg p.1)).toArray)).run P w = .ok (.slice (some ⟨w.heap.size, 0, none⟩) l.length l.length) (w.alloc (.cells cells e)) ∧
      ∀ i c, l[i]? = some c → ∀ j v, c[j]? = some v → cells[i * size + j]? = some v := by
  by_cases h0 : l.length * size = 0
  · obtain ⟨c2, h1, _, _, h4⟩ := fill_aggs size l 0 ((Array.range (l.length * size)).map ((#[] : Array Value)[· % (#[] : Array Value).size]!)) hl (by simp)
    refine ⟨c2, ?_, fun i c hi j v hj => by have := h4 i c hi j v hj; simpa using this⟩
    simp [Instr.buildSlice, run_underlying ht, sizeOf, typeInfo, hi, hsz, h0, newRow, newObj, Sem.run_bind]
    simp [h0] at h1
    simp [h1]
    rfl
  · obtain ⟨c2, h1, _, _, h4⟩ := fill_aggs size l 0 ((Array.range (l.length * size)).map (z.cells[· % z.cells.size]!)) hl (by simp)
    refine ⟨c2, ?_, fun i c hi j v hj => by have := h4 i c hi j v hj; simpa using this⟩
    simp [Instr.buildSlice, run_underlying ht, sizeOf, typeInfo, hi, hsz, h0, newRow, newObj, Sem.run_bind, zeroValue, hz]
    rw [if_neg (by omega), h1]
    rfl
end
section
variable {P : Program} {ops : Array Oper} {rest : List Oper} {o : Oper} {a : Act} {w : World} {Q : Exit → Act → World → Prop}
/-- '[]T{x, y, ..}', each a whole struct: the new block holds them one behind the other. -/
theorem wpList_buildSlice_aggs (hw : Region.wanted o (yielded ops a.tmps) = true) (t e n : TypeId) (parts : Array (Nat × Operand)) (ho : o.op = .buildSlice t n parts) (i : TypeInfo) (z : Value) (ht : P.underlying t = some (.slice e)) (hi : P.info? e = some i) (hz : i.zero = some z)
    (size : Nat) (hsz : i.size = size) (l : List (Array Value)) (hn : n = l.length) (hp : (parts.toList.map fun (i, x) => (i, a.eval x)) = l.zipIdx.map fun p => (p.2, Value.agg p.1))
    (hl : ∀ c ∈ l, c.size = size) (hbig : l.length * size ≤ 16777216)
    (h : ∀ cells : Array Value, (∀ i c, l[i]? = some c → ∀ j v, c[j]? = some v → cells[i * size + j]? = some v) → wpList P ops Q rest (a.put o.dst (.slice (some ⟨w.heap.size, 0, none⟩) l.length l.length)) (w.alloc (.cells cells e))) : wpList P ops Q (o :: rest) a w := by
  obtain ⟨cells, h1, h2⟩ := run_buildSlice_aggs (P := P) (w := w) t e i z ht hi hz size hsz l hl hbig
  have hp' : (parts.map fun (i, x) => (i, a.eval x)) = (l.zipIdx.map fun p => (p.2, Value.agg p.1)).toArray := by rw [← hp]; apply Array.ext'; simp
  refine wpList_run hw _ ?_ (h cells h2)
  unfold execOp
  simp only [ho, hn, hp', Sem.run_bind, h1, Result.andThen_ok, Sem.run_pure]
end
end Go.Proofs.Ytepnaalgobhcdaa
namespace Go.Proofs.Ytepnaalgobhcdaa
open Go.RowKit Go.WideShapes Go.ChangeShapes

/-- These cells can be read at this type. -/
def Rd {H : Type} (enc : TypeId × Value → H) (w : World) (t : TypeId) (cs : List Value) : Prop := ∃ fuel x, DataW.trod enc Try.prog w 0 (fun _ => true) true fuel t cs = some x

section
variable {H : Type} {enc : TypeId × Value → H} {w : World} {cs : List Value}
def fieldOf (P : Program) (t i : Nat) : Option (Nat × Nat) := match P.underlying t with
  | some (.struct fs) => (fs[i]?).map fun f => (f.type, f.offset)
  | _ => none
theorem rd_int {t : TypeId} {k : IntKind} (ht : Try.prog.underlying t = some (.int k)) (h : Rd enc w t cs) : ∃ n, cs = [.int k n] ∧ (Lit.int k n).wf = true := by
  obtain ⟨fuel, x, h⟩ := h
  obtain ⟨n, rfl, _, hw⟩ := DataW.trod_int ht h
  exact ⟨n, rfl, hw⟩
theorem rd_string {t : TypeId} (ht : Try.prog.underlying t = some .string) (h : Rd enc w t cs) : ∃ s, cs = [.string s] := by
  obtain ⟨fuel, x, h⟩ := h
  cases fuel with
  | zero => simp [DataW.trod] at h
  | succ n =>
    unfold DataW.trod at h
    rw [ht] at h
    split at h <;> simp_all
theorem rd_field {t i ft off : Nat} (hf : fieldOf Try.prog t i = some (ft, off)) (h : Rd enc w t cs) : cs.length = Try.prog.cellsOf t ∧ Rd enc w ft ((cs.drop off).take (Try.prog.cellsOf ft)) := by
  obtain ⟨fuel, x, h⟩ := h
  unfold fieldOf at hf
  split at hf
  · rename_i fs ht
    obtain ⟨f, hf1, hf2⟩ := Option.map_eq_some_iff.1 hf
    simp only [Prod.mk.injEq] at hf2
    obtain ⟨rfl, rfl⟩ := hf2
    obtain ⟨xs, n, rfl, _, hl, hxs, hall⟩ := DataW.trod_struct ht h
    refine ⟨hl, n, ?_⟩
    have hi : i < xs.length := by rw [hxs]; exact (Array.getElem?_eq_some_iff.1 hf1).1
    exact ⟨xs[i], by rw [hall i f hf1, List.getElem?_eq_getElem hi]⟩
  · cases hf
theorem rd_slice {t e : TypeId} {m : Nat} (ht : Try.prog.underlying t = some (.slice e)) (hm : Try.prog.cellsOf e = m) (hpos : 0 < m) (h : Rd enc w t cs) :
    ∃ a n c, cs = [.slice a n c] ∧ n ≤ c ∧ c ≤ maxLen ∧ SliceOf a n m fun _ b o => ∃ ds : List Value, ds.length = m ∧ CellsAt w b o ds.toArray ∧ Rd enc w e ds := by
  obtain ⟨fuel, x, h⟩ := h
  rcases Deep.open_slice ht h with ⟨rfl, _⟩ | ⟨a, len, cap, m', n, D, Pl, rfl, _, hl, hc, hm', _, hx⟩
  · exact ⟨none, 0, 0, rfl, Nat.le_refl _, Nat.zero_le _, fun j hj => absurd hj (Nat.not_lt_zero _)⟩
  · refine ⟨some a, len, cap, rfl, hl, hc, fun j hj => ?_⟩
    simp only [if_true] at hm'
    obtain ⟨ds, h1, h2⟩ := hx j (by omega)
    obtain ⟨_, h3, h4⟩ := World.cells?_some h1
    rw [hm] at h3 h4 h1
    obtain ⟨b, o, spot⟩ := a
    have hspot : spot = none := by
      obtain ⟨ds0, g1, _⟩ := hx 0 (by omega)
      obtain ⟨_, g3, g4⟩ := World.cells?_some g1
      rw [hm] at g3 g4
      have h0 := g4 0 hpos
      rw [List.getElem?_eq_getElem (by omega)] at h0
      have e : ((⟨b, o, spot⟩ : Addr).add (0 * m)).add 0 = (⟨b, o, spot⟩ : Addr) := by unfold Addr.add; simp
      rw [e] at h0
      exact World.cell?_spot h0
    subst hspot
    refine ⟨b, o, rfl, ds, h3, fun i v hv => ?_, n, _, h2⟩
    have hi : i < m := by
      rcases Nat.lt_or_ge i m with h | h
      · exact h
      · simp [List.getElem?_eq_none (show ds.length ≤ i by omega)] at hv
    have := h4 i hi
    have e : ((⟨b, o, none⟩ : Addr).add (j * m)).add i = ⟨b, o + j * m + i, none⟩ := by
      unfold Addr.add
      by_cases h1 : j * m = 0 <;> by_cases h2 : i = 0 <;> simp [h1, h2]
    rw [e] at this
    rw [this]
    simpa using hv
theorem rd_of {t : TypeId} {v : Value} {d : DataW H} {p : List MemPlace} (h : DataW.Trod enc Try.prog w 0 (fun _ => true) true t v d p) : Rd enc w t v.cells.toList := by
  obtain ⟨n, hn⟩ := h
  exact ⟨n, _, hn⟩
theorem sub_get {l vs : List Value} {k m j : Nat} {v : Value} (h : (l.drop k).take m = vs) (hj : vs[j]? = some v) : l[k + j]? = some v := by
  rw [← h, List.getElem?_take] at hj
  by_cases h1 : j < m
  · rw [if_pos h1, List.getElem?_drop] at hj; exact hj
  · rw [if_neg h1] at hj; cases hj
theorem choose_list {α : Type} {n : Nat} {p : Nat → α → Prop} (h : ∀ i, i < n → ∃ x, p i x) : ∃ l : List α, l.length = n ∧ ∀ i x, l[i]? = some x → p i x := by
  induction n with
  | zero => exact ⟨[], rfl, fun i x h => by simp at h⟩
  | succ n ih =>
    obtain ⟨l, hl, hp⟩ := ih (fun i hi => h i (by omega))
    obtain ⟨x, hx⟩ := h n (by omega)
    refine ⟨l ++ [x], by simp [hl], fun i y hy => ?_⟩
    by_cases e : i < n
    · rw [List.getElem?_append_left (by omega)] at hy; exact hp i y hy
    · rw [List.getElem?_append_right (by omega)] at hy
      have : i - l.length < 1 := by
        rcases Nat.lt_or_ge (i - l.length) 1 with h | h
        · exact h
        · rw [List.getElem?_eq_none (by simpa using h)] at hy; cases hy
      obtain rfl : i = n := by omega
      rw [hl, Nat.sub_self] at hy
      simp at hy
      subst hy
      exact hx
/-- A slice whose every element lies as some plain datum says. -/
theorem slice_list {α : Type} {a : Option Addr} {n sz : Nat} {R : Nat → Nat → Prop} {Q : α → Nat → Nat → Prop} (d : α) (h : SliceOf a n sz fun _ b o => R b o) (hq : ∀ b o, R b o → ∃ x, Q x b o) :
    ∃ xs : List α, xs.length = n ∧ SliceOf a xs.length sz fun j => Q (xs.getD j d) := by
  obtain ⟨xs, hl, hp⟩ := choose_list (n := n) (p := fun j x => ∃ b o, a = some ⟨b, o, none⟩ ∧ Q x b (o + j * sz)) (fun j hj => by
    obtain ⟨b, o, e, r⟩ := h j hj
    obtain ⟨x, hx⟩ := hq b _ r
    exact ⟨x, b, o, e, hx⟩)
  refine ⟨xs, hl, fun j hj => ?_⟩
  obtain ⟨b, o, e, q⟩ := hp j xs[j] (List.getElem?_eq_getElem hj)
  exact ⟨b, o, e, by show Q (xs.getD j d) b _; rw [List.getD_eq_getElem?_getD, List.getElem?_eq_getElem hj]; exact q⟩
theorem wf_u64 {n : Int} (h : (Lit.int .u64 n).wf = true) : ∃ m : Nat, n = m ∧ m < 18446744073709551616 := by
  have := bounds_u64 h
  exact ⟨n.toNat, by omega, by omega⟩
theorem wf_i64 {n : Int} (h : (Lit.int .i64 n).wf = true) : -9223372036854775808 ≤ n ∧ n ≤ 9223372036854775807 := bounds_i64 h

end

theorem f164_0 : fieldOf Try.prog 164 0 = some (9, 0) := by kernel_rfl
theorem f164_1 : fieldOf Try.prog 164 1 = some (9, 1) := by kernel_rfl
theorem f164_2 : fieldOf Try.prog 164 2 = some (32, 2) := by kernel_rfl
theorem f164_3 : fieldOf Try.prog 164 3 = some (32, 3) := by kernel_rfl
theorem f164_4 : fieldOf Try.prog 164 4 = some (32, 4) := by kernel_rfl
theorem f164_5 : fieldOf Try.prog 164 5 = some (3, 5) := by kernel_rfl
theorem f128_0 : fieldOf Try.prog 128 0 = some (9, 0) := by kernel_rfl
theorem f128_1 : fieldOf Try.prog 128 1 = some (32, 1) := by kernel_rfl
theorem f128_2 : fieldOf Try.prog 128 2 = some (32, 2) := by kernel_rfl
theorem f128_3 : fieldOf Try.prog 128 3 = some (32, 3) := by kernel_rfl
theorem f128_4 : fieldOf Try.prog 128 4 = some (32, 4) := by kernel_rfl
theorem f128_5 : fieldOf Try.prog 128 5 = some (3, 5) := by kernel_rfl
theorem f128_6 : fieldOf Try.prog 128 6 = some (126, 6) := by kernel_rfl
theorem f136_1 : fieldOf Try.prog 136 1 = some (134, 1) := by kernel_rfl
theorem f38_1 : fieldOf Try.prog 38 1 = some (36, 1) := by kernel_rfl
theorem f38_2 : fieldOf Try.prog 38 2 = some (32, 25) := by kernel_rfl
theorem f38_3 : fieldOf Try.prog 38 3 = some (25, 26) := by kernel_rfl
theorem f36_4 : fieldOf Try.prog 36 4 = some (30, 4) := by kernel_rfl
theorem f36_5 : fieldOf Try.prog 36 5 = some (31, 5) := by kernel_rfl
theorem c164 : Try.prog.cellsOf 164 = 6 := by kernel_rfl
theorem c128 : Try.prog.cellsOf 128 = 7 := by kernel_rfl
theorem c136 : Try.prog.cellsOf 136 = 2 := by kernel_rfl
theorem c134 : Try.prog.cellsOf 134 = 1 := by kernel_rfl
theorem c126 : Try.prog.cellsOf 126 = 1 := by kernel_rfl
theorem c38 : Try.prog.cellsOf 38 = 27 := by kernel_rfl
theorem c36 : Try.prog.cellsOf 36 = 24 := by kernel_rfl
theorem c3 : Try.prog.cellsOf 3 = 1 := by kernel_rfl
theorem c9 : Try.prog.cellsOf 9 = 1 := by kernel_rfl
theorem c32 : Try.prog.cellsOf 32 = 1 := by kernel_rfl
theorem c30 : Try.prog.cellsOf 30 = 1 := by kernel_rfl
theorem c31 : Try.prog.cellsOf 31 = 1 := by kernel_rfl
theorem c25 : Try.prog.cellsOf 25 = 1 := by kernel_rfl

section
variable {H : Type} {enc : TypeId × Value → H} {w : World} {cs : List Value}
/-- A field of one cell that is an integer, at a place of the whole. -/
theorem at_int {t i ft off : Nat} {k : IntKind} (hf : fieldOf Try.prog t i = some (ft, off)) (hc : Try.prog.cellsOf ft = 1) (hu : Try.prog.underlying ft = some (.int k)) (h : Rd enc w t cs) : ∃ n, cs[off]? = some (.int k n) ∧ (Lit.int k n).wf = true := by
  obtain ⟨_, h2⟩ := rd_field hf h
  rw [hc] at h2
  obtain ⟨n, e, hw⟩ := rd_int hu h2
  exact ⟨n, by have := sub_get (j := 0) e rfl; simpa using this, hw⟩
theorem at_string {t i ft off : Nat} (hf : fieldOf Try.prog t i = some (ft, off)) (hc : Try.prog.cellsOf ft = 1) (hu : Try.prog.underlying ft = some .string) (h : Rd enc w t cs) : ∃ s, cs[off]? = some (.string s) := by
  obtain ⟨_, h2⟩ := rd_field hf h
  rw [hc] at h2
  obtain ⟨s, e⟩ := rd_string hu h2
  exact ⟨s, by have := sub_get (j := 0) e rfl; simpa using this⟩
theorem at_slice {t i ft off e m : Nat} (hf : fieldOf Try.prog t i = some (ft, off)) (hc : Try.prog.cellsOf ft = 1) (hu : Try.prog.underlying ft = some (.slice e)) (hm : Try.prog.cellsOf e = m) (hpos : 0 < m) (h : Rd enc w t cs) :
    ∃ a n c, cs[off]? = some (.slice a n c) ∧ n ≤ c ∧ c ≤ maxLen ∧ SliceOf a n m fun _ b o => ∃ ds : List Value, ds.length = m ∧ CellsAt w b o ds.toArray ∧ Rd enc w e ds := by
  obtain ⟨_, h2⟩ := rd_field hf h
  rw [hc] at h2
  obtain ⟨a, n, c, e, r⟩ := rd_slice hu hm hpos h2
  exact ⟨a, n, c, by have := sub_get (j := 0) e rfl; simpa using this, r⟩
theorem six {l : List Value} {a b c d e f : Value} (hl : l.length = 6) (h0 : l[0]? = some a) (h1 : l[1]? = some b) (h2 : l[2]? = some c) (h3 : l[3]? = some d) (h4 : l[4]? = some e) (h5 : l[5]? = some f) : l = [a, b, c, d, e, f] := by
  match l, hl with
  | [_, _, _, _, _, _], _ => simp_all
theorem seven {l : List Value} {a b c d e f g : Value} (hl : l.length = 7) (h0 : l[0]? = some a) (h1 : l[1]? = some b) (h2 : l[2]? = some c) (h3 : l[3]? = some d) (h4 : l[4]? = some e) (h5 : l[5]? = some f) (h6 : l[6]? = some g) : l = [a, b, c, d, e, f, g] := by
  match l, hl with
  | [_, _, _, _, _, _, _], _ => simp_all
theorem rd_sec {b o : Nat} (hl : cs.length = 6) (hc : CellsAt w b o cs.toArray) (h : Rd enc w 164 cs) : ∃ x : SecM, SecAt w x b o := by
  obtain ⟨s0, e0⟩ := at_string f164_0 c9 Try.underlying9 h
  obtain ⟨s1, e1⟩ := at_string f164_1 c9 Try.underlying9 h
  obtain ⟨n2, e2, w2⟩ := at_int f164_2 c32 Try.underlying32 h
  obtain ⟨n3, e3, w3⟩ := at_int f164_3 c32 Try.underlying32 h
  obtain ⟨n4, e4, _⟩ := at_int f164_4 c32 Try.underlying32 h
  obtain ⟨n5, e5, _⟩ := at_int f164_5 c3 Try.underlying3 h
  obtain ⟨m2, rfl, b2⟩ := wf_u64 w2
  obtain ⟨m3, rfl, b3⟩ := wf_u64 w3
  have := six hl e0 e1 e2 e3 e4 e5
  subst this
  exact ⟨⟨m2, m3, n5⟩, s0, s1, n4, b2, b3, hc⟩
theorem rd_seg {b o : Nat} (hl : cs.length = 7) (hc : CellsAt w b o cs.toArray) (h : Rd enc w 128 cs) : ∃ x : SegM, SegAt w x b o := by
  obtain ⟨s0, e0⟩ := at_string f128_0 c9 Try.underlying9 h
  obtain ⟨n1, e1, w1⟩ := at_int f128_1 c32 Try.underlying32 h
  obtain ⟨n2, e2, w2⟩ := at_int f128_2 c32 Try.underlying32 h
  obtain ⟨n3, e3, w3⟩ := at_int f128_3 c32 Try.underlying32 h
  obtain ⟨n4, e4, w4⟩ := at_int f128_4 c32 Try.underlying32 h
  obtain ⟨n5, e5, _⟩ := at_int f128_5 c3 Try.underlying3 h
  obtain ⟨a, n, c, e6, hn, hcm, hs⟩ := at_slice f128_6 c126 Try.underlying126 c164 (by decide) h
  obtain ⟨m1, rfl, b1⟩ := wf_u64 w1
  obtain ⟨m2, rfl, b2⟩ := wf_u64 w2
  obtain ⟨m3, rfl, b3⟩ := wf_u64 w3
  obtain ⟨m4, rfl, b4⟩ := wf_u64 w4
  obtain ⟨xs, hxl, hxs⟩ := slice_list (Q := fun x => SecAt w x) ⟨0, 0, 0⟩ hs (fun b o ⟨ds, h1, h2, h3⟩ => rd_sec h1 h2 h3)
  subst hxl
  have := seven hl e0 e1 e2 e3 e4 e5 e6
  subst this
  exact ⟨⟨m1, m4, m3, m2, n5, xs⟩, s0, a, c, b1, b2, b3, b4, hn, hcm, hc, hxs⟩
theorem rd_dep {b o : Nat} (hc : CellsAt w b o cs.toArray) (h : Rd enc w 136 cs) : ∃ x : Int, DepAt w x b o := by
  obtain ⟨n, e, _⟩ := at_int f136_1 c134 Try.underlying134 h
  exact ⟨n, hc 1 _ (by simpa using e)⟩
theorem rd_num {b o : Nat} (hc : CellsAt w b o cs.toArray) (h : Rd enc w 3 cs) : ∃ x : Int, IntAt w x b o := by
  obtain ⟨n, rfl, hw⟩ := rd_int Try.underlying3 h
  exact ⟨n, by have := hc 0 (.int .i64 n) rfl; simpa using this, wf_i64 hw⟩
theorem rd_img {b o : Nat} (hl : cs.length = 27) (hc : CellsAt w b o cs.toArray) (h : Rd enc w 38 cs) : ∃ x : ImgM, ImgAt w x b o := by
  obtain ⟨_, hi⟩ := rd_field f38_1 h
  rw [c36] at hi
  obtain ⟨sa, sn, sc, e5, hs1, hs2, hs3⟩ := at_slice f36_4 c30 Try.underlying30 c128 (by decide) hi
  obtain ⟨ua, un, uc, e6, hu1, hu2, hu3⟩ := at_slice f36_5 c31 Try.underlying31 c136 (by decide) hi
  obtain ⟨n, e25, hw⟩ := at_int f38_2 c32 Try.underlying32 h
  obtain ⟨da, dn, dc, e26, hd1, hd2, hd3⟩ := at_slice f38_3 c25 Try.underlying25 c3 (by decide) h
  obtain ⟨m, rfl, hb⟩ := wf_u64 hw
  obtain ⟨segs, hsl, hss⟩ := slice_list (Q := fun x => SegAt w x) ⟨0, 0, 0, 0, 0, []⟩ hs3 (fun b o ⟨ds, h1, h2, h3⟩ => rd_seg h1 h2 h3)
  obtain ⟨ups, hul, hus⟩ := slice_list (Q := fun x => DepAt w x) 0 hu3 (fun b o ⟨ds, h1, h2, h3⟩ => rd_dep h2 h3)
  obtain ⟨deps, hdl, hds⟩ := slice_list (Q := fun x => IntAt w x) 0 hd3 (fun b o ⟨ds, h1, h2, h3⟩ => rd_num h2 h3)
  subst hsl hul hdl
  have g5 := sub_get (l := cs) rfl e5
  have g6 := sub_get (l := cs) rfl e6
  exact ⟨⟨m, deps, ups, segs⟩, cs.toArray, hc, ⟨by simpa using hl, hb, ⟨sa, sc, by simpa using g5, hs1, hs2, hss⟩, ⟨ua, uc, by simpa using g6, hu1, hu2, hus⟩, by simpa using e25, ⟨da, dc, by simpa using e26, hd1, hd2, hds⟩⟩⟩
/-- A slice of images that came in. -/
theorem rd_imgs (h : Rd enc w 22 cs) : ∃ a c l, cs = [.slice a (List.length l) c] ∧ Imgs w a c l := by
  obtain ⟨a, n, c, rfl, h1, h2, h3⟩ := rd_slice Try.underlying22 c38 (by decide) h
  obtain ⟨l, hl, hs⟩ := slice_list (Q := fun x => ImgAt w x) ⟨0, [], [], []⟩ h3 (fun b o ⟨ds, h1, h2, h3⟩ => rd_img h1 h2 h3)
  subst hl
  exact ⟨a, c, l, rfl, h1, h2, hs⟩
end
end Go.Proofs.Ytepnaalgobhcdaa
namespace Go.Proofs.Ytepnaalgobhcdaa
open Go.RowKit Go.Shelf
attribute [local go_sem] Oper.semAt_some

/-- A section with all that its six cells hold. -/
structure SecC where
  nm : ByteArray
  sg : ByteArray
  off : Int
  x : SecM
  ha : x.addr < 18446744073709551616
  hs : x.size < 18446744073709551616
def SecC.cells (c : SecC) : Array Value := #[.string c.nm, .string c.sg, .int .u64 c.x.addr, .int .u64 c.x.size, .int .u64 c.off, .int .i64 c.x.kind]
def SecC.none : SecC := ⟨.empty, .empty, 0, ⟨0, 0, 0⟩, by decide, by decide⟩
def SecsC (w : World) (a : Option Addr) (l : List SecC) : Prop := SliceOf a l.length 6 fun j b o => CellsAt w b o (l.getD j .none).cells
def SegsC (w : World) (a : Option Addr) (L : List (List SecC)) : Prop :=
  SliceOf a L.length 7 fun j b o => ∃ (v0 : ByteArray) (v1 v2 v3 v4 v5 : Int) (a' : Option Addr) (c' : Nat), CellsAt w b o #[.string v0, .int .u64 v1, .int .u64 v2, .int .u64 v3, .int .u64 v4, .int .i64 v5, .slice a' (L.getD j []).length c'] ∧ (L.getD j []).length ≤ c' ∧ c' ≤ maxLen ∧ SecsC w a' (L.getD j [])
theorem SecsC.keep {w w' : World} {a : Option Addr} {l : List SecC} (h : SecsC w a l) (hb : Below w.heap.size w w') : SecsC w' a l := h.mono fun _ _ _ _ h => h.keep hb
theorem SegsC.keep {w w' : World} {a : Option Addr} {L : List (List SecC)} (h : SegsC w a L) (hb : Below w.heap.size w w') : SegsC w' a L := h.mono fun _ _ _ _ h => by
  obtain ⟨v0, v1, v2, v3, v4, v5, a', c', h1, h2, h3, h4⟩ := h
  exact ⟨v0, v1, v2, v3, v4, v5, a', c', h1.keep hb, h2, h3, h4.keep hb⟩
theorem list_choose {α β : Type} (f : α → β) (l : List β) (P : Nat → α → Prop) (h : ∀ j, ∀ (hj : j < l.length), ∃ c, f c = l[j] ∧ P j c) : ∃ L : List α, L.map f = l ∧ ∀ j, ∀ (hj : j < L.length), P j L[j] := by
  refine ⟨List.ofFn fun j : Fin l.length => Classical.choose (h j.1 j.2), ?_, fun j hj => ?_⟩
  · apply List.ext_getElem
    · simp
    · intro j h1 h2
      simp only [List.getElem_map, List.getElem_ofFn]
      exact (Classical.choose_spec (h j h2)).1
  · have h2 : j < l.length := by simpa using hj
    simp only [List.getElem_ofFn]
    exact (Classical.choose_spec (h j h2)).2
theorem secs_choose {w : World} {a : Option Addr} {l : List SecM} (h : SliceOf a l.length 6 fun j => SecAt w (l.getD j ⟨0, 0, 0⟩)) : ∃ L : List SecC, L.map (·.x) = l ∧ SecsC w a L := by
  obtain ⟨L, h1, h2⟩ := list_choose (fun c : SecC => c.x) l (fun j c => ∃ b o, a = some ⟨b, o, none⟩ ∧ CellsAt w b (o + j * 6) c.cells) fun j hj => by
    obtain ⟨b, o, e, n, s, of, k1, k2, k3⟩ := h j hj
    rw [List.getD_eq_getElem?_getD, List.getElem?_eq_getElem hj] at k1 k2 k3
    exact ⟨⟨n, s, of, l[j], k1, k2⟩, rfl, b, o, e, k3⟩
  refine ⟨L, h1, fun j hj => ?_⟩
  obtain ⟨b, o, e, k⟩ := h2 j hj
  refine ⟨b, o, e, ?_⟩
  show CellsAt w b (o + j * 6) (L.getD j .none).cells
  rw [List.getD_eq_getElem?_getD, List.getElem?_eq_getElem hj]; exact k
theorem segs_choose {w : World} {a : Option Addr} {l : List SegM} (h : SliceOf a l.length 7 fun j => SegAt w (l.getD j ⟨0, 0, 0, 0, 0, []⟩)) : ∃ L : List (List SecC), L.map (·.map (·.x)) = l.map (·.secs) ∧ SegsC w a L := by
  obtain ⟨L, h1, h2⟩ := list_choose (fun c : List SecC => c.map (·.x)) (l.map (·.secs)) (fun j c => ∃ b o, a = some ⟨b, o, none⟩ ∧ ∃ (v0 : ByteArray) (v1 v2 v3 v4 v5 : Int) (a' : Option Addr) (c' : Nat), CellsAt w b (o + j * 7) #[.string v0, .int .u64 v1, .int .u64 v2, .int .u64 v3, .int .u64 v4, .int .i64 v5, .slice a' c.length c'] ∧ c.length ≤ c' ∧ c' ≤ maxLen ∧ SecsC w a' c) fun j hj => by
    have hj' : j < l.length := by simpa using hj
    obtain ⟨b, o, e, n, a', c', k1, k2, k3, k4, k5, k6, k7, k8⟩ := h j hj'
    rw [List.getD_eq_getElem?_getD, List.getElem?_eq_getElem hj'] at k5 k7 k8
    simp only [Option.getD_some] at k5 k7 k8
    obtain ⟨L, e1, e2⟩ := secs_choose k8
    have el : l[j].secs.length = L.length := by rw [← e1, List.length_map]
    rw [el] at k5 k7
    exact ⟨L, by simp [e1], b, o, e, _, _, _, _, _, _, a', c', k7, k5, k6, e2⟩
  refine ⟨L, h1, fun j hj => ?_⟩
  obtain ⟨b, o, e, v0, v1, v2, v3, v4, v5, a', c', k⟩ := h2 j hj
  refine ⟨b, o, e, v0, v1, v2, v3, v4, v5, a', c', ?_⟩
  have e2 : L.getD j [] = L[j] := by rw [List.getD_eq_getElem?_getD, List.getElem?_eq_getElem hj]; rfl
  rw [e2]; exact k

section
variable {F : Fence} {n : Nat} {P : Program} {ops : Array Oper} {rest : List Oper} {o : Oper} {a : Act} {w : World} {Q : Exit → Act → World → Prop}
/-- A whole struct or array read out of the middle of a block. -/
theorem wpListIn_load_agg (hg : o.guard = none) (ty : TypeId) (x : Operand) (ho : o.op = .load ty x) (b off : Nat) (hx : a.eval x = .pointer (some ⟨b, off, none⟩)) (cs : Array Value) (d : TypeDesc) (hc : CellsAt w b off cs)
    (hu : P.underlying ty = some d) (hd : (match d with | .struct _ | .array _ _ => true | _ => false) = true) (hi : (P.info? ty).map (·.size) = some cs.size)
    (h : wpListIn F n P ops Q rest (a.put o.dst (.agg cs)) w) : wpListIn F n P ops Q (o :: rest) a w := by
  refine wpListIn_plain hg fun K hK => ?_
  unfold Oper.wpIn
  refine ⟨?_, ?_⟩
  · simp [Oper.about, ho]
  · rw [Oper.semAt_plain F _ _ (by rw [ho]; intro c hc'; cases hc')]
    have : (execOp a.eval o).run P w = .ok (.value (.agg cs)) w := by
      unfold execOp
      simp only [ho, hx, Instr.loadAt, Instr.sureAddr, Sem.run_bind, Sem.run_pure, Result.andThen_ok, run_loadVar_cells b off ty cs d hc hu hd hi]
    rw [this]
    exact hK _ _ h
end
/-! ### A region that draws its order, within a round: as outside -/
section
variable {F : Fence} {n : Nat} {P : Program} {md : Region.Mode} {ops : Array Oper} {Q : Exit → Act → World → Prop}
theorem wpOpIn_round (hro : F.round = none) (l : Nat) (hnd : ∀ (i : Nat) (o : Oper) c, ops[i]? = some o → o.op ≠ .defer c) {i : Nat} {K : Act → World → Prop} {a : Act} {w : World} (h : wpOpIn F n P ops Q i K a w) : wpOpIn (F.inRound l) n P ops Q i K a w := by
  unfold wpOpIn at *
  cases ho : ops[i]? with
  | none => simpa [ho] using h
  | some o =>
    simp only [ho] at h ⊢
    split
    · rename_i hw
      simp only [hw, if_true] at h
      refine ⟨h.1, ?_⟩
      have h2 := h.2
      rw [hro, Oper.semAt_none] at h2
      rw [Oper.semAt_plain (F.inRound l) _ _ (fun c => hnd i o c ho)]
      generalize (execOp a.eval o).run P w = r at *
      cases r with
      | ok x w' => cases x <;> exact h2
      | halt x w' => cases x <;> exact h2
    · rename_i hw
      simp only [hw] at h
      exact h
theorem wpAnyIn_round (hro : F.round = none) (l : Nat) (hnd : ∀ (i : Nat) (o : Oper) c, ops[i]? = some o → o.op ≠ .defer c) : ∀ (fuel : Nat) (listed : Array Bool) (a : Act) (w : World), wpAnyIn F n P md ops Q fuel listed a w → wpAnyIn (F.inRound l) n P md ops Q fuel listed a w := by
  intro fuel
  induction fuel with
  | zero => intro listed a w h; exact h
  | succ fuel ih =>
    intro listed a w h
    exact ⟨h.1, fun i hi => wpOpIn_mono (fun a w h => ih _ a w h) (wpOpIn_round hro l hnd (h.2 i hi))⟩
end
def noDefer (ops : Array Oper) : Bool := ops.toList.all fun o => match o.op with | .defer _ => false | _ => true
theorem noDefer_spec {ops : Array Oper} (h : noDefer ops = true) (i : Nat) (o : Oper) (c : Call) (ho : ops[i]? = some o) : o.op ≠ .defer c := fun e => by
  have hm : o ∈ ops.toList := by
    obtain ⟨hl, hg⟩ := Array.getElem?_eq_some_iff.1 ho
    rw [← hg]; exact Array.getElem_mem_toList hl
  have := List.all_eq_true.1 h o hm
  rw [e] at this
  cases this
def isPairs (c : SecC) : Bool := c.x.kind == 13
def want (l : List SecC) : List SecC := l.filter isPairs
theorem want_append (l m : List SecC) : want (l ++ m) = want l ++ want m := List.filter_append ..
theorem size128 : (Try.prog.info? 128).map (·.size) = some 7 := by kernel_rfl
theorem size164 : (Try.prog.info? 164).map (·.size) = some 6 := by kernel_rfl
end Go.Proofs.Ytepnaalgobhcdaa
namespace Go.Proofs.Ytepnaalgobhcdaa
open Go.RowKit Go.Shelf
attribute [local go_sem] Oper.semAt_some

theorem sections_any (w : World) (img : Array Value) : Calls Try.prog 80 #[.agg img] w fun e w' => e = .returned (.func (.func 91) #[] #[.pointer (some ⟨w.heap.size, 0, none⟩)]) ∧ w' = w.alloc (.cells img 36) := by
  go_enter Try.func80, Try.ntmps80
  go_wp2_with fail
  go_ret
  exact ⟨rfl, rfl⟩

theorem want_take_hit {l : List SecC} {k : Nat} {c : SecC} (h : l[k]? = some c) (hc : isPairs c = true) (pre : List SecC) : want (pre ++ l.take (k + 1)) = want (pre ++ l.take k) ++ [c] := by
  rw [List.take_add_one, h, ← List.append_assoc, want_append]
  simp [want, hc]
theorem want_take_miss {l : List SecC} {k : Nat} {c : SecC} (h : l[k]? = some c) (hc : isPairs c = false) (pre : List SecC) : want (pre ++ l.take (k + 1)) = want (pre ++ l.take k) := by
  rw [List.take_add_one, h, ← List.append_assoc, want_append]
  simp [want, hc]
theorem flat_take {L : List (List SecC)} {i : Nat} {l : List SecC} (h : L[i]? = some l) : (L.take (i + 1)).flatten = (L.take i).flatten ++ l := by
  rw [List.take_add_one, h]; simp
theorem prefix_want {L : List (List SecC)} {i : Nat} {l : List SecC} (h : L[i]? = some l) (k : Nat) : want ((L.take i).flatten ++ l.take k) <+: want L.flatten := by
  have e : L.flatten = ((L.take i).flatten ++ l.take k) ++ (l.drop k ++ (L.drop (i + 1)).flatten) := by
    have h1 : L = L.take i ++ (l :: L.drop (i + 1)) := by
      have := List.take_append_drop i L
      rw [List.drop_eq_getElem_cons (List.getElem?_eq_some_iff.1 h).1, (List.getElem?_eq_some_iff.1 h).2] at this
      exact this.symm
    conv => lhs; rw [h1]
    rw [List.flatten_append, List.flatten_cons, List.append_assoc, ← List.append_assoc (l.take k), List.take_append_drop]
  rw [e, want_append (_ ++ _)]
  exact List.prefix_append _ _
theorem prefix_len {L : List (List SecC)} {i : Nat} {l : List SecC} (h : L[i]? = some l) {k : Nat} {c : SecC} (hk : l[k]? = some c) (hc : isPairs c = true) : (want ((L.take i).flatten ++ l.take k)).length < (want L.flatten).length := by
  have := (prefix_want h (k + 1)).length_le
  rw [want_take_hit hk hc] at this
  simp at this
  omega

theorem below_le' {B k : Nat} {w w' : World} (h : Below k w w') (hB : B ≤ k) : Below B w w' := ⟨h.os, h.tape, h.output, h.size, fun i hi => h.block i (by omega)⟩
set_option maxHeartbeats 4000000 in
set_option maxRecDepth 100000 in
/-- 'func(yield func(api.Section) bool) { for .. for .. if x.Kind == .. && !yield(x) { return } }': for every loop body that keeps what lay in w. -/
theorem sec1_in (F : Fence) (n : Nat) (h91 : F.fn 91) (hro : F.round = none) (hn : 1 ≤ n) (l bx : Nat) (w : World) (img : Array Value) (aS : Option Addr) (cS : Nat) (L : List (List SecC)) (hS : SegsC w aS L) (himg : img[4]? = some (.slice aS L.length cS)) (hcap : L.length ≤ cS ∧ cS ≤ maxLen)
    (J Jx : List SecC → World → Prop)
    (hY : ∀ pre x W, J pre W → pre.length < (want L.flatten).length → YieldAt F (n - 1) Try.prog l #[.agg x.cells] W fun e W' =>
      (e = .returned (.bool true) ∧ J (pre ++ [x]) W' ∧ Below w.heap.size W W') ∨ (e = .returned (.bool false) ∧ Jx (pre ++ [x]) W'))
    (hJ : ∀ pre W o, J pre W → J pre (W.alloc o))
    (W : World) (hW : Below w.heap.size w W) (hbx : W.heap[bx]? = some (.cells img 36 (0, 0))) (h0 : J [] W) :
    CallsIn F n Try.prog 91 #[.func (.yield l) #[] #[], .pointer (some ⟨bx, 0, none⟩)] W fun e W' => (∃ v, e = .returned v) ∧
      ((∃ ys, ys = want L.flatten ∧ J ys W') ∨ (∃ pre, pre <+: want L.flatten ∧ Jx pre W')) := by
  refine callsIn_of_wp Try.func91 rfl h91 ?_ hro
  have c4 : W.cell? ⟨bx, 4, none⟩ = some (.slice aS L.length cS) := by simp [World.cell?, hbx, himg]
  have hcm := hcap.2
  unfold maxLen at hcm
  have hcl := hcap.1
  have HSEG := Lib.hid hS
  have HY := Lib.hid hY
  have HJ := Lib.hid hJ
  have HW := Lib.hid hW
  have H0 := Lib.hid h0
  clear hS hY hJ hW h0 hbx himg hcap
  simp only [Try.ntmps91, List.size_toArray, List.length_cons, List.length_nil, Nat.reduceAdd, Nat.reduceSub, Array.replicate_succ, Array.replicate_zero, List.push_toArray, List.append_toArray, List.nil_append, List.cons_append]
  gi_wp2_with fail
  clear c4
  gi_loopw [10] (fun t wr => ∃ i : Nat, i ≤ L.length ∧ t = .int .i64 i ∧ Hid (J (want (L.take i).flatten) wr) ∧ Hid (Below w.heap.size w wr)) (fun t _ => L.length - (intOf t).toNat)
  case atStart => exact ⟨0, Nat.zero_le _, rfl, H0.out, HW.out⟩
  case round =>
    obtain ⟨i, hi, rfl, HJ1, HB1⟩ := hrel
    by_cases hlt : i < L.length
    · obtain ⟨b, o, rfl, hseg⟩ := HSEG.out.get (by omega)
      obtain ⟨v0, v1, v2, v3, v4, v5, a', c', k1, k2, k3, k4⟩ := hseg i hlt
      obtain ⟨ls, hls⟩ : ∃ ls, L[i]? = some ls := ⟨L[i], List.getElem?_eq_getElem hlt⟩
      have hld : L.getD i [] = ls := by rw [List.getD_eq_getElem?_getD, hls]; rfl
      rw [hld] at k1 k2 k4
      have HLS := Lib.hid hls
      have HC := Lib.hid (k1.below HB1.out (fun _ => k1.lt (by simp)))
      have HS4 := Lib.hid k4
      unfold maxLen at k3
      have z1 : (i : Int) < (L.length : Int) := by omega
      clear hseg k1 k4 hls hld
      obtain ⟨OB, hOB⟩ : ∃ OB : Obj, OB = .cells #[.string v0, .int .u64 v1, .int .u64 v2, .int .u64 v3, .int .u64 v4, .int .i64 v5, .slice a' ls.length c'] 128 := ⟨_, rfl⟩
      have HJ2 : Hid (J (want (L.take i).flatten) (wr.alloc OB)) := HJ.out _ _ _ HJ1.out
      have HB2 : Hid (Below w.heap.size w (wr.alloc OB)) := HB1.out.alloc HB1.out.size _
      have hcl2 := k2
      rw [hOB] at HJ2 HB2
      clear hOB
      gi_wp2_with (refine wpListIn_load_agg rfl 128 (.tmp 12) rfl b (o + i * 7) (by simp [Act.eval]) _ _ HC.out Try.underlying128 rfl size128 ?_)
      gi_loopw [17] (fun t wr => ∃ k : Nat, k ≤ ls.length ∧ t = .int .i64 k ∧ Hid (J (want ((L.take i).flatten ++ ls.take k)) wr) ∧ Hid (Below w.heap.size w wr)) (fun t _ => ls.length - (intOf t).toNat)
      case atStart => exact ⟨0, Nat.zero_le _, rfl, by show J _ _; rw [List.take_zero, List.append_nil]; exact HJ2.out, HB2.out⟩
      case round =>
        obtain ⟨k, hk, rfl, HK1, HKB⟩ := hrel
        by_cases hkl : k < ls.length
        · obtain ⟨b2, o2, rfl, hsec⟩ := HS4.out.get (by omega)
          have hs1 := hsec k hkl
          obtain ⟨c, hc⟩ : ∃ c, ls[k]? = some c := ⟨ls[k], List.getElem?_eq_getElem hkl⟩
          have hcd : ls.getD k .none = c := by rw [List.getD_eq_getElem?_getD, hc]; rfl
          rw [hcd] at hs1
          have HCC := Lib.hid (hs1.below HKB.out (fun _ => hs1.lt (by simp [SecC.cells])))
          have y1 : (k : Int) < (ls.length : Int) := by omega
          have HCK := Lib.hid hc
          obtain ⟨OC, hOC⟩ : ∃ OC : Obj, OC = .cells c.cells 164 := ⟨_, rfl⟩
          have hj3 : J (want ((L.take i).flatten ++ ls.take k)) (wr.alloc OC) := HJ.out _ _ _ HK1.out
          have hb3 : Below w.heap.size w (wr.alloc OC) := HKB.out.alloc HKB.out.size _
          unfold SecC.cells at HCC hOC
          clear hsec hs1 hcd hc
          by_cases hp : isPairs c = true
          · have hyy := HY.out _ c (wr.alloc OC) hj3 (prefix_len HLS.out HCK.out hp)
            have HEQ := Lib.hid (want_take_hit HCK.out hp (L.take i).flatten)
            have e13 : ((c.x.kind : Int) == 13) = true := hp
            rw [hOC] at hyy hb3
            unfold SecC.cells at hyy
            have HB3 := Lib.hid hb3
            obtain ⟨fn, tmps, assign, body, hy, hR⟩ := hyy
            have HRR := Lib.hid hR
            clear hR hb3 hj3 hp hOC
            gi_wp2_with (refine wpListIn_load_agg rfl 164 (.tmp 19) rfl b2 (o2 + k * 6) (by simp [Act.eval]) _ _ HCC.out Try.underlying164 rfl size164 ?_)
            refine HRR.out.mono ?_
            rintro e W3 (⟨rfl, hJ3, hk3⟩ | ⟨rfl, hJx3⟩)
            · have HJ3 : Hid (J (want ((L.take i).flatten ++ ls.take (k + 1))) W3) := by show J _ _; rw [HEQ.out]; exact hJ3
              have HB4 := Lib.hid (HB3.out.trans hk3)
              clear hJ3 hk3
              gi_wp2_with fail
              go_roundw
              case rel => exact ⟨k + 1, by omega, by go_num, HJ3.out, HB4.out⟩
              case measure => simp [intOf]; omega
            · have HJX := Lib.hid hJx3
              have HPF : Hid (want ((L.take i).flatten ++ ls.take k) ++ [c] <+: want L.flatten) := by
                show _ <+: _
                rw [← HEQ.out]; exact prefix_want HLS.out (k + 1)
              clear hJx3
              gi_wp2_with fail
              refine bodyPost_ret (results_none rfl _ _ _) rfl ?_
              exact ⟨⟨_, rfl⟩, .inr ⟨_, HPF.out, HJX.out⟩⟩
          · have hpf : isPairs c = false := by simpa using hp
            have HEQ := Lib.hid (want_take_miss HCK.out hpf (L.take i).flatten)
            have e13 : ((c.x.kind : Int) == 13) = false := hpf
            rw [hOC] at hj3 hb3
            have HB3 := Lib.hid hb3
            have HJ3 := Lib.hid hj3
            clear hb3 hj3 hp hpf hOC
            gi_wp2_with (refine wpListIn_load_agg rfl 164 (.tmp 19) rfl b2 (o2 + k * 6) (by simp [Act.eval]) _ _ HCC.out Try.underlying164 rfl size164 ?_)
            refine ⟨fun f hf => (by cases hf), ?_⟩
            gi_wp2_with fail
            go_roundw
            case rel => exact ⟨k + 1, by omega, by go_num, by show J _ _; rw [HEQ.out]; exact HJ3.out, HB3.out⟩
            case measure => simp [intOf]; omega
        · obtain rfl : k = ls.length := by omega
          have HJ4 : Hid (J (want (L.take (i + 1)).flatten) wr) := by
            show J _ _
            have := HK1.out
            rw [List.take_length] at this
            rw [flat_take HLS.out]; exact this
          gi_wp2_with fail
          go_roundw
          case rel => exact ⟨i + 1, by omega, by go_num, HJ4.out, HKB.out⟩
          case measure => simp [intOf]; omega
    · obtain rfl : i = L.length := by omega
      have HJ5 := Lib.hid HJ1.out
      rw [List.take_length] at HJ5
      gi_wp2_with fail
      go_end0
      exact ⟨⟨_, rfl⟩, .inl ⟨_, rfl, HJ5.out⟩⟩

theorem sections_stops (F : Fence) (n : Nat) (h91 : F.fn 91) (hro : F.round = none) (hn : 1 ≤ n) (bx : Nat) (w : World) (img : Array Value) (aS : Option Addr) (cS : Nat) (L : List (List SecC)) (hS : SegsC w aS L) (himg : img[4]? = some (.slice aS L.length cS)) (hcap : L.length ≤ cS ∧ cS ≤ maxLen)
    (w0 : World) (hw0 : Below w.heap.size w w0) (hbx : w0.heap[bx]? = some (.cells img 36 (0, 0))) :
    SeqStopsK F n Try.prog 91 #[.pointer (some ⟨bx, 0, none⟩)] (fun x : SecC => #[.agg x.cells]) (Below w.heap.size) (fun ys => ys = want L.flatten) (fun pre => pre <+: want L.flatten) (want L.flatten).length w0 := fun l J Jx W hW hJ hJx hY h0 =>
  sec1_in F n h91 hro hn l bx w img aS cS L hS himg hcap J Jx hY (fun pre W' o h => hJ pre W' _ none h (World.grownBy_alloc W' o none) (fun r e => by cases e)) W (hw0.trans (below_le' hW hw0.size)) ((hW.block bx (lt_of_block hbx)).trans hbx) h0
end Go.Proofs.Ytepnaalgobhcdaa
namespace Go.Proofs.Ytepnaalgobhcdaa
open Go.RowKit Spm

set_option maxHeartbeats 1000000 in
set_option maxRecDepth 100000 in
theorem word81_any (w : World) (g off c : Nat) (bs : List UInt8) (hbs : BytesIn w g off bs) (h8 : bs.length ≤ 8) :
    Calls Try.prog 81 #[.slice (some ⟨g, off, none⟩) bs.length c] w fun e w' => e = .returned (.int .u64 (wordOf bs)) ∧ w = w' := by
  have HBS := Lib.hid hbs
  clear hbs
  go_enter Try.func81, Try.ntmps81
  go_wp2_with fail
  go_loop [2, 7] (fun v t => ∃ i : Nat, i ≤ bs.length ∧ t = .int .i64 i ∧ v = .int .u64 (wordOf (bs.take i))) (fun _ t => bs.length - (intOf t).toNat)
  case atStart => exact ⟨0, by omega, rfl, rfl⟩
  case round =>
    obtain ⟨i, hi, rfl, rfl⟩ := hrel
    by_cases hlt : i < bs.length
    · have hcell := HBS.out i hlt
      obtain ⟨x, hx⟩ : ∃ x, x = bs.getD i 0 := ⟨_, rfl⟩
      obtain ⟨acc, hacc⟩ : ∃ acc, acc = wordOf (bs.take i) := ⟨_, rfl⟩
      have hxl : x.toNat < 256 := x.toNat_lt
      have hal : acc < 256 ^ i := by
        have := wordOf_lt (bs.take i)
        rw [List.length_take, Nat.min_eq_left (by omega), ← hacc] at this; exact this
      have hnew : wordOf (bs.take (i + 1)) = acc + x.toNat * 256 ^ i := by
        rw [List.take_add_one, List.getElem?_eq_getElem (by omega), Option.toList_some, wordOf_append, List.length_take, Nat.min_eq_left (by omega), ← hacc, hx]
        simp [List.getD_eq_getElem?_getD, List.getElem?_eq_getElem (show i < bs.length by omega)]
      rw [← hx] at hcell
      unfold byteVal at hcell
      rw [← hacc]
      have HSO := Lib.hid (shl_or (show i < 8 by omega) hxl hal)
      have HNEW := Lib.hid hnew
      generalize x.toNat = xn at *
      clear hx hacc hnew hal
      go_wp2_with fail
      go_round
      case rel => exact ⟨i + 1, by omega, by go_num, by rw [HNEW.out, HSO.out]⟩
      case measure => simp [intOf]; omega
    · obtain rfl : i = bs.length := by omega
      have e : bs.take bs.length = bs := List.take_length
      rw [e]
      go_wp2_with fail
      go_ret
      exact ⟨rfl, rfl⟩
end Go.Proofs.Ytepnaalgobhcdaa
namespace Go.Proofs.Ytepnaalgobhcdaa
open Spm

theorem snoc_induction {α : Type} {p : List α → Prop} (h0 : p []) (h1 : ∀ l x, p l → p (l ++ [x])) (l : List α) : p l := by
  have : ∀ r : List α, p r.reverse := fun r => by
    induction r with
    | nil => exact h0
    | cons x r ih => rw [List.reverse_cons]; exact h1 _ _ ih
  have h2 := this l.reverse
  rwa [List.reverse_reverse] at h2
def pairAt (M : List Pg) (a : Nat) : Nat × Nat := (wordOf ((readAll M a 16).take 8), wordOf ((readAll M a 16).drop 8))
def secAddr (addr slide k : Nat) : Nat := ((addr + slide) % 18446744073709551616 + k) % 18446744073709551616
/-- What comes of the first j pairs of a section: an error, and those that count. -/
def secRun (M : List Pg) (addr slide : Nat) : Nat → Int × List (Nat × Nat)
  | 0 => (0, [])
  | j + 1 => if (secRun M addr slide j).1 ≠ 0 then secRun M addr slide j else
      if readErr M (secAddr addr slide (16 * j)) 16 ≠ 0 then (readErr M (secAddr addr slide (16 * j)) 16, (secRun M addr slide j).2) else
      if (pairAt M (secAddr addr slide (16 * j))).1 ≠ 0 ∧ (pairAt M (secAddr addr slide (16 * j))).2 ≠ 0 then (0, (secRun M addr slide j).2 ++ [pairAt M (secAddr addr slide (16 * j))]) else (0, (secRun M addr slide j).2)
structure PSt where
  many : Nat
  out : List (Nat × Nat)
  err : Int
def pStep (M : List Pg) (slide : Nat) (s : PSt) (addr size : Nat) : PSt :=
  if s.err ≠ 0 then s else if size % 16 ≠ 0 then { s with err := 9 } else if 20000 < s.many + size / 16 then { s with err := 11 } else
    if (secRun M addr slide (size / 16)).1 ≠ 0 then { s with err := (secRun M addr slide (size / 16)).1 } else ⟨s.many + size / 16, s.out ++ (secRun M addr slide (size / 16)).2, 0⟩
def pFold (M : List Pg) (slide : Nat) (l : List (Nat × Nat)) : PSt := l.foldl (fun s x => pStep M slide s x.1 x.2) ⟨0, [], 0⟩
theorem pFold_snoc (M : List Pg) (slide : Nat) (l : List (Nat × Nat)) (x : Nat × Nat) : pFold M slide (l ++ [x]) = pStep M slide (pFold M slide l) x.1 x.2 := by simp [pFold]
theorem pStep_stuck {M : List Pg} {slide : Nat} {s : PSt} (h : s.err ≠ 0) (a n : Nat) : pStep M slide s a n = s := by unfold pStep; rw [if_pos h]
theorem pFold_stuck {M : List Pg} {slide : Nat} {l m : List (Nat × Nat)} (h : (pFold M slide l).err ≠ 0) : pFold M slide (l ++ m) = pFold M slide l := by
  refine snoc_induction (p := fun m => pFold M slide (l ++ m) = pFold M slide l) (by simp) (fun m x ih => ?_) m
  show pFold M slide (l ++ (m ++ [x])) = _
  rw [← List.append_assoc, pFold_snoc, ih, pStep_stuck h]
theorem secRun_stuck {M : List Pg} {addr slide j k : Nat} (h : (secRun M addr slide j).1 ≠ 0) (hk : j ≤ k) : secRun M addr slide k = secRun M addr slide j := by
  induction k with
  | zero => obtain rfl : j = 0 := by omega
            rfl
  | succ k ih =>
    by_cases e : j = k + 1
    · rw [e]
    · have := ih (by omega)
      rw [secRun, this, if_pos h]
theorem secRun_len (M : List Pg) (addr slide : Nat) : ∀ j, (secRun M addr slide j).2.length ≤ j
  | 0 => by simp [secRun]
  | j + 1 => by
    have := secRun_len M addr slide j
    unfold secRun
    split
    · omega
    · split
      · simp only; omega
      · split
        · simp only [List.length_append, List.length_singleton]; omega
        · simp only; omega
theorem pFold_bound (M : List Pg) (slide : Nat) (l : List (Nat × Nat)) : (pFold M slide l).out.length ≤ (pFold M slide l).many ∧ (pFold M slide l).many ≤ 20000 := by
  refine snoc_induction (p := fun l => (pFold M slide l).out.length ≤ (pFold M slide l).many ∧ (pFold M slide l).many ≤ 20000) (by simp [pFold]) (fun l x ih => ?_) l
  show (pFold M slide (l ++ [x])).out.length ≤ (pFold M slide (l ++ [x])).many ∧ (pFold M slide (l ++ [x])).many ≤ 20000
  rw [pFold_snoc]
  unfold pStep
  split
  · exact ih
  · split
    · exact ih
    · split
      · exact ih
      · split
        · exact ih
        · have := secRun_len M x.1 slide (x.2 / 16)
          simp only [List.length_append]
          omega
end Go.Proofs.Ytepnaalgobhcdaa
namespace Go.Proofs.Ytepnaalgobhcdaa
open Go.RowKit Go.Shelf Spm

def flat (l : List (Nat × Nat)) : List Value := l.flatMap fun p => [.int .u64 (p.1 : Int), .int .u64 (p.2 : Int)]
theorem flat_len (l : List (Nat × Nat)) : (flat l).length = l.length * 2 := by
  induction l with
  | nil => rfl
  | cons x l ih => unfold flat at ih ⊢; simp only [List.flatMap_cons, List.length_append, ih, List.length_cons, List.length_nil]; omega
theorem flat_snoc (l : List (Nat × Nat)) (p : Nat × Nat) : flat (l ++ [p]) = flat l ++ [.int .u64 (p.1 : Int), .int .u64 (p.2 : Int)] := by simp [flat]
def ps (c : SecC) : Nat × Nat := (c.x.addr, c.x.size)
def pst (M : List Pg) (slide : Nat) (l : List SecC) : PSt := pFold M slide (l.map ps)
theorem pst_snoc (M : List Pg) (slide : Nat) (l : List SecC) (c : SecC) : pst M slide (l ++ [c]) = pStep M slide (pst M slide l) c.x.addr c.x.size := by unfold pst; rw [List.map_append, List.map_cons, List.map_nil, pFold_snoc]; rfl

/-- The blocks of a call of Pairs: the space's address, the image, the pairs so far, the error, how many. -/
structure PB (w : World) (sp : Addr) (cs : Array Value) (many : Nat) (out : List (Nat × Nat)) (W : World) : Prop where
  below : Below w.heap.size w W
  s : W.heap[w.heap.size]? = some (.cells #[.pointer (some sp)] 43 (0, 0))
  x : W.heap[w.heap.size + 1]? = some (.cells cs 38 (0, 0))
  out : ∃ v, W.heap[w.heap.size + 2]? = some (.cells #[v] 82 (0, 0)) ∧ W.ownsRow w.heap.size 88 2 v out.length (flat out)
  e : W.heap[w.heap.size + 3]? = some (.cells #[.int .i64 0] 45 (0, 0))
  m : W.heap[w.heap.size + 4]? = some (.cells #[.int .u64 (many : Int)] 32 (0, 0))
theorem owns2_same {w w' : World} {base : Nat} {e : TypeId} {size : Nat} {v : Value} {n : Nat} {xs : List Value} (h : w.ownsRow base e size v n xs) (hs : ∀ g, v.ownBlock = some g → w'.heap[g]? = w.heap[g]?) : w'.ownsRow base e size v n xs := by
  refine ⟨h.1, ?_⟩
  rcases h.2 with hn | ⟨g, cap, cur, rfl, hb, hgg, rest⟩
  · exact .inl hn
  · exact .inr ⟨g, cap, cur, rfl, hb, (hs g rfl).trans hgg, rest⟩
theorem row2_other {wr : World} {B : Nat} {e : TypeId} {size : Nat} {v : Value} {n : Nat} {xs : List Value} (hv : wr.ownsRow B e size v n xs) {k : Nat} {cur : Array Value} {t : TypeId} {fr : Nat × Nat} (ht : t ≠ e) (hk : wr.heap[k]? = some (.cells cur t fr)) : some k ≠ v.ownBlock := by
  rcases hv.2 with ⟨rfl, _⟩ | ⟨g, cap, c, rfl, _, hg, _⟩
  · simp [Value.ownBlock]
  · intro e'
    obtain rfl : k = g := by simpa [Value.ownBlock] using e'
    rw [hk] at hg
    have := Option.some.inj hg
    injection this with _ h2 _
    exact ht h2
section
variable {w W W' : World} {sp : Addr} {cs : Array Value} {many : Nat} {out : List (Nat × Nat)}
theorem PB.same (h : PB w sp cs many out W) (hb : Below w.heap.size w W') (hs : ∀ (k : Nat) (cur : Array Value) (t : TypeId) (fr : Nat × Nat), W.heap[k]? = some (.cells cur t fr) → W'.heap[k]? = some (.cells cur t fr)) : PB w sp cs many out W' := by
  obtain ⟨v, h1, h2⟩ := h.out
  exact ⟨hb, hs _ _ _ _ h.s, hs _ _ _ _ h.x, ⟨v, hs _ _ _ _ h1, owns2_same h2 fun g hg => by
    rcases h2.2 with ⟨rfl, _⟩ | ⟨g', cap, c, rfl, _, hgg, _⟩
    · simp [Value.ownBlock] at hg
    · obtain rfl : g' = g := by simpa [Value.ownBlock] using hg
      rw [hgg]; exact hs _ _ _ _ hgg⟩, hs _ _ _ _ h.e, hs _ _ _ _ h.m⟩
theorem PB.keepB (h : PB w sp cs many out W) (hb : Below W.heap.size W W') : PB w sp cs many out W' :=
  h.same (h.below.trans (below_le hb h.below.size)) fun k _cur _t _fr hk => (hb.block k (lt_of_block hk)).trans hk
theorem PB.own (w : World) (sp : Addr) (cs : Array Value) (B : Nat) (hB : w.heap.size ≤ B) (f : List SecC → Nat) (g : List SecC → List (Nat × Nat)) : OwnFrom B (fun s W => PB w sp cs (f s) (g s) W) := fun s X Y row hs hg hr => by
  refine hs.same ⟨hg.os.trans hs.below.os, hg.tape.trans hs.below.tape, hg.output.trans hs.below.output, Nat.le_trans hs.below.size hg.size, fun k hk => ?_⟩ fun k cur t fr hk => ?_
  · rw [hg.block k (Nat.lt_of_lt_of_le hk hs.below.size) (fun e => by have := (hr k e.symm).1; omega)]
    exact hs.below.block k hk
  · refine (hg.block k (lt_of_block hk) (fun e => ?_)).trans hk
    obtain ⟨_, o, ho, hc⟩ := hr k e.symm
    rw [hk] at ho; cases ho; cases hc
theorem PB.setMany (h : PB w sp cs many out W) (m' : Nat) : PB w sp cs m' out (W.setCell ⟨w.heap.size + 4, 0, none⟩ (.int .u64 (m' : Int))) := by
  have ho : ∀ k, k ≠ w.heap.size + 4 → (W.setCell ⟨w.heap.size + 4, 0, none⟩ (.int .u64 (m' : Int))).heap[k]? = W.heap[k]? := fun k hk => heap_setCell_other _ _ _ _ hk
  obtain ⟨v, h1, h2⟩ := h.out
  refine ⟨h.below.setCell (by simp) _, by rw [ho _ (by omega)]; exact h.s, by rw [ho _ (by omega)]; exact h.x, ⟨v, by rw [ho _ (by omega)]; exact h1, owns2_same h2 fun g hg => ho g fun e => row2_other h2 (t := 32) (by decide) h.m (by rw [hg, e])⟩, by rw [ho _ (by omega)]; exact h.e, one_setCell h.m⟩
/-- Behind an append to the pairs, ahead of the store; and behind the store. -/
theorem PB.push (h : PB w sp cs many out W) {v v' : Value} (hv : W.heap[w.heap.size + 2]? = some (.cells #[v] 82 (0, 0))) (ho : W.ownsRow w.heap.size 88 2 v out.length (flat out)) {wt w1 : World} (hwt : Below W.heap.size W wt) {p : Nat × Nat}
    (hown : w1.ownsRow w.heap.size 88 2 v' (out.length + 1) (flat out ++ [.int .u64 (p.1 : Int), .int .u64 (p.2 : Int)])) (hg : wt.grownBy w1 v.ownBlock) :
    w1.heap[w.heap.size + 2]? = some (.cells #[v] 82 (0, 0)) ∧ PB w sp cs many (out ++ [p]) (w1.setCell ⟨w.heap.size + 2, 0, none⟩ v') ∧ KeepsOthers W (w1.setCell ⟨w.heap.size + 2, 0, none⟩ v') ∧ W.heap.size ≤ w1.heap.size ∧ ∀ (k : Nat) (cur : Array Value) (t : TypeId) (fr : Nat × Nat), t ≠ 88 → t ≠ 82 → W.heap[k]? = some (.cells cur t fr) → (w1.setCell ⟨w.heap.size + 2, 0, none⟩ v').heap[k]? = some (.cells cur t fr) := by
  have hk : ∀ (k : Nat) (cur : Array Value) (t : TypeId) (fr : Nat × Nat), t ≠ 88 → W.heap[k]? = some (.cells cur t fr) → w1.heap[k]? = some (.cells cur t fr) := fun k cur t fr ht hk => by
    rw [hg.block k (Nat.lt_of_lt_of_le (lt_of_block hk) hwt.size) (row2_other ho ht hk), hwt.block k (lt_of_block hk)]; exact hk
  have h2 := hk _ _ _ _ (by decide) hv
  have hset : ∀ k, k ≠ w.heap.size + 2 → (w1.setCell ⟨w.heap.size + 2, 0, none⟩ v').heap[k]? = w1.heap[k]? := fun k hk => heap_setCell_other _ _ _ _ hk
  have hb1 : Below w.heap.size w w1 := by
    have h1 := h.below.trans (below_le hwt h.below.size)
    exact ⟨hg.os.trans h1.os, hg.tape.trans h1.tape, hg.output.trans h1.output, Nat.le_trans h1.size hg.size, fun i hi => by
      rw [hg.block i (Nat.lt_of_lt_of_le hi h1.size) (fun e => by have := (ho.lt i e.symm).1; omega)]
      exact h1.block i hi⟩
  refine ⟨h2, ⟨hb1.setCell (by simp) _, by rw [hset _ (by omega)]; exact hk _ _ _ _ (by decide) h.s, by rw [hset _ (by omega)]; exact hk _ _ _ _ (by decide) h.x, ⟨v', one_setCell h2, ?_⟩, by rw [hset _ (by omega)]; exact hk _ _ _ _ (by decide) h.e, by rw [hset _ (by omega)]; exact hk _ _ _ _ (by decide) h.m⟩, ⟨?_, fun k o hko hc => ?_⟩, Nat.le_trans hwt.size hg.size, fun k cur t fr h88 h82 hkk => ?_⟩
  · rw [List.length_append, List.length_singleton, flat_snoc]
    exact owns2_same hown fun g hgg => hset g fun e => row2_other hown (t := 82) (by decide) h2 (by rw [hgg, e])
  · have := Nat.le_trans hwt.size hg.size
    simpa [World.setCell] using this
  · have hlt := (Array.getElem?_eq_some_iff.1 hko).1
    have hne : k ≠ w.heap.size + 2 := fun e => by rw [e, hv] at hko; cases hko; cases hc
    rw [hset k hne, hg.block k (Nat.lt_of_lt_of_le hlt hwt.size) (fun e => ?_), hwt.block k hlt]
    · exact hko
    · rcases ho.2 with ⟨rfl, _⟩ | ⟨g, cap, c, rfl, _, hgg, _⟩
      · simp [Value.ownBlock] at e
      · obtain rfl : k = g := by simpa [Value.ownBlock] using e
        rw [hgg] at hko; cases hko; cases hc
  · rw [hset k (fun e => by rw [e, hv] at hkk; have := Option.some.inj hkk; injection this with _ h3 _; exact h82 h3.symm)]
    exact hk _ _ _ _ h88 hkk
theorem PB.cells (h : PB w sp cs many out W) : W.cell? ⟨w.heap.size, 0, none⟩ = some (.pointer (some sp)) ∧ W.cell? ⟨w.heap.size + 4, 0, none⟩ = some (.int .u64 (many : Int)) ∧ W.frozen? ⟨w.heap.size + 4, 0, none⟩ = false ∧
    W.cell? ⟨w.heap.size + 3, 0, none⟩ = some (.int .i64 0) ∧ W.frozen? ⟨w.heap.size + 3, 0, none⟩ = false ∧ W.frozen? ⟨w.heap.size + 2, 0, none⟩ = false := by
  obtain ⟨v, h1, _⟩ := h.out
  exact ⟨cell_of_one h.s, cell_of_one h.m, free_of_one h.m, cell_of_one h.e, free_of_one h.e, free_of_one h1⟩
end
theorem KeepsOthers.of_below {W W' : World} (h : Below W.heap.size W W') : KeepsOthers W W' := ⟨h.size, fun k _o hk _ => (h.block k (Array.getElem?_eq_some_iff.1 hk).1).trans hk⟩
/-- How a call of Pairs ends early. -/
def PX (w : World) (er : Int) (W : World) : Prop := Below w.heap.size w W ∧ W.heap[w.heap.size + 2]? = some (.cells #[.slice none 0 0] 82 (0, 0)) ∧ W.heap[w.heap.size + 3]? = some (.cells #[.int .i64 er] 45 (0, 0)) ∧ er ≠ 0
def PairsRes (w : World) (er : Int) (out : List (Nat × Nat)) (e : Ending) (w' : World) : Prop :=
  ∃ v, e = .returned (.tuple #[v, .int .i64 er]) ∧ Below w.heap.size w w' ∧ (er ≠ 0 → v = .slice none 0 0) ∧ (er = 0 → w'.ownsRow w.heap.size 88 2 v out.length (flat out))
end Go.Proofs.Ytepnaalgobhcdaa
namespace Go.Proofs.Ytepnaalgobhcdaa
open Go.RowKit Go.Shelf Spm
attribute [local go_sem] Oper.semAt_some

theorem size88 : (Try.prog.info? 88).map (·.size) = some 2 := by kernel_rfl
theorem info88 : (Try.prog.info? 88).map (fun i => (i.zero, i.size, i.bytes)) = some (some (.agg #[.int .u64 0, .int .u64 0]), 2, 16) := by kernel_rfl
theorem size36 : (Try.prog.info? 36).map (·.size) = some 24 := by kernel_rfl
theorem results_cell2 {fn : Func} {p q : Tmp} {tp tq : TypeId} (h : fn.results = #[.cell p tp, .cell q tq]) (tmps : Array Value) (P : Program) (w : World) (a b : Addr) (u v : Value) (ht : tmps.getD p undef = .pointer (some a)) (hs : tmps.getD q undef = .pointer (some b))
    (hl : (loadVar tp a).run P w = .ok u w) (hm : (loadVar tq b).run P w = .ok v w) : (results fn tmps).run P w = .ok (.tuple #[u, v]) w := by
  have ha : (asAddr (tmps[p]?.getD undef)).run P w = .ok a w := by
    rw [← Array.getD_eq_getD_getElem?, ht]; rfl
  have hb : (asAddr (tmps[q]?.getD undef)).run P w = .ok b w := by
    rw [← Array.getD_eq_getD_getElem?, hs]; rfl
  simp only [results, h]
  simp [Sem.run_bind, Result.andThen, ha, hb, hl, hm]
theorem loadVar_one {ty : TypeId} (hagg : ∀ w : World, (isAgg ty).run Try.prog w = .ok false w) {w : World} {b : Nat} {v : Value} (hc : w.cell? ⟨b, 0, none⟩ = some v) : (loadVar ty ⟨b, 0, none⟩).run Try.prog w = .ok v w := by
  simp [loadVar, Sem.run_bind, hagg w, go_sem, hc]
theorem agg82 (w : World) : (isAgg 82).run Try.prog w = .ok false w := by kernel_rfl
theorem agg45 (w : World) : (isAgg 45).run Try.prog w = .ok false w := by kernel_rfl

theorem below_between {B : Nat} {w W W' : World} (h : Below B w W) (h' : Below B w W') (hs : W.heap.size ≤ W'.heap.size) : Below B W W' :=
  ⟨h'.os.trans h.os.symm, h'.tape.trans h.tape.symm, h'.output.trans h.output.symm, hs, fun k hk => (h'.block k hk).trans (h.block k hk).symm⟩
theorem u64add (x y : Nat) : IntKind.u64.wrap ((x : Int) + (y : Int)) = (((x + y) % 18446744073709551616 : Nat) : Int) := by
  rw [show IntKind.u64.wrap ((x : Int) + (y : Int)) = (((x : Int) + (y : Int)) % 18446744073709551616) from rfl]; omega
theorem secRun_next {M : List Pg} {addr slide j a : Nat} (h : (secRun M addr slide j).1 = 0) (ha : a = secAddr addr slide (16 * j)) :
    secRun M addr slide (j + 1) = if readErr M a 16 ≠ 0 then (readErr M a 16, (secRun M addr slide j).2) else if (pairAt M a).1 ≠ 0 ∧ (pairAt M a).2 ≠ 0 then (0, (secRun M addr slide j).2 ++ [pairAt M a]) else (0, (secRun M addr slide j).2) := by
  subst ha
  conv => lhs; unfold secRun
  rw [if_neg (by rw [h]; simp)]
theorem PB.early {w W : World} {sp : Addr} {cs : Array Value} {many : Nat} {out : List (Nat × Nat)} (h : PB w sp cs many out W) (er : Int) (h0 : er ≠ 0) : PX w er ((W.setCell ⟨w.heap.size + 2, 0, none⟩ (.slice none 0 0)).setCell ⟨w.heap.size + 3, 0, none⟩ (.int .i64 er)) := by
  obtain ⟨v, h1, _⟩ := h.out
  have h2 := one_setCell (u := .slice none 0 0) h1
  have h3 : (W.setCell ⟨w.heap.size + 2, 0, none⟩ (.slice none 0 0)).heap[w.heap.size + 3]? = some (.cells #[.int .i64 0] 45 (0, 0)) := (heap_setCell_other _ _ _ _ (by simp)).trans h.e
  exact ⟨(h.below.setCell (by simp) _).setCell (by simp) _, (heap_setCell_other _ _ _ _ (by simp)).trans h2, one_setCell h3, h0⟩
theorem PB.xcell {w W : World} {sp : Addr} {cs : Array Value} {many : Nat} {out : List (Nat × Nat)} (h : PB w sp cs many out W) {i : Nat} {v : Value} (hi : cs[i]? = some v) : W.cell? ⟨w.heap.size + 1, i, none⟩ = some v := by
  simp [World.cell?, h.x, hi]
theorem PB.outcell {w W : World} {sp : Addr} {cs : Array Value} {many : Nat} {out : List (Nat × Nat)} (h : PB w sp cs many out W) : ∃ v, W.heap[w.heap.size + 2]? = some (.cells #[v] 82 (0, 0)) ∧ W.cell? ⟨w.heap.size + 2, 0, none⟩ = some v ∧ W.frozen? ⟨w.heap.size + 2, 0, none⟩ = false ∧ W.ownsRow w.heap.size 88 2 v out.length (flat out) := by
  obtain ⟨v, h1, h2⟩ := h.out
  exact ⟨v, h1, cell_of_one h1, free_of_one h1, h2⟩
theorem heap_own {X Y : World} {row : Option Nat} {B : Nat} (hg : X.grownBy Y row) (hr : ∀ r, row = some r → B ≤ r ∧ ∃ o : Obj, X.heap[r]? = some o ∧ o.isCells = false) {k : Nat} {cur : Array Value} {t : TypeId} {fr : Nat × Nat} (hk : X.heap[k]? = some (.cells cur t fr)) : Y.heap[k]? = some (.cells cur t fr) := by
  refine (hg.block k (lt_of_block hk) (fun e => ?_)).trans hk
  obtain ⟨_, o, ho, hc⟩ := hr k e.symm
  rw [hk] at ho; cases ho; cases hc
theorem below_own {w X Y : World} {row : Option Nat} {B : Nat} (hB : w.heap.size ≤ B) (h : Below w.heap.size w X) (hg : X.grownBy Y row) (hr : ∀ r, row = some r → B ≤ r ∧ ∃ o : Obj, X.heap[r]? = some o ∧ o.isCells = false) : Below w.heap.size w Y :=
  ⟨hg.os.trans h.os, hg.tape.trans h.tape, hg.output.trans h.output, Nat.le_trans h.size hg.size, fun k hk => by
    rw [hg.block k (Nat.lt_of_lt_of_le hk h.size) (fun e => by have := (hr k e.symm).1; omega)]
    exact h.block k hk⟩
theorem PX.own (w : World) (B : Nat) (hB : w.heap.size ≤ B) (f : List SecC → Int) : OwnFrom B (fun s W => PX w (f s) W) := fun _s _X _Y _row hs hg hr =>
  ⟨below_own hB hs.1 hg hr, heap_own hg hr hs.2.1, heap_own hg hr hs.2.2.1, hs.2.2.2⟩

theorem below_put {B : Nat} {w W : World} (h : Below B w W) {D : Nat} {o o' : Obj} (_hD : W.heap[D]? = some o) (hB : B ≤ D) : Below B w (W.putObj D o') :=
  ⟨h.os, h.tape, h.output, by simpa using h.size, fun k hk => (World.putObj_heap_other (by omega)).trans (h.block k hk)⟩
theorem owns2_put {W : World} {B : Nat} {e : TypeId} {size : Nat} {v : Value} {n : Nat} {xs : List Value} (h : W.ownsRow B e size v n xs) {D : Nat} {o o' : Obj} (hD : W.heap[D]? = some o) (ho : o.isCells = false) : (W.putObj D o').ownsRow B e size v n xs :=
  owns2_same h fun g hg => World.putObj_heap_other (fun e' => by
    rcases h.2 with ⟨rfl, _⟩ | ⟨g', cap, cur, rfl, _, hgg, _⟩
    · simp [Value.ownBlock] at hg
    · obtain rfl : g' = g := by simpa [Value.ownBlock] using hg
      rw [e', hD] at hgg; cases hgg; cases ho)
theorem pairs_end {n : Nat} {R : Ending → World → Prop} {tmps : Array Value} {W : World} {H D : Nat} {v : Value} {er : Int} (h4 : tmps.getD 4 undef = .pointer (some ⟨H + 2, 0, none⟩)) (h5 : tmps.getD 5 undef = .pointer (some ⟨H + 3, 0, none⟩))
    (c4 : W.heap[H + 2]? = some (.cells #[v] 82 (0, 0))) (c5 : W.heap[H + 3]? = some (.cells #[.int .i64 er] 45 (0, 0))) (hK : W.heap[D]? = some (.deferred (some []))) (hd4 : H + 2 ≠ D) (hd5 : H + 3 ≠ D)
    (hR : R (.returned (.tuple #[v, .int .i64 er])) (W.putObj D (.deferred none))) : bodyPostM Fence.wide n Try.prog Try.f46 R Exit.ret { tmps := tmps, defers := [{ target := .collected D, args := #[] }] } W := by
  refine ⟨by simp, .inl ⟨_, _, rfl, run_takeDeferred hK, ?_⟩⟩
  refine ⟨_, results_cell2 rfl _ _ _ ⟨H + 2, 0, none⟩ ⟨H + 3, 0, none⟩ v (.int .i64 er) h4 h5 (loadVar_one agg82 ?_) (loadVar_one agg45 ?_), hR⟩
  · unfold World.cell?
    simp only [World.putObj_heap_other (o := .deferred none) hd4, c4]; rfl
  · unfold World.cell?
    simp only [World.putObj_heap_other (o := .deferred none) hd5, c5]; rfl

set_option maxHeartbeats 4000000 in
set_option maxRecDepth 100000 in
theorem pairs_any (w : World) (b : Nat) (M : List Pg) (F : Nat → Prop) (h : SpIn w b M F) (cs : Array Value) (x : ImgM) (hsz : cs.size = 27) (h25 : cs[25]? = some (.int .u64 x.slide)) (L : List (List SecC)) (aS : Option Addr) (cS : Nat) (hL : SegsC w aS L) (h5 : cs[5]? = some (.slice aS L.length cS)) (hcap : L.length ≤ cS ∧ cS ≤ maxLen) :
    Calls Try.prog 46 #[.pointer (some ⟨b, 0, none⟩), .agg cs] w (PairsRes w (pst M x.slide (want L.flatten)).err (pst M x.slide (want L.flatten)).out) := by
  obtain ⟨img, himg⟩ : ∃ img : Array Value, img = cs.extract 1 25 := ⟨_, rfl⟩
  have hisz : img.size = 24 := by rw [himg]; simp [hsz]
  have hi4 : img[4]? = some (.slice aS L.length cS) := by rw [himg, Array.getElem?_extract]; simp [hsz]; simpa [hsz] using h5
  have HIC : Hid (∀ (W : World) (g : Nat), W.heap[g]? = some (.cells cs 38 (0, 0)) → CellsAt W g 1 img) := fun W g hg j v hj => by
    rw [himg, Array.getElem?_extract] at hj
    simp only [World.cell?, hg]
    split at hj
    · exact hj
    · cases hj
  have HSEC : Hid (∀ W, Calls Try.prog 80 #[.agg img] W fun e w' => e = .returned (.func (.func 91) #[] #[.pointer (some ⟨W.heap.size, 0, none⟩)]) ∧ w' = W.alloc (.cells img 36)) := fun W => sections_any W img
  have HSP := Lib.hid h
  have HI4 := Lib.hid hi4
  have HISZ := Lib.hid hisz
  have H25 := Lib.hid h25
  have HLL := Lib.hid hL
  have HCAP := Lib.hid hcap
  clear h hi4 hisz h25 hL hcap h5 himg hsz
  refine (callsIn_wide (n := 6)).1 ?_
  refine callsIn_of_wp_marks Try.func46 rfl trivial ?_ rfl
  simp only [Try.ntmps46, List.size_toArray, List.length_cons, List.length_nil, Nat.reduceAdd, Nat.reduceSub, Array.replicate_succ, Array.replicate_zero, List.push_toArray, List.append_toArray, List.nil_append, List.cons_append]
  obtain ⟨W5, hW5⟩ : ∃ W5, W5 = ((((w.alloc (.cells #[.pointer (some ⟨b, 0, none⟩)] 43)).alloc (.cells cs 38)).alloc (.cells #[.slice none 0 0] 82)).alloc (.cells #[.int .i64 0] 45)).alloc (.cells #[.int .u64 0] 32) := ⟨_, rfl⟩
  have hP5 : PB w ⟨b, 0, none⟩ cs 0 [] W5 := by
    rw [hW5]
    refine ⟨((((Below.refl _ w).alloc (by simp) _).alloc (by simp) _ |>.alloc (by simp <;> omega) _).alloc (by simp <;> omega) _).alloc (by simp <;> omega) _, ?_, ?_, ⟨.slice none 0 0, ?_, World.ownsRow_nil _ _ _ _⟩, ?_, ?_⟩
    · rw [hp_old _ _ _ (by simp <;> omega), hp_old _ _ _ (by simp <;> omega), hp_old _ _ _ (by simp <;> omega), hp_old _ _ _ (by simp), hp_new _ _ _ rfl]
    · rw [hp_old _ _ _ (by simp <;> omega), hp_old _ _ _ (by simp <;> omega), hp_old _ _ _ (by simp), hp_new _ _ _ (by simp)]
    · rw [hp_old _ _ _ (by simp <;> omega), hp_old _ _ _ (by simp), hp_new _ _ _ (by simp)]
    · rw [hp_old _ _ _ (by simp), hp_new _ _ _ (by simp)]
    · rw [hp_new _ _ _ (by simp)]; rfl
  have hz5 : W5.heap.size = w.heap.size + 5 := by rw [hW5]; simp
  have HP5 := Lib.hid hP5
  have HX5 : Hid (CellsAt W5 (w.heap.size + 1) 1 img) := HIC.out _ _ hP5.x
  have HW5 := Lib.hid hW5
  have HZ5 := Lib.hid hz5
  rw [hW5] at HX5
  clear hP5 hW5 hz5
  gi_wp2_with (first
    | (refine wpListIn_load_agg rfl 36 (.tmp 14) rfl (w.heap.size + 1) 1 (by simp [Act.eval]) img _ HX5.out Try.underlying36 rfl (by rw [HISZ.out]; exact size36) ?_)
    | (refine ⟨trivial, ?_⟩; gi_at_call 80; refine (callsIn_wide.2 (HSEC.out _)).mono ?_; rintro e w1 ⟨rfl, rfl⟩))
  rw [← HW5.out]
  have hP6 := HP5.out.keepB ((Below.refl _ W5).alloc (Nat.le_refl _) (.cells img 36))
  have hbx : (W5.alloc (.cells img 36)).heap[w.heap.size + 5]? = some (.cells img 36 (0, 0)) := hp_new _ _ _ HZ5.out.symm
  have hz6 : (W5.alloc (.cells img 36)).heap.size = w.heap.size + 6 := by simp [HZ5.out]
  simp only [Nat.reduceAdd, Nat.add_assoc]
  generalize W5.alloc (.cells img 36) = W6 at *
  generalize hA : Act.mk _ _ = a0
  refine wpIn_rangeFunc_ownH (α := SecC) rfl (by decide) (gf := 91) (lb := #[.pointer (some ⟨w.heap.size + 5, 0, none⟩)]) (by rw [← hA]; rfl) trivial (enters_of Try.func91 (by kernel_rfl) rfl)
    (sections_stops Fence.wide 5 trivial rfl (by decide) (w.heap.size + 5) w img aS cS L HLL.out HI4.out HCAP.out W6 hP6.below hbx) belowK_t (belowK_b (by omega)) (Below.refl _ _) (fun _ => rfl)
    (fun pre W => PB w ⟨b, 0, none⟩ cs (pst M x.slide pre).many (pst M x.slide pre).out W ∧ (pst M x.slide pre).err = 0)
    (fun c pre W => (c = .ret ∧ (pst M x.slide pre).err ≠ 0) ∧ PX w (pst M x.slide pre).err W)
    (OwnFrom.and (PB.own w _ cs _ (by omega) _ _) (ownFrom_pure _ _))
    (fun c => OwnFrom.and (ownFrom_pure _ _) (PX.own w _ (by omega) _))
    ⟨hP6, rfl⟩
    (fun c a' W => ∃ Bx, W.heap[Bx]? = some (.cells c.cells 164 (0, 0)) ∧ a' = { tmps := (a0.tmps.setIfInBounds 17 (.agg c.cells)).setIfInBounds 7 (.pointer (some ⟨Bx, 0, none⟩)), defers := [] })
    (fun c a' _ X Y row hs hg hr => by
      obtain ⟨Bx, k2, k3⟩ := hs
      exact ⟨Bx, heap_own hg hr k2, k3⟩)
    ?assign ?body ?done ?stop
  case assign =>
    rintro l pre c W K ⟨hPB, herr⟩ hK
    have hwz := hPB.below.size
    have HPB := Lib.hid hPB
    have HE := Lib.hid herr
    have HK := Lib.hid hK
    have hnew := Lib.hid (hp_new W (.cells c.cells 164) _ rfl)
    unfold SecC.cells at hnew
    clear hPB herr hK hbx hP6
    rw [← hA]
    unfold SecC.cells
    gi_wp2_with fail
    refine HK.out _ _ ((KeepsOthers.alloc _ _).from _) ((Below.refl _ W).alloc hwz _) ⟨HPB.out.keepB ((Below.refl _ W).alloc (Nat.le_refl _) _), HE.out⟩ ⟨W.heap.size, hnew.out, ?_⟩
    rw [← hA]; rfl
  case body =>
    rintro l pre c a' W hl ⟨rr, hrr⟩ ⟨hPB, herr⟩ ⟨Bx, hcB, rfl⟩ hlt
    have hwz := hPB.below.size
    have hmb := pFold_bound M x.slide (pre.map ps)
    have hnx := pst_snoc M x.slide pre c
    unfold pStep at hnx
    have herr2 : (pst M x.slide pre).err = 0 := herr
    rw [if_neg (by rw [herr2]; simp)] at hnx
    change (pst M x.slide pre).out.length ≤ (pst M x.slide pre).many ∧ (pst M x.slide pre).many ≤ 20000 at hmb
    have hco : ∀ W' : World, W'.heap[Bx]? = some (.cells c.cells 164 (0, 0)) → W'.cell? ⟨Bx, 2, none⟩ = some (.int .u64 (c.x.addr : Int)) ∧ W'.cell? ⟨Bx, 3, none⟩ = some (.int .u64 (c.x.size : Int)) := fun W' h => by
      unfold SecC.cells at h; simp [World.cell?, h]
    have HCO := Lib.hid hco
    obtain ⟨ca2, ca3⟩ := hco W hcB
    have hxl := c.ha
    have hsl := c.hs
    obtain ⟨st, hst⟩ : ∃ st, st = pst M x.slide pre := ⟨_, rfl⟩
    rw [← hst] at hnx hPB hmb
    obtain ⟨m, out, er0⟩ := st
    simp only at hnx hPB hmb
    obtain ⟨cs0, cm, fm, ce, fe, fo⟩ := hPB.cells
    obtain ⟨v, ov, co, _, orow⟩ := hPB.outcell
    have cx := hPB.xcell H25.out
    have HPB := Lib.hid hPB
    have HBW := Lib.hid hPB.below
    have HNX := Lib.hid hnx
    have HCB := Lib.hid hcB
    have HOV := Lib.hid ov
    have HOR := Lib.hid orow
    obtain ⟨hml, hm2⟩ := hmb
    generalize c.x.size = sz at *
    generalize c.x.addr = ad at *
    clear hP6 hbx hPB hnx hcB hco herr herr2 hst orow ov hlt
    rw [← hA]
    simp only [List.setIfInBounds_toArray, List.set_cons_zero, List.set_cons_succ]
    by_cases c1 : sz % 16 = 0
    · have b1 : ((sz : Int) % 16 != 0) = false := by rw [bne_eq_false_iff_eq]; omega
      have hcast : ((m : Int) + (sz : Int) / 16) = ((m + sz / 16 : Nat) : Int) := by omega
      have HCAST := Lib.hid hcast
      clear hcast
      by_cases c2 : 20000 < sz / 16
      · have hnn := HNX.out
        rw [if_neg (by omega), if_pos (by omega)] at hnn
        have HN2 := Lib.hid hnn
        have b2 : (20000 : Int) < (sz : Int) / 16 := by omega
        clear hnn c1 c2
        gi_wp2_with fail
        have hcast := HCAST.out
        refine ⟨((KeepsOthers.setCell _ _ _).trans ((KeepsOthers.setCell _ _ _).trans (KeepsOthers.setCell _ _ _))).from _, ⟨rfl, by rw [HN2.out]; simp⟩, ?_⟩
        rw [HN2.out, hcast]
        exact (HPB.out.setMany (m + sz / 16)).early 11 (by decide)
      · by_cases c3 : 20000 < m + sz / 16
        · have hnn := HNX.out
          rw [if_neg (by omega), if_pos c3] at hnn
          have HN2 := Lib.hid hnn
          have b2 : ¬ (20000 : Int) < (sz : Int) / 16 := by omega
          have b3 : (20000 : Int) < (m : Int) + (sz : Int) / 16 := by omega
          clear hnn c1 c2 c3
          gi_wp2_with fail
          have hcast := HCAST.out
          refine ⟨((KeepsOthers.setCell _ _ _).trans ((KeepsOthers.setCell _ _ _).trans (KeepsOthers.setCell _ _ _))).from _, ⟨rfl, by rw [HN2.out]; simp⟩, ?_⟩
          rw [HN2.out, hcast]
          exact (HPB.out.setMany (m + sz / 16)).early 11 (by decide)
        · have hnn := HNX.out
          rw [if_neg (by omega), if_neg c3] at hnn
          have HN2 := Lib.hid hnn
          have b2 : ¬ (20000 : Int) < (sz : Int) / 16 := by omega
          have b3 : ¬ (20000 : Int) < (m : Int) + (sz : Int) / 16 := by omega
          obtain ⟨q, hq⟩ : ∃ q, q = sz / 16 := ⟨_, rfl⟩
          have hq16 : sz = 16 * q := by omega
          have HPM : Hid (PB w ⟨b, 0, none⟩ cs (m + q) out (W.setCell ⟨w.heap.size + 4, 0, none⟩ (.int .u64 ((m : Int) + (sz : Int) / 16)))) := by
            rw [HCAST.out, ← hq]; exact HPB.out.setMany _
          have HCB2 : Hid ((W.setCell ⟨w.heap.size + 4, 0, none⟩ (.int .u64 ((m : Int) + (sz : Int) / 16))).heap[Bx]? = some (.cells c.cells 164 (0, 0))) := (heap_setCell_other _ _ _ _ (fun e => by
            have e' : Bx = w.heap.size + 4 := e
            have h1 := HPB.out.m
            rw [← e', HCB.out] at h1
            have := Option.some.inj h1
            injection this with _ h3 _
            revert h3; decide)).trans HCB.out
          rw [← hq] at HN2
          have HQ := Lib.hid hq
          have HQ16 := Lib.hid hq16
          have hqb : q ≤ 20000 := by omega
          have hmq : m + q ≤ 20000 := by omega
          clear hnn c1 c2 c3 hq hq16 HPB HCB
          gi_wp2_with fail
          gi_loopw [8] (fun t wr => ∃ j : Nat, j ≤ q ∧ t = .int .u64 (16 * (j : Int)) ∧ Hid ((secRun M ad x.slide j).1 = 0) ∧ Hid (PB w ⟨b, 0, none⟩ cs (m + q) (out ++ (secRun M ad x.slide j).2) wr) ∧ Hid (wr.heap[Bx]? = some (.cells c.cells 164 (0, 0))) ∧ Hid (KeepsOthers W wr)) (fun t _ => 16 * q - (intOf t).toNat)
          case atStart => exact ⟨0, Nat.zero_le _, rfl, rfl, by show PB _ _ _ _ _ _; simp only [secRun, List.append_nil]; exact HPM.out, HCB2.out, KeepsOthers.setCell _ _ _⟩
          case round =>
            obtain ⟨j, hj, rfl, HR0, HPJ, HCJ, HKO⟩ := hrel
            obtain ⟨ca2, ca3⟩ := HCO.out wr HCJ.out
            by_cases hjq : j < q
            · have HPC := HPJ.out.cells
              obtain ⟨cs0, cm, fm, ce, fe, fo⟩ := HPC
              obtain ⟨v, ov, co, _, orow⟩ := HPJ.out.outcell
              have cx := HPJ.out.xcell H25.out
              have HOV := Lib.hid ov
              have HOR := Lib.hid orow
              obtain ⟨a1, ha1⟩ : ∃ a1, a1 = (ad + x.slide) % 18446744073709551616 := ⟨_, rfl⟩
              obtain ⟨a, ha⟩ : ∃ a, a = secAddr ad x.slide (16 * j) := ⟨_, rfl⟩
              have hab : a < 18446744073709551616 := by rw [ha]; unfold secAddr; exact Nat.mod_lt _ (by decide)
              have hw1 : IntKind.u64.wrap ((ad : Int) + (x.slide : Int)) = (a1 : Int) := by rw [u64add, ha1]
              have hw2 : IntKind.u64.wrap ((a1 : Int) + 16 * (j : Int)) = (a : Int) := by
                rw [show 16 * (j : Int) = ((16 * j : Nat) : Int) by omega, u64add, ha, ha1]; rfl
              have HNEXT := Lib.hid (secRun_next HR0.out ha)
              have hread := read_any wr b M F (HSP.out.keepB HPJ.out.below) a 16 hab
              have HRD := Lib.hid hread
              have i1 : 16 * (j : Int) < (sz : Int) := by have := HQ16.out; omega
              have hra := HPJ.out.below.size
              have HSPW := Lib.hid hw1
              have HSPW2 := Lib.hid hw2
              clear ha1 ha hread ov orow
              by_cases he : readErr M a 16 = 0
              · have hnx := HNEXT.out
                rw [if_neg (by simp [he])] at hnx
                have HNX2 := Lib.hid hnx
                obtain ⟨bs, hbs⟩ : ∃ bs, bs = readAll M a 16 := ⟨_, rfl⟩
                have hbl : bs.length = 16 := by rw [hbs]; exact readAll_length M a 16
                have HRD2 : Hid (Calls Try.prog 35 #[.pointer (some ⟨b, 0, none⟩), .int .u64 a, .int .u64 16] wr fun e w' => ∃ g cp, e = .returned (.tuple #[.slice (some ⟨g, 0, none⟩) 16 cp, .int .i64 0]) ∧ Below wr.heap.size wr w' ∧ 16 ≤ cp ∧ cp ≤ 9223372036854775807 ∧ BytesIn w' g 0 bs ∧ g < w'.heap.size) := by
                  refine HRD.out.mono ?_
                  rintro e w' ⟨v', rfl, k1, k2, k3⟩
                  rw [he] at k3 ⊢
                  have k4 := k3 rfl
                  rw [← hbs] at k4
                  rcases k4.2 with ⟨_, h0⟩ | ⟨g, cp, cur, rfl, _, hg, h16, hmx, _, _⟩
                  · omega
                  · refine ⟨g, cp, rfl, k1, h16, by unfold maxLen at hmx; omega, fun jj hjj => ?_, lt_of_block hg⟩
                    obtain ⟨g', e', hcell⟩ := row_cell k4 (i := jj) (by omega)
                    cases e'
                    rw [Nat.zero_add]; exact hcell
                have HBL := Lib.hid hbl
                have HPA : Hid (pairAt M a = (wordOf (bs.take 8), wordOf (bs.drop 8))) := by show _ = _; rw [hbs]; rfl
                have HPJW : Hid (∀ wx, Below wr.heap.size wr wx → PB w ⟨b, 0, none⟩ cs (m + q) (out ++ (secRun M ad x.slide j).2) wx) := fun wx hx => HPJ.out.keepB hx
                have hol : (out ++ (secRun M ad x.slide j).2).length ≤ 20000 := by
                  have := secRun_len M ad x.slide j
                  rw [List.length_append]; omega
                clear HRD HNEXT he HSPW HSPW2 co cm fm hnx hbs hbl
                gi_wp2_with (refine ⟨trivial, ?_⟩; gi_at_call 35; refine (CallsIn.inRound l (callsIn_wide.2 HRD2.out)).mono ?_; rintro e w9 ⟨g, cp, rfl, h9, h16, hcpm, hby, hgl⟩; have H9 := Lib.hid h9; have HBY := Lib.hid hby; clear cs0 cx ce fe fo h9 hby)
                have HWA : Hid (∀ W' : World, Below w9.heap.size w9 W' → Calls Try.prog 81 #[.slice (some ⟨g, 0, none⟩) 8 8] W' fun e w' => e = .returned (.int .u64 (wordOf (bs.take 8))) ∧ W' = w') := fun W' hW' => by
                  have h8 : (bs.take 8).length = 8 := by rw [List.length_take, HBL.out]; rfl
                  have := word81_any W' g 0 8 (bs.take 8) (fun jj hjj => by
                    rw [hW'.cell (p := ⟨g, 0 + jj, none⟩) hgl, HBY.out jj (by rw [HBL.out]; omega)]
                    rw [h8] at hjj
                    simp [List.getD_eq_getElem?_getD, hjj]) (by omega)
                  rwa [h8] at this
                have HWB : Hid (∀ W' : World, Below w9.heap.size w9 W' → Calls Try.prog 81 #[.slice (some ⟨g, 8, none⟩) 8 (cp - 8)] W' fun e w' => e = .returned (.int .u64 (wordOf (bs.drop 8))) ∧ W' = w') := fun W' hW' => by
                  have h8 : (bs.drop 8).length = 8 := by rw [List.length_drop, HBL.out]
                  have := word81_any W' g 8 (cp - 8) (bs.drop 8) (fun jj hjj => by
                    rw [h8] at hjj
                    rw [hW'.cell (p := ⟨g, 8 + jj, none⟩) hgl]
                    have h2 := HBY.out (8 + jj) (by rw [HBL.out]; omega)
                    rw [Nat.zero_add] at h2
                    rw [h2]
                    simp [List.getD_eq_getElem?_getD, List.getElem?_drop]) (by omega)
                  rwa [h8] at this
                have hmix : Try.prog.follows .mixedOrders = true := by kernel_rfl
                have HB9 := HPJW.out _ H9.out
                obtain ⟨cs0, cm, fm, ce, fe, fo⟩ := HB9.cells
                obtain ⟨v, ov, co, _, orow⟩ := HB9.outcell
                have HPB9 := Lib.hid HB9
                have HOV9 := Lib.hid ov
                have HOR9 := Lib.hid orow
                obtain ⟨n1, hn1⟩ : ∃ n1, n1 = wordOf (bs.take 8) := ⟨_, rfl⟩
                obtain ⟨n2, hn2⟩ : ∃ n2, n2 = wordOf (bs.drop 8) := ⟨_, rfl⟩
                rw [← hn1] at HWA HPA
                rw [← hn2] at HWB HPA
                clear ov orow HB9 hn1 hn2
                gi_cut [11, 77] from 58 (fun s11 s77 wx => s77 = undef ∧ ∃ g11 : Nat, s11 = .pointer (some ⟨g11, 0, none⟩) ∧ wx.heap[g11]? = some (.cells #[.int .u64 (n1 : Int), .int .u64 (n2 : Int)] 88 (0, 0)) ∧ Below w9.heap.size w9 wx)
                case first =>
                  refine wpIn_region_any hmix ?_
                  change wpAnyIn _ _ _ _ _ _ _ _ _ w9.drew
                  refine wpAnyIn_round rfl l (noDefer_spec (by kernel_rfl)) _ _ _ _ ?_
                  refine wpAnyIn_take (i := 0) (v := .slice (some ⟨g, 0, none⟩) 16 cp) rfl rfl (by kernel_rfl) (by kernel_rfl) (by kernel_rfl) (fun _ _ _ h => h) ⟨.inl ⟨by rfl, fun _ => rfl⟩, fun _ => rfl⟩ ?_
                  refine wpAnyIn_take (i := 3) (v := .slice (some ⟨g, 0, none⟩) 16 cp) rfl rfl (by kernel_rfl) (by kernel_rfl) (by kernel_rfl) (fun _ _ _ h => h) ⟨.inl ⟨by rfl, fun _ => rfl⟩, fun _ => rfl⟩ ?_
                  simp only [Act.put, List.setIfInBounds_toArray]
                  refine wpAnyIn_take (i := 1) (v := .slice (some ⟨g, 0, none⟩) 8 8) rfl rfl (by kernel_rfl) (by kernel_rfl) (by kernel_rfl) (fun _ _ _ h => h) ⟨.inl ⟨by rfl, fun W => ?sl1⟩, fun _ => rfl⟩ ?_
                  case sl1 => go_simp; intro hcp; omega
                  refine wpAnyIn_take (i := 4) (v := .slice (some ⟨g, 8, none⟩) 8 (cp - 8)) rfl rfl (by kernel_rfl) (by kernel_rfl) (by kernel_rfl) (fun _ _ _ h => h) ⟨.inl ⟨by rfl, fun W => ?sl2⟩, fun _ => rfl⟩ ?_
                  case sl2 => go_simp; omega
                  simp only [Act.put]
                  refine wpAnyIn_ready (rs := [2, 7]) (by kernel_rfl) (by simp) ?_
                  refine AllReadyIn.cons rfl (fun K hK => ?_) ?_
                  · go_simp
                    refine ⟨trivial, ?_⟩
                    gi_at_call 81
                    refine (callsIn_wide.2 (HWA.out _ (by first | exact (Below.refl _ _).drew | exact ((Below.refl _ _).alloc (Nat.le_refl _) _).drew))).mono ?_
                    rintro e _ ⟨rfl, rfl⟩
                    refine hK _ _ ?_
                    clear hK K
                    try simp only [Act.put, List.setIfInBounds_toArray, List.set_cons_zero, List.set_cons_succ]
                    refine wpAnyIn_ready (rs := [5, 7]) (by kernel_rfl) (by simp) ?_
                    refine AllReadyIn.cons rfl (fun K hK => ?_) ?_
                    · go_simp
                      refine ⟨trivial, ?_⟩
                      gi_at_call 81
                      refine (callsIn_wide.2 (HWB.out _ (by first | exact (Below.refl _ _).drew | exact ((Below.refl _ _).alloc (Nat.le_refl _) _).drew))).mono ?_
                      rintro e _ ⟨rfl, rfl⟩
                      refine hK _ _ ?_
                      clear hK K
                      try simp only [Act.put, List.setIfInBounds_toArray, List.set_cons_zero, List.set_cons_succ]
                      refine wpAnyIn_take (i := 6) (v := .agg #[.int .u64 (n1 : Int), .int .u64 (n2 : Int)]) rfl rfl (by kernel_rfl) (by kernel_rfl) (by kernel_rfl) (fun _ _ _ h => h) ⟨.inl ⟨by rfl, fun W => ?b6⟩, fun _ => rfl⟩ ?_
                      case b6 => go_simp
                      try simp only [Act.put, List.setIfInBounds_toArray]
                      refine wpAnyIn_ready (rs := [7]) (by kernel_rfl) (by simp) ?_
                      refine AllReadyIn.cons rfl (fun K hK => ?_) ?_
                      · go_simp
                        refine hK _ _ ?_
                        clear hK K
                        try simp only [Act.put, List.setIfInBounds_toArray, List.set_cons_zero, List.set_cons_succ]
                        refine wpAnyIn_ready (rs := [8]) (by kernel_rfl) (by simp) ?_
                        refine AllReadyIn.cons rfl (fun K hK => ?_) ?_
                        · go_simp
                          refine hK _ _ ?_
                          clear hK K
                          try simp only [Act.put, List.setIfInBounds_toArray, List.set_cons_zero, List.set_cons_succ]
                          refine wpAnyIn_done (by kernel_rfl) ?_ _
                          (gi_wp2_with fail; gi_meet; exact ⟨rfl, w9.heap.size, rfl, hp_new w9 _ _ rfl, ((Below.refl _ w9).alloc (Nat.le_refl _) _).drew⟩)
                        exact AllReadyIn.nil
                      exact AllReadyIn.nil
                    refine AllReadyIn.cons rfl (fun K hK => ?_) ?_
                    · go_simp
                      refine hK _ _ ?_
                      clear hK K
                      try simp only [Act.put, List.setIfInBounds_toArray, List.set_cons_zero, List.set_cons_succ]
                      refine wpAnyIn_ready (rs := [5]) (by kernel_rfl) (by simp) ?_
                      refine AllReadyIn.cons rfl (fun K hK => ?_) ?_
                      · go_simp
                        refine ⟨trivial, ?_⟩
                        gi_at_call 81
                        refine (callsIn_wide.2 (HWB.out _ (by first | exact (Below.refl _ _).drew | exact ((Below.refl _ _).alloc (Nat.le_refl _) _).drew))).mono ?_
                        rintro e _ ⟨rfl, rfl⟩
                        refine hK _ _ ?_
                        clear hK K
                        try simp only [Act.put, List.setIfInBounds_toArray, List.set_cons_zero, List.set_cons_succ]
                        refine wpAnyIn_take (i := 6) (v := .agg #[.int .u64 (n1 : Int), .int .u64 (n2 : Int)]) rfl rfl (by kernel_rfl) (by kernel_rfl) (by kernel_rfl) (fun _ _ _ h => h) ⟨.inl ⟨by rfl, fun W => ?b6⟩, fun _ => rfl⟩ ?_
                        case b6 => go_simp
                        try simp only [Act.put, List.setIfInBounds_toArray]
                        refine wpAnyIn_ready (rs := [8]) (by kernel_rfl) (by simp) ?_
                        refine AllReadyIn.cons rfl (fun K hK => ?_) ?_
                        · go_simp
                          refine hK _ _ ?_
                          clear hK K
                          try simp only [Act.put, List.setIfInBounds_toArray, List.set_cons_zero, List.set_cons_succ]
                          refine wpAnyIn_done (by kernel_rfl) ?_ _
                          (gi_wp2_with fail; gi_meet; exact ⟨rfl, w9.heap.size, rfl, hp_new w9 _ _ rfl, ((Below.refl _ w9).alloc (Nat.le_refl _) _).drew⟩)
                        exact AllReadyIn.nil
                      exact AllReadyIn.nil
                    exact AllReadyIn.nil
                  refine AllReadyIn.cons rfl (fun K hK => ?_) ?_
                  · go_simp
                    refine hK _ _ ?_
                    clear hK K
                    try simp only [Act.put, List.setIfInBounds_toArray, List.set_cons_zero, List.set_cons_succ]
                    refine wpAnyIn_ready (rs := [2]) (by kernel_rfl) (by simp) ?_
                    refine AllReadyIn.cons rfl (fun K hK => ?_) ?_
                    · go_simp
                      refine ⟨trivial, ?_⟩
                      gi_at_call 81
                      refine (callsIn_wide.2 (HWA.out _ (by first | exact (Below.refl _ _).drew | exact ((Below.refl _ _).alloc (Nat.le_refl _) _).drew))).mono ?_
                      rintro e _ ⟨rfl, rfl⟩
                      refine hK _ _ ?_
                      clear hK K
                      try simp only [Act.put, List.setIfInBounds_toArray, List.set_cons_zero, List.set_cons_succ]
                      refine wpAnyIn_ready (rs := [5]) (by kernel_rfl) (by simp) ?_
                      refine AllReadyIn.cons rfl (fun K hK => ?_) ?_
                      · go_simp
                        refine ⟨trivial, ?_⟩
                        gi_at_call 81
                        refine (callsIn_wide.2 (HWB.out _ (by first | exact (Below.refl _ _).drew | exact ((Below.refl _ _).alloc (Nat.le_refl _) _).drew))).mono ?_
                        rintro e _ ⟨rfl, rfl⟩
                        refine hK _ _ ?_
                        clear hK K
                        try simp only [Act.put, List.setIfInBounds_toArray, List.set_cons_zero, List.set_cons_succ]
                        refine wpAnyIn_take (i := 6) (v := .agg #[.int .u64 (n1 : Int), .int .u64 (n2 : Int)]) rfl rfl (by kernel_rfl) (by kernel_rfl) (by kernel_rfl) (fun _ _ _ h => h) ⟨.inl ⟨by rfl, fun W => ?b6⟩, fun _ => rfl⟩ ?_
                        case b6 => go_simp
                        try simp only [Act.put, List.setIfInBounds_toArray]
                        refine wpAnyIn_ready (rs := [8]) (by kernel_rfl) (by simp) ?_
                        refine AllReadyIn.cons rfl (fun K hK => ?_) ?_
                        · go_simp
                          refine hK _ _ ?_
                          clear hK K
                          try simp only [Act.put, List.setIfInBounds_toArray, List.set_cons_zero, List.set_cons_succ]
                          refine wpAnyIn_done (by kernel_rfl) ?_ _
                          (gi_wp2_with fail; gi_meet; exact ⟨rfl, w9.heap.size, rfl, hp_new w9 _ _ rfl, ((Below.refl _ w9).alloc (Nat.le_refl _) _).drew⟩)
                        exact AllReadyIn.nil
                      exact AllReadyIn.nil
                    exact AllReadyIn.nil
                  exact AllReadyIn.nil
                case rest =>
                  obtain ⟨rfl, g11, rfl, hcut1, hcut2⟩ := hcut
                  have HWX := Lib.hid hcut2
                  have HG11 := Lib.hid hcut1
                  have hg0 : wc.cell? ⟨g11, 0, none⟩ = some (.int .u64 (n1 : Int)) := by simp [World.cell?, hcut1]
                  have hg1 : wc.cell? ⟨g11, 1, none⟩ = some (.int .u64 (n2 : Int)) := by simp [World.cell?, hcut1]
                  have HBX := HPB9.out.keepB hcut2
                  have HCB9 : Hid (wc.heap[Bx]? = some (.cells c.cells 164 (0, 0))) := (hcut2.block Bx (Nat.lt_of_lt_of_le (lt_of_block HCJ.out) H9.out.size)).trans ((H9.out.block Bx (lt_of_block HCJ.out)).trans HCJ.out)
                  have HKW : Hid (KeepsOthers W wc) := (HKO.out.trans (KeepsOthers.of_below H9.out)).trans (KeepsOthers.of_below hcut2)
                  clear cs0 cm fm ce fe fo co
                  obtain ⟨v2, ov2, co2, fo2, orow2⟩ := HBX.outcell
                  obtain ⟨ca2', ca3'⟩ := HCO.out wc HCB9.out
                  have HPBX := Lib.hid HBX
                  have HOV2 := Lib.hid ov2
                  have HOR2 := Lib.hid orow2
                  have hbx9 := HBX.below.size
                  obtain ⟨oo, hoo⟩ : ∃ oo, oo = out ++ (secRun M ad x.slide j).2 := ⟨_, rfl⟩
                  rw [← hoo] at HPBX HOR2 hol
                  have HOO := Lib.hid hoo
                  clear hoo
                  clear hcut1 hcut2 HBX ov2 orow2 ca2 ca3
                  by_cases k1 : n1 = 0
                  · have HST : Hid (secRun M ad x.slide (j + 1) = (0, (secRun M ad x.slide j).2)) := by
                      show _ = _
                      rw [HNX2.out, HPA.out, if_neg (by simp [k1])]
                    have d1 : ((n1 : Int) != 0) = false := by simp [k1]
                    clear k1
                    gi_wp2_with fail
                    go_roundw
                    case rel => exact ⟨j + 1, by omega, by go_num, by show _ = _; rw [HST.out], by show PB _ _ _ _ _ _; rw [HST.out, ← HOO.out]; exact HPBX.out, HCB9.out, HKW.out⟩
                    case measure => simp [intOf]; omega
                  · by_cases k2 : n2 = 0
                    · have HST : Hid (secRun M ad x.slide (j + 1) = (0, (secRun M ad x.slide j).2)) := by
                        show _ = _
                        rw [HNX2.out, HPA.out, if_neg (by simp [k2])]
                      have d1 : ((n1 : Int) != 0) = true := by simp; exact k1
                      have d2 : ((n2 : Int) != 0) = false := by simp [k2]
                      clear k1 k2
                      gi_wp2_with fail
                      go_roundw
                      case rel => exact ⟨j + 1, by omega, by go_num, by show _ = _; rw [HST.out], by show PB _ _ _ _ _ _; rw [HST.out, ← HOO.out]; exact HPBX.out, HCB9.out, HKW.out⟩
                      case measure => simp [intOf]; omega
                    · have HST : Hid (secRun M ad x.slide (j + 1) = (0, (secRun M ad x.slide j).2 ++ [(n1, n2)])) := by
                        show _ = _
                        rw [HNX2.out, HPA.out, if_pos ⟨k1, k2⟩]
                      have d1 : ((n1 : Int) != 0) = true := by simp; exact k1
                      have d2 : ((n2 : Int) != 0) = true := by simp; exact k2
                      have HWC : Hid (∀ o, Below wc.heap.size wc (wc.alloc o)) := fun o => (Below.refl _ wc).alloc (Nat.le_refl _) o
                      clear k1 k2
                      have HCG : Hid (CellsAt wc g11 0 #[.int .u64 (n1 : Int), .int .u64 (n2 : Int)]) := fun jj vv hjj => by
                        simp only [World.cell?, HG11.out, Nat.zero_add]; exact hjj
                      obtain ⟨i88, hi88, hz88, hs88, hy88⟩ := info_parts info88
                      gi_wp2_with (first
                        | (refine wpListIn_load_agg rfl 88 (.tmp 11) rfl g11 0 rfl _ _ HCG.out Try.underlying88 rfl size88 ?_)
                        | (gi_at_builtin; refine wpListIn_append_own _ rfl _ _ 82 rfl w.heap.size 88 i88 (.agg #[.int .u64 0, .int .u64 0]) 2 16 Try.underlying82 hi88 hz88 hs88 hy88 rfl (by decide) v2 _ _ rfl (HOR2.out.alloc _) ⟨wc.heap.size, 0, none⟩ 1 1 [.int .u64 (n1 : Int), .int .u64 (n2 : Int)] rfl rfl (World.news_of_block (heap_alloc_new wc _)) (by simp [Value.oneCell']) (by unfold maxLen; omega) (by omega) (by simp; omega) ?_; intro v3 w3 hown3 hgrow3 _; obtain ⟨gN, cN, rfl⟩ := ownsRow_succ hown3; obtain ⟨p1, p2, p3, p4, p5⟩ := HPBX.out.push HOV2.out HOR2.out (HWC.out _) (p := (n1, n2)) hown3 hgrow3; have q1 := cell_of_one p1; have q2 := free_of_one p1; have P2 := Lib.hid p2; have P3 := Lib.hid p3; have P5 := Lib.hid (p5 Bx _ _ _ (by decide) (by decide) HCB9.out); clear p1 p2 p3 p4 p5 hown3 hgrow3))
                      go_roundw
                      case rel => exact ⟨j + 1, by omega, by go_num, by show _ = _; rw [HST.out], by show PB _ _ _ _ _ _; rw [HST.out, ← List.append_assoc, ← HOO.out]; exact P2.out, P5.out, HKW.out.trans P3.out⟩
                      case measure => simp [intOf]; omega
              · have hnx := HNEXT.out
                rw [if_pos he] at hnx
                have HST : Hid ((secRun M ad x.slide q).1 = readErr M a 16) := by
                  show _ = _
                  rw [secRun_stuck (j := j + 1) (by rw [hnx]; exact he) (by omega), hnx]
                have HE := Lib.hid he
                clear hnx
                have HRD2 : Hid (Calls Try.prog 35 #[.pointer (some ⟨b, 0, none⟩), .int .u64 a, .int .u64 16] wr fun e w' => e = .returned (.tuple #[.slice none 0 0, .int .i64 (readErr M a 16)]) ∧ Below wr.heap.size wr w') := by
                  refine HRD.out.mono ?_
                  rintro e w' ⟨v', rfl, k1, k2, k3⟩
                  rw [k2 he]; exact ⟨rfl, k1⟩
                obtain ⟨er, her⟩ : ∃ er, er = readErr M a 16 := ⟨_, rfl⟩
                rw [← her] at HRD2 HST HE he
                have i2 : ((er : Int) != 0) = true := by rw [bne_iff_ne]; exact he
                have HPJW : Hid (∀ wx, Below wr.heap.size wr wx → PB w ⟨b, 0, none⟩ cs (m + q) (out ++ (secRun M ad x.slide j).2) wx) := fun wx hx => HPJ.out.keepB hx
                clear HRD HNEXT he her HSPW HSPW2 co cm fm
                gi_wp2_with (refine ⟨trivial, ?_⟩; gi_at_call 35; refine (CallsIn.inRound l (callsIn_wide.2 HRD2.out)).mono ?_; rintro e w9 ⟨rfl, h9⟩; have H9 := Lib.hid h9; clear cs0 ce fe fo; obtain ⟨_, _, _, ce, fe, fo⟩ := (HPJW.out _ h9).cells; obtain ⟨_, _, co, _, _⟩ := (HPJW.out _ h9).outcell; clear h9)
                have hn2 := HN2.out
                rw [HST.out, if_pos HE.out] at hn2
                refine ⟨(((HKO.out.trans (KeepsOthers.of_below H9.out)).trans (KeepsOthers.setCell _ _ _)).trans (KeepsOthers.setCell _ _ _)).from _, ⟨rfl, by rw [hn2]; exact HE.out⟩, ?_⟩
                rw [hn2]
                exact (HPJW.out _ H9.out).early er HE.out
            · obtain rfl : j = q := by omega
              have hn2 := HN2.out
              rw [HR0.out, if_neg (by simp)] at hn2
              have HN3 := Lib.hid hn2
              have i1 : ¬ 16 * (j : Int) < (sz : Int) := by have := HQ16.out; omega
              clear hn2
              gi_wp2_with fail
              exact ⟨HKO.out.from _, below_between HBW.out HPJ.out.below HKO.out.size, by rw [HN3.out]; exact HPJ.out, by rw [HN3.out]⟩
    · have hcast : ((m : Int) + (sz : Int) / 16) = ((m + sz / 16 : Nat) : Int) := by omega
      have HCAST := Lib.hid hcast
      have b1 : ((sz : Int) % 16 != 0) = true := by rw [bne_iff_ne]; omega
      have hnn := HNX.out
      rw [if_pos c1] at hnn
      have HN2 := Lib.hid hnn
      clear hnn c1 hcast
      gi_wp2_with fail
      have hcast := HCAST.out
      refine ⟨((KeepsOthers.setCell _ _ _).trans ((KeepsOthers.setCell _ _ _).trans (KeepsOthers.setCell _ _ _))).from _, ⟨rfl, by rw [HN2.out]; simp⟩, ?_⟩
      rw [HN2.out, hcast]
      exact (HPB.out.setMany (m + sz / 16)).early 9 (by decide)
  case done =>
    rintro D ys W hD rfl ⟨hPB, herr⟩ hK
    obtain ⟨cs0, cm, fm, ce, fe, fo⟩ := hPB.cells
    obtain ⟨v, ov, co, _, orow⟩ := hPB.outcell
    obtain ⟨va, vc, rfl⟩ := ownsRow_shape orow
    have hdl := lt_of_block hK
    have h1 := one_setCell (u := .slice va (pst M x.slide (want L.flatten)).out.length vc) ov
    have h2 : (W.setCell ⟨w.heap.size + 2, 0, none⟩ (.slice va (pst M x.slide (want L.flatten)).out.length vc)).heap[w.heap.size + 3]? = some (.cells #[.int .i64 0] 45 (0, 0)) := (heap_setCell_other _ _ _ _ (by simp)).trans hPB.e
    have h3 := one_setCell (u := .int .i64 0) h2
    have h4 := (heap_setCell_other _ ⟨w.heap.size + 3, 0, none⟩ (w.heap.size + 2) (.int .i64 0) (by simp)).trans h1
    have h5 : ((W.setCell ⟨w.heap.size + 2, 0, none⟩ (.slice va (pst M x.slide (want L.flatten)).out.length vc)).setCell ⟨w.heap.size + 3, 0, none⟩ (.int .i64 0)).heap[D]? = some (.deferred (some [])) := by
      rw [heap_setCell_other _ _ _ _ (by simp; omega), heap_setCell_other _ _ _ _ (by simp; omega)]; exact hK
    have hbb : Below w.heap.size w ((W.setCell ⟨w.heap.size + 2, 0, none⟩ (.slice va (pst M x.slide (want L.flatten)).out.length vc)).setCell ⟨w.heap.size + 3, 0, none⟩ (.int .i64 0)) := (hPB.below.setCell (by simp) _).setCell (by simp) _
    have hoo : ((W.setCell ⟨w.heap.size + 2, 0, none⟩ (.slice va (pst M x.slide (want L.flatten)).out.length vc)).setCell ⟨w.heap.size + 3, 0, none⟩ (.int .i64 0)).ownsRow w.heap.size 88 2 (.slice va (pst M x.slide (want L.flatten)).out.length vc) (pst M x.slide (want L.flatten)).out.length (flat (pst M x.slide (want L.flatten)).out) :=
      owns2_same orow fun g hg => by
        rw [heap_setCell_other _ _ _ _ (fun e => row2_other orow (t := 45) (by decide) hPB.e (by rw [hg, e])), heap_setCell_other _ _ _ _ (fun e => row2_other orow (t := 82) (by decide) ov (by rw [hg, e]))]
    have H3 := Lib.hid h3
    have H4 := Lib.hid h4
    have H5 := Lib.hid h5
    have HBB := Lib.hid hbb
    have HOO := Lib.hid hoo
    have HERR := Lib.hid herr
    clear h1 h2 h3 h4 h5 hbb hoo hPB orow ov hK hbx hP6 herr
    rw [← hA]
    generalize (pst M x.slide (want L.flatten)).out = oo at *
    gi_wp2_with fail
    exact pairs_end (by rfl) (by rfl) H4.out H3.out H5.out (by omega) (by omega) ⟨_, by rw [HERR.out], below_put HBB.out H5.out (by omega), fun h => absurd HERR.out h, fun _ => owns2_put HOO.out H5.out rfl⟩
  case stop =>
    rintro D c pre W hD hpre ⟨⟨rfl, hne⟩, hPX⟩ hK
    obtain ⟨m, hm⟩ := hpre
    have he : pst M x.slide (want L.flatten) = pst M x.slide pre := by
      rw [← hm]; unfold pst; rw [List.map_append]; exact pFold_stuck hne
    rw [he]
    obtain ⟨k1, k2, k3, _⟩ := hPX
    have H3 := Lib.hid k3
    have H4 := Lib.hid k2
    have H5 := Lib.hid hK
    have HBB := Lib.hid k1
    have HNE := Lib.hid hne
    clear hm he k1 k2 k3 hK hbx hP6 hne
    rw [← hA]
    generalize pst M x.slide pre = st at *
    gi_wp2_with fail
    exact pairs_end (by rfl) (by rfl) H4.out H3.out H5.out (by omega) (by omega) ⟨_, rfl, below_put HBB.out H5.out (by omega), fun _ => rfl, fun h => absurd h HNE.out⟩
end Go.Proofs.Ytepnaalgobhcdaa
namespace Go.Proofs.Ytepnaalgobhcdaa
open Go.RowKit Go.Shelf Spm
attribute [local go_sem] Oper.semAt_some

/-- An image as Pairs reads it: its slide; address and size of each section of pairs. -/
abbrev Im := Nat × List (Nat × Nat)
def ImP (w : World) (cs : Array Value) (p : Im) : Prop :=
  cs.size = 27 ∧ cs.all (·.oneCell') = true ∧ cs[25]? = some (.int .u64 p.1) ∧ ∃ (L : List (List SecC)) (a : Option Addr) (c : Nat), SegsC w a L ∧ cs[5]? = some (.slice a L.length c) ∧ (L.length ≤ c ∧ c ≤ maxLen) ∧ (want L.flatten).map ps = p.2
theorem ImP.keep {w w' : World} {cs : Array Value} {p : Im} (h : ImP w cs p) (hb : Below w.heap.size w w') : ImP w' cs p := by
  obtain ⟨h1, h0, h2, L, a, c, h3, h4⟩ := h
  exact ⟨h1, h0, h2, L, a, c, h3.keep hb, h4⟩
def ImPAt (w : World) (p : Im) (b off : Nat) : Prop := ∃ cs, CellsAt w b off cs ∧ ImP w cs p
theorem ImPAt.keep {w w' : World} {p : Im} {b off : Nat} (h : ImPAt w p b off) (hb : Below w.heap.size w w') : ImPAt w' p b off := by
  obtain ⟨cs, h1, h2⟩ := h
  exact ⟨cs, h1.keep hb, h2.keep hb⟩
/-- A slice of images. -/
def ImsP (w : World) (a : Option Addr) (l : List Im) : Prop := SliceOf a l.length 27 fun j => ImPAt w (l.getD j (0, []))
theorem ImsP.keep {w w' : World} {a : Option Addr} {l : List Im} (h : ImsP w a l) (hb : Below w.heap.size w w') : ImsP w' a l := h.mono fun _ _ _ _ h => h.keep hb
theorem ImsP.nil (w : World) (a : Option Addr) : ImsP w a [] := fun j hj => absurd hj (Nat.not_lt_zero j)
def pOf (M : List Pg) (p : Im) : PSt := pFold M p.1 p.2
theorem pairs_im (w : World) (b : Nat) (M : List Pg) (F : Nat → Prop) (h : SpIn w b M F) (cs : Array Value) (p : Im) (hp : ImP w cs p) :
    Calls Try.prog 46 #[.pointer (some ⟨b, 0, none⟩), .agg cs] w (PairsRes w (pOf M p).err (pOf M p).out) := by
  obtain ⟨h1, _, h2, L, a, c, h3, h4, h5, h6⟩ := hp
  have := pairs_any w b M F h cs ⟨p.1, [], [], []⟩ h1 h2 L a c h3 h4 h5
  unfold pst at this
  rw [h6] at this
  exact this

/-! ### The table: which address goes where, and of which image -/
abbrev Tab := List (Nat × Nat × Nat)
def tget (T : Tab) (k : Nat) : Option (Nat × Nat) := (T.find? fun x => x.1 == k).map (·.2)
/-- A pair (to, from): kept if its key is new. -/
def tput (T : Tab) (i : Nat) (p : Nat × Nat) : Tab := if (tget T p.2).isSome then T else T ++ [(p.2, p.1, i)]
def tadd (T : Tab) (i : Nat) (l : List (Nat × Nat)) : Tab := l.foldl (fun T p => tput T i p) T
theorem tadd_snoc (T : Tab) (i : Nat) (l : List (Nat × Nat)) (p : Nat × Nat) : tadd T i (l ++ [p]) = tput (tadd T i l) i p := by simp [tadd]
theorem tput_len (T : Tab) (i : Nat) (p : Nat × Nat) : (tput T i p).length ≤ T.length + 1 := by
  unfold tput; split <;> simp
theorem tadd_len (T : Tab) (i : Nat) (l : List (Nat × Nat)) : (tadd T i l).length ≤ T.length + l.length := by
  refine snoc_induction (p := fun l => (tadd T i l).length ≤ T.length + l.length) (by simp [tadd]) (fun l x ih => ?_) l
  show (tadd T i (l ++ [x])).length ≤ T.length + (l ++ [x]).length
  rw [tadd_snoc]
  have := tput_len (tadd T i l) i x
  simp only [List.length_append, List.length_singleton]
  omega
theorem tget_put_new (T : Tab) (i : Nat) (p : Nat × Nat) (h : tget T p.2 = none) (k : Nat) : tget (tput T i p) k = if k = p.2 then some (p.1, i) else tget T k := by
  unfold tput
  rw [h, if_neg (by simp)]
  unfold tget at h ⊢
  rw [List.find?_append]
  by_cases e : k = p.2
  · subst e
    rw [if_pos rfl]
    have : T.find? (fun x => x.1 == p.2) = none := by simpa using h
    rw [this]; simp
  · rw [if_neg e]
    have : ([(p.2, p.1, i)] : Tab).find? (fun x => x.1 == k) = none := by
      have e2 : (p.2 == k) = false := by simp; exact fun h => e h.symm
      simp [List.find?, e2]
    rw [this]; simp
structure TSt where
  tab : Tab
  at_ : Nat
  err : Int
def tStep (M : List Pg) (j : Nat) (p : Im) (s : TSt) : TSt :=
  if s.err ≠ 0 then s else if (pOf M p).err ≠ 0 then ⟨[], j, (pOf M p).err⟩ else ⟨tadd s.tab j (pOf M p).out, 0, 0⟩
def tRun (M : List Pg) (l : List Im) : Nat → TSt
  | 0 => ⟨[], 0, 0⟩
  | j + 1 => tStep M j (l.getD j (0, [])) (tRun M l j)
def tMap (M : List Pg) (l : List Im) : TSt := tRun M l l.length
theorem tRun_stuck {M : List Pg} {l : List Im} {j k : Nat} (h : (tRun M l j).err ≠ 0) (hk : j ≤ k) : tRun M l k = tRun M l j := by
  induction k with
  | zero => obtain rfl : j = 0 := by omega
            rfl
  | succ k ih =>
    by_cases e : j = k + 1
    · rw [e]
    · rw [tRun, ih (by omega)]
      unfold tStep; rw [if_pos h]
theorem tRun_at {M : List Pg} {l : List Im} {j : Nat} (h : (tRun M l j).err = 0) : (tRun M l j).at_ = 0 := by
  cases j with
  | zero => rfl
  | succ j =>
    rw [tRun] at h ⊢
    revert h
    unfold tStep
    split
    · exact fun h' => absurd h' ‹_›
    · split
      · exact fun h' => absurd h' ‹_›
      · exact fun _ => rfl
theorem tRun_len {M : List Pg} {l : List Im} : ∀ j, (tRun M l j).tab.length ≤ 20000 * j
  | 0 => by simp [tRun]
  | j + 1 => by
    have h := tRun_len (M := M) (l := l) j
    rw [tRun]
    unfold tStep
    split
    · omega
    · split
      · simp
      · have h2 := tadd_len (tRun M l j).tab j (pOf M (l.getD j (0, []))).out
        have h3 := pFold_bound M (l.getD j (0, [])).1 (l.getD j (0, [])).2
        unfold pOf at h2 ⊢
        simp only
        omega
def tSwap (T : Tab) (i a : Nat) : Nat := match tget T a with
  | some (tt, im) => if im = i then a else tt
  | none => a
end Go.Proofs.Ytepnaalgobhcdaa
namespace Go.Proofs.Ytepnaalgobhcdaa
open Go.RowKit Spm
open Go.Maps (Keyed)

def swElem (v : Value) : Option (DataW Unit × List MemPlace) := match v with
  | .agg cs => match cs.toList with
    | [.int .u64 t, .int .i64 i] => if t = 0 ∧ i = 0 then some (.nil, []) else some (.agg [.lit (.int .u64 t), .lit (.int .i64 i)], [])
    | _ => none
  | _ => none
def swVal (p : Nat × Nat) : Value := .agg #[.int .u64 (p.1 : Int), .int .i64 (p.2 : Int)]
def swData (p : Nat × Nat) : DataW Unit := .agg [.lit (.int .u64 (p.1 : Int)), .lit (.int .i64 (p.2 : Int))]
theorem swElem_val (p : Nat × Nat) (h : p.1 ≠ 0) : swElem (swVal p) = some (swData p, []) := by
  simp only [swElem, swVal, swData]
  rw [if_neg (by omega)]
theorem swElem_zero : swElem (swVal (0, 0)) = some (.nil, []) := by simp [swElem, swVal]
theorem swElem_inv {v : Value} {p : Nat × Nat} {ps : List MemPlace} (h : swElem v = some (swData p, ps)) : v = swVal p := by
  unfold swElem at h
  split at h
  · rename_i cs
    split at h
    · rename_i t i hcs
      split at h
      · cases h
      · unfold swData at h
        simp at h
        obtain ⟨⟨e1, e2⟩, _⟩ := h
        unfold swVal
        congr 1
        apply Array.ext'
        rw [hcs, ← e1, ← e2]
    · cases h
  · cases h
theorem swElem_nil {v : Value} {ps : List MemPlace} (h : swElem v = some (.nil, ps)) : v = swVal (0, 0) := by
  unfold swElem at h
  split at h
  · rename_i cs
    split at h
    · rename_i t i hcs
      split at h
      · rename_i hz
        unfold swVal
        congr 1
        apply Array.ext'
        rw [hcs, hz.1, hz.2]; rfl
      · cases h
    · cases h
  · cases h
theorem zero97 (w : World) : (zeroValue 97).run Try.prog w = .ok (swVal (0, 0)) w := by kernel_rfl

/-- Block b is a map that holds the table. -/
def SwMap (w : World) (b : Nat) (T : Tab) : Prop :=
  ∃ D : DataW Unit, w.ownsMap Try.prog 32 swElem b T.length D ∧ Maps.size D = T.length ∧ ∀ n, n < 18446744073709551616 → (tget T n = none → Maps.has D (key n) = false) ∧ ∀ p, tget T n = some p → Maps.has D (key n) = true ∧ ∀ z, D.atKey (key n) z = swData p
theorem SwMap.lt {w : World} {b : Nat} {T : Tab} (h : SwMap w b T) : b < w.heap.size := by
  obtain ⟨D, h1, _⟩ := h; exact h1.lt
theorem SwMap.kept {w w' : World} {b : Nat} {T : Tab} (h : SwMap w b T) (he : w'.heap[b]? = w.heap[b]?) : SwMap w' b T := by
  obtain ⟨D, ⟨es, clock, hb, r⟩, h2⟩ := h
  exact ⟨D, ⟨es, clock, he.trans hb, r⟩, h2⟩
theorem SwMap.keepB {w w' : World} {b : Nat} {T : Tab} (h : SwMap w b T) (hb : Below w.heap.size w w') : SwMap w' b T := h.kept (hb.block b h.lt)
theorem SwMap.made (w : World) : SwMap (w.alloc (.map #[] 0)) w.heap.size [] :=
  ⟨.map [], World.ownsMap_made _ _ _ _, rfl, fun n _ => ⟨fun _ => rfl, fun p hp => by cases hp⟩⟩
theorem SwMap.notCells {w : World} {b : Nat} {T : Tab} (h : SwMap w b T) {cs : Array Value} {t : TypeId} {fr : Nat × Nat} : w.heap[b]? ≠ some (.cells cs t fr) := by
  obtain ⟨D, ⟨es, clock, hb, r⟩, h2⟩ := h
  rw [hb]; intro e; cases e
theorem SwMap.look {w : World} {b : Nat} {T : Tab} (h : SwMap w b T) {n : Nat} (hn : n < 18446744073709551616) :
    (Instr.lookup 90 (.map (some b)) (.int .u64 (n : Int)) true).run Try.prog w = .ok (.tuple #[swVal ((tget T n).getD (0, 0)), .bool (tget T n).isSome]) w ∧
    (Instr.lookup 90 (.map (some b)) (.int .u64 (n : Int)) false).run Try.prog w = .ok (swVal ((tget T n).getD (0, 0))) w := by
  obtain ⟨D, hown, hs, hf⟩ := h
  obtain ⟨v, ps, h1, h2⟩ := hown.look_ok law76 Try.underlying90 (zero97 w) swElem_zero (keyOf_u64 hn)
  obtain ⟨v', ps', h1', h2'⟩ := hown.lookup law76 Try.underlying90 (zero97 w) swElem_zero (keyOf_u64 hn)
  cases hfn : tget T n with
  | none =>
    have hh := (hf n hn).1 hfn
    rw [Maps.atKey_of_not_has hh] at h2 h2'
    rw [h1, h1', hh, swElem_nil h2, swElem_nil h2']
    exact ⟨rfl, rfl⟩
  | some p =>
    obtain ⟨hh, ha⟩ := (hf n hn).2 p hfn
    rw [ha] at h2 h2'
    rw [h1, h1', hh, swElem_inv h2, swElem_inv h2']
    exact ⟨rfl, rfl⟩
/-- A map value: one of a table, or the nil one with none. -/
def SwVal (w : World) (v : Value) (T : Tab) : Prop := (∃ b, v = .map (some b) ∧ SwMap w b T) ∨ (v = .map none ∧ T = [])
theorem SwVal.keepB {w w' : World} {v : Value} {T : Tab} (h : SwVal w v T) (hb : Below w.heap.size w w') : SwVal w' v T := by
  rcases h with ⟨b, rfl, h⟩ | h
  · exact .inl ⟨b, rfl, h.keepB hb⟩
  · exact .inr h
theorem SwVal.look {w : World} {v : Value} {T : Tab} (h : SwVal w v T) {n : Nat} (hn : n < 18446744073709551616) :
    (Instr.lookup 90 v (.int .u64 (n : Int)) true).run Try.prog w = .ok (.tuple #[swVal ((tget T n).getD (0, 0)), .bool (tget T n).isSome]) w ∧
    (Instr.lookup 90 v (.int .u64 (n : Int)) false).run Try.prog w = .ok (swVal ((tget T n).getD (0, 0))) w := by
  rcases h with ⟨b, rfl, h⟩ | ⟨rfl, rfl⟩
  · exact h.look hn
  · exact ⟨Maps.look_nil true law76 Try.underlying90 (zero97 w) (keyOf_u64 hn), Maps.look_nil false law76 Try.underlying90 (zero97 w) (keyOf_u64 hn)⟩
section
variable {ops : Array Oper} {rest : List Oper} {o : Oper} {a : Act} {w : World} {Q : Exit → Act → World → Prop}
/-- 's, is := m[n]'. -/
theorem wpList_sw_ok (hw : Region.wanted o (yielded ops a.tmps) = true) (m x : Operand) (hop : o.op = Op.lookup 90 m x true) {v : Value} {T : Tab} (h : SwVal w v T) (hm : a.eval m = v) (n : Nat) (hn : n < 18446744073709551616) (hx : a.eval x = .int .u64 (n : Int))
    (hK : wpList Try.prog ops Q rest (a.put o.dst (.tuple #[swVal ((tget T n).getD (0, 0)), .bool (tget T n).isSome])) w) : wpList Try.prog ops Q (o :: rest) a w := by
  refine wpList_run hw (.tuple #[swVal ((tget T n).getD (0, 0)), .bool (tget T n).isSome]) ?_ hK
  simp [execOp, hop, hm, hx, (h.look hn).1, Result.andThen]
/-- 'm[n]'. -/
theorem wpList_sw (hw : Region.wanted o (yielded ops a.tmps) = true) (m x : Operand) (hop : o.op = Op.lookup 90 m x false) {v : Value} {T : Tab} (h : SwVal w v T) (hm : a.eval m = v) (n : Nat) (hn : n < 18446744073709551616) (hx : a.eval x = .int .u64 (n : Int))
    (hK : wpList Try.prog ops Q rest (a.put o.dst (swVal ((tget T n).getD (0, 0)))) w) : wpList Try.prog ops Q (o :: rest) a w := by
  refine wpList_run hw (swVal ((tget T n).getD (0, 0))) ?_ hK
  simp [execOp, hop, hm, hx, (h.look hn).2, Result.andThen]
/-- 'len(m)'. -/
theorem wpList_sw_len (hw : Region.wanted o (yielded ops a.tmps) = true) (m : Operand) (hop : o.op = Op.call { callee := Callee.builtin Builtin.len, args := #[m], argTypes := #[90] }) {v : Value} {T : Tab} (h : SwVal w v T) (hm : a.eval m = v)
    (hK : wpList Try.prog ops Q rest (a.put o.dst (.int .i64 (T.length : Int))) w) : wpList Try.prog ops Q (o :: rest) a w := by
  have hl : ∀ ty, (Builtin.len_ #[90] ty #[v]).run Try.prog w = .ok (.int .i64 (T.length : Int)) w := fun ty => by
    rcases h with ⟨b, rfl, D, hown, hs, _⟩ | ⟨rfl, rfl⟩
    · rw [hown.len Try.underlying90 ty, hs]
    · exact Maps.len_nil Try.underlying90 ty
  refine wpList_step fun K hK' => ?_
  rw [if_pos hw]
  unfold Oper.wp
  simp [execOp, hop, resolve, invoke, builtin, hm, hl o.type, Result.andThen]
  exact hK' _ _ hK
/-- 'm[n] = swap{..}', n not there before. -/
theorem wpList_sw_put (hg : o.guard = none) (m x v : Operand) (hop : o.op = Op.mapUpdate 90 m x v) (b : Nat) {T : Tab} (h : SwMap w b T) (hm : a.eval m = .map (some b)) (hc : T.length < 1000000) (p : Nat × Nat) (i : Nat) (hn : p.2 < 18446744073709551616) (hx : a.eval x = .int .u64 (p.2 : Int))
    (hnone : tget T p.2 = none) (h0 : p.1 ≠ 0) (hv : a.eval v = swVal (p.1, i))
    (hK : ∀ w', SwMap w' b (tput T i p) → w.grownBy w' (some b) → wpList Try.prog ops Q rest (a.put o.dst undef) w') : wpList Try.prog ops Q (o :: rest) a w := by
  obtain ⟨D, hown, hs, hf⟩ := h
  refine wpList_mapUpdate_own w hg m x v 90 hop 32 97 law76 Try.underlying90 swElem b T.length D hm hown (by unfold maxLen; omega) _ _ (key p.2) hx hv (keyOf_u64 hn) (swData (p.1, i)) [] (swElem_val _ h0) ?_
  intro w' hown' hg'
  have hmap := hown.isMap
  have hk : WideAt.IsKeyLit (key p.2) := trivial
  have hlen : (tput T i p).length = T.length + 1 := by unfold tput; rw [hnone, if_neg (by simp)]; simp
  refine hK w' ⟨_, by rw [hlen]; exact hown', ?_, fun k hk' => ?_⟩ hg'
  · rw [Maps.size_put (hown.tidy law76), (hf p.2 hn).1 hnone, hs, hlen]; rfl
  · rw [tget_put_new T i p hnone]
    refine ⟨fun hkn => ?_, fun q hq => ?_⟩
    · by_cases e : k = p.2
      · rw [if_pos e] at hkn; cases hkn
      · rw [if_neg e] at hkn
        rw [Maps.has_put_other (key_ne e)]
        exact (hf k hk').1 hkn
    · by_cases e : k = p.2
      · subst e
        rw [if_pos rfl] at hq
        cases hq
        exact ⟨Maps.has_put_same hmap hk _, fun z => Maps.atKey_put_same hmap hk _ z⟩
      · rw [if_neg e] at hq
        obtain ⟨q1, q2⟩ := (hf k hk').2 q hq
        exact ⟨by rw [Maps.has_put_other (key_ne e)]; exact q1, fun z => by rw [Maps.atKey_put_other (key_ne e)]; exact q2 z⟩
end
end Go.Proofs.Ytepnaalgobhcdaa
namespace Go.Proofs.Ytepnaalgobhcdaa
open Go.RowKit Go.Shelf Spm

theorem secRun_good (M : List Pg) (addr slide : Nat) : ∀ j, ∀ p ∈ (secRun M addr slide j).2, p.1 ≠ 0 ∧ p.1 < 18446744073709551616 ∧ p.2 < 18446744073709551616
  | 0 => fun p h => by simp [secRun] at h
  | j + 1 => fun p h => by
    have ih := secRun_good M addr slide j
    unfold secRun at h
    split at h
    · exact ih p h
    · split at h
      · exact ih p h
      · split at h
        · rename_i h2
          rcases List.mem_append.1 h with h | h
          · exact ih p h
          · rw [List.mem_singleton] at h
            rw [h]
            refine ⟨h2.1, ?_⟩
            have l1 := wordOf_lt ((readAll M (secAddr addr slide (16 * j)) 16).take 8)
            have l2 := wordOf_lt ((readAll M (secAddr addr slide (16 * j)) 16).drop 8)
            rw [List.length_take, readAll_length] at l1
            rw [List.length_drop, readAll_length] at l2
            exact ⟨l1, l2⟩
        · exact ih p h
theorem pFold_good (M : List Pg) (slide : Nat) (l : List (Nat × Nat)) : ∀ p ∈ (pFold M slide l).out, p.1 ≠ 0 ∧ p.1 < 18446744073709551616 ∧ p.2 < 18446744073709551616 := by
  refine snoc_induction (p := fun l => ∀ p ∈ (pFold M slide l).out, p.1 ≠ 0 ∧ p.1 < 18446744073709551616 ∧ p.2 < 18446744073709551616) (by simp [pFold]) (fun l x ih => ?_) l
  show ∀ p ∈ (pFold M slide (l ++ [x])).out, _
  rw [pFold_snoc]
  unfold pStep
  split
  · exact ih
  · split
    · exact ih
    · split
      · exact ih
      · split
        · exact ih
        · intro p hp
          rcases List.mem_append.1 hp with h | h
          · exact ih p h
          · exact secRun_good M _ _ _ p h
theorem flat_at {l : List (Nat × Nat)} {k : Nat} (hk : k < l.length) : (flat l)[k * 2]? = some (.int .u64 ((l.getD k (0, 0)).1 : Int)) ∧ (flat l)[k * 2 + 1]? = some (.int .u64 ((l.getD k (0, 0)).2 : Int)) := by
  induction l generalizing k with
  | nil => simp at hk
  | cons x l ih =>
    have e : flat (x :: l) = .int .u64 (x.1 : Int) :: .int .u64 (x.2 : Int) :: flat l := by simp [flat]
    cases k with
    | zero => rw [e]; simp
    | succ k =>
      have := ih (k := k) (by simpa using hk)
      rw [e, show (k + 1) * 2 = k * 2 + 2 by omega]
      simpa using this
/-- A row of pairs: the k-th lies so. -/
theorem row_pair {W : World} {B : Nat} {v : Value} {l : List (Nat × Nat)} (h : W.ownsRow B 88 2 v l.length (flat l)) {k : Nat} (hk : k < l.length) : ∃ g cap, v = .slice (some ⟨g, 0, none⟩) l.length cap ∧ l.length ≤ cap ∧ cap ≤ maxLen ∧ CellsAt W g (k * 2) #[.int .u64 ((l.getD k (0, 0)).1 : Int), .int .u64 ((l.getD k (0, 0)).2 : Int)] := by
  have h2 := h.2
  rcases h2 with ⟨rfl, h0⟩ | ⟨g, cap, cur, rfl, hb, hg, hc1, hc2, hs, ht⟩
  · omega
  · refine ⟨g, cap, rfl, hc1, hc2, fun j u hj => ?_⟩
    obtain ⟨f1, f2⟩ := flat_at hk
    rw [h.cellAt (k * 2 + j) (by
      have : j < 2 := by have := (Array.getElem?_eq_some_iff.1 hj).1; simpa using this
      omega)]
    match j, hj with
    | 0, hj => rw [Nat.add_zero, f1]; simpa using hj
    | 1, hj => rw [f2]; simpa using hj
    | j + 2, hj => simp at hj
structure MpSt (w : World) (T : Tab) (W : World) : Prop where
  below : Below w.heap.size w W
  map : SwMap W w.heap.size T
section
variable {w W W' : World} {T : Tab}
theorem MpSt.keep (h : MpSt w T W) (hb : Below W.heap.size W W') : MpSt w T W' := ⟨h.below.trans (below_le hb h.below.size), h.map.keepB hb⟩
theorem MpSt.put (h : MpSt w T W) {T' : Tab} (hm : SwMap W' w.heap.size T') (hg : W.grownBy W' (some w.heap.size)) : MpSt w T' W' :=
  ⟨⟨hg.os.trans h.below.os, hg.tape.trans h.below.tape, hg.output.trans h.below.output, Nat.le_trans h.below.size hg.size, fun k hk => by
    rw [hg.block k (Nat.lt_of_lt_of_le hk h.below.size) (fun e => by have := Option.some.inj e; omega)]
    exact h.below.block k hk⟩, hm⟩
end
theorem row_put {W W' : World} {B m : Nat} {v : Value} {n : Nat} {xs : List Value} (h : W.ownsRow B 88 2 v n xs) (hg : W.grownBy W' (some m)) (hm : m < B) : W'.ownsRow B 88 2 v n xs :=
  owns2_same h fun g hgg => hg.block g (h.lt g hgg).2 (fun e => by have := (h.lt g hgg).1; have := Option.some.inj e; omega)
theorem row_keep {W W' : World} {B : Nat} {v : Value} {n : Nat} {xs : List Value} (h : W.ownsRow B 88 2 v n xs) (hb : Below W.heap.size W W') : W'.ownsRow B 88 2 v n xs :=
  owns2_same h fun g hgg => hb.block g (h.lt g hgg).2
theorem tadd_take (T : Tab) (j : Nat) (l : List (Nat × Nat)) {k : Nat} (hk : k < l.length) : tadd T j (l.take (k + 1)) = tput (tadd T j (l.take k)) j (l.getD k (0, 0)) := by
  rw [← tadd_snoc]
  congr 1
  rw [List.getD_eq_getElem?_getD, List.getElem?_eq_getElem hk]
  exact (List.take_append_getElem hk).symm
def TabRes (w : World) (s : TSt) (e : Ending) (w' : World) : Prop :=
  ∃ v, e = .returned (.tuple #[v, .int .i64 (s.at_ : Int), .int .i64 s.err]) ∧ Below w.heap.size w w' ∧ SwVal w' v s.tab
theorem ImsP.at_ {w : World} {a : Option Addr} {l : List Im} (h : ImsP w a l) {j : Nat} (hj : j < l.length) : ∃ b o, a = some ⟨b, o, none⟩ ∧ ImPAt w (l.getD j (0, [])) b (o + j * 27) := h j hj
end Go.Proofs.Ytepnaalgobhcdaa
namespace Go.Proofs.Ytepnaalgobhcdaa
open Go.RowKit Go.Shelf Spm
theorem i64n {n : Nat} (h : n < 9223372036854775808) : IntKind.i64.wrap (n : Int) = (n : Int) := by
  rw [IntKind.wrap_i64]; omega

theorem cells_whole {W : World} {g : Nat} {cs : Array Value} {t : TypeId} (h : W.heap[g]? = some (.cells cs t (0, 0))) : CellsAt W g 0 cs := fun j v hj => by
  simp only [World.cell?, h, Nat.zero_add]; exact hj
theorem below_whole {w w1 : World} {o : Obj} {g : Nat} (h : (w.alloc o).grownBy w1 (some g)) (hg : w.heap.size ≤ g := by exact Nat.le_refl _) : Below w.heap.size w w1 :=
  ⟨h.os, h.tape, h.output, by have := h.size; simp at this; omega, fun k hk => by
    rw [h.block k (by simp; omega) (fun e => by have := Option.some.inj e; omega)]
    exact hp_old w o k hk⟩

section
variable {ops : Array Oper} {rest : List Oper} {o : Oper} {a : Act} {w : World} {Q : Exit → Act → World → Prop}
theorem wpList_sw_miss (hw : Region.wanted o (yielded ops a.tmps) = true) (m x : Operand) (hop : o.op = Op.lookup 90 m x true) {v : Value} {T : Tab} (h : SwVal w v T) (hm : a.eval m = v) (n : Nat) (hn : n < 18446744073709551616) (hx : a.eval x = .int .u64 (n : Int)) (hf : tget T n = none)
    (hK : wpList Try.prog ops Q rest (a.put o.dst (.tuple #[.agg #[.int .u64 0, .int .i64 0], .bool false])) w) : wpList Try.prog ops Q (o :: rest) a w := by
  refine wpList_sw_ok hw m x hop h hm n hn hx ?_
  rw [hf]; exact hK
theorem wpList_sw_hit (hw : Region.wanted o (yielded ops a.tmps) = true) (m x : Operand) (hop : o.op = Op.lookup 90 m x true) {v : Value} {T : Tab} (h : SwVal w v T) (hm : a.eval m = v) (n : Nat) (hn : n < 18446744073709551616) (hx : a.eval x = .int .u64 (n : Int)) {r1 r2 : Nat} (hf : tget T n = some (r1, r2))
    (hK : wpList Try.prog ops Q rest (a.put o.dst (.tuple #[.agg #[.int .u64 (r1 : Int), .int .i64 (r2 : Int)], .bool true])) w) : wpList Try.prog ops Q (o :: rest) a w := by
  refine wpList_sw_ok hw m x hop h hm n hn hx ?_
  rw [hf]; exact hK
end
set_option maxHeartbeats 2000000 in
set_option maxRecDepth 100000 in
theorem tmap_any (w : World) (b : Nat) (M : List Pg) (F : Nat → Prop) (h : SpIn w b M F) (aI : Option Addr) (cI : Nat) (l : List Im) (hI : ImsP w aI l) (hl : l.length < 50) (_hcI : l.length ≤ cI) :
    Calls Try.prog 48 #[.pointer (some ⟨b, 0, none⟩), .slice aI l.length cI] w (TabRes w (tMap M l)) := by
  have HSP := Lib.hid h
  have HI := Lib.hid hI
  clear h hI
  have hmm := @run_makeMap Try.prog
  go_enter Try.func48, Try.ntmps48
  go_wp2_with fail
  go_loopw [21] (fun t wr => ∃ j : Nat, j ≤ l.length ∧ t = .int .i64 j ∧ Hid ((tRun M l j).err = 0) ∧ Hid (MpSt w (tRun M l j).tab wr)) (fun t _ => l.length - (intOf t).toNat)
  case atStart => exact ⟨0, Nat.zero_le _, rfl, rfl, ⟨(Below.refl _ w).alloc (Nat.le_refl _) _, SwMap.made w⟩⟩
  case round =>
    obtain ⟨j, hj, rfl, HE, HM⟩ := hrel
    by_cases hlt : j < l.length
    · obtain ⟨bI, oI, rfl, hp⟩ := HI.out.at_ hlt
      obtain ⟨cs, hcs, him⟩ := hp
      have hbl : bI < w.heap.size := hcs.lt (by rw [him.1]; omega)
      have HIM := Lib.hid him
      have HST : Hid (tRun M l (j + 1) = tStep M j (l.getD j (0, [])) (tRun M l j)) := rfl
      have hlen := tRun_len (M := M) (l := l) j
      generalize l.getD j (0, []) = im at *
      have HS38 : Hid (cs.size = 27) := him.1
      have HONE : Hid (cs.all (·.oneCell') = true) := him.2.1
      have HCW : Hid (CellsAt wr bI (oI + j * 27) cs) := hcs.below HM.out.below (fun _ => hbl)
      have hwz := HM.out.below.size
      have HIMW : Hid (∀ W, Below w.heap.size w W → ImP W cs im) := fun W hW => him.keep hW
      obtain ⟨zs, hzs⟩ : ∃ zs : Array Value, zs = #[.string { data := #[] }, .int .i64 0, .int .i64 0, .int .u32 0, .string { data := #[] }, .slice none 0 0, .slice none 0 0, .int .u64 0, .int .u64 0, .int .u64 0, .int .u64 0, .int .u64 0, .int .u64 0, .int .u64 0, .int .u64 0, .int .u64 0, .int .u64 0, .int .u64 0, .int .u64 0, .int .u64 0, .int .u64 0, .int .u64 0, .int .u64 0, .int .u64 0, .bool false, .int .u64 0, .slice none 0 0] := ⟨_, rfl⟩
      have hzz : zs.size = 27 := by rw [hzs]; rfl
      clear hcs him
      by_cases he : (pOf M im).err = 0
      · have HST2 : Hid (tRun M l (j + 1) = ⟨tadd (tRun M l j).tab j (pOf M im).out, 0, 0⟩) := by
          show _ = _
          rw [HST.out]; unfold tStep; rw [if_neg (by rw [HE.out]; simp), if_neg (by rw [he]; simp)]
        have hgood := pFold_good M im.1 im.2
        have hbound := pFold_bound M im.1 im.2
        change ∀ p ∈ (pOf M im).out, _ at hgood
        change (pOf M im).out.length ≤ (pOf M im).many ∧ (pOf M im).many ≤ 20000 at hbound
        have hpairs : ∀ W, Below w.heap.size w W → Calls Try.prog 46 #[.pointer (some ⟨b, 0, none⟩), .agg cs] W fun e w' => ∃ v, e = .returned (.tuple #[v, .int .i64 0]) ∧ Below W.heap.size W w' ∧ w'.ownsRow W.heap.size 88 2 v (pOf M im).out.length (flat (pOf M im).out) := fun W hW => by
          refine (pairs_im W b M F (HSP.out.keepB hW) cs im (HIMW.out W hW)).mono ?_
          rintro e w' ⟨v, rfl, k1, k2, k3⟩
          rw [he]
          exact ⟨v, rfl, k1, k3 he⟩
        obtain ⟨out, hout⟩ : ∃ out, out = (pOf M im).out := ⟨_, rfl⟩
        rw [← hout] at HST2 hgood hbound hpairs
        have HPAIRS := Lib.hid hpairs
        have HGOOD := Lib.hid hgood
        have hol : out.length ≤ 20000 := by omega
        obtain ⟨T, hT⟩ : ∃ T, T = (tRun M l j).tab := ⟨_, rfl⟩
        rw [← hT] at HST2 hlen HM
        have hTl : T.length < 980001 := by omega
        clear hgood hbound hpairs hout hT he
        go_wp2_with (first
          | (refine wpList_load_agg 38 _ rfl rfl bI (oI + j * 27) rfl cs _ HCW.out Try.underlying38 rfl (by rw [HS38.out]; kernel_rfl) ?_)
          | (refine wpList_store_whole rfl 38 (.tmp 9) (.tmp 25) rfl wr.heap.size cs rfl rfl 38 _ (hp_new wr _ _ rfl) (by rw [HS38.out]; kernel_rfl) (by rw [HS38.out]; rfl) HONE.out ?_; intro w1 hw1 hg1 hz1; have CW1 : Hid (CellsAt w1 wr.heap.size 0 cs) := (cells_whole hw1); have BW1 : Hid (Below wr.heap.size wr w1) := (below_whole hg1); clear hw1 hg1 hz1)
          | (refine wpList_load_agg 38 _ rfl rfl wr.heap.size 0 rfl cs _ CW1.out Try.underlying38 rfl (by rw [HS38.out]; kernel_rfl) ?_)
          | (go_at_call 46; refine (HPAIRS.out w1 (HM.out.keep BW1.out).below).mono ?_; rintro e w2 ⟨v, rfl, hb2, hr2⟩; obtain ⟨va, vc, rfl⟩ := ownsRow_shape hr2; have B2 := Lib.hid hb2; have R2 := Lib.hid hr2; clear hb2 hr2))
        have HM2 := Lib.hid ((HM.out.keep BW1.out).keep B2.out)
        have hs1 : w.heap.size < w1.heap.size := by have := BW1.out.size; have := HM.out.map.lt; omega
        clear HM CW1 BW1 B2 HCW HIMW
        obtain ⟨wb, rfl⟩ : ∃ wb : World, wb = wr := ⟨_, rfl⟩
        go_loopw [38] (fun t wr => ∃ k : Nat, k ≤ out.length ∧ t = .int .i64 k ∧ Hid (MpSt w (tadd T j (out.take k)) wr) ∧ Hid (wr.ownsRow w1.heap.size 88 2 (.slice va out.length vc) out.length (flat out))) (fun t _ => out.length - (intOf t).toNat)
        case atStart => exact ⟨0, Nat.zero_le _, rfl, HM2.out, R2.out⟩
        case round =>
          obtain ⟨k, hk, rfl, HMK, HRK⟩ := hrel
          by_cases hkt : k < out.length
          · obtain ⟨g, cap, hg, hgc, hgm, hcp⟩ := row_pair HRK.out hkt
            obtain ⟨q0, q1, q2⟩ := HGOOD.out (out.getD k (0, 0)) (by rw [List.getD_eq_getElem?_getD, List.getElem?_eq_getElem hkt]; exact List.getElem_mem hkt)
            have hstep := tadd_take T j out hkt
            have hnl := tadd_len T j (out.take k)
            rw [List.length_take] at hnl
            cases hg
            obtain ⟨pp, hpp⟩ : ∃ pp, pp = out.getD k (0, 0) := ⟨_, rfl⟩
            rw [← hpp] at q0 q1 q2 hstep hcp
            obtain ⟨p1, p2⟩ := pp
            simp only at q0 q1 q2 hcp
            have HCP := Lib.hid hcp
            have HSTEP := Lib.hid hstep
            have HSV : Hid (∀ W, Below wr.heap.size wr W → SwVal W (.map (some w.heap.size)) (tadd T j (out.take k))) := fun W hW => .inl ⟨_, rfl, HMK.out.map.keepB hW⟩
            have hnc : (tadd T j (out.take k)).length < 1000000 := by omega
            obtain ⟨TK, hTK⟩ : ∃ TK, TK = tadd T j (out.take k) := ⟨_, rfl⟩
            rw [← hTK] at HMK HSTEP HSV hnc
            clear hpp hcp hstep hnl hTK
            cases hfn : tget TK p2 with
            | none =>
              have HFN := Lib.hid hfn
              clear hfn
              have B88 : Hid (Below wr.heap.size wr (wr.alloc (.cells #[.int .u64 (p1 : Int), .int .u64 (p2 : Int)] 88))) := (Below.refl _ wr).alloc (Nat.le_refl _) _
              have B97 : Hid (Below wr.heap.size wr ((wr.alloc (.cells #[.int .u64 (p1 : Int), .int .u64 (p2 : Int)] 88)).alloc (.cells #[.int .u64 0, .int .i64 0] 97))) := B88.out.alloc (by simp) _
              go_wp2_with (first
                | (refine wpList_load_agg 88 _ rfl rfl g (k * 2) (by simp [Act.eval]) #[.int .u64 (p1 : Int), .int .u64 (p2 : Int)] _ HCP.out Try.underlying88 rfl size88 ?_)
                | (refine wpList_sw_miss rfl (.tmp 43) (.tmp 45) rfl (HSV.out _ B88.out) rfl p2 q2 rfl HFN.out ?_)
                | (refine wpList_sw_put rfl (.tmp 51) (.tmp 53) (.tmp 57) rfl w.heap.size (HMK.out.keep B97.out).map rfl hnc (p1, p2) j q2 rfl HFN.out q0 rfl ?_; intro w5 hm5 hg5; have M5 := Lib.hid ((HMK.out.keep B97.out).put hm5 hg5); have R5 := Lib.hid (row_put (row_keep HRK.out B97.out) hg5 hs1); clear hm5 hg5))
              go_roundw
              case rel => exact ⟨k + 1, by omega, by go_num, by show MpSt _ _ _; rw [HSTEP.out]; exact M5.out, R5.out⟩
              case measure => simp [intOf]; omega
            | some q =>
              obtain ⟨r1, r2⟩ := q
              have HFN := Lib.hid hfn
              have HSTEP2 : Hid (tadd T j (out.take (k + 1)) = TK) := by
                show _ = _
                rw [HSTEP.out]; unfold tput; rw [if_pos (by rw [hfn]; rfl)]
              clear hfn
              have B88 : Hid (Below wr.heap.size wr (wr.alloc (.cells #[.int .u64 (p1 : Int), .int .u64 (p2 : Int)] 88))) := (Below.refl _ wr).alloc (Nat.le_refl _) _
              have B97 : Hid (Below wr.heap.size wr ((wr.alloc (.cells #[.int .u64 (p1 : Int), .int .u64 (p2 : Int)] 88)).alloc (.cells #[.int .u64 (r1 : Int), .int .i64 (r2 : Int)] 97))) := B88.out.alloc (by simp) _
              go_wp2_with (first
                | (refine wpList_load_agg 88 _ rfl rfl g (k * 2) (by simp [Act.eval]) #[.int .u64 (p1 : Int), .int .u64 (p2 : Int)] _ HCP.out Try.underlying88 rfl size88 ?_)
                | (refine wpList_sw_hit rfl (.tmp 43) (.tmp 45) rfl (HSV.out _ B88.out) rfl p2 q2 rfl HFN.out ?_))
              go_roundw
              case rel => exact ⟨k + 1, by omega, by go_num, by show MpSt _ _ _; rw [HSTEP2.out]; exact HMK.out.keep B97.out, row_keep HRK.out B97.out⟩
              case measure => simp [intOf]; omega
          · obtain rfl : k = out.length := by omega
            rw [List.take_length] at HMK
            go_wp2_with fail
            go_roundw
            case rel => exact ⟨j + 1, by omega, by go_num, by show _ = _; rw [HST2.out], by show MpSt _ _ _; rw [HST2.out]; exact HMK.out⟩
            case measure => simp [intOf]; omega
      · have HST2 : Hid (tRun M l (j + 1) = ⟨[], j, (pOf M im).err⟩) := by
          show _ = _
          rw [HST.out]; unfold tStep; rw [if_neg (by rw [HE.out]; simp), if_pos he]
        obtain ⟨er, her⟩ : ∃ er, er = (pOf M im).err := ⟨_, rfl⟩
        rw [← her] at HST2 he
        have HER := Lib.hid he
        have b1 : ((er : Int) != 0) = true := by rw [bne_iff_ne]; exact he
        have HPAIRS : Hid (∀ W, Below w.heap.size w W → Calls Try.prog 46 #[.pointer (some ⟨b, 0, none⟩), .agg cs] W fun e w' => e = .returned (.tuple #[.slice none 0 0, .int .i64 er]) ∧ Below W.heap.size W w') := fun W hW => by
          refine (pairs_im W b M F (HSP.out.keepB hW) cs im (HIMW.out W hW)).mono ?_
          rintro e w' ⟨v, rfl, k1, k2, _⟩
          rw [k2 (by rw [← her]; exact he), her]
          exact ⟨rfl, k1⟩
        clear he her
        go_wp2_with (first
          | (refine wpList_load_agg 38 _ rfl rfl bI (oI + j * 27) rfl cs _ HCW.out Try.underlying38 rfl (by rw [HS38.out]; kernel_rfl) ?_)
          | (refine wpList_store_whole rfl 38 (.tmp 9) (.tmp 25) rfl wr.heap.size cs rfl rfl 38 _ (hp_new wr _ _ rfl) (by rw [HS38.out]; kernel_rfl) (by rw [HS38.out]; rfl) HONE.out ?_; intro w1 hw1 hg1 hz1; have CW1 : Hid (CellsAt w1 wr.heap.size 0 cs) := (cells_whole hw1); have BW1 : Hid (Below wr.heap.size wr w1) := (below_whole hg1); clear hw1 hg1 hz1)
          | (refine wpList_load_agg 38 _ rfl rfl wr.heap.size 0 rfl cs _ CW1.out Try.underlying38 rfl (by rw [HS38.out]; kernel_rfl) ?_)
          | (go_at_call 46; refine (HPAIRS.out w1 (HM.out.keep BW1.out).below).mono ?_; rintro e w2 ⟨rfl, hb2⟩; have B2 := Lib.hid hb2; clear hb2))
        go_ret3
        have hst : tMap M l = ⟨[], j, er⟩ := by
          unfold tMap
          rw [tRun_stuck (j := j + 1) (by rw [HST2.out]; exact HER.out) (by omega), HST2.out]
        rw [hst]
        exact ⟨_, rfl, ((HM.out.keep BW1.out).keep B2.out).below, .inr ⟨rfl, rfl⟩⟩
    · obtain rfl : j = l.length := by omega
      have HE2 : Hid ((tMap M l).err = 0) := HE.out
      have HM2 : Hid (MpSt w (tMap M l).tab wr) := HM.out
      clear HE HM
      go_wp2_with fail
      go_ret3
      exact ⟨.map (some w.heap.size), by rw [HE2.out, show (tMap M l).at_ = 0 from tRun_at HE2.out]; rfl, HM2.out.below, .inl ⟨_, rfl, HM2.out.map⟩⟩

set_option maxRecDepth 100000 in
theorem tmap_nil (w : World) (v : Value) : Calls Try.prog 48 #[.pointer none, v] w (TabRes w ⟨[], 0, 1⟩) := by
  go_enter Try.func48, Try.ntmps48
  go_wp2_with fail
  go_ret3
  exact ⟨.map none, rfl, Below.refl _ _, .inr ⟨rfl, rfl⟩⟩
end Go.Proofs.Ytepnaalgobhcdaa
namespace Go.Proofs.Ytepnaalgobhcdaa
open Go.RowKit Go.Shelf Spm
attribute [local go_sem] Oper.semAt_some

set_option maxRecDepth 100000 in
theorem swapped_any (w : World) (v : Value) (T : Tab) (h : SwVal w v T) (i : Int) (hi : -9223372036854775808 ≤ i ∧ i ≤ 9223372036854775807) (n a : Nat) (hn : i = (n : Int)) (ha : a < 18446744073709551616) :
    Calls Try.prog 50 #[v, .int .i64 i, .int .u64 a] w fun e w' => e = .returned (.int .u64 (tSwap T n a : Int)) ∧ Below w.heap.size w w' := by
  subst hn
  have HSV := Lib.hid h
  clear h
  unfold tSwap
  cases hf : tget T a with
  | none =>
    have HFN := Lib.hid hf
    clear hf
    go_enter Try.func50, Try.ntmps50
    go_wp2_with (first
      | (refine wpList_sw_miss rfl (.tmp 10) (.tmp 11) rfl HSV.out rfl a ha rfl HFN.out ?_))
    go_ret
    exact ⟨rfl, (Below.refl _ _).alloc (Nat.le_refl _) _⟩
  | some q =>
    obtain ⟨r1, r2⟩ := q
    have HFN := Lib.hid hf
    clear hf
    by_cases e : r2 = n
    · have b1 : ((r2 : Int) != (n : Int)) = false := by rw [bne_eq_false_iff_eq]; omega
      simp only [if_pos e]
      clear e
      go_enter Try.func50, Try.ntmps50
      go_wp2_with (first
        | (refine wpList_sw_hit rfl (.tmp 10) (.tmp 11) rfl HSV.out rfl a ha rfl HFN.out ?_))
      go_ret
      exact ⟨rfl, (Below.refl _ _).alloc (Nat.le_refl _) _⟩
    · have b1 : ((r2 : Int) != (n : Int)) = true := by rw [bne_iff_ne]; omega
      simp only [if_neg e]
      clear e
      go_enter Try.func50, Try.ntmps50
      go_wp2_with (first
        | (refine wpList_sw_hit rfl (.tmp 10) (.tmp 11) rfl HSV.out rfl a ha rfl HFN.out ?_))
      go_ret
      exact ⟨rfl, (Below.refl _ _).alloc (Nat.le_refl _) _⟩
/-- The cells of an image of segments v and slide s. -/
def oneCells (v : Value) (s : Int) : Array Value := #[.string { data := #[] }, .int .i64 0, .int .i64 0, .int .u32 0, .string { data := #[] }, v, .slice none 0 0, .int .u64 0, .int .u64 0, .int .u64 0, .int .u64 0, .int .u64 0, .int .u64 0, .int .u64 0, .int .u64 0, .int .u64 0, .int .u64 0, .int .u64 0, .int .u64 0, .int .u64 0, .int .u64 0, .int .u64 0, .int .u64 0, .int .u64 0, .bool false, .int .u64 s, .slice none 0 0]
theorem one_one (v : Value) (h : v.oneCell' = true) (s : Int) : (oneCells v s).all (·.oneCell') = true := by
  have : (oneCells v s).all (·.oneCell') = v.oneCell' := by simp [oneCells, Value.oneCell']
  rw [this, h]
theorem zero_im (w : World) : ImP w (oneCells (.slice none 0 0) 0) (0, []) := ⟨rfl, one_one _ rfl _, rfl, [], none, 0, fun j hj => absurd hj (Nat.not_lt_zero j), rfl, ⟨Nat.le_refl _, Nat.zero_le _⟩, rfl⟩
theorem one_im {w : World} {b1 b2 a n s : Nat} (ha : a < 18446744073709551616) (hn : n < 18446744073709551616)
    (h1 : w.heap[b1]? = some (.cells #[.string { data := #[] }, .string { data := #[] }, .int .u64 (a : Int), .int .u64 (n : Int), .int .u64 0, .int .i64 13] 164 (0, 0)))
    (h2 : w.heap[b2]? = some (.cells #[.string { data := #[] }, .int .u64 0, .int .u64 0, .int .u64 0, .int .u64 0, .int .i64 0, .slice (some ⟨b1, 0, none⟩) 1 1] 128 (0, 0))) : ImP w (oneCells (.slice (some ⟨b2, 0, none⟩) 1 1) (s : Int)) (s, [(a, n)]) := by
  refine ⟨rfl, one_one _ rfl _, rfl, [[⟨{ data := #[] }, { data := #[] }, 0, ⟨a, n, 13⟩, ha, hn⟩]], some ⟨b2, 0, none⟩, 1, fun j hj => ?_, rfl, ⟨Nat.le_refl _, by unfold maxLen; simp⟩, rfl⟩
  obtain rfl : j = 0 := by simpa using hj
  refine ⟨b2, 0, rfl, _, _, _, _, _, _, some ⟨b1, 0, none⟩, 1, cells_whole h2, Nat.le_refl _, by unfold maxLen; omega, fun j hj => ?_⟩
  obtain rfl : j = 0 := by simpa using hj
  exact ⟨b1, 0, rfl, cells_whole h1⟩
set_option maxRecDepth 100000 in
theorem one_any (w : World) (a n s : Nat) (ha : a < 18446744073709551616) (hn : n < 18446744073709551616) :
    Calls Try.prog 52 #[.int .u64 a, .int .u64 n, .int .u64 s] w fun e w' => ∃ cs, e = .returned (.agg cs) ∧ Below w.heap.size w w' ∧ ImP w' cs (s, [(a, n)]) := by
  go_enter Try.func52, Try.ntmps52
  go_wp2_with (first
    | (refine wpList_store_whole rfl 38 (.tmp 6) (.tmp 15) rfl w.heap.size (oneCells (.slice (some ⟨w.heap.size + 1 + 1, 0, none⟩) 1 1) (s : Int)) rfl rfl 38 (oneCells (.slice none 0 0) 0) ((hp_old _ _ _ (by simp <;> omega)).trans ((hp_old _ _ _ (by simp)).trans (hp_new w _ _ rfl))) size38 rfl (one_one _ rfl _) ?_; intro w1 hw1 hg1 hz1))
  refine bodyPost_ret (v := .agg (oneCells (.slice (some ⟨w.heap.size + 1 + 1, 0, none⟩) 1 1) (s : Int))) (results_cell_row rfl _ _ (w.heap.size) 38 _ (0, 0) _ rfl hw1 Try.underlying38 rfl size38) rfl ?_
  refine ⟨_, rfl, ?_, one_im (b1 := w.heap.size + 1) ha hn ?_ ?_⟩
  · exact ((((Below.refl _ w).alloc (Nat.le_refl _) _).alloc (by simp) _).alloc (by simp <;> omega) _).grown hg1 (by simp <;> omega) (fun k e => by cases e; omega)
  · rw [hg1.block _ (by simp <;> omega) (by simp), hp_old _ _ _ (by simp <;> omega), hp_new _ _ _ (by simp)]
  · rw [hg1.block _ (by simp <;> omega) (by simp <;> omega), hp_new _ _ _ (by simp)]
end Go.Proofs.Ytepnaalgobhcdaa
namespace Go.Proofs.Ytepnaalgobhcdaa
open Go.RowKit Spm

def bM1 : List Pg := mapM [] 4096 327680 3
def bM : List Pg := mapM bM1 819200 4096 2
theorem b1 : mapErr [] 4096 327680 3 = 0 := by decide +kernel
theorem bM1_eq : bM1 = mapIn [] 1 80 3 := by unfold bM1 mapM; rw [if_pos b1]; rfl
theorem b2 : mapErr bM1 819200 4096 2 = 0 := by rw [bM1_eq]; decide +kernel
theorem bM_eq : bM = mapIn (mapIn [] 1 80 3) 200 1 2 := by unfold bM mapM; rw [if_pos b2, bM1_eq]; rfl
theorem bM_pg (n : Nat) (h1 : 1 ≤ n) (h2 : n < 81) : pg bM n = some ⟨n, 3, noughts⟩ := by
  rw [bM_eq, pg_mapIn, if_neg (by omega), pg_mapIn, if_pos (by omega)]
theorem rep_getD (n k : Nat) : (List.replicate n (0 : UInt8)).getD k 0 = 0 := by simp only [List.getD_eq_getElem?_getD, List.getElem?_replicate]; split <;> rfl
theorem bM_zero (a : Nat) (h1 : 4096 ≤ a) (h2 : a < 331776) : byteAt bM a = 0 := by
  unfold byteAt
  rw [bM_pg _ (by omega) (by omega)]
  exact rep_getD 4096 _
theorem bM_read (a : Nat) (h1 : 4096 ≤ a) (h2 : a + 16 ≤ 331776) : readErr bM a 16 = 0 := by
  unfold readErr lookErr
  rw [if_neg (by decide), if_neg (by decide)]
  have e1 : inB a 16 = true := by simp [inB]; omega
  rw [if_neg (by simp [e1])]
  have e2 : missing bM (fst a) (lst a 16) = false := by
    unfold missing
    rw [List.any_eq_false]
    intro i hi
    have := List.mem_range.1 hi
    unfold fst lst at *
    rw [bM_pg _ (by omega) (by omega)]; simp
  have e3 : lacks bM (fst a) (lst a 16) 1 = false := by
    unfold lacks
    rw [List.any_eq_false]
    intro i hi
    have := List.mem_range.1 hi
    unfold fst lst at *
    rw [bM_pg _ (by omega) (by omega)]
    show ¬ (!hasP 3 1) = true
    decide
  rw [e2, e3]; rfl
theorem bM_pair (a : Nat) (h1 : 4096 ≤ a) (h2 : a + 16 ≤ 331776) : pairAt bM a = (0, 0) := by
  have e : readAll bM a 16 = List.replicate 16 0 := by
    apply List.ext_getElem
    · simp [readAll]
    · intro j h3 h4
      simp only [readAll, List.getElem_map, List.getElem_range, List.getElem_replicate]
      have : j < 16 := by simpa using h4
      exact bM_zero _ (by omega) (by omega)
  unfold pairAt
  rw [e]; decide
theorem bM_run : ∀ j, j ≤ 20000 → secRun bM 4096 0 j = (0, [])
  | 0, _ => rfl
  | j + 1, h => by
    have ih := bM_run j (by omega)
    have ea : secAddr 4096 0 (16 * j) = 4096 + 16 * j := by unfold secAddr; omega
    unfold secRun
    rw [ih, ea, bM_read _ (by omega) (by omega), bM_pair _ (by omega) (by omega)]
    simp
theorem pOf_one {M : List Pg} {s a n q : Nat} {r : List (Nat × Nat)} (h1 : n % 16 = 0) (hq : n / 16 = q) (h2 : q ≤ 20000) (hr : secRun M a s q = (0, r)) : pOf M (s, [(a, n)]) = ⟨q, r, 0⟩ := by
  unfold pOf pFold
  simp only [List.foldl_cons, List.foldl_nil]
  unfold pStep
  simp only [hq, hr, h1]
  rw [if_neg (by simp), if_neg (by simp), if_neg (by omega), if_neg (by simp)]
  simp
theorem bM_twenty : pOf bM (0, [(4096, 320000)]) = ⟨20000, [], 0⟩ := pOf_one (by omega) (by omega) (Nat.le_refl _) (bM_run 20000 (Nat.le_refl _))
theorem pOf_nil (M : List Pg) (s : Nat) : pOf M (s, []) = ⟨0, [], 0⟩ := rfl
theorem tm1 : tMap bM [(0, []), (0, [(4096, 17)])] = ⟨[], 1, 9⟩ := rfl
theorem tm2 : tMap bM [(0, [(4096, 320000)]), (0, [(4096, 320016)])] = ⟨[], 1, 11⟩ := by
  have e : (pOf bM (0, [(4096, 320016)])).err = 11 := rfl
  unfold tMap
  simp only [List.length_cons, List.length_nil, Nat.reduceAdd, tRun, List.getD_cons_zero, List.getD_cons_succ]
  unfold tStep
  rw [bM_twenty, e]
  simp
theorem tm3e : lookErr bM 331768 16 1 = 4 := by rw [bM_eq]; decide +kernel
theorem tm4e : lookErr bM 819200 16 1 = 19 := by rw [bM_eq]; decide +kernel
theorem one_err {M : List Pg} {s a e : Nat} {er : Int} (ha : e = (a + s) % 18446744073709551616) (h : readErr M e 16 = er) (h0 : er ≠ 0) : (pOf M (s, [(a, 16)])).err = er := by
  unfold pOf pFold
  simp only [List.foldl_cons, List.foldl_nil]
  unfold pStep
  have e2 : secAddr a s (16 * 0) = e := by unfold secAddr; omega
  have : secRun M a s (16 / 16) = (er, []) := by
    show secRun M a s (0 + 1) = _
    unfold secRun
    rw [e2, h]; simp [secRun, h0]
  rw [this]
  simp [h0]
theorem tm3 : tMap bM [(0, []), (0, []), (0, [(331768, 16)])] = ⟨[], 2, 4⟩ := by
  have e : (pOf bM (0, [(331768, 16)])).err = 4 := one_err (e := 331768) (by decide) (by unfold readErr; rw [if_neg (by decide)]; exact tm3e) (by decide)
  unfold tMap
  simp only [List.length_cons, List.length_nil, Nat.reduceAdd, tRun, List.getD_cons_zero, List.getD_cons_succ]
  unfold tStep
  rw [pOf_nil, e]
  simp
theorem tm4 : tMap bM [(0, [(819200, 16)])] = ⟨[], 0, 19⟩ := by
  have e : (pOf bM (0, [(819200, 16)])).err = 19 := one_err (e := 819200) (by decide) (by unfold readErr; rw [if_neg (by decide)]; exact tm4e) (by decide)
  unfold tMap
  simp only [List.length_cons, List.length_nil, Nat.reduceAdd, tRun, List.getD_cons_zero]
  unfold tStep
  rw [e]
  simp
theorem tm5 (M : List Pg) : tMap M [] = ⟨[], 0, 0⟩ := rfl

/-! ### known -/
def k21bytes : List UInt8 := [0, 7, 0, 0, 0, 0, 0, 0, 0, 5, 0, 0, 0, 0, 0, 0, 0, 8, 0, 0, 0, 0, 0, 0, 0, 5, 0, 0, 0, 0, 0, 0, 0, 9, 0, 0, 0, 0, 0, 0, 0, 6, 0, 0, 0, 0, 0, 0]
def k21 : List RngM := [⟨65536, 1, 3, k21bytes⟩]
def k21Im : List Im := [(0, []), (65536, [(0, 16)]), (0, [(65552, 32)])]
theorem k21_ok : memOk k21 = true := by decide +kernel
theorem k21_tab : (tMap (memM k21) k21Im).tab = [(1280, 1792, 1), (1536, 2304, 2)] ∧ (tMap (memM k21) k21Im).at_ = 0 ∧ (tMap (memM k21) k21Im).err = 0 := by decide +kernel
end Go.Proofs.Ytepnaalgobhcdaa
namespace Go.Proofs.Ytepnaalgobhcdaa
open Go.RowKit Go.Shelf Spm
attribute [local go_sem] Oper.semAt_some

set_option maxRecDepth 100000 in
theorem pairs_nil (w : World) (cs : Array Value) : Calls Try.prog 46 #[.pointer none, .agg cs] w (PairsRes w 1 []) := by
  refine (callsIn_wide (n := 6)).1 ?_
  refine callsIn_of_wp_marks Try.func46 rfl trivial ?_ rfl
  simp only [Try.ntmps46, List.size_toArray, List.length_cons, List.length_nil, Nat.reduceAdd, Nat.reduceSub, Array.replicate_succ, Array.replicate_zero, List.push_toArray, List.append_toArray, List.nil_append, List.cons_append]
  gi_wp2_with fail
  refine ⟨_, results_cell2 rfl _ _ _ ⟨w.heap.size + 1 + 1, 0, none⟩ ⟨w.heap.size + 1 + 1 + 1, 0, none⟩ (.slice none 0 0) (.int .i64 1) (by rfl) (by rfl) (loadVar_one agg82 (cell_of_one ((hp_old _ _ _ (by simp)).trans (hp_new _ _ _ (by simp))))) (loadVar_one agg45 (cell_of_one (hp_new _ _ _ (by simp)))), _, rfl, ?_, fun _ => rfl, fun h => absurd h (by decide)⟩
  exact ((((Below.refl _ w).alloc (Nat.le_refl _) _).alloc (by simp) _).alloc (by simp <;> omega) _).alloc (by simp <;> omega) _
def zero16 : Array Value := #[.int .u8 0, .int .u8 0, .int .u8 0, .int .u8 0, .int .u8 0, .int .u8 0, .int .u8 0, .int .u8 0, .int .u8 0, .int .u8 0, .int .u8 0, .int .u8 0, .int .u8 0, .int .u8 0, .int .u8 0, .int .u8 0]
theorem make_16 (W : World) : (Instr.makeSlice 57 (.int .i64 16) (.int .i64 16)).run Try.prog W = .ok (.slice (some ⟨W.heap.size, 0, none⟩) 16 16) (W.alloc (.cells zero16 5)) := by
  obtain ⟨i0, hi0, hz0, hz1, hz2⟩ := info_parts infoU8
  have := run_makeSlice (P := Try.prog) W 57 5 i0 (.int .u8 0) Try.underlying57 hi0 hz0 .i64 .i64 16 16 (by decide) (by decide) (by rw [hz1]; decide) (by rw [hz2]; decide) (by decide)
  rw [hz1, show madeCells (Value.int .u8 0).cells (Int.toNat 16 * 1) = zero16 from by kernel_rfl] at this
  exact this
def pairCells (x y : Int) : Array Value := #[.int .u8 0, .int .u8 x, .int .u8 0, .int .u8 0, .int .u8 0, .int .u8 0, .int .u8 0, .int .u8 0, .int .u8 0, .int .u8 y, .int .u8 0, .int .u8 0, .int .u8 0, .int .u8 0, .int .u8 0, .int .u8 0]
set_option maxRecDepth 100000 in
theorem pair_any (w : World) (x y : Int) : Calls Try.prog 79 #[.int .u8 x, .int .u8 y] w fun e w' => e = .returned (.slice (some ⟨w.heap.size, 0, none⟩) 16 16) ∧ w' = w.alloc (.cells (pairCells x y) 5) := by
  have hmk := make_16
  unfold zero16 at hmk
  go_enter Try.func79, Try.ntmps79
  go_wp2_with fail
  go_ret
  exact ⟨rfl, rfl⟩
end Go.Proofs.Ytepnaalgobhcdaa
namespace Go.Proofs.Ytepnaalgobhcdaa
open Go.RowKit Go.Shelf Spm

/-- A slice of images, written out. -/
theorem ims_built {w : World} {css : List (Array Value)} {l : List Im} (hl : css.length = l.length) (h : ∀ j cs, css[j]? = some cs → ImP w cs (l.getD j (0, []))) {cells : Array Value} (hc : ∀ i c, css[i]? = some c → ∀ j v, c[j]? = some v → cells[i * 27 + j]? = some v) :
    ImsP (w.alloc (.cells cells 38)) (some ⟨w.heap.size, 0, none⟩) l := fun j hj => by
  have hj2 : j < css.length := by omega
  have hg : css[j]? = some css[j] := List.getElem?_eq_getElem hj2
  refine ⟨w.heap.size, 0, rfl, css[j], fun i v hi => ?_, (h j _ hg).keep ((Below.refl _ w).alloc (Nat.le_refl _) _)⟩
  have := hc j _ hg i v hi
  simp only [World.cell?, heap_alloc_new, Nat.zero_add]
  exact this
theorem lits97 (a b : Int) (ha : (Lit.int .u64 a).wf = true) (hb : (Lit.int .i64 b).wf = true) : Try.prog.keyLits 3 97 [.int .u64 a, .int .i64 b] = some [.int .u64 a, .int .i64 b] := by
  have c1 : Try.prog.cellsOf 97 = 2 := by kernel_rfl
  have c2 : Try.prog.cellsOf 32 = 1 := by kernel_rfl
  have c3 : Try.prog.cellsOf 3 = 1 := by kernel_rfl
  simp [Program.keyLits, Try.underlying97, Try.underlying32, Try.underlying3, ha, hb, c1, c2, c3]
theorem eq97 (a b c d : Int) (w : World) (ha : (Lit.int .u64 a).wf = true) (hb : (Lit.int .i64 b).wf = true) (hc : (Lit.int .u64 c).wf = true) (hd : (Lit.int .i64 d).wf = true) :
    ∃ r : Bool, (binOp .eql 97 (.agg #[.int .u64 a, .int .i64 b]) (.agg #[.int .u64 c, .int .i64 d])).run Try.prog w = .ok (.bool r) w ∧ (r = true ↔ (a = c ∧ b = d)) := by
  obtain ⟨r, h1, h2⟩ := run_equalIn_deep (P := Try.prog) 9990 10 97 (by kernel_rfl) w 3 3 (.agg #[.int .u64 a, .int .i64 b]) (.agg #[.int .u64 c, .int .i64 d]) _ _ (by kernel_rfl) (by kernel_rfl) (lits97 a b ha hb) (lits97 c d hc hd)
  refine ⟨r, ?_, by rw [h2]; simp⟩
  have : (Op.equal 97 (.agg #[.int .u64 a, .int .i64 b]) (.agg #[.int .u64 c, .int .i64 d])).run Try.prog w = .ok r w := h1
  simp only [binOp, Sem.run_bind, this, Result.andThen_ok]
  rfl
theorem wf_u {n : Nat} (h : n < 18446744073709551616) : (Lit.int .u64 (n : Int)).wf = true := WalkArith.wf_u64 (by omega)
theorem wf_i {n : Nat} (h : n < 9223372036854775808) : (Lit.int .i64 (n : Int)).wf = true := WalkArith.wf_i64 (by omega)
theorem eq97_same (a b : Nat) (ha : a < 18446744073709551616) (hb : b < 9223372036854775808) (w : World) : (binOp .eql 97 (.agg #[.int .u64 (a : Int), .int .i64 (b : Int)]) (.agg #[.int .u64 (a : Int), .int .i64 (b : Int)])).run Try.prog w = .ok (.bool true) w := by
  obtain ⟨r, h1, h2⟩ := eq97 a b a b w (wf_u ha) (wf_i hb) (wf_u ha) (wf_i hb)
  rw [h1, h2.2 ⟨rfl, rfl⟩]
section
variable {ops : Array Oper} {rest : List Oper} {o : Oper} {a : Act} {w : World} {Q : Exit → Act → World → Prop}
theorem wpList_sw_get (hw : Region.wanted o (yielded ops a.tmps) = true) (m x : Operand) (hop : o.op = Op.lookup 90 m x false) {v : Value} {T : Tab} (h : SwVal w v T) (hm : a.eval m = v) (k : Int) (hx : a.eval x = .int .u64 k) (n : Nat) (hk : k = (n : Int)) (hn : n < 18446744073709551616) {r1 r2 : Nat} (hf : tget T n = some (r1, r2)) (i1 i2 : Int) (e1 : (r1 : Int) = i1) (e2 : (r2 : Int) = i2)
    (hK : wpList Try.prog ops Q rest (a.put o.dst (.agg #[.int .u64 i1, .int .i64 i2])) w) : wpList Try.prog ops Q (o :: rest) a w := by
  subst e1 e2 hk
  refine wpList_sw hw m x hop h hm n hn hx ?_
  rw [hf]; exact hK
theorem wpList_sw_lenI (hw : Region.wanted o (yielded ops a.tmps) = true) (m : Operand) (hop : o.op = Op.call { callee := Callee.builtin Builtin.len, args := #[m], argTypes := #[90] }) {v : Value} {T : Tab} (h : SwVal w v T) (hm : a.eval m = v) (i : Int) (hi : (T.length : Int) = i)
    (hK : wpList Try.prog ops Q rest (a.put o.dst (.int .i64 i)) w) : wpList Try.prog ops Q (o :: rest) a w := by
  subst hi
  exact wpList_sw_len hw m hop h hm hK
end
theorem row_bytes {W : World} {B n : Nat} {v : Value} {bs : List UInt8} (h : W.ownsRow B 5 1 v n (bs.map byteVal)) (hn : 0 < n) : ∃ g cap, v = .slice (some ⟨g, 0, none⟩) n cap ∧ n ≤ cap ∧ cap ≤ maxLen ∧ BytesIn W g 0 bs := by
  have hl := h.1
  rcases h.2 with ⟨rfl, h0⟩ | ⟨g, cap, cur, rfl, hb, hg, hc1, hc2, hs, ht⟩
  · omega
  · refine ⟨g, cap, rfl, hc1, hc2, fun j hj => ?_⟩
    rw [List.length_map] at hl
    rw [Nat.zero_add, h.cellAt j (by omega), List.getElem?_map, List.getElem?_eq_getElem hj, List.getD_eq_getElem?_getD, List.getElem?_eq_getElem hj]; rfl
theorem parts38 : ∃ i, Try.prog.info? 38 = some i ∧ i.zero = some (.agg (oneCells (.slice none 0 0) 0)) ∧ i.size = 27 := by
  have h : (Try.prog.info? 38).map (fun i => (i.zero, i.size)) = some (some (.agg (oneCells (.slice none 0 0) 0)), 27) := by kernel_rfl
  obtain ⟨i, hi, he⟩ := Option.map_eq_some_iff.1 h
  exact ⟨i, hi, congrArg Prod.fst he, congrArg Prod.snd he⟩
theorem k21_row : (pairCells 7 5).toList ++ (pairCells 8 5).toList ++ (pairCells 9 6).toList = k21bytes.map byteVal := by kernel_rfl

set_option maxHeartbeats 4000000 in
set_option maxRecDepth 100000 in
theorem known21_any (w : World) : Calls Try.prog 44 #[] w (GivesB w (.bool true)) := by
  have HPA : Hid (∀ (W : World) (x y : Int), Calls Try.prog 79 #[.int .u8 x, .int .u8 y] W fun e w' => e = .returned (.slice (some ⟨W.heap.size, 0, none⟩) 16 16) ∧ w' = W.alloc (.cells (pairCells x y) 5)) := pair_any
  obtain ⟨i5, hi5, hz5, hs5, hy5⟩ := info_parts infoU8
  go_enter Try.func44, Try.ntmps44
  go_wp2_with fail
  go_at_call 79
  refine (HPA.out _ 7 5).mono ?_
  rintro e w1 ⟨rfl, hw1⟩
  have hA : w1.heap[w.heap.size]? = some (.cells (pairCells 7 5) 5 (0, 0)) := by rw [hw1]; exact hp_new _ _ _ rfl
  have hb1 : Below w.heap.size w w1 := by rw [hw1]; exact (Below.refl _ w).alloc (Nat.le_refl _) _
  have hz1 : w1.heap.size = w.heap.size + 1 := by rw [hw1]; simp
  clear hw1
  go_wp2_with fail
  go_at_call 79
  refine (HPA.out _ 8 5).mono ?_
  rintro e w2 ⟨rfl, hw2⟩
  have hA2 : w2.heap[w.heap.size]? = some (.cells (pairCells 7 5) 5 (0, 0)) := by rw [hw2, hp_old _ _ _ (by omega)]; exact hA
  have hB2 : w2.heap[w1.heap.size]? = some (.cells (pairCells 8 5) 5 (0, 0)) := by rw [hw2]; exact hp_new _ _ _ rfl
  have hb2 : Below w.heap.size w w2 := by rw [hw2]; exact hb1.alloc hb1.size _
  have hz2 : w.heap.size ≤ w2.heap.size := hb2.size
  have hown2 : w2.ownsRow w.heap.size 5 1 (.slice (some ⟨w.heap.size, 0, none⟩) 16 16) 16 (pairCells 7 5).toList := ⟨rfl, .inr ⟨w.heap.size, 16, _, rfl, Nat.le_refl _, hA2, Nat.le_refl _, by unfold maxLen; decide, rfl, rfl⟩⟩
  have HOWN2 := Lib.hid hown2
  rw [hz1] at hB2
  have HN2 := Lib.hid (World.news_of_block hB2)
  have HB2 := Lib.hid hb2
  clear hw2 hA hb1 hA2 hB2 hown2 hb2
  go_wp2_with (at_builtin; refine wpList_append_own _ rfl _ _ 57 rfl w.heap.size 5 i5 (.int .u8 0) 1 1 Try.underlying57 hi5 hz5 hs5 hy5 rfl (by decide) _ _ _ rfl HOWN2.out ⟨w.heap.size + 1, 0, none⟩ 16 16 (pairCells 8 5).toList rfl rfl HN2.out (by decide) (by unfold maxLen; decide) (by decide) hz2 ?_; intro v3 w3 hown3 hgrow3 _)
  obtain ⟨a3, c3, rfl⟩ := ownsRow_shape hown3
  have hb3 : Below w.heap.size w w3 := HB2.out.grown hgrow3 hz2 (fun k e => (HOWN2.out.lt k e).1)
  go_at_call 79
  refine (HPA.out _ 9 6).mono ?_
  rintro e w4 ⟨rfl, hw4⟩
  have hC4 : w4.heap[w3.heap.size]? = some (.cells (pairCells 9 6) 5 (0, 0)) := by rw [hw4]; exact hp_new _ _ _ rfl
  have hb4 : Below w.heap.size w w4 := by rw [hw4]; exact hb3.alloc hb3.size _
  have hz4 : w.heap.size ≤ w4.heap.size := hb4.size
  have HOWN4 : Hid (w4.ownsRow w.heap.size 5 1 (.slice a3 (16 + 16) c3) (16 + 16) ((pairCells 7 5).toList ++ (pairCells 8 5).toList)) := by rw [hw4]; exact hown3.alloc _
  have HN4 := Lib.hid (World.news_of_block hC4)
  have HB4 := Lib.hid hb4
  clear hw4 hC4 hb4 hown3 hgrow3 hb3 hz2 HN2 HOWN2 HB2
  go_wp2_with (at_builtin; refine wpList_append_own _ rfl _ _ 57 rfl w.heap.size 5 i5 (.int .u8 0) 1 1 Try.underlying57 hi5 hz5 hs5 hy5 rfl (by decide) _ _ _ rfl HOWN4.out ⟨w3.heap.size, 0, none⟩ 16 16 (pairCells 9 6).toList rfl rfl HN4.out (by decide) (by unfold maxLen; decide) (by decide) hz4 ?_; intro v5 w5 hown5 hgrow5 _; obtain ⟨a5, c5, rfl⟩ := ownsRow_shape hown5)
  have hb5 : Below w.heap.size w w5 := HB4.out.grown hgrow5 hz4 (fun k e => (HOWN4.out.lt k e).1)
  rw [k21_row] at hown5
  have hown6 := hown5.alloc (.cells #[.int .u64 65536, .int .i64 1, .int .i64 3, .slice a5 48 c5] 159)
  obtain ⟨g5, cp, hg5, hcp1, hcp2, hby⟩ := row_bytes (bs := k21bytes) hown6 (by decide)
  cases hg5
  have hrng : Rngs (w5.alloc (.cells #[.int .u64 65536, .int .i64 1, .int .i64 3, .slice (some ⟨g5, 0, none⟩) 48 c5] 159)) (some ⟨w5.heap.size, 0, none⟩) 1 k21 := by
    refine ⟨Nat.le_refl _, by unfold maxLen; omega, fun j hj => ?_⟩
    obtain rfl : j = 0 := by simpa [k21] using hj
    exact ⟨w5.heap.size, 0, rfl, some ⟨g5, 0, none⟩, c5, by decide, by decide, hcp1, hcp2, cells_whole (hp_new _ _ _ rfl), fun _ => ⟨g5, 0, rfl, hby⟩⟩
  have hmem := memory21_any _ _ _ _ hrng
  have hb6 := hb5.alloc hb5.size (.cells #[.int .u64 65536, .int .i64 1, .int .i64 3, .slice (some ⟨g5, 0, none⟩) 48 c5] 159)
  refine hmem.mono ?_
  clear hown5 hown6 hgrow5 hrng hmem hby hb5 HB4 HN4 HOWN4 HPA
  generalize (w5.alloc (.cells #[.int .u64 65536, .int .i64 1, .int .i64 3, .slice (some ⟨g5, 0, none⟩) 48 c5] 159)) = w6 at *
  rintro e w7 (⟨h1, _⟩ | ⟨_, s, r, rfl, htwo⟩)
  · rw [k21_ok] at h1; cases h1
  obtain ⟨F, G, hsp, _⟩ := htwo.own
  have hb7 := hb6.trans (below_le htwo.below hb6.size)
  have HSP := Lib.hid hsp
  have HB7 := Lib.hid hb7
  clear htwo hsp hb7 hb6
  obtain ⟨i0, hi0, hz0, hs0⟩ : ∃ i, Try.prog.info? 38 = some i ∧ i.zero = some (.agg (oneCells (.slice none 0 0) 0)) ∧ i.size = 27 := parts38
  go_wp2_with fail
  refine (one_any _ 0 16 65536 (by decide) (by decide)).mono ?_
  rintro e w8 ⟨o1, rfl, hb8, hi1⟩
  have hb8' := HB7.out.trans (below_le hb8 HB7.out.size)
  have HSP8 := Lib.hid (HSP.out.keepB hb8)
  have HI1 := Lib.hid hi1
  have HB8 := Lib.hid hb8'
  clear HSP HB7 hb8 hi1 hb8'
  go_wp2_with fail
  refine (one_any _ 65552 32 0 (by decide) (by decide)).mono ?_
  rintro e w9 ⟨o2, rfl, hb9, hi2⟩
  have hb9' := HB8.out.trans (below_le hb9 HB8.out.size)
  have HSP9 := Lib.hid (HSP8.out.keepB hb9)
  have HI1' := Lib.hid (HI1.out.keep hb9)
  have HI2 := Lib.hid hi2
  have HB9 := Lib.hid hb9'
  have HSZ : Hid (∀ c ∈ [oneCells (.slice none 0 0) 0, o1, o2], c.size = 27) := fun c hc => by
    simp only [List.mem_cons, List.not_mem_nil, or_false] at hc
    rcases hc with rfl | rfl | rfl
    · rfl
    · exact HI1'.out.1
    · exact hi2.1
  clear HSP8 HB8 HI1 hb9 hi2 hb9'
  go_wp2_with (guard_target =~ wpList _ _ _ ({ dst := some 26, op := _, type := _, pos := _, after := _, guard := _ } :: _) _ _; go_must (refine wpList_buildSlice_aggs rfl 22 38 3 _ rfl i0 (.agg (oneCells (.slice none 0 0) 0)) Try.underlying22 hi0 hz0 27 hs0 [oneCells (.slice none 0 0) 0, o1, o2] rfl rfl HSZ.out (by simp) ?_); intro cells hcells; have HCS := Lib.hid hcells; clear hcells)
  have hims := ims_built (w := w9) (css := [oneCells (.slice none 0 0) 0, o1, o2]) (l := k21Im) rfl (fun j cs hj => by
    match j, hj with
    | 0, hj => cases hj; exact zero_im _
    | 1, hj => cases hj; exact HI1'.out
    | 2, hj => cases hj; exact HI2.out) HCS.out
  have hb10 := (Below.refl w9.heap.size w9).alloc (Nat.le_refl _) (.cells cells 38)
  have htm := tmap_any _ s _ F (HSP9.out.keepB hb10) _ 3 k21Im hims (by decide) (Nat.le_refl _)
  refine htm.mono ?_
  rintro e w11 ⟨v, rfl, hb11, hsv⟩
  have hb11' := HB9.out.trans (below_le (hb10.trans (below_le hb11 hb10.size)) HB9.out.size)
  obtain ⟨q1, q2, q3⟩ := k21_tab
  rw [q1] at hsv
  rw [q2, q3]
  have HSV := Lib.hid hsv
  have HB11 := Lib.hid hb11'
  clear hims hb10 htm hb11 hsv hb11' HCS HSZ HSP9 HB9 HI1' HI2 q1 q2 q3
  have hea : ∀ W, (binOp .eql 97 (.agg #[.int .u64 1792, .int .i64 1]) (.agg #[.int .u64 1792, .int .i64 1])).run Try.prog W = .ok (.bool true) W := eq97_same 1792 1 (by decide) (by decide)
  have heb : ∀ W, (binOp .eql 97 (.agg #[.int .u64 2304, .int .i64 2]) (.agg #[.int .u64 2304, .int .i64 2])).run Try.prog W = .ok (.bool true) W := eq97_same 2304 2 (by decide) (by decide)
  have HS0 : Hid (∀ W, Below w11.heap.size w11 W → Calls Try.prog 50 #[v, .int .i64 0, .int .u64 1280] W fun e w' => e = .returned (.int .u64 1792) ∧ Below W.heap.size W w') := fun W hW => swapped_any W v _ (HSV.out.keepB hW) 0 (by decide) 0 1280 rfl (by decide)
  have HS1 : Hid (∀ W, Below w11.heap.size w11 W → Calls Try.prog 50 #[v, .int .i64 1, .int .u64 1280] W fun e w' => e = .returned (.int .u64 1280) ∧ Below W.heap.size W w') := fun W hW => swapped_any W v _ (HSV.out.keepB hW) 1 (by decide) 1 1280 rfl (by decide)
  go_wp2_with (first
    | (refine wpList_sw_lenI rfl (.tmp 34) rfl HSV.out rfl 2 rfl ?_)
    | (refine wpList_sw_get rfl (.tmp 39) (.const (.int .u64 1280)) rfl HSV.out rfl 1280 rfl 1280 rfl (by decide) (r1 := 1792) (r2 := 1) rfl 1792 1 rfl rfl ?_)
    | (refine wpList_sw_get rfl (.tmp 45) (.const (.int .u64 1536)) rfl HSV.out rfl 1536 rfl 1536 rfl (by decide) (r1 := 2304) (r2 := 2) rfl 2304 2 rfl rfl ?_))
  refine (HS0.out _ (Below.refl _ _)).mono ?_
  rintro e w12 ⟨rfl, hb12⟩
  have B12 := Lib.hid hb12
  clear hb12 HS0
  go_wp2_with fail
  refine (HS1.out _ B12.out).mono ?_
  rintro e w13 ⟨rfl, hb13⟩
  have B13 := Lib.hid hb13
  clear hb13 HS1
  go_wp2_with fail
  go_ret
  exact ⟨rfl, HB11.out.trans (below_le (B12.out.step B13.out) HB11.out.size)⟩
end Go.Proofs.Ytepnaalgobhcdaa
