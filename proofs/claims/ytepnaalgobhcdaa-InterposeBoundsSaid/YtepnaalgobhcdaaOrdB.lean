/- What images lead to as a graph of numbers, and how the state of a walk over it lies in memory. -/
import Derived.Test.YtepnaalgobhcdaaOrdA
import Derived.Test.YtepnaalgobhcdaaOrdP
namespace Go.Proofs.Ytepnaalgobhcdaa
open Go.RowKit Clv

def img0 : ImgM := ⟨0, [], [], []⟩
/-- Does the walk follow dependency k? -/
def okDep (n : Nat) (x : ImgM) (k : Nat) : Bool := !upB x k && decide (0 ≤ x.deps.getD k 0) && decide (x.deps.getD k 0 < n)
def edgesTo (n : Nat) (x : ImgM) (k : Nat) : List Nat := ((List.range k).filter (okDep n x)).map fun j => (x.deps.getD j 0).toNat
def gOf (l : List ImgM) (i : Nat) : List Nat := edgesTo l.length (l.getD i img0) (l.getD i img0).deps.length

theorem okDep_up {n : Nat} {x : ImgM} {k : Nat} (h : upB x k = true) : okDep n x k = false := by simp [okDep, h]
theorem okDep_neg {n : Nat} {x : ImgM} {k : Nat} {d : Int} (hd : x.deps.getD k 0 = d) (h : d < 0) : okDep n x k = false := by unfold okDep; rw [hd]; simp; omega
theorem okDep_big {n : Nat} {x : ImgM} {k : Nat} {d : Int} (hd : x.deps.getD k 0 = d) (h : (n : Int) ≤ d) : okDep n x k = false := by unfold okDep; rw [hd]; simp; omega
theorem okDep_of {n : Nat} {x : ImgM} {k : Nat} {d : Nat} (hu : upB x k = false) (hd : x.deps.getD k 0 = d) (h : d < n) : okDep n x k = true := by unfold okDep; rw [hd, hu]; simp; omega
theorem stepV_yes {g : Nat → List Nat} {f d : Nat} {s : St} (h : s.begun.getD d false = true) : stepV g f s d = s := by unfold stepV; rw [if_pos h]
theorem stepV_no {g : Nat → List Nat} {f d : Nat} {s : St} (h : s.begun.getD d false = false) : stepV g f s d = visit g f d s := by unfold stepV; rw [if_neg (by rw [h]; simp)]
theorem edgesTo_zero (n : Nat) (x : ImgM) : edgesTo n x 0 = [] := rfl
theorem edgesTo_yes {n : Nat} {x : ImgM} {k : Nat} (h : okDep n x k = true) : edgesTo n x (k + 1) = edgesTo n x k ++ [(x.deps.getD k 0).toNat] := by
  unfold edgesTo; rw [List.range_succ, List.filter_append]; simp [h]
theorem edgesTo_no {n : Nat} {x : ImgM} {k : Nat} (h : okDep n x k = false) : edgesTo n x (k + 1) = edgesTo n x k := by
  unfold edgesTo; rw [List.range_succ, List.filter_append]; simp [h]
theorem fold_no {n : Nat} {x : ImgM} {k f : Nat} {g : Nat → List Nat} {s sk : St} (h : okDep n x k = false) (hs : (edgesTo n x k).foldl (stepV g f) s = sk) : (edgesTo n x (k + 1)).foldl (stepV g f) s = sk := by rw [edgesTo_no h, hs]
theorem fold_yes {n : Nat} {x : ImgM} {k f d : Nat} {g : Nat → List Nat} {s sk : St} (h : okDep n x k = true) (hd : x.deps.getD k 0 = (d : Int)) (hs : (edgesTo n x k).foldl (stepV g f) s = sk) : (edgesTo n x (k + 1)).foldl (stepV g f) s = stepV g f sk d := by
  rw [edgesTo_yes h, List.foldl_append, hs, hd]; rfl
theorem edgesTo_lt {n : Nat} {x : ImgM} {k : Nat} : ∀ d ∈ edgesTo n x k, d < n := by
  intro d hd
  unfold edgesTo at hd
  obtain ⟨j, hj, rfl⟩ := List.mem_map.1 hd
  have := (List.mem_filter.1 hj).2
  simp [okDep] at this
  have e : x.deps[j]?.getD 0 = x.deps.getD j 0 := by simp
  omega
theorem gOf_lt (l : List ImgM) : ∀ i, ∀ d ∈ gOf l i, d < l.length := fun _ _ h => edgesTo_lt _ h

theorem below_grown {w w' : World} (h : Below w.heap.size w w') : w.grownBy w' none := ⟨h.os, h.tape, h.output, h.size, fun k hk _ => h.block k hk⟩
theorem keep_heap {w w' : World} (h : Below w.heap.size w w') {b : Nat} {o : Obj} (hb : w.heap[b]? = some o) : w'.heap[b]? = some o :=
  (h.block b (lt_of_block hb)).trans hb

def bools (l : List Bool) : Array Value := (l.map Value.bool).toArray
def nums (l : List Nat) : List Value := l.map fun (x : Nat) => Value.int .i64 (x : Int)
theorem bools_set (l : List Bool) (i : Nat) (b : Bool) : (bools l).setIfInBounds i (.bool b) = bools (l.set i b) := by
  simp [bools, List.map_set]
theorem bools_get {l : List Bool} {i : Nat} (h : i < l.length) : (bools l)[i]? = some (.bool (l.getD i false)) := by
  simp [bools, h]
theorem bools_size (l : List Bool) : (bools l).size = l.length := by simp [bools]

def onFn (B : Nat) : Value := .func (.func 61) #[] #[.pointer (some ⟨B + 3, 0, none⟩), .pointer (some ⟨B, 0, none⟩), .pointer (some ⟨B + 4, 0, none⟩), .pointer (some ⟨B + 1, 0, none⟩)]
/-- The blocks of a call of order.Run. -/
structure OrdSt (w0 : World) (la : Option Addr) (lc n : Nat) (s : St) (wr : World) : Prop where
  l : wr.heap[w0.heap.size]? = some (.cells #[.slice la n lc] 22 (0, 0))
  begunv : wr.heap[w0.heap.size + 3]? = some (.cells #[.slice (some ⟨w0.heap.size + 2, 0, none⟩) n n] 40 (0, 0))
  begun : wr.heap[w0.heap.size + 2]? = some (.cells (bools s.begun) 4 (0, 0))
  onv : wr.heap[w0.heap.size + 4]? = some (.cells #[onFn w0.heap.size] 130 (0, 0))
  out : ∃ v, wr.heap[w0.heap.size + 1]? = some (.cells #[v] 25 (0, 0)) ∧ wr.ownsRow (w0.heap.size + 5) 3 1 v s.out.length (nums s.out)
  below : Below w0.heap.size w0 wr
  len : s.begun.length = n

theorem OrdSt.keep {w0 : World} {la : Option Addr} {lc n : Nat} {s : St} {wr w1 : World} (h : OrdSt w0 la lc n s wr) (hb : Below wr.heap.size wr w1) : OrdSt w0 la lc n s w1 := by
  obtain ⟨h1, h2, h3, h4, ⟨v, h5, h6⟩, h7, h8⟩ := h
  exact ⟨keep_heap hb h1, keep_heap hb h2, keep_heap hb h3, keep_heap hb h4, ⟨v, keep_heap hb h5, h6.kept (below_grown hb) (by
    rcases h6.2 with ⟨rfl, _⟩ | ⟨g, cap, cur, rfl, _⟩ <;> simp [Value.ownBlock])⟩, h7.trans (hb.mono h7.size), h8⟩
theorem OrdSt.mark {w0 : World} {la : Option Addr} {lc n : Nat} {s : St} {wr : World} (h : OrdSt w0 la lc n s wr) (i : Nat) :
    OrdSt w0 la lc n ⟨s.begun.set i true, s.out⟩ (wr.setCell ⟨w0.heap.size + 2, i, none⟩ (.bool true)) := by
  obtain ⟨h1, h2, h3, h4, ⟨v, h5, h6⟩, h7, h8⟩ := h
  have ho : ∀ (k : Nat) (o : Obj), k ≠ w0.heap.size + 2 → wr.heap[k]? = some o → (wr.setCell ⟨w0.heap.size + 2, i, none⟩ (.bool true)).heap[k]? = some o := fun k o hk hh => by
    rw [heap_setCell_other _ _ _ _ hk]; exact hh
  refine ⟨ho _ _ (by omega) h1, ho _ _ (by omega) h2, ?_, ho _ _ (by omega) h4, ⟨v, ho _ _ (by omega) h5, ?_⟩, h7.setCell (by simp) _, by simpa using h8⟩
  · rw [heap_setCell_same _ _ _ _ _ _ h3, bools_set]
  · exact ownsRow_setCell_below h6 (by simp) _
/-- A one-cell variable lies as it lay behind an append onto a row of the call's own. -/
theorem var_grown {wr w1 : World} {B0 b : Nat} {v : Value} {n : Nat} {xs : List Value} {e : TypeId} {sz : Nat} {o o' : Obj} (hv : wr.heap[b]? = some o) (hb : b < B0) (ho : wr.ownsRow B0 e sz v n xs) (hg : (wr.alloc o').grownBy w1 v.ownBlock) : w1.heap[b]? = some o := by
  have hl := lt_of_block hv
  rw [hg.block b (by simp; omega) (fun e => by have := ho.lt b e.symm; omega), Below.heap_alloc _ _ _ hl]
  exact hv
theorem OrdSt.push {w0 : World} {la : Option Addr} {lc n : Nat} {s : St} {wr w1 : World} {v v' : Value} {i : Nat} (h : OrdSt w0 la lc n s wr)
    (hv : wr.heap[w0.heap.size + 1]? = some (.cells #[v] 25 (0, 0))) (ho : wr.ownsRow (w0.heap.size + 5) 3 1 v s.out.length (nums s.out))
    (hg : (wr.alloc (.cells #[.int .i64 i] 3)).grownBy w1 v.ownBlock) (ho' : w1.ownsRow (w0.heap.size + 5) 3 1 v' (s.out.length + 1) (nums s.out ++ [.int .i64 i])) :
    OrdSt w0 la lc n ⟨s.begun, s.out ++ [i]⟩ (w1.setCell ⟨w0.heap.size + 1, 0, none⟩ v') := by
  obtain ⟨h1, h2, h3, h4, _, h7, h8⟩ := h
  have hne : ∀ k, k < w0.heap.size + 5 → some k ≠ v.ownBlock := fun k hk e => by have := ho.lt k e.symm; omega
  have hk : ∀ (k : Nat) (o : Obj), k < w0.heap.size + 5 → wr.heap[k]? = some o → w1.heap[k]? = some o := fun k o hlt hh => by
    have hl := lt_of_block hh
    rw [hg.block k (by simp; omega) (hne k hlt), Below.heap_alloc _ _ _ hl]
    exact hh
  have hs : ∀ (k : Nat) (o : Obj), k ≠ w0.heap.size + 1 → k < w0.heap.size + 5 → wr.heap[k]? = some o → (w1.setCell ⟨w0.heap.size + 1, 0, none⟩ v').heap[k]? = some o := fun k o hk' hlt hh => by
    rw [heap_setCell_other _ _ _ _ hk']; exact hk k o hlt hh
  refine ⟨hs _ _ (by omega) (by omega) h1, hs _ _ (by omega) (by omega) h2, hs _ _ (by omega) (by omega) h3, hs _ _ (by omega) (by omega) h4, ⟨v', one_setCell (hk _ _ (by omega) hv), ?_⟩, ?_, h8⟩
  · have := ownsRow_setCell_below (a := ⟨w0.heap.size + 1, 0, none⟩) ho' (by simp) v'
    simpa [nums] using this
  · exact ((h7.alloc h7.size _).grown hg (by simp; have := h7.size; omega) (fun k e => by have := ho.lt k e; omega)).setCell (by simp) _
theorem begun_cell {w0 : World} {la : Option Addr} {lc n : Nat} {s : St} {wr : World} (h : OrdSt w0 la lc n s wr) {d : Nat} (hd : d < n) {b : Bool} (hb : s.begun.getD d false = b) :
    wr.cell? ⟨w0.heap.size + 2, d, none⟩ = some (.bool b) := by
  simp only [World.cell?, h.begun]; rw [← hb]; exact bools_get (by rw [h.len]; exact hd)
end Go.Proofs.Ytepnaalgobhcdaa
