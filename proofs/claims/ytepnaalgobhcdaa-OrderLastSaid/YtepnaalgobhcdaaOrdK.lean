/- Where each place stands in an order of places: plain lists. -/
import Derived.Test.YtepnaalgobhcdaaOrdJ
import Derived.Test.YtepnaalgobhcdaaOrdG
import Derived.Test.YtepnaalgobhcdaaOrdH
namespace Go.Proofs.Ytepnaalgobhcdaa
open Go.RowKit Clv

/-- What the table holds of a place when k of the order have been gone through. -/
def stand (r : List Nat) (k x : Nat) : Int := if r.idxOf x < k then (r.idxOf x : Int) else -1
def stands (r : List Nat) (n k : Nat) : List Int := (List.range n).map (stand r k)
def blanks (n k : Nat) : List Int := (List.range n).map fun x => if x < k then -1 else 0

theorem blanks_zero (n : Nat) : blanks n 0 = List.replicate n 0 := by
  apply List.ext_getElem?; intro i
  by_cases h : i < n <;> simp [blanks, h]
theorem blanks_step {n k : Nat} (_h : k < n) : (blanks n k).set k (-1) = blanks n (k + 1) := by
  apply List.ext_getElem?; intro i
  rw [List.getElem?_set]
  by_cases e : k = i
  · subst e; simp [blanks, _h]
  · by_cases hi : i < n
    · simp only [blanks, List.length_map, List.length_range, e, if_false, List.getElem?_map, List.getElem?_range hi, Option.map_some]
      congr 1
      by_cases h1 : i < k
      · rw [if_pos h1, if_pos (by omega)]
      · rw [if_neg h1, if_neg (by omega)]
    · simp [blanks, e, hi]
theorem blanks_full (r : List Nat) (n : Nat) : blanks n n = stands r n 0 := by
  apply List.ext_getElem?; intro i
  by_cases h : i < n <;> simp [blanks, stands, stand, h]
theorem stands_step {r : List Nat} {n k x : Nat} (hnd : r.Nodup) (hk : r[k]? = some x) : (stands r n k).set x k = stands r n (k + 1) := by
  have hkl : k < r.length := (List.getElem?_eq_some_iff.1 hk).1
  have hx : r[k] = x := (List.getElem?_eq_some_iff.1 hk).2
  have hix : r.idxOf x = k := by rw [← hx]; exact hnd.idxOf_getElem k hkl
  apply List.ext_getElem?; intro i
  rw [List.getElem?_set]
  by_cases e : x = i
  · subst e
    by_cases hn : x < n
    · simp [stands, stand, hn, hix]
    · simp [stands, hn]
  · by_cases hi : i < n
    · simp only [stands, List.length_map, List.length_range, e, if_false, List.getElem?_map, List.getElem?_range hi, Option.map_some]
      congr 1
      unfold stand
      have hne : r.idxOf i ≠ k := by
        intro h
        have hlt : r.idxOf i < r.length := by omega
        have := List.getElem_idxOf hlt
        simp only [h] at this
        exact e (hx.symm.trans this)
      by_cases h1 : r.idxOf i < k
      · rw [if_pos h1, if_pos (by omega)]
      · rw [if_neg h1, if_neg (by omega)]
    · simp [stands, e, hi]
theorem stand_new {r : List Nat} {k x : Nat} (hnd : r.Nodup) (hk : r[k]? = some x) : stand r k x = -1 := by
  have hkl : k < r.length := (List.getElem?_eq_some_iff.1 hk).1
  have hx : r[k] = x := (List.getElem?_eq_some_iff.1 hk).2
  have hix : r.idxOf x = k := by rw [← hx]; exact hnd.idxOf_getElem k hkl
  unfold stand; rw [if_neg (by omega)]
theorem stands_get {r : List Nat} {n k x : Nat} (hx : x < n) : (stands r n k)[x]? = some (stand r k x) := by simp [stands, hx]
theorem stand_full {r : List Nat} {x : Nat} (hx : x ∈ r) : stand r r.length x = r.idxOf x := by
  unfold stand; rw [if_pos (List.idxOf_lt_length_of_mem hx)]
theorem ahead {g : Nat → List Nat} {n : Nat} (hg : ∀ i, ∀ d ∈ g i, d < n) {x d : Nat} (hx : x < n) (hd : d ∈ g x) (hn : ¬ Path g d x) : (runOut g n).idxOf d < (runOut g n).idxOf x := by
  have hm : x ∈ runOut g n := (runOut_mem hg x).2 hx
  have hnd := runOut_nodup hg (n := n)
  obtain ⟨p, q, e⟩ := List.append_of_mem hm
  have hp := runOut_good hg e hd hn
  rw [e] at hnd ⊢
  have hxp : x ∉ p := fun h => (List.nodup_append.1 hnd).2.2 x h x (by simp) rfl
  rw [List.idxOf_append, if_pos hp, List.idxOf_append, if_neg hxp]
  have := List.idxOf_lt_length_of_mem hp
  omega

theorem ints_get {D : List Int} {x : Nat} {v : Int} (h : D[x]? = some v) : (ints D)[x]? = some (.int .i64 v) := by simp [ints, h]
theorem ints_set (D : List Int) (x : Nat) (v : Int) : (ints D).setIfInBounds x (.int .i64 v) = ints (D.set x v) := by simp [ints, List.map_set]
theorem make_ints (n : Nat) (hn : n ≤ 1000000) (w : World) : (Instr.makeSlice 25 (.int .i64 (n : Int)) (.int .i64 (n : Int))).run Try.prog w = .ok (.slice (some ⟨w.heap.size, 0, none⟩) n n) (w.alloc (.cells (ints (blanks n 0)) 3)) := by
  obtain ⟨i, hi, hz, hs, hb⟩ := info_parts Try.info3
  have := run_make_rowN (P := Try.prog) 25 3 i (.int .i64 0) Try.underlying25 hi hz .i64 .i64 n n (Nat.le_refl _) (by rw [hb]; omega) (by omega) w
  rw [hs, Nat.mul_one] at this
  rw [this]
  show Result.ok _ (w.alloc (.cells (madeCells #[Value.int .i64 0] n) 3)) = _
  rw [made_one, blanks_zero]
  simp [ints]

/-- A table of numbers in a block of the call's own. -/
structure TabSt (w1 : World) (B : Nat) (D : List Int) (wr : World) : Prop where
  row : wr.heap[B]? = some (.cells (ints D) 3 (0, 0))
  below : Below B w1 wr
theorem TabSt.keep {w1 : World} {B : Nat} {D : List Int} {wr w2 : World} (h : TabSt w1 B D wr) (hb : Below wr.heap.size wr w2) : TabSt w1 B D w2 :=
  ⟨keep_heap hb h.row, h.below.trans (hb.mono (Nat.le_of_lt (lt_of_block h.row)))⟩
theorem TabSt.set {w1 : World} {B : Nat} {D : List Int} {wr : World} (h : TabSt w1 B D wr) (x : Nat) (v : Int) : TabSt w1 B (D.set x v) (wr.setCell ⟨B, x, none⟩ (.int .i64 v)) :=
  ⟨by rw [heap_setCell_same _ _ _ _ _ _ h.row, ints_set], h.below.setCell (Nat.le_refl _) _⟩
theorem TabSt.cell {w1 : World} {B : Nat} {D : List Int} {wr : World} (h : TabSt w1 B D wr) {x : Nat} {v : Int} (hx : D[x]? = some v) : wr.cell? ⟨B, x, none⟩ = some (.int .i64 v) := by
  simp only [World.cell?, h.row]; exact ints_get hx
theorem TabSt.free {w1 : World} {B : Nat} {D : List Int} {wr : World} (h : TabSt w1 B D wr) (x : Nat) : wr.frozen? ⟨B, x, none⟩ = false := frozen_of_row _ _ _ _ _ h.row
end Go.Proofs.Ytepnaalgobhcdaa
