/- The ground of the proofs of this seat: how the images, segments and sections that a law is handed lie in memory, and small laws of the walk. -/
import Derived.Test.YtepnaalgobhcdaaChecked
import Derived.WalkKit
import Derived.ProofKit
import Derived.Lib.Hide
import Derived.Laws.EntriesVeiled
namespace Go.Proofs.Ytepnaalgobhcdaa
open Go.RowKit

/-! ### A section, a segment, an image as plain data -/
structure SecM where
  addr : Nat
  size : Nat
  kind : Int
structure SegM where
  addr : Nat
  fsize : Nat
  off : Nat
  size : Nat
  prot : Int
  secs : List SecM
structure ImgM where
  slide : Nat
  deps : List Int
  ups : List Int
  segs : List SegM

/-- The cells from (b, off) on hold these values. -/
def CellsAt (w : World) (b off : Nat) (cs : Array Value) : Prop := ∀ j v, cs[j]? = some v → w.cell? ⟨b, off + j, none⟩ = some v

/-- A slice of n elements of so many cells, of each of which something holds. -/
def SliceOf (a : Option Addr) (n sz : Nat) (R : Nat → Nat → Nat → Prop) : Prop := ∀ j, j < n → ∃ b o, a = some ⟨b, o, none⟩ ∧ R j b (o + j * sz)

def SecAt (w : World) (x : SecM) (b off : Nat) : Prop :=
  ∃ (n s : ByteArray) (o : Int), x.addr < 18446744073709551616 ∧ x.size < 18446744073709551616 ∧
    CellsAt w b off #[.string n, .string s, .int .u64 x.addr, .int .u64 x.size, .int .u64 o, .int .i64 x.kind]
def SegAt (w : World) (x : SegM) (b off : Nat) : Prop :=
  ∃ (n : ByteArray) (a : Option Addr) (c : Nat), x.addr < 18446744073709551616 ∧ x.size < 18446744073709551616 ∧ x.off < 18446744073709551616 ∧ x.fsize < 18446744073709551616 ∧ x.secs.length ≤ c ∧ c ≤ maxLen ∧
    CellsAt w b off #[.string n, .int .u64 x.addr, .int .u64 x.size, .int .u64 x.off, .int .u64 x.fsize, .int .i64 x.prot, .slice a x.secs.length c] ∧
    SliceOf a x.secs.length 6 fun j => SecAt w (x.secs.getD j ⟨0, 0, 0⟩)
def DepAt (w : World) (k : Int) (b off : Nat) : Prop := w.cell? ⟨b, off + 1, none⟩ = some (.int .i64 k)
def IntAt (w : World) (k : Int) (b off : Nat) : Prop := w.cell? ⟨b, off, none⟩ = some (.int .i64 k) ∧ -9223372036854775808 ≤ k ∧ k ≤ 9223372036854775807

/-- The 27 cells of an image that was loaded. -/
structure ImgCells (w : World) (x : ImgM) (cs : Array Value) : Prop where
  size : cs.size = 27
  slideb : x.slide < 18446744073709551616
  segs : ∃ a c, cs[5]? = some (.slice a x.segs.length c) ∧ x.segs.length ≤ c ∧ c ≤ maxLen ∧ SliceOf a x.segs.length 7 fun j => SegAt w (x.segs.getD j ⟨0, 0, 0, 0, 0, []⟩)
  ups : ∃ a c, cs[6]? = some (.slice a x.ups.length c) ∧ x.ups.length ≤ c ∧ c ≤ maxLen ∧ SliceOf a x.ups.length 2 fun j => DepAt w (x.ups.getD j 0)
  slide : cs[25]? = some (.int .u64 x.slide)
  deps : ∃ a c, cs[26]? = some (.slice a x.deps.length c) ∧ x.deps.length ≤ c ∧ c ≤ maxLen ∧ SliceOf a x.deps.length 1 fun j => IntAt w (x.deps.getD j 0)
def ImgAt (w : World) (x : ImgM) (b off : Nat) : Prop := ∃ cs, CellsAt w b off cs ∧ ImgCells w x cs
/-- A slice of images. -/
def Imgs (w : World) (a : Option Addr) (c : Nat) (l : List ImgM) : Prop := l.length ≤ c ∧ c ≤ maxLen ∧ SliceOf a l.length 27 fun j => ImgAt w (l.getD j ⟨0, [], [], []⟩)

/-! ### What is below stays -/
theorem CellsAt.below {w w' : World} {B b off : Nat} {cs : Array Value} (h : CellsAt w b off cs) (hb : Below B w w') (hlt : cs.size ≠ 0 → b < B) : CellsAt w' b off cs := fun j v hj => by
  have hb' : b < B := hlt (by intro e; simp [Array.getElem?_eq_none (show cs.size ≤ j by omega)] at hj)
  rw [hb.cell (p := ⟨b, off + j, none⟩) hb']
  exact h j v hj
theorem CellsAt.lt {w : World} {b off : Nat} {cs : Array Value} (h : CellsAt w b off cs) (hs : cs.size ≠ 0) : b < w.heap.size := by
  have h0 := h 0 cs[0] (by simp)
  exact block_lt_of_cell h0
theorem SliceOf.mono {a : Option Addr} {n sz : Nat} {R R' : Nat → Nat → Nat → Prop} (h : SliceOf a n sz R) (hr : ∀ j b o, j < n → R j b o → R' j b o) : SliceOf a n sz R' := fun j hj => by
  obtain ⟨b, o, e, r⟩ := h j hj
  exact ⟨b, o, e, hr j b _ hj r⟩
theorem SliceOf.get {a : Option Addr} {n sz : Nat} {R : Nat → Nat → Nat → Prop} (h : SliceOf a n sz R) (hn : 0 < n) : ∃ b o, a = some ⟨b, o, none⟩ ∧ ∀ j, j < n → R j b (o + j * sz) := by
  obtain ⟨b, o, rfl, _⟩ := h 0 hn
  refine ⟨b, o, rfl, fun j hj => ?_⟩
  obtain ⟨b', o', e, r⟩ := h j hj
  cases e
  exact r
theorem CellsAt.keep {w w' : World} {b off : Nat} {cs : Array Value} (h : CellsAt w b off cs) (hb : Below w.heap.size w w') : CellsAt w' b off cs := h.below hb h.lt
theorem SecAt.keep {w w' : World} {x : SecM} {b off : Nat} (h : SecAt w x b off) (hb : Below w.heap.size w w') : SecAt w' x b off := by
  obtain ⟨n, s, o, h1, h2, hc⟩ := h
  exact ⟨n, s, o, h1, h2, hc.keep hb⟩
theorem SegAt.keep {w w' : World} {x : SegM} {b off : Nat} (h : SegAt w x b off) (hb : Below w.heap.size w w') : SegAt w' x b off := by
  obtain ⟨n, a, c, h1, h2, h3, h4, h5, h6, hc, hs⟩ := h
  exact ⟨n, a, c, h1, h2, h3, h4, h5, h6, hc.keep hb, hs.mono fun _ _ _ _ h => h.keep hb⟩
theorem cell_keep {w w' : World} {p : Addr} {v : Value} (h : w.cell? p = some v) (hb : Below w.heap.size w w') : w'.cell? p = some v :=
  (hb.cell (block_lt_of_cell h)).trans h
theorem ImgCells.keep {w w' : World} {x : ImgM} {cs : Array Value} (h : ImgCells w x cs) (hb : Below w.heap.size w w') : ImgCells w' x cs := by
  obtain ⟨h1, h2, ⟨a3, c3, e3, l3, m3, s3⟩, ⟨a4, c4, e4, l4, m4, s4⟩, h5, ⟨a6, c6, e6, l6, m6, s6⟩⟩ := h
  exact ⟨h1, h2, ⟨a3, c3, e3, l3, m3, s3.mono fun _ _ _ _ h => h.keep hb⟩, ⟨a4, c4, e4, l4, m4, s4.mono fun _ _ _ _ h => cell_keep h hb⟩, h5, ⟨a6, c6, e6, l6, m6, s6.mono fun _ _ _ _ h => ⟨cell_keep h.1 hb, h.2⟩⟩⟩
theorem ImgAt.keep {w w' : World} {x : ImgM} {b off : Nat} (h : ImgAt w x b off) (hb : Below w.heap.size w w') : ImgAt w' x b off := by
  obtain ⟨cs, h1, h2⟩ := h
  exact ⟨cs, h1.keep hb, h2.keep hb⟩
theorem Imgs.keep {w w' : World} {a : Option Addr} {c : Nat} {l : List ImgM} (h : Imgs w a c l) (hb : Below w.heap.size w w') : Imgs w' a c l :=
  ⟨h.1, h.2.1, h.2.2.mono fun _ _ _ _ h => h.keep hb⟩

/-! ### Laws of the walk -/
section
variable {P : Program} {ops : Array Oper} {rest : List Oper} {o : Oper} {a : Act} {w w' : World} {Q : Exit → Act → World → Prop}
theorem wpList_run (hw : Region.wanted o (yielded ops a.tmps) = true) (v : Value) (hr : (execOp a.eval o).run P w = .ok (.value v) w') (h : wpList P ops Q rest (a.put o.dst v) w') : wpList P ops Q (o :: rest) a w := by
  refine wpList_step fun K hK => ?_
  rw [if_pos hw]
  unfold Oper.wp
  rw [hr]
  exact hK _ _ h
theorem run_loadVar_cells (b off : Nat) (ty : TypeId) (cs : Array Value) (d : TypeDesc) (hc : CellsAt w b off cs)
    (hu : P.underlying ty = some d) (hd : (match d with | .struct _ | .array _ _ => true | _ => false) = true) (hi : (P.info? ty).map (·.size) = some cs.size) :
    (loadVar ty ⟨b, off, none⟩).run P w = .ok (.agg cs) w := by
  have hl : (loadCells ⟨b, off, none⟩ cs.toList.length).run P w = .ok cs.toList.toArray w :=
    run_loadCells_list (P := P) w ⟨b, off, none⟩ cs.toList (fun j v hv => by
      have hadd : (⟨b, off, none⟩ : Addr).add j = ⟨b, off + j, none⟩ := by unfold Addr.add; split <;> simp_all
      rw [hadd]
      exact hc j v (by simpa using hv))
  cases hq : P.info? ty with
  | none => simp [hq] at hi
  | some i =>
    have hs : i.size = cs.size := by simpa [hq] using hi
    have hagg : (isAgg ty).run P w = .ok true w := by
      unfold isAgg
      rw [Sem.run_bind, run_underlying hu w]
      cases d <;> simp_all
    simp only [Array.length_toList, Array.toArray_toList] at hl
    simp [loadVar, Sem.run_bind, hagg, sizeOf, typeInfo, hq, hs, hl]
/-- A whole struct stored over a block of its size: the world behind it is told by what it holds. -/
theorem wpList_store_whole (hgd : o.guard = none) (ty : TypeId) (x y : Operand) (ho : o.op = .store ty x y)
    (g : Nat) (cells : Array Value) (hx : a.eval x = .pointer (some ⟨g, 0, none⟩)) (hy : a.eval y = .agg cells)
    (t : TypeId) (old : Array Value) (hg : w.heap[g]? = some (.cells old t (0, 0))) (hi : (P.info? ty).map (·.size) = some cells.size)
    (hold : old.size = cells.size) (h1 : cells.all (·.oneCell') = true)
    (h : ∀ w', w'.heap[g]? = some (.cells cells t (0, 0)) → w.grownBy w' (some g) → w'.heap.size = w.heap.size → wpList P ops Q rest (a.put o.dst undef) w') : wpList P ops Q (o :: rest) a w :=
  wpList_store_row hgd ty x y ho g cells hx hy t old hg hi hold h1
    (h _ (setRow_heap w g old cells t (0, 0) hg) ⟨rfl, rfl, rfl, by simp [World.setRow], fun k _ hk => setRow_other w g k cells (fun e => hk (by rw [e]))⟩ (by simp [World.setRow]))
/-- A whole struct or array read out of the middle of a block. -/
theorem wpList_load_agg (ty : TypeId) (x : Operand) (ho : o.op = .load ty x) (hw : Region.wanted o (yielded ops a.tmps) = true) (b off : Nat) (hx : a.eval x = .pointer (some ⟨b, off, none⟩)) (cs : Array Value) (d : TypeDesc) (hc : CellsAt w b off cs)
    (hu : P.underlying ty = some d) (hd : (match d with | .struct _ | .array _ _ => true | _ => false) = true) (hi : (P.info? ty).map (·.size) = some cs.size)
    (h : wpList P ops Q rest (a.put o.dst (.agg cs)) w) : wpList P ops Q (o :: rest) a w := by
  refine wpList_run hw (.agg cs) ?_ h
  unfold execOp
  simp only [ho, hx, Instr.loadAt, Instr.sureAddr, Sem.run_bind, Sem.run_pure, Result.andThen_ok, run_loadVar_cells b off ty cs d hc hu hd hi]
end
theorem ownsRow_succ {W : World} {base : Nat} {e : TypeId} {size : Nat} {v : Value} {k : Nat} {xs : List Value} (h : W.ownsRow base e size v (k + 1) xs) : ∃ g cap, v = .slice (some ⟨g, 0, none⟩) (k + 1) cap := by
  rcases h.2 with ⟨_, h0⟩ | ⟨g, cap, _, rfl, _⟩
  · omega
  · exact ⟨g, cap, rfl⟩
theorem Try.info3 : (Try.prog.info? 3).map (fun i => (i.zero, i.size, i.bytes)) = some (some (.int .i64 0), 1, 8) := by kernel_rfl
theorem hp_new (w : World) (o : Obj) (k : Nat) (h : k = w.heap.size) : (w.alloc o).heap[k]? = some o := by subst h; exact heap_alloc_new w o
theorem hp_old (w : World) (o : Obj) (k : Nat) (h : k < w.heap.size) : (w.alloc o).heap[k]? = w.heap[k]? := Below.heap_alloc w o k h
theorem size38 : (Try.prog.info? 38).map (·.size) = some 27 := by kernel_rfl
end Go.Proofs.Ytepnaalgobhcdaa
