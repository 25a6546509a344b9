/- interpose.Pairs: what lies where while the sections are gone over. -/
import Derived.Test.YtepnaalgobhcdaaIpB
import Derived.Test.YtepnaalgobhcdaaIpC
import Derived.Test.YtepnaalgobhcdaaIpM
import Derived.Test.YtepnaalgobhcdaaSpV
namespace Go.Proofs.Ytepnaalgobhcdaa
open Go.RowKit Go.Shelf Spm

def flat (l : List (Nat × Nat)) : List Value := l.flatMap fun p => [.int .u64 (p.1 : Int), .int .u64 (p.2 : Int)]
theorem flat_len (l : List (Nat × Nat)) : (flat l).length = l.length * 2 := by
  induction l with
  | nil => rfl
  | cons x l ih => unfold flat at ih ⊢; simp only [List.flatMap_cons, List.length_append, ih, List.length_cons, List.length_nil]; omega
theorem flat_snoc (l : List (Nat × Nat)) (p : Nat × Nat) : flat (l ++ [p]) = flat l ++ [.int .u64 (p.1 : Int), .int .u64 (p.2 : Int)] := by simp [flat]
def ps (c : SecC) : Nat × Nat := (c.x.addr, c.x.size)
def pst (M : List Pg) (slide : Nat) (l : List SecC) : PSt := pFold M slide (l.map ps)
theorem pst_snoc (M : List Pg) (slide : Nat) (l : List SecC) (c : SecC) : pst M slide (l ++ [c]) = pStep M slide (pst M slide l) c.x.addr c.x.size := by unfold pst; rw [List.map_append, List.map_cons, List.map_nil, pFold_snoc]; rfl

/-- The blocks of a call of Pairs: the space's address, the image, the pairs so far, the error, how many. -/
structure PB (w : World) (sp : Addr) (cs : Array Value) (many : Nat) (out : List (Nat × Nat)) (W : World) : Prop where
  below : Below w.heap.size w W
  s : W.heap[w.heap.size]? = some (.cells #[.pointer (some sp)] 43 (0, 0))
  x : W.heap[w.heap.size + 1]? = some (.cells cs 38 (0, 0))
  out : ∃ v, W.heap[w.heap.size + 2]? = some (.cells #[v] 82 (0, 0)) ∧ W.ownsRow w.heap.size 88 2 v out.length (flat out)
  e : W.heap[w.heap.size + 3]? = some (.cells #[.int .i64 0] 45 (0, 0))
  m : W.heap[w.heap.size + 4]? = some (.cells #[.int .u64 (many : Int)] 32 (0, 0))
theorem owns2_same {w w' : World} {base : Nat} {e : TypeId} {size : Nat} {v : Value} {n : Nat} {xs : List Value} (h : w.ownsRow base e size v n xs) (hs : ∀ g, v.ownBlock = some g → w'.heap[g]? = w.heap[g]?) : w'.ownsRow base e size v n xs := by
  refine ⟨h.1, ?_⟩
  rcases h.2 with hn | ⟨g, cap, cur, rfl, hb, hgg, rest⟩
  · exact .inl hn
  · exact .inr ⟨g, cap, cur, rfl, hb, (hs g rfl).trans hgg, rest⟩
theorem row2_other {wr : World} {B : Nat} {e : TypeId} {size : Nat} {v : Value} {n : Nat} {xs : List Value} (hv : wr.ownsRow B e size v n xs) {k : Nat} {cur : Array Value} {t : TypeId} {fr : Nat × Nat} (ht : t ≠ e) (hk : wr.heap[k]? = some (.cells cur t fr)) : some k ≠ v.ownBlock := by
  rcases hv.2 with ⟨rfl, _⟩ | ⟨g, cap, c, rfl, _, hg, _⟩
  · simp [Value.ownBlock]
  · intro e'
    obtain rfl : k = g := by simpa [Value.ownBlock] using e'
    rw [hk] at hg
    have := Option.some.inj hg
    injection this with _ h2 _
    exact ht h2
section
variable {w W W' : World} {sp : Addr} {cs : Array Value} {many : Nat} {out : List (Nat × Nat)}
theorem PB.same (h : PB w sp cs many out W) (hb : Below w.heap.size w W') (hs : ∀ (k : Nat) (cur : Array Value) (t : TypeId) (fr : Nat × Nat), W.heap[k]? = some (.cells cur t fr) → W'.heap[k]? = some (.cells cur t fr)) : PB w sp cs many out W' := by
  obtain ⟨v, h1, h2⟩ := h.out
  exact ⟨hb, hs _ _ _ _ h.s, hs _ _ _ _ h.x, ⟨v, hs _ _ _ _ h1, owns2_same h2 fun g hg => by
    rcases h2.2 with ⟨rfl, _⟩ | ⟨g', cap, c, rfl, _, hgg, _⟩
    · simp [Value.ownBlock] at hg
    · obtain rfl : g' = g := by simpa [Value.ownBlock] using hg
      rw [hgg]; exact hs _ _ _ _ hgg⟩, hs _ _ _ _ h.e, hs _ _ _ _ h.m⟩
theorem PB.keepB (h : PB w sp cs many out W) (hb : Below W.heap.size W W') : PB w sp cs many out W' :=
  h.same (h.below.trans (below_le hb h.below.size)) fun k _cur _t _fr hk => (hb.block k (lt_of_block hk)).trans hk
theorem PB.own (w : World) (sp : Addr) (cs : Array Value) (B : Nat) (hB : w.heap.size ≤ B) (f : List SecC → Nat) (g : List SecC → List (Nat × Nat)) : OwnFrom B (fun s W => PB w sp cs (f s) (g s) W) := fun s X Y row hs hg hr => by
  refine hs.same ⟨hg.os.trans hs.below.os, hg.tape.trans hs.below.tape, hg.output.trans hs.below.output, Nat.le_trans hs.below.size hg.size, fun k hk => ?_⟩ fun k cur t fr hk => ?_
  · rw [hg.block k (Nat.lt_of_lt_of_le hk hs.below.size) (fun e => by have := (hr k e.symm).1; omega)]
    exact hs.below.block k hk
  · refine (hg.block k (lt_of_block hk) (fun e => ?_)).trans hk
    obtain ⟨_, o, ho, hc⟩ := hr k e.symm
    rw [hk] at ho; cases ho; cases hc
theorem PB.setMany (h : PB w sp cs many out W) (m' : Nat) : PB w sp cs m' out (W.setCell ⟨w.heap.size + 4, 0, none⟩ (.int .u64 (m' : Int))) := by
  have ho : ∀ k, k ≠ w.heap.size + 4 → (W.setCell ⟨w.heap.size + 4, 0, none⟩ (.int .u64 (m' : Int))).heap[k]? = W.heap[k]? := fun k hk => heap_setCell_other _ _ _ _ hk
  obtain ⟨v, h1, h2⟩ := h.out
  refine ⟨h.below.setCell (by simp) _, by rw [ho _ (by omega)]; exact h.s, by rw [ho _ (by omega)]; exact h.x, ⟨v, by rw [ho _ (by omega)]; exact h1, owns2_same h2 fun g hg => ho g fun e => row2_other h2 (t := 32) (by decide) h.m (by rw [hg, e])⟩, by rw [ho _ (by omega)]; exact h.e, one_setCell h.m⟩
/-- Behind an append to the pairs, ahead of the store; and behind the store. -/
theorem PB.push (h : PB w sp cs many out W) {v v' : Value} (hv : W.heap[w.heap.size + 2]? = some (.cells #[v] 82 (0, 0))) (ho : W.ownsRow w.heap.size 88 2 v out.length (flat out)) {wt w1 : World} (hwt : Below W.heap.size W wt) {p : Nat × Nat}
    (hown : w1.ownsRow w.heap.size 88 2 v' (out.length + 1) (flat out ++ [.int .u64 (p.1 : Int), .int .u64 (p.2 : Int)])) (hg : wt.grownBy w1 v.ownBlock) :
    w1.heap[w.heap.size + 2]? = some (.cells #[v] 82 (0, 0)) ∧ PB w sp cs many (out ++ [p]) (w1.setCell ⟨w.heap.size + 2, 0, none⟩ v') ∧ KeepsOthers W (w1.setCell ⟨w.heap.size + 2, 0, none⟩ v') ∧ W.heap.size ≤ w1.heap.size ∧ ∀ (k : Nat) (cur : Array Value) (t : TypeId) (fr : Nat × Nat), t ≠ 88 → t ≠ 82 → W.heap[k]? = some (.cells cur t fr) → (w1.setCell ⟨w.heap.size + 2, 0, none⟩ v').heap[k]? = some (.cells cur t fr) := by
  have hk : ∀ (k : Nat) (cur : Array Value) (t : TypeId) (fr : Nat × Nat), t ≠ 88 → W.heap[k]? = some (.cells cur t fr) → w1.heap[k]? = some (.cells cur t fr) := fun k cur t fr ht hk => by
    rw [hg.block k (Nat.lt_of_lt_of_le (lt_of_block hk) hwt.size) (row2_other ho ht hk), hwt.block k (lt_of_block hk)]; exact hk
  have h2 := hk _ _ _ _ (by decide) hv
  have hset : ∀ k, k ≠ w.heap.size + 2 → (w1.setCell ⟨w.heap.size + 2, 0, none⟩ v').heap[k]? = w1.heap[k]? := fun k hk => heap_setCell_other _ _ _ _ hk
  have hb1 : Below w.heap.size w w1 := by
    have h1 := h.below.trans (below_le hwt h.below.size)
    exact ⟨hg.os.trans h1.os, hg.tape.trans h1.tape, hg.output.trans h1.output, Nat.le_trans h1.size hg.size, fun i hi => by
      rw [hg.block i (Nat.lt_of_lt_of_le hi h1.size) (fun e => by have := (ho.lt i e.symm).1; omega)]
      exact h1.block i hi⟩
  refine ⟨h2, ⟨hb1.setCell (by simp) _, by rw [hset _ (by omega)]; exact hk _ _ _ _ (by decide) h.s, by rw [hset _ (by omega)]; exact hk _ _ _ _ (by decide) h.x, ⟨v', one_setCell h2, ?_⟩, by rw [hset _ (by omega)]; exact hk _ _ _ _ (by decide) h.e, by rw [hset _ (by omega)]; exact hk _ _ _ _ (by decide) h.m⟩, ⟨?_, fun k o hko hc => ?_⟩, Nat.le_trans hwt.size hg.size, fun k cur t fr h88 h82 hkk => ?_⟩
  · rw [List.length_append, List.length_singleton, flat_snoc]
    exact owns2_same hown fun g hgg => hset g fun e => row2_other hown (t := 82) (by decide) h2 (by rw [hgg, e])
  · have := Nat.le_trans hwt.size hg.size
    simpa [World.setCell] using this
  · have hlt := (Array.getElem?_eq_some_iff.1 hko).1
    have hne : k ≠ w.heap.size + 2 := fun e => by rw [e, hv] at hko; cases hko; cases hc
    rw [hset k hne, hg.block k (Nat.lt_of_lt_of_le hlt hwt.size) (fun e => ?_), hwt.block k hlt]
    · exact hko
    · rcases ho.2 with ⟨rfl, _⟩ | ⟨g, cap, c, rfl, _, hgg, _⟩
      · simp [Value.ownBlock] at e
      · obtain rfl : k = g := by simpa [Value.ownBlock] using e
        rw [hgg] at hko; cases hko; cases hc
  · rw [hset k (fun e => by rw [e, hv] at hkk; have := Option.some.inj hkk; injection this with _ h3 _; exact h82 h3.symm)]
    exact hk _ _ _ _ h88 hkk
theorem PB.cells (h : PB w sp cs many out W) : W.cell? ⟨w.heap.size, 0, none⟩ = some (.pointer (some sp)) ∧ W.cell? ⟨w.heap.size + 4, 0, none⟩ = some (.int .u64 (many : Int)) ∧ W.frozen? ⟨w.heap.size + 4, 0, none⟩ = false ∧
    W.cell? ⟨w.heap.size + 3, 0, none⟩ = some (.int .i64 0) ∧ W.frozen? ⟨w.heap.size + 3, 0, none⟩ = false ∧ W.frozen? ⟨w.heap.size + 2, 0, none⟩ = false := by
  obtain ⟨v, h1, _⟩ := h.out
  exact ⟨cell_of_one h.s, cell_of_one h.m, free_of_one h.m, cell_of_one h.e, free_of_one h.e, free_of_one h1⟩
end
theorem KeepsOthers.of_below {W W' : World} (h : Below W.heap.size W W') : KeepsOthers W W' := ⟨h.size, fun k _o hk _ => (h.block k (Array.getElem?_eq_some_iff.1 hk).1).trans hk⟩
/-- How a call of Pairs ends early. -/
def PX (w : World) (er : Int) (W : World) : Prop := Below w.heap.size w W ∧ W.heap[w.heap.size + 2]? = some (.cells #[.slice none 0 0] 82 (0, 0)) ∧ W.heap[w.heap.size + 3]? = some (.cells #[.int .i64 er] 45 (0, 0)) ∧ er ≠ 0
def PairsRes (w : World) (er : Int) (out : List (Nat × Nat)) (e : Ending) (w' : World) : Prop :=
  ∃ v, e = .returned (.tuple #[v, .int .i64 er]) ∧ Below w.heap.size w w' ∧ (er ≠ 0 → v = .slice none 0 0) ∧ (er = 0 → w'.ownsRow w.heap.size 88 2 v out.length (flat out))
end Go.Proofs.Ytepnaalgobhcdaa
