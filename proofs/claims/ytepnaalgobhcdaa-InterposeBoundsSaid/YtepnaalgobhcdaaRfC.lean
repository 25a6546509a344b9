/- Three rows that grow in step: the reference's new Space while it is made. -/
import Derived.Test.YtepnaalgobhcdaaRfB
namespace Go.Proofs.Ytepnaalgobhcdaa
open Go.RowKit Spm

def pageCells : Array Value := madeCells #[.int .u8 0] 4096
theorem make_page (W : World) : (Instr.makeSlice 57 (.int .i64 4096) (.int .i64 4096)).run Try.prog W = .ok (.slice (some ⟨W.heap.size, 0, none⟩) 4096 4096) (W.alloc (.cells pageCells 5)) := by
  obtain ⟨i0, hi0, hz0, hz1, hz2⟩ := info_parts infoU8
  have := run_makeSlice (P := Try.prog) W 57 5 i0 (.int .u8 0) Try.underlying57 hi0 hz0 .i64 .i64 4096 4096 (by decide) (by decide) (by rw [hz1]; decide) (by rw [hz2]; decide) (by decide)
  rw [hz1] at this
  exact this
theorem pageCells_size : pageCells.size = 4096 := size_madeCells _ _
theorem pageCells_list : pageCells.toList = bvs noughts := by
  unfold pageCells bvs noughts
  rw [toList_madeCells_one, List.map_replicate]
  rfl
/-- The blocks of bytes of wr lie in w3 as they lay. -/
def Keep5 (wr w3 : World) : Prop := ∀ (k : Nat) (cur : Array Value) (fr : Nat × Nat), wr.heap[k]? = some (.cells cur 5 fr) → w3.heap[k]? = some (.cells cur 5 fr)
theorem Keep5.trans {a b c : World} (h : Keep5 a b) (k : Keep5 b c) : Keep5 a c := fun i cur fr hi => k i cur fr (h i cur fr hi)
theorem Keep5.of_below {a b : World} (h : Below a.heap.size a b) : Keep5 a b := fun i _ _ hi => (h.block i (lt_of_block hi)).trans hi

/-- Block o holds three slices, whose rows are new since w: they hold xa, xb, xp. -/
structure MkR (w wr : World) (o : Nat) (vA vB vP : Value) (xa xb xp : List Value) : Prop where
  below : Below w.heap.size w wr
  lo : w.heap.size ≤ o
  o : wr.heap[o]? = some (.cells #[vA, vB, vP] 55 (0, 0))
  a : wr.ownsRow w.heap.size 32 1 vA xa.length xa
  b : wr.ownsRow w.heap.size 57 1 vB xb.length xb
  p : wr.ownsRow w.heap.size 3 1 vP xp.length xp

theorem row_other {wr : World} {B : Nat} {e : TypeId} {v : Value} {n : Nat} {xs : List Value} (hv : wr.ownsRow B e 1 v n xs) {k : Nat} {cur : Array Value} {t : TypeId} {fr : Nat × Nat} (ht : t ≠ e) (hk : wr.heap[k]? = some (.cells cur t fr)) : some k ≠ v.ownBlock := by
  rcases hv.2 with ⟨rfl, _⟩ | ⟨g, cap, c, rfl, _, hg, _⟩
  · simp [Value.ownBlock]
  · intro e'
    obtain rfl : k = g := by simpa [Value.ownBlock] using e'
    rw [hk] at hg
    have := Option.some.inj hg
    injection this with _ h2 _
    exact ht h2
theorem push_core {w wr wt w2 : World} {e : TypeId} {v : Value} {n : Nat} {xs : List Value} (hb : Below w.heap.size w wr) (hv : wr.ownsRow w.heap.size e 1 v n xs) (hwt : Below wr.heap.size wr wt) (hg : wt.grownBy w2 v.ownBlock) :
    (∀ (k : Nat) (cur : Array Value) (t : TypeId) (fr : Nat × Nat), t ≠ e → wr.heap[k]? = some (.cells cur t fr) → w2.heap[k]? = some (.cells cur t fr)) ∧ Below w.heap.size w w2 := by
  refine ⟨fun k cur t fr ht hk => ?_, ?_⟩
  · have hl := lt_of_block hk
    rw [hg.block k (Nat.lt_of_lt_of_le hl hwt.size) (row_other hv ht hk), hwt.block k hl]
    exact hk
  · have h1 := hb.trans (below_le hwt hb.size)
    exact ⟨hg.os.trans h1.os, hg.tape.trans h1.tape, hg.output.trans h1.output, Nat.le_trans h1.size hg.size, fun i hi => by
      rw [hg.block i (Nat.lt_of_lt_of_le hi h1.size) (fun e => by have := (hv.lt i e.symm).1; omega)]
      exact h1.block i hi⟩
theorem owns_other {w w2 : World} {B : Nat} {e t' : TypeId} {v : Value} {n : Nat} {xs : List Value} (h : w.ownsRow B e 1 v n xs) (hk : ∀ (k : Nat) (cur : Array Value) (t : TypeId) (fr : Nat × Nat), t ≠ t' → w.heap[k]? = some (.cells cur t fr) → w2.heap[k]? = some (.cells cur t fr)) (he : e ≠ t') : w2.ownsRow B e 1 v n xs :=
  owns_same h fun g hg => by
    rcases h.2 with ⟨rfl, _⟩ | ⟨g', cap, c, rfl, _, hgg, _⟩
    · simp [Value.ownBlock] at hg
    · obtain rfl : g' = g := by simpa [Value.ownBlock] using hg
      rw [hgg]; exact hk _ _ _ _ he hgg
theorem owns_set {w : World} {B : Nat} {e : TypeId} {v : Value} {n : Nat} {xs : List Value} (h : w.ownsRow B e 1 v n xs) {o : Nat} {cs : Array Value} (ho : w.heap[o]? = some (.cells cs 55 (0, 0))) (he : (55 : TypeId) ≠ e) (ad : Addr) (had : ad.block = o) (u : Value) : (w.setCell ad u).ownsRow B e 1 v n xs :=
  owns_same h fun g hg => heap_setCell_other _ _ _ _ (fun e' => row_other h he ho (by rw [hg, e', had]))
theorem MkR.cells {w wr : World} {o : Nat} {vA vB vP : Value} {xa xb xp : List Value} (h : MkR w wr o vA vB vP xa xb xp) :
    wr.cell? ⟨o, 0, none⟩ = some vA ∧ wr.cell? ⟨o, 1, none⟩ = some vB ∧ wr.cell? ⟨o, 2, none⟩ = some vP ∧ wr.frozen? ⟨o, 0, none⟩ = false ∧ wr.frozen? ⟨o, 1, none⟩ = false ∧ wr.frozen? ⟨o, 2, none⟩ = false := by
  have := h.o
  simp [World.cell?, World.frozen?, this]
theorem cells_of {w2 : World} {o : Nat} {vA vB vP : Value} (h : w2.heap[o]? = some (.cells #[vA, vB, vP] 55 (0, 0))) :
    w2.cell? ⟨o, 0, none⟩ = some vA ∧ w2.cell? ⟨o, 1, none⟩ = some vB ∧ w2.cell? ⟨o, 2, none⟩ = some vP ∧ w2.frozen? ⟨o, 0, none⟩ = false ∧ w2.frozen? ⟨o, 1, none⟩ = false ∧ w2.frozen? ⟨o, 2, none⟩ = false := by
  simp [World.cell?, World.frozen?, h]

section
variable {w wr wt w2 : World} {o : Nat} {vA vB vP v' : Value} {xa xb xp : List Value} {v : Value}
/-- Behind an append to the first row, ahead of the store. -/
theorem MkR.mid_a (h : MkR w wr o vA vB vP xa xb xp) (hwt : Below wr.heap.size wr wt) (hg : wt.grownBy w2 vA.ownBlock) : w2.heap[o]? = some (.cells #[vA, vB, vP] 55 (0, 0)) :=
  (push_core h.below h.a hwt hg).1 _ _ _ _ (by decide) h.o
theorem MkR.mid_b (h : MkR w wr o vA vB vP xa xb xp) (hwt : Below wr.heap.size wr wt) (hg : wt.grownBy w2 vB.ownBlock) : w2.heap[o]? = some (.cells #[vA, vB, vP] 55 (0, 0)) :=
  (push_core h.below h.b hwt hg).1 _ _ _ _ (by decide) h.o
theorem MkR.mid_p (h : MkR w wr o vA vB vP xa xb xp) (hwt : Below wr.heap.size wr wt) (hg : wt.grownBy w2 vP.ownBlock) : w2.heap[o]? = some (.cells #[vA, vB, vP] 55 (0, 0)) :=
  (push_core h.below h.p hwt hg).1 _ _ _ _ (by decide) h.o
theorem MkR.push_a (h : MkR w wr o vA vB vP xa xb xp) (hwt : Below wr.heap.size wr wt) (hown : w2.ownsRow w.heap.size 32 1 v' (xa.length + 1) (xa ++ [v])) (hg : wt.grownBy w2 vA.ownBlock) :
    MkR w (w2.setCell ⟨o, 0, none⟩ v') o v' vB vP (xa ++ [v]) xb xp ∧ Keep5 wt (w2.setCell ⟨o, 0, none⟩ v') := by
  obtain ⟨hk, hb⟩ := push_core h.below h.a hwt hg
  have ho := h.mid_a hwt hg
  refine ⟨⟨hb.setCell h.lo _, h.lo, ?_, ?_, ?_, ?_⟩, fun k cur fr hk5 => ?_⟩
  · rw [heap_setCell_same _ _ _ _ _ _ ho]; rfl
  · rw [List.length_append, List.length_singleton]; exact owns_set hown ho (by decide) _ rfl _
  · exact owns_set (owns_other h.b hk (by decide)) ho (by decide) _ rfl _
  · exact owns_set (owns_other h.p hk (by decide)) ho (by decide) _ rfl _
  · have hv5 : wt.ownsRow w.heap.size 32 1 vA xa.length xa := owns_same h.a fun g hg => hwt.block g (h.a.lt g hg).2
    have h2 : w2.heap[k]? = some (.cells cur 5 fr) := (hg.block k (lt_of_block hk5) (row_other hv5 (by decide) hk5)).trans hk5
    rw [heap_setCell_other _ _ _ _ (fun e => by rw [e, ho] at h2; have := Option.some.inj h2; injection this with _ h3 _; revert h3; decide)]
    exact h2
theorem MkR.push_b (h : MkR w wr o vA vB vP xa xb xp) (hwt : Below wr.heap.size wr wt) (hown : w2.ownsRow w.heap.size 57 1 v' (xb.length + 1) (xb ++ [v])) (hg : wt.grownBy w2 vB.ownBlock) :
    MkR w (w2.setCell ⟨o, 1, none⟩ v') o vA v' vP xa (xb ++ [v]) xp ∧ Keep5 wt (w2.setCell ⟨o, 1, none⟩ v') := by
  obtain ⟨hk, hb⟩ := push_core h.below h.b hwt hg
  have ho := h.mid_b hwt hg
  refine ⟨⟨hb.setCell h.lo _, h.lo, ?_, ?_, ?_, ?_⟩, fun k cur fr hk5 => ?_⟩
  · rw [heap_setCell_same _ _ _ _ _ _ ho]; rfl
  · exact owns_set (owns_other h.a hk (by decide)) ho (by decide) _ rfl _
  · rw [List.length_append, List.length_singleton]; exact owns_set hown ho (by decide) _ rfl _
  · exact owns_set (owns_other h.p hk (by decide)) ho (by decide) _ rfl _
  · have hv5 : wt.ownsRow w.heap.size 57 1 vB xb.length xb := owns_same h.b fun g hg => hwt.block g (h.b.lt g hg).2
    have h2 : w2.heap[k]? = some (.cells cur 5 fr) := (hg.block k (lt_of_block hk5) (row_other hv5 (by decide) hk5)).trans hk5
    rw [heap_setCell_other _ _ _ _ (fun e => by rw [e, ho] at h2; have := Option.some.inj h2; injection this with _ h3 _; revert h3; decide)]
    exact h2
theorem MkR.push_p (h : MkR w wr o vA vB vP xa xb xp) (hwt : Below wr.heap.size wr wt) (hown : w2.ownsRow w.heap.size 3 1 v' (xp.length + 1) (xp ++ [v])) (hg : wt.grownBy w2 vP.ownBlock) :
    MkR w (w2.setCell ⟨o, 2, none⟩ v') o vA vB v' xa xb (xp ++ [v]) ∧ Keep5 wt (w2.setCell ⟨o, 2, none⟩ v') := by
  obtain ⟨hk, hb⟩ := push_core h.below h.p hwt hg
  have ho := h.mid_p hwt hg
  refine ⟨⟨hb.setCell h.lo _, h.lo, ?_, ?_, ?_, ?_⟩, fun k cur fr hk5 => ?_⟩
  · rw [heap_setCell_same _ _ _ _ _ _ ho]; rfl
  · exact owns_set (owns_other h.a hk (by decide)) ho (by decide) _ rfl _
  · exact owns_set (owns_other h.b hk (by decide)) ho (by decide) _ rfl _
  · rw [List.length_append, List.length_singleton]; exact owns_set hown ho (by decide) _ rfl _
  · have hv5 : wt.ownsRow w.heap.size 3 1 vP xp.length xp := owns_same h.p fun g hg => hwt.block g (h.p.lt g hg).2
    have h2 : w2.heap[k]? = some (.cells cur 5 fr) := (hg.block k (lt_of_block hk5) (row_other hv5 (by decide) hk5)).trans hk5
    rw [heap_setCell_other _ _ _ _ (fun e => by rw [e, ho] at h2; have := Option.some.inj h2; injection this with _ h3 _; revert h3; decide)]
    exact h2
end

/-- The new space while it is made: it holds L. -/
structure MkSt (w : World) (F : Nat → Prop) (M : List Pg) (f k : Nat) (A0 C0 : Nat → Nat) (o : Nat) (L : List Pg) (wr : World) : Prop where
  own : ∃ (A C : Nat → Nat) (vA vB vP : Value), MkR w wr o vA vB vP (atVals L) (bsVals A C L) (prVals L) ∧ (∀ p ∈ L, BsIn wr (fun x => F x ∨ w.heap.size ≤ x) A C p) ∧
    (∀ p ∈ M, A p.num = A0 p.num ∧ C p.num = C0 p.num) ∧ (∀ p ∈ L, p ∈ M ∨ (w.heap.size ≤ A p.num ∧ f ≤ p.num ∧ p.num < f + k)) ∧ (∀ p ∈ L, ∀ q ∈ L, A p.num = A q.num → p.num = q.num)
theorem atVals_snoc (L : List Pg) (p : Pg) : atVals (L ++ [p]) = atVals L ++ [.int .u64 ((p.num * 4096 : Nat) : Int)] := by simp [atVals]
theorem prVals_snoc (L : List Pg) (p : Pg) : prVals (L ++ [p]) = prVals L ++ [.int .i64 p.prot] := by simp [prVals]
theorem bsVals_snoc (A C : Nat → Nat) (L : List Pg) (p : Pg) : bsVals A C (L ++ [p]) = bsVals A C L ++ [bsVal A C p] := by simp [bsVals]
theorem bsVals_congr {A C A' C' : Nat → Nat} {L : List Pg} (h : ∀ p ∈ L, A p.num = A' p.num ∧ C p.num = C' p.num) : bsVals A C L = bsVals A' C' L :=
  List.map_congr_left fun p hp => by unfold bsVal; rw [(h p hp).1, (h p hp).2]
theorem BsIn.keep5 {w w' : World} {F : Nat → Prop} {A C : Nat → Nat} {p : Pg} (h : BsIn w F A C p) (hk : Keep5 w w') : BsIn w' F A C p := by
  obtain ⟨h1, cur, h2, h3⟩ := h
  exact ⟨h1, cur, hk _ _ _ h2, h3⟩
theorem BsIn.congr {w : World} {F : Nat → Prop} {A C A' C' : Nat → Nat} {p : Pg} (h : BsIn w F A C p) (hA : A p.num = A' p.num) (hC : C p.num = C' p.num) : BsIn w F A' C' p := by
  obtain ⟨h1, cur, h2, h3⟩ := h
  rw [hA] at h1 h2
  rw [hC] at h3
  exact ⟨h1, cur, h2, h3⟩

/-- A new page behind the others. -/
theorem MkSt.snoc_new {w wr w3 : World} {F : Nat → Prop} {M : List Pg} {f k : Nat} {A0 C0 : Nat → Nat} {o : Nat} {L : List Pg} {A C : Nat → Nat} {vA vB vP vA' vB' vP' : Value} (_hlt : ∀ p ∈ M, A0 p.num < w.heap.size)
    (h : MkR w wr o vA vB vP (atVals L) (bsVals A C L) (prVals L)) (h2 : ∀ p ∈ L, BsIn wr (fun x => F x ∨ w.heap.size ≤ x) A C p)
    (h3 : ∀ p ∈ M, A p.num = A0 p.num ∧ C p.num = C0 p.num) (h4 : ∀ p ∈ L, p ∈ M ∨ (w.heap.size ≤ A p.num ∧ f ≤ p.num ∧ p.num < f + k)) (h5 : ∀ p ∈ L, ∀ q ∈ L, A p.num = A q.num → p.num = q.num)
    {q : Nat} {prot : Int} {blk : Nat} (hqL : ∀ p ∈ L, p.num ≠ q) (hqM : ∀ p ∈ M, p.num ≠ q) (hq : f ≤ q ∧ q < f + k) (hblk : wr.heap.size ≤ blk) (hnew : w3.heap[blk]? = some (.cells pageCells 5 (0, 0))) (hk : Keep5 wr w3)
    (hr : MkR w w3 o vA' vB' vP' (atVals L ++ [.int .u64 ((q * 4096 : Nat) : Int)]) (bsVals A C L ++ [.slice (some ⟨blk, 0, none⟩) 4096 4096]) (prVals L ++ [.int .i64 prot])) : MkSt w F M f k A0 C0 o (L ++ [⟨q, prot, noughts⟩]) w3 := by
  obtain ⟨A', hA'⟩ : ∃ A' : Nat → Nat, A' = fun x => if x = q then blk else A x := ⟨_, rfl⟩
  obtain ⟨C', hC'⟩ : ∃ C' : Nat → Nat, C' = fun x => if x = q then 4096 else C x := ⟨_, rfl⟩
  have a1 : A' q = blk := by rw [hA']; exact if_pos rfl
  have c1 : C' q = 4096 := by rw [hC']; exact if_pos rfl
  have a2 : ∀ p : Pg, p.num ≠ q → A' p.num = A p.num := fun p hp => by rw [hA']; exact if_neg hp
  have c2 : ∀ p : Pg, p.num ≠ q → C' p.num = C p.num := fun p hp => by rw [hC']; exact if_neg hp
  clear hA' hC'
  have hwb := h.below.size
  have hAL : ∀ p ∈ L, A p.num < wr.heap.size := fun p hp => (h2 p hp).lt
  refine ⟨A', C', vA', vB', vP', ?_, fun p hp => ?_, fun p hp => ?_, fun p hp => ?_, fun p hp p' hp' e => ?_⟩
  · rw [atVals_snoc, bsVals_snoc, prVals_snoc, bsVals_congr (A' := A) (C' := C) (fun p hp => ⟨a2 p (hqL p hp), c2 p (hqL p hp)⟩)]
    have : bsVal A' C' ⟨q, prot, noughts⟩ = .slice (some ⟨blk, 0, none⟩) 4096 4096 := by unfold bsVal; rw [a1, c1]
    rw [this]
    exact hr
  · rcases List.mem_append.1 hp with hp | hp
    · exact ((h2 p hp).keep5 hk).congr (a2 p (hqL p hp)).symm (c2 p (hqL p hp)).symm
    · obtain rfl := List.mem_singleton.1 hp
      have hl : (bvs noughts).length ≤ 4096 := by unfold bvs noughts; rw [List.length_map, List.length_replicate]; exact Nat.le_refl _
      exact ⟨by rw [a1]; exact .inr (by omega), pageCells, by rw [a1]; exact hnew, by rw [c1]; exact pageCells_size, by rw [c1]; exact Nat.le_refl _, by rw [c1]; unfold maxLen; omega, by
        rw [pageCells_list]; exact List.take_of_length_le hl⟩
  · rw [a2 p (hqM p hp), c2 p (hqM p hp)]; exact h3 p hp
  · rcases List.mem_append.1 hp with hp | hp
    · rw [a2 p (hqL p hp)]; exact h4 p hp
    · obtain rfl := List.mem_singleton.1 hp
      right
      rw [a1]
      exact ⟨by omega, hq⟩
  · rcases List.mem_append.1 hp with hp | hp <;> rcases List.mem_append.1 hp' with hp' | hp'
    · rw [a2 p (hqL p hp), a2 p' (hqL p' hp')] at e; exact h5 p hp p' hp' e
    · obtain rfl := List.mem_singleton.1 hp'
      rw [a2 p (hqL p hp), a1] at e
      have := hAL p hp; omega
    · obtain rfl := List.mem_singleton.1 hp
      rw [a2 p' (hqL p' hp'), a1] at e
      have := hAL p' hp'; omega
    · rw [List.mem_singleton.1 hp, List.mem_singleton.1 hp']
/-- A page of the old space behind the others. -/
theorem MkSt.snoc_old {w wr w3 : World} {F : Nat → Prop} {M : List Pg} {f k : Nat} {A0 C0 : Nat → Nat} {o : Nat} {L : List Pg} {A C : Nat → Nat} {vA vB vP vA' vB' vP' : Value} (hlt : ∀ p ∈ M, A0 p.num < w.heap.size) (hap : ∀ p ∈ M, ∀ q ∈ M, A0 p.num = A0 q.num → p.num = q.num)
    (hpg : ∀ p ∈ M, BsIn w F A0 C0 p)
    (h : MkR w wr o vA vB vP (atVals L) (bsVals A C L) (prVals L)) (h2 : ∀ p ∈ L, BsIn wr (fun x => F x ∨ w.heap.size ≤ x) A C p)
    (h3 : ∀ p ∈ M, A p.num = A0 p.num ∧ C p.num = C0 p.num) (h4 : ∀ p ∈ L, p ∈ M ∨ (w.heap.size ≤ A p.num ∧ f ≤ p.num ∧ p.num < f + k)) (h5 : ∀ p ∈ L, ∀ q ∈ L, A p.num = A q.num → p.num = q.num)
    {p0 : Pg} (hp0 : p0 ∈ M) (hk : Keep5 wr w3)
    (hr : MkR w w3 o vA' vB' vP' (atVals L ++ [.int .u64 ((p0.num * 4096 : Nat) : Int)]) (bsVals A C L ++ [bsVal A0 C0 p0]) (prVals L ++ [.int .i64 p0.prot])) : MkSt w F M f k A0 C0 o (L ++ [p0]) w3 := by
  have hk0 : Keep5 w w3 := (Keep5.of_below h.below).trans hk
  refine ⟨A, C, vA', vB', vP', ?_, fun p hp => ?_, h3, fun p hp => ?_, fun p hp p' hp' e => ?_⟩
  · rw [atVals_snoc, bsVals_snoc, prVals_snoc]
    have : bsVal A C p0 = bsVal A0 C0 p0 := by unfold bsVal; rw [(h3 p0 hp0).1, (h3 p0 hp0).2]
    rw [this]; exact hr
  · rcases List.mem_append.1 hp with hp | hp
    · exact (h2 p hp).keep5 hk
    · obtain rfl := List.mem_singleton.1 hp
      exact (((hpg p hp0).keep5 hk0).mono (fun k hk => .inl hk)).congr (h3 p hp0).1.symm (h3 p hp0).2.symm
  · rcases List.mem_append.1 hp with hp | hp
    · exact h4 p hp
    · obtain rfl := List.mem_singleton.1 hp
      exact .inl hp0
  · have hc : ∀ p ∈ L ++ [p0], p ∈ M ∨ (w.heap.size ≤ A p.num ∧ p ∈ L) := fun p hp => by
      rcases List.mem_append.1 hp with hp | hp
      · rcases h4 p hp with h | h
        · exact .inl h
        · exact .inr ⟨h.1, hp⟩
      · obtain rfl := List.mem_singleton.1 hp
        exact .inl hp0
    rcases hc p hp with hm | ⟨hm, hl⟩ <;> rcases hc p' hp' with hm' | ⟨hm', hl'⟩
    · rw [(h3 p hm).1, (h3 p' hm').1] at e; exact hap p hm p' hm' e
    · rw [(h3 p hm).1] at e; have := hlt p hm; omega
    · rw [(h3 p' hm').1] at e; have := hlt p' hm'; omega
    · exact h5 p hl p' hl' e
end Go.Proofs.Ytepnaalgobhcdaa
