/- Which pages stand in the reference's new Space while it is made: plain lists. -/
import Derived.Test.YtepnaalgobhcdaaRfC
namespace Go.Proofs.Ytepnaalgobhcdaa
open Go.RowKit Spm

def PutOk (M : List Pg) (f k : Nat) (prot : Int) (i : Nat) (put : Bool) (L : List Pg) : Prop :=
  (put = false ∧ i ≤ M.length ∧ L = M.take i ∧ ∀ p ∈ M.take i, p.num < f) ∨
  (put = true ∧ ∃ i0, i0 ≤ i ∧ i0 ≤ M.length ∧ L = M.take i0 ++ newPages f k prot ++ (M.drop i0).take (i - i0) ∧ (∀ p ∈ M.take i0, p.num < f) ∧ ∀ p ∈ M.drop i0, f ≤ p.num)
section
variable {M : List Pg} {f k : Nat} {prot : Int} {i : Nat} {L : List Pg}
theorem PutOk.start : PutOk M f k prot 0 false [] := .inl ⟨rfl, Nat.zero_le _, by simp, by simp⟩
theorem PutOk.old {put : Bool} {p : Pg} (h : PutOk M f k prot i put L) (hp : M[i]? = some p) (hf : put = false → p.num < f) : PutOk M f k prot (i + 1) put (L ++ [p]) := by
  have hl := (List.getElem?_eq_some_iff.1 hp).1
  rcases h with ⟨rfl, h1, h2, h3⟩ | ⟨rfl, i0, h1, h2, h3, h4, h5⟩
  · refine .inl ⟨rfl, by omega, by rw [List.take_add_one, hp, h2]; rfl, fun q hq => ?_⟩
    rw [List.take_add_one, hp] at hq
    rcases List.mem_append.1 hq with hq | hq
    · exact h3 q hq
    · obtain rfl : q = p := by simpa using hq
      exact hf rfl
  · refine .inr ⟨rfl, i0, by omega, h2, ?_, h4, h5⟩
    have e : (M.drop i0)[i - i0]? = some p := by rw [List.getElem?_drop, show i0 + (i - i0) = i by omega, hp]
    rw [show i + 1 - i0 = (i - i0) + 1 by omega, List.take_add_one, e, h3]
    simp
theorem PutOk.last (h : PutOk M f k prot M.length true L) : PutOk M f k prot (M.length + 1) true L := by
  rcases h with ⟨h, _⟩ | ⟨_, i0, h1, h2, h3, h4, h5⟩
  · cases h
  · refine .inr ⟨rfl, i0, by omega, h2, ?_, h4, h5⟩
    rw [h3, List.take_of_length_le (l := M.drop i0) (i := M.length - i0) (by simp), List.take_of_length_le (l := M.drop i0) (i := M.length + 1 - i0) (by simp; omega)]
theorem PutOk.put (hM : Ok M) (h : PutOk M f k prot i false L) (hi : i = M.length ∨ ∃ p, M[i]? = some p ∧ f ≤ p.num) : PutOk M f k prot i true (L ++ newPages f k prot) := by
  rcases h with ⟨_, h1, h2, h3⟩ | ⟨h, _⟩
  · refine .inr ⟨rfl, i, Nat.le_refl _, h1, by rw [h2]; simp, h3, fun q hq => ?_⟩
    rcases hi with rfl | ⟨p, hp, hfp⟩
    · simp at hq
    · obtain ⟨j, hj⟩ := List.getElem?_of_mem hq
      rw [List.getElem?_drop] at hj
      obtain ⟨hl, hg⟩ := List.getElem?_eq_some_iff.1 hp
      obtain ⟨hl2, hg2⟩ := List.getElem?_eq_some_iff.1 hj
      by_cases e : j = 0
      · subst e
        rw [Nat.add_zero, hp] at hj
        cases hj; exact hfp
      · have := List.pairwise_iff_getElem.1 hM.sorted i (i + j) hl hl2 (by omega)
        rw [hg, hg2] at this
        omega
  · cases h
theorem filter_lt {A B : List Pg} (hA : ∀ p ∈ A, p.num < f) (hB : ∀ p ∈ B, f ≤ p.num) : (A ++ B).filter (fun p => decide (p.num < f)) = A ∧ (A ++ B).filter (fun p => decide (f ≤ p.num)) = B := by
  constructor
  · rw [List.filter_append, List.filter_eq_self.2 (fun p hp => by simpa using hA p hp), List.filter_eq_nil_iff.2 (fun p hp => by have := hB p hp; simp; omega), List.append_nil]
  · rw [List.filter_append, List.filter_eq_nil_iff.2 (fun p hp => by have := hA p hp; simp; omega), List.filter_eq_self.2 (fun p hp => by simpa using hB p hp), List.nil_append]
theorem PutOk.done {put : Bool} (h : PutOk M f k prot (M.length + 1) put L) : L = mapIn M f k prot := by
  rcases h with ⟨_, h1, _⟩ | ⟨_, i0, h1, h2, h3, h4, h5⟩
  · omega
  · obtain ⟨e1, e2⟩ := filter_lt h4 h5
    rw [List.take_append_drop] at e1 e2
    unfold mapIn
    rw [h3, e1, e2, List.take_of_length_le (l := M.drop i0) (i := M.length + 1 - i0) (by simp; omega)]
theorem PutOk.lens {put : Bool} (h : PutOk M f k prot i put L) : L.length ≤ M.length + k := by
  rcases h with ⟨_, h1, h2, h3⟩ | ⟨_, i0, h1, h2, h3, h4, h5⟩
  · rw [h2, List.length_take]; omega
  · rw [h3]
    simp only [List.length_append, List.length_take, List.length_drop, newPages, List.length_map, List.length_range]
    omega
/-- The number of a page that is still to come stands nowhere yet. -/
theorem PutOk.fresh (hc : Clear M f k) (h : PutOk M f k prot i false L) {j : Nat} (hj : j < k) : ∀ p ∈ L ++ newPages f j prot, p.num ≠ f + j := fun p hp e => by
  rcases h with ⟨_, h1, h2, h3⟩ | ⟨h, _⟩
  · rcases List.mem_append.1 hp with hp | hp
    · rw [h2] at hp
      exact hc p (List.mem_of_mem_take hp) ⟨by omega, by omega⟩
    · have := (newPages_num hp).2.1; omega
  · cases h
end
/-- The new pages' addresses and bytes, of which j are laid. -/
theorem MkSt.start {w wr : World} {F : Nat → Prop} {M : List Pg} {f k : Nat} {A0 C0 : Nat → Nat} {o : Nat} (hb : Below w.heap.size w wr) (ho : w.heap.size ≤ o) (h : wr.heap[o]? = some (.cells #[.slice none 0 0, .slice none 0 0, .slice none 0 0] 55 (0, 0))) : MkSt w F M f k A0 C0 o [] wr :=
  ⟨A0, C0, _, _, _, ⟨hb, ho, h, World.ownsRow_nil _ _ _ _, World.ownsRow_nil _ _ _ _, World.ownsRow_nil _ _ _ _⟩, fun _ h => absurd h List.not_mem_nil, fun _ _ => ⟨rfl, rfl⟩, fun _ h => absurd h List.not_mem_nil, fun _ h => absurd h List.not_mem_nil⟩
/-- The new space stored over the old one. -/
theorem MkSt.done {w wr w3 : World} {F : Nat → Prop} {_M : List Pg} {_f _k : Nat} {_A0 _C0 : Nat → Nat} {o b : Nat} {L : List Pg} {A C : Nat → Nat} {vA vB vP : Value} (hF : ∀ k, F k → k < w.heap.size) (hb : F b) (hok : Ok L)
    (h : MkR w wr o vA vB vP (atVals L) (bsVals A C L) (prVals L)) (h2 : ∀ p ∈ L, BsIn wr (fun x => F x ∨ w.heap.size ≤ x) A C p) (h5 : ∀ p ∈ L, ∀ q ∈ L, A p.num = A q.num → p.num = q.num)
    {old : Array Value} (hold : wr.heap[b]? = some (.cells old 55 (0, 0))) (hnew : w3.heap[b]? = some (.cells #[vA, vB, vP] 55 (0, 0))) (hg : wr.grownBy w3 (some b)) (hs : w3.heap.size = wr.heap.size) : RfIn w3 b L (grow F w w3) ∧ Chg F w w3 := by
  have hsz := h.below.size
  have hrow : ∀ {e : TypeId} {v : Value} {xs : List Value}, wr.ownsRow w.heap.size e 1 v xs.length xs → xs.length = L.length → ∃ a c, v = .slice a L.length c ∧ RfRow w3 (grow F w w3) e a L.length c xs := fun {e v xs} hv hl => by
    obtain ⟨a, c, rfl⟩ := ownsRow_shape hv
    refine ⟨a, c, by rw [hl], owns_same (w := wr) (base := 0) ?_ fun g hgg => ?_, fun x hx => ?_⟩
    · rw [← hl]
      refine ⟨hv.1, ?_⟩
      rcases hv.2 with hn | ⟨g, cap, cur, h1, h2, h3⟩
      · exact .inl hn
      · exact .inr ⟨g, cap, cur, h1, Nat.zero_le _, h3⟩
    · refine hg.block g ?_ (fun e' => ?_)
      · refine (hv.lt g ?_).2
        rw [← hgg]; cases a <;> rfl
      · have hgb : w.heap.size ≤ g := (hv.lt g (by rw [← hgg]; cases a <;> rfl)).1
        cases e'
        have := hF _ hb; omega
    · subst hx
      have hgb := hv.lt x.block rfl
      exact .inr ⟨hgb.1, by omega⟩
  have la : (atVals L).length = L.length := by simp [atVals]
  have lb : (bsVals A C L).length = L.length := by simp [bsVals]
  have lp : (prVals L).length = L.length := by simp [prVals]
  obtain ⟨aA, cA, eA, rA⟩ := hrow h.a la
  obtain ⟨aB, cB, eB, rB⟩ := hrow h.b lb
  obtain ⟨aP, cP, eP, rP⟩ := hrow h.p lp
  subst eA eB eP
  have hsub : ∀ x, F x ∨ w.heap.size ≤ x → x < wr.heap.size → grow F w w3 x := fun x hx hl => by
    rcases hx with hx | hx
    · exact .inl hx
    · exact .inr ⟨hx, by omega⟩
  refine ⟨⟨hok, ⟨aA, cA, aB, cB, aP, cP, A, C, hnew, rA, rB, rP, fun p hp => ?_, h5⟩, .inl hb, fun x hx => ?_⟩, ?_⟩
  · have hp2 := h2 p hp
    have hl := hp2.lt
    have hbl := hp2.block
    obtain ⟨cur, c1, c2⟩ := hbl
    refine ⟨hsub _ hp2.inF hl, cur, ?_, c2⟩
    rw [hg.block _ hl (fun e => by
      have e' : A p.num = b := by simpa using e
      rw [e', hold] at c1
      have := Option.some.inj c1
      injection this with _ h3 _
      revert h3; decide)]
    exact c1
  · rcases hx with hx | hx
    · have := hF x hx; omega
    · exact hx.2
  · refine ⟨hg.os.trans h.below.os, hg.tape.trans h.below.tape, hg.output.trans h.below.output, by omega, fun x hx hn => ?_⟩
    rw [hg.block x (by omega) (fun e => hn (by cases e; exact hb))]
    exact h.below.block x hx
/-- The three appends of a new page, put together. -/
theorem MkSt.new_all {w wr wt1 w2 wc wt3 w7 : World} {F : Nat → Prop} {M : List Pg} {f k j : Nat} {A0 C0 : Nat → Nat} {o : Nat} {L : List Pg} {A C : Nat → Nat} {vA vB vP vA' vB' vP' : Value} {prot : Int} {blk : Nat} {pc : Array Value} (hlt : ∀ p ∈ M, A0 p.num < w.heap.size)
    (h : MkR w wr o vA vB vP (atVals L) (bsVals A C L) (prVals L)) (h2 : ∀ p ∈ L, BsIn wr (fun x => F x ∨ w.heap.size ≤ x) A C p)
    (h3 : ∀ p ∈ M, A p.num = A0 p.num ∧ C p.num = C0 p.num) (h4 : ∀ p ∈ L, p ∈ M ∨ (w.heap.size ≤ A p.num ∧ f ≤ p.num ∧ p.num < f + k)) (h5 : ∀ p ∈ L, ∀ q ∈ L, A p.num = A q.num → p.num = q.num)
    (hj : j < k) (hqL : ∀ p ∈ L, p.num ≠ f + j) (hcl : Clear M f k) (t1 : Below wr.heap.size wr wt1) (p1 : Keep5 wt1 w2) (hsz : wr.heap.size ≤ w2.heap.size) (p2 : Keep5 w2 wc) (hblk : w2.heap.size ≤ blk)
    (hn : wc.heap[blk]? = some (.cells pc 5 (0, 0))) (hpc : pc = pageCells) (t3 : Below wc.heap.size wc wt3) (p3 : Keep5 wt3 w7)
    (hr : MkR w w7 o vA' vB' vP' (atVals L ++ [.int .u64 ((f : Int) * 4096 + (j : Int) * 4096)]) (bsVals A C L ++ [.slice (some ⟨blk, 0, none⟩) 4096 4096]) (prVals L ++ [.int .i64 prot])) : MkSt w F M f k A0 C0 o (L ++ [⟨f + j, prot, noughts⟩]) w7 := by
  subst hpc
  have k3 : Keep5 wc w7 := (Keep5.of_below t3).trans p3
  rw [show ((f : Int) * 4096 + (j : Int) * 4096) = (((f + j) * 4096 : Nat) : Int) by omega] at hr
  exact MkSt.snoc_new hlt h h2 h3 h4 h5 hqL (fun p hp e => hcl p hp (by omega)) (by omega) (Nat.le_trans hsz hblk) (k3 _ _ _ hn) ((((Keep5.of_below t1).trans p1).trans p2).trans k3) hr
/-- The three appends of an old page, put together. -/
theorem MkSt.old_all {w wr wt1 w2 wt2 wc wt3 w7 : World} {F : Nat → Prop} {M : List Pg} {f k : Nat} {A0 C0 : Nat → Nat} {o : Nat} {L : List Pg} {A C : Nat → Nat} {vA vB vP vA' vB' vP' : Value} {aA : Option Addr} {cA : Nat} {aB : Option Addr} {cB : Nat} {aP : Option Addr} {cP : Nat} {R : Nat → Prop} (hp : RfPages w R F M aA cA aB cB aP cP A0 C0)
    (h : MkR w wr o vA vB vP (atVals L) (bsVals A C L) (prVals L)) (h2 : ∀ p ∈ L, BsIn wr (fun x => F x ∨ w.heap.size ≤ x) A C p)
    (h3 : ∀ p ∈ M, A p.num = A0 p.num ∧ C p.num = C0 p.num) (h4 : ∀ p ∈ L, p ∈ M ∨ (w.heap.size ≤ A p.num ∧ f ≤ p.num ∧ p.num < f + k)) (h5 : ∀ p ∈ L, ∀ q ∈ L, A p.num = A q.num → p.num = q.num)
    {p0 : Pg} (hp0 : p0 ∈ M) (t1 : Below wr.heap.size wr wt1) (p1 : Keep5 wt1 w2) (t2 : Below w2.heap.size w2 wt2) (p2 : Keep5 wt2 wc) (t3 : Below wc.heap.size wc wt3) (p3 : Keep5 wt3 w7)
    (hr : MkR w w7 o vA' vB' vP' (atVals L ++ [.int .u64 ((p0.num * 4096 : Nat) : Int)]) (bsVals A C L ++ [bsVal A0 C0 p0]) (prVals L ++ [.int .i64 p0.prot])) : MkSt w F M f k A0 C0 o (L ++ [p0]) w7 :=
  MkSt.snoc_old (fun p hp' => (hp.page p hp').lt) hp.apart hp.page h h2 h3 h4 h5 hp0 ((((Keep5.of_below t1).trans p1).trans ((Keep5.of_below t2).trans p2)).trans ((Keep5.of_below t3).trans p3)) hr
end Go.Proofs.Ytepnaalgobhcdaa
