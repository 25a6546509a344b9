/- Two pairs of spaces side by side. -/
import Derived.Test.YtepnaalgobhcdaaBnP
import Derived.Test.YtepnaalgobhcdaaBnN
namespace Go.Proofs.Ytepnaalgobhcdaa
open Go.RowKit Spm

theorem lt_same {w w2 : World} {k : Nat} (hk : k < w.heap.size) (hs : w2.heap[k]? = w.heap[k]?) : k < w2.heap.size := by
  rw [Array.getElem?_eq_getElem hk] at hs
  exact lt_of_block hs
theorem SpIn.same {w w2 : World} {b : Nat} {M : List Pg} {F : Nat → Prop} (h : SpIn w b M F) (hs : ∀ k, F k → w2.heap[k]? = w.heap[k]?) : SpIn w2 b M F := by
  obtain ⟨h1, ⟨mb, A, h2, h3⟩, h4, h5⟩ := h
  exact ⟨h1, ⟨mb, A, (hs b h4).trans h2, h3.map.kept (hs mb h3.fmap), h3.fmap, fun p hp => ⟨(h3.page p hp).1, (hs _ (h3.page p hp).1).trans (h3.page p hp).2⟩, h3.apart⟩, h4, fun k hk => lt_same (h5 k hk) (hs k hk)⟩
theorem RfIn.same {w w2 : World} {b : Nat} {M : List Pg} {F : Nat → Prop} (h : RfIn w b M F) (hs : ∀ k, F k → w2.heap[k]? = w.heap[k]?) : RfIn w2 b M F := by
  obtain ⟨h1, ⟨aA, cA, aB, cB, aP, cP, A, C, h2, h3⟩, h4, h5⟩ := h
  exact ⟨h1, ⟨aA, cA, aB, cB, aP, cP, A, C, (hs b h4).trans h2, h3.same fun g _ hg => hs g (by rcases hg with hg | hg <;> exact hg)⟩, h4, fun k hk => lt_same (h5 k hk) (hs k hk)⟩
/-- s and r hold M, o and v hold N; all four are new since w and apart. -/
structure Four (w : World) (s r o v : Nat) (M N : List Pg) (wr : World) : Prop where
  own : ∃ F G F2 G2 : Nat → Prop, SpIn wr s M F ∧ RfIn wr r M G ∧ SpIn wr o N F2 ∧ RfIn wr v N G2 ∧
    (∀ k, F k → ¬ G k) ∧ (∀ k, F2 k → ¬ G2 k) ∧ (∀ k, F k ∨ G k → ¬ (F2 k ∨ G2 k)) ∧ (∀ k, F k ∨ G k ∨ F2 k ∨ G2 k → w.heap.size ≤ k)
  below : Below w.heap.size w wr
section
variable {w wr w2 : World} {s r o v : Nat} {M N M' : List Pg}
theorem Four.swap (h : Four w s r o v M N wr) : Four w o v s r N M wr := by
  obtain ⟨⟨F, G, F2, G2, h1, h2, h3, h4, h5, h6, h7, h8⟩, hb⟩ := h
  exact ⟨⟨F2, G2, F, G, h3, h4, h1, h2, h6, h5, fun k hk hk' => h7 k hk' hk, fun k hk => h8 k (by rcases hk with h | h | h | h <;> simp [h])⟩, hb⟩
theorem Four.keep (h : Four w s r o v M N wr) (hb : Below wr.heap.size wr w2) : Four w s r o v M N w2 := by
  obtain ⟨⟨F, G, F2, G2, h1, h2, h3, h4, h5⟩, hb1⟩ := h
  exact ⟨⟨F, G, F2, G2, h1.keepB hb, h2.keepB hb, h3.keepB hb, h4.keepB hb, h5⟩, hb1.trans (below_le hb hb1.size)⟩
/-- The first pair, the second pair held. -/
theorem Four.fst (h : Four w s r o v M N wr) : ∃ X : Nat → Prop, TwoX X wr w s r M M wr ∧ ∀ M' w2, TwoX X wr w s r M' M' w2 → Four w s r o v M' N w2 := by
  obtain ⟨⟨F, G, F2, G2, h1, h2, h3, h4, h5, h6, h7, h8⟩, hb⟩ := h
  refine ⟨fun k => F2 k ∨ G2 k, ⟨⟨F, G, h1, h2, h5, fun k hk => h8 k (.inl hk), fun k hk => h8 k (.inr (.inl hk)), fun k hk => ⟨fun hf => h7 k (.inl hf) hk, fun hg => h7 k (.inr hg) hk⟩⟩, hb, fun k hk => ⟨by rcases hk with hk | hk; exact h3.lt k hk; exact h4.lt k hk, rfl⟩⟩, fun M' w2 h' => ?_⟩
  obtain ⟨F', G', k1, k2, k3, k4, k5, k6⟩ := h'.own
  exact ⟨⟨F', G', F2, G2, k1, k2, h3.same fun k hk => (h'.xs k (.inl hk)).2, h4.same fun k hk => (h'.xs k (.inr hk)).2, k3, h6, fun k hk hk' => by
    rcases hk with hk | hk
    · exact (k6 k hk').1 hk
    · exact (k6 k hk').2 hk, fun k hk => by
    rcases hk with hk | hk | hk | hk
    · exact k4 k hk
    · exact k5 k hk
    · exact h8 k (by simp [hk])
    · exact h8 k (by simp [hk])⟩, h'.below⟩
/-- The copies are made. -/
theorem Four.made {w1 w3 : World} (h : Two w s r M M w1) (c1 : SpIn w2 o M (fun k => w1.heap.size ≤ k ∧ k < w2.heap.size)) (b1 : Below w1.heap.size w1 w2) (c2 : RfIn w3 v M (fun k => w2.heap.size ≤ k ∧ k < w3.heap.size)) (b2 : Below w2.heap.size w2 w3) : Four w s r o v M M w3 := by
  obtain ⟨F, G, h1, h2, h3, h4, h5, _⟩ := h.own
  have hb := b1.trans (below_le b2 b1.size)
  have z1 := b1.size
  have z0 := h.below.size
  exact ⟨⟨F, G, _, _, h1.keepB hb, h2.keepB hb, c1.keepB b2, c2, h3, fun k hk hk' => by have := hk.2; have := hk'.1; omega, fun k hk hk' => by
    have hl : k < w1.heap.size := by
      rcases hk with hk | hk
      · exact h1.lt k hk
      · exact h2.lt k hk
    rcases hk' with hk' | hk'
    · have := hk'.1; omega
    · have := hk'.1; omega, fun k hk => by
    rcases hk with hk | hk | hk | hk
    · exact h4 k hk
    · exact h5 k hk
    · have := hk.1; omega
    · have := hk.1; omega⟩, h.below.trans (below_le hb h.below.size)⟩
theorem four_do (h : Four w s r o v M N wr) (x : ActM) (u : Value) (ha : ActIn w x u) :
    Calls Try.prog 28 #[.pointer (some ⟨s, 0, none⟩), .pointer (some ⟨r, 0, none⟩), .agg (actArr x u)] wr fun e w' => e = .returned (.bool true) ∧ Four w s r o v (actM M x) N w' := by
  obtain ⟨X, h1, h2⟩ := h.fst
  refine (do_any h1 x u ha).mono ?_
  rintro e w' ⟨rfl, g⟩
  exact ⟨rfl, h2 _ _ g⟩
theorem four_same (h : Four w s r o v M N wr) : Calls Try.prog 31 #[.pointer (some ⟨s, 0, none⟩), .pointer (some ⟨o, 0, none⟩)] wr (TellsB wr (M = N)) := by
  obtain ⟨F, G, F2, G2, h1, _, h3, _⟩ := h.own
  exact same_any wr s o M N F F2 h1 h3
theorem four_rdump (h : Four w s r o v M N wr) : Calls Try.prog 33 #[.pointer (some ⟨r, 0, none⟩)] wr (LsRes wr M) := by
  obtain ⟨F, G, _, _, _, h2, _⟩ := h.own
  exact (rdump_any wr r M G h2).mono fun _ _ h => h.ls
theorem four_dump (h : Four w s r o v M N wr) : Calls Try.prog 34 #[.pointer (some ⟨s, 0, none⟩)] wr (LsRes wr M) := by
  obtain ⟨F, G, _, _, h1, _⟩ := h.own
  exact (dump_any wr s M F h1).mono fun _ _ h => h.ls
theorem four_few (h : Four w s r o v M N wr) : (runsM M).length ≤ 8192 ∧ Ok M := by
  obtain ⟨F, G, _, _, h1, _⟩ := h.own
  have a := (runsM_ok h1.ok).2
  have b := h1.ok.few
  exact ⟨by omega, h1.ok⟩
/-- ref.Same of two lists of pieces: are the memories the same? -/
theorem four_alike (h : Four w s r o v M N wr) {w2 : World} {a1 a2 : Option Addr} {c1 c2 : Nat} (h1 : PcsR w2 a1 (runsM M)) (h2 : PcsR w2 a2 (runsM N)) :
    Calls Try.prog 32 #[.slice a1 (runsM M).length c1, .slice a2 (runsM N).length c2] w2 (TellsB w2 (M = N)) := by
  have f1 := four_few h
  have f2 := four_few h.swap
  refine (rsame_any w2 a1 a2 c1 c2 _ _ h1 h2 (by omega) (by omega)).mono ?_
  rintro e w' ⟨rfl, hb⟩
  exact ⟨_, rfl, eqRns_iff f1.2 f2.2, hb⟩
end
end Go.Proofs.Ytepnaalgobhcdaa
