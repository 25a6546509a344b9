/- A space and the document's space side by side: what each call does to the two. -/
import Derived.Test.YtepnaalgobhcdaaRfJ
import Derived.Test.YtepnaalgobhcdaaRfF
namespace Go.Proofs.Ytepnaalgobhcdaa
open Go.RowKit Spm

/-- The space at s holds M1, the document's space at r holds M2; both are new since w, and share nothing; the blocks of X lie as they lay in w0. -/
structure TwoX (X : Nat → Prop) (w0 w : World) (s r : Nat) (M1 M2 : List Pg) (wr : World) : Prop where
  own : ∃ F G : Nat → Prop, SpIn wr s M1 F ∧ RfIn wr r M2 G ∧ (∀ k, F k → ¬ G k) ∧ (∀ k, F k → w.heap.size ≤ k) ∧ (∀ k, G k → w.heap.size ≤ k) ∧ ∀ k, X k → ¬ F k ∧ ¬ G k
  below : Below w.heap.size w wr
  xs : ∀ k, X k → k < w0.heap.size ∧ wr.heap[k]? = w0.heap[k]?
/-- Nothing is held. -/
abbrev Two (w : World) (s r : Nat) (M1 M2 : List Pg) (wr : World) : Prop := TwoX (fun _ => False) w w s r M1 M2 wr

section
variable {X : Nat → Prop} {w0 w w1 w2 : World} {s r : Nat} {M1 M2 : List Pg}
theorem TwoX.xlt (h : TwoX X w0 w s r M1 M2 w1) {k : Nat} (hk : X k) : k < w1.heap.size := by
  obtain ⟨h1, h2⟩ := h.xs k hk
  rw [Array.getElem?_eq_getElem h1] at h2
  exact lt_of_block h2
theorem TwoX.keep (h : TwoX X w0 w s r M1 M2 w1) (hb : Below w1.heap.size w1 w2) : TwoX X w0 w s r M1 M2 w2 := by
  obtain ⟨F, G, h1, h2, h3, h4, h5, h7⟩ := h.own
  exact ⟨⟨F, G, h1.keepB hb, h2.keepB hb, h3, h4, h5, h7⟩, h.below.trans (below_le hb h.below.size), fun k hk => ⟨(h.xs k hk).1, (hb.block k (h.xlt hk)).trans (h.xs k hk).2⟩⟩
theorem TwoX.ok1 (h : TwoX X w0 w s r M1 M2 w1) : Ok M1 := by
  obtain ⟨⟨F, G, h1, _⟩, _⟩ := h; exact h1.ok
theorem TwoX.ok2 (h : TwoX X w0 w s r M1 M2 w1) : Ok M2 := by
  obtain ⟨⟨F, G, _, h1, _⟩, _⟩ := h; exact h1.ok
/-- What is laid anew is held from here on. -/
theorem TwoX.hold {Y : Nat → Prop} (h : TwoX X w0 w s r M1 M2 w1) (hb : Below w1.heap.size w1 w2) (hY : ∀ k, Y k → w1.heap.size ≤ k ∧ k < w2.heap.size) : TwoX Y w2 w s r M1 M2 w2 := by
  obtain ⟨F, G, h1, h2, h3, h4, h5, _⟩ := h.own
  exact ⟨⟨F, G, h1.keepB hb, h2.keepB hb, h3, h4, h5, fun k hk => ⟨fun hf => by have := h1.lt k hf; have := hY k hk; omega, fun hg => by have := h2.lt k hg; have := hY k hk; omega⟩⟩, h.below.trans (below_le hb h.below.size), fun k hk => ⟨(hY k hk).2, rfl⟩⟩
theorem TwoX.drop (h : TwoX X w0 w s r M1 M2 w1) : Two w s r M1 M2 w1 := by
  obtain ⟨F, G, h1, h2, h3, h4, h5, _⟩ := h.own
  exact ⟨⟨F, G, h1, h2, h3, h4, h5, fun _ hk => hk.elim⟩, h.below, fun _ hk => hk.elim⟩
/-- What turns the first space only. -/
theorem TwoX.left {M1' : List Pg} {F G : Nat → Prop} (h : TwoX X w0 w s r M1 M2 w1) (h2 : RfIn w1 r M2 G) (h3 : ∀ k, F k → ¬ G k) (h4 : ∀ k, F k → w.heap.size ≤ k) (h5 : ∀ k, G k → w.heap.size ≤ k) (h7 : ∀ k, X k → ¬ F k ∧ ¬ G k)
    (hs : SpIn w2 s M1' (grow F w1 w2)) (hc : Chg F w1 w2) : TwoX X w0 w s r M1' M2 w2 :=
  ⟨⟨grow F w1 w2, G, hs, h2.keep hc (fun k hg hf => h3 k hf hg), fun k hk hg => by
    rcases hk with hk | hk
    · exact h3 k hk hg
    · have := h2.lt k hg; omega, grow_below h4 h.below.size, h5, fun k hk => ⟨fun hf => by
    rcases hf with hf | hf
    · exact (h7 k hk).1 hf
    · have := h.xlt hk; omega, (h7 k hk).2⟩⟩, h.below.trans (hc.below h4 h.below.size), fun k hk => ⟨(h.xs k hk).1, (hc.block k (h.xlt hk) (h7 k hk).1).trans (h.xs k hk).2⟩⟩
/-- What turns the second space only. -/
theorem TwoX.right {M2' : List Pg} {F G : Nat → Prop} (h : TwoX X w0 w s r M1 M2 w1) (h1 : SpIn w1 s M1 F) (h3 : ∀ k, F k → ¬ G k) (h4 : ∀ k, F k → w.heap.size ≤ k) (h5 : ∀ k, G k → w.heap.size ≤ k) (h7 : ∀ k, X k → ¬ F k ∧ ¬ G k)
    (hs : RfIn w2 r M2' (grow G w1 w2)) (hc : Chg G w1 w2) : TwoX X w0 w s r M1 M2' w2 :=
  ⟨⟨F, grow G w1 w2, h1.keep hc h3, hs, fun k hk hg => by
    rcases hg with hg | hg
    · exact h3 k hk hg
    · have := h1.lt k hk; omega, h4, grow_below h5 h.below.size, fun k hk => ⟨(h7 k hk).1, fun hg => by
    rcases hg with hg | hg
    · exact (h7 k hk).2 hg
    · have := h.xlt hk; omega⟩⟩, h.below.trans (hc.below h5 h.below.size), fun k hk => ⟨(h.xs k hk).1, (hc.block k (h.xlt hk) (h7 k hk).2).trans (h.xs k hk).2⟩⟩
end
theorem SpIn.wider {w1 w2 : World} {b : Nat} {M : List Pg} {F : Nat → Prop} (h : SpIn w2 b M F) : SpIn w2 b M (grow F w1 w2) := by
  obtain ⟨h1, ⟨mb, A, h2, h3⟩, h4, h5⟩ := h
  exact ⟨h1, ⟨mb, A, h2, ⟨h3.map, .inl h3.fmap, fun p hp => ⟨.inl (h3.page p hp).1, (h3.page p hp).2⟩, h3.apart⟩⟩, .inl h4, fun k hk => by
    rcases hk with hk | hk
    · exact h5 k hk
    · exact hk.2⟩
theorem RfIn.wider {w1 w2 : World} {b : Nat} {M : List Pg} {F : Nat → Prop} (h : RfIn w2 b M F) : RfIn w2 b M (grow F w1 w2) := by
  obtain ⟨h1, ⟨aA, cA, aB, cB, aP, cP, A, C, h2, h3⟩, h4, h5⟩ := h
  exact ⟨h1, ⟨aA, cA, aB, cB, aP, cP, A, C, h2, h3.ats.mono fun _ h => .inl h, h3.bys.mono fun _ h => .inl h, h3.prs.mono fun _ h => .inl h, fun p hp => (h3.page p hp).mono fun _ h => .inl h, h3.apart⟩, .inl h4, fun k hk => by
    rcases hk with hk | hk
    · exact h5 k hk
    · exact hk.2⟩

def TwoInt (X : Nat → Prop) (w0 w : World) (s r : Nat) (M1 M2 : List Pg) (er : Int) (e : Ending) (w' : World) : Prop := e = .returned (.int .i64 er) ∧ TwoX X w0 w s r M1 M2 w'
section
variable {X : Nat → Prop} {w0 w w1 : World} {s r : Nat} {M1 M2 : List Pg}
theorem two_map (h : TwoX X w0 w s r M1 M2 w1) (a n : Nat) (ha : a < 18446744073709551616) (prot : Int) :
    Calls Try.prog 25 #[.pointer (some ⟨s, 0, none⟩), .int .u64 a, .int .u64 n, .int .i64 prot] w1 (TwoInt X w0 w s r (mapM M1 a n prot) M2 (mapErr M1 a n prot)) := by
  obtain ⟨F, G, h1, h2, h3, h4, h5, h7⟩ := h.own
  refine (map_any w1 s M1 F h1 a n ha prot).mono ?_
  rintro e w' ⟨rfl, g1, g2⟩
  exact ⟨rfl, h.left h2 h3 h4 h5 h7 g1 g2⟩
theorem two_rmap (h : TwoX X w0 w s r M1 M2 w1) (a n : Nat) (ha : a < 18446744073709551616) (prot : Int) :
    Calls Try.prog 66 #[.pointer (some ⟨r, 0, none⟩), .int .u64 a, .int .u64 n, .int .i64 prot] w1 (TwoInt X w0 w s r M1 (mapM M2 a n prot) (mapErr M2 a n prot)) := by
  obtain ⟨F, G, h1, h2, h3, h4, h5, h7⟩ := h.own
  refine (rmap_any w1 r M2 G h2 a n ha prot).mono ?_
  rintro e w' ⟨rfl, g1, g2⟩
  exact ⟨rfl, h.right h1 h3 h4 h5 h7 g1 g2⟩
/-- Bytes that lie in what was there before w, or in what is held. -/
def SrcOld (X : Nat → Prop) (w w1 : World) (ad : Option Addr) (bs : List UInt8) : Prop := 0 < bs.length → ∃ sb so, ad = some ⟨sb, so, none⟩ ∧ BytesIn w1 sb so bs ∧ (sb < w.heap.size ∨ X sb)
theorem src_old (h : TwoX X w0 w s r M1 M2 w1) {F : Nat → Prop} (h4 : ∀ k, F k → w.heap.size ≤ k) (h7 : ∀ k, X k → ¬ F k) {ad : Option Addr} {bs : List UInt8} (hbs : SrcOld X w w1 ad bs) : SrcIn w1 F ad bs := fun h0 => by
  obtain ⟨sb, so, k1, k2, k3⟩ := hbs h0
  refine ⟨sb, so, k1, k2, fun hF => ?_, ?_⟩
  · rcases k3 with k3 | k3
    · have := h4 sb hF; omega
    · exact h7 sb k3 hF
  · rcases k3 with k3 | k3
    · exact Nat.lt_of_lt_of_le k3 h.below.size
    · exact h.xlt k3
theorem two_fill (h : TwoX X w0 w s r M1 M2 w1) (a : Nat) (ha : a < 18446744073709551616) (bs : List UInt8) (ad : Option Addr) (c : Nat) (hbs : SrcOld X w w1 ad bs) (hc : bs.length ≤ c) (hcm : c ≤ 9223372036854775807) :
    Calls Try.prog 37 #[.pointer (some ⟨s, 0, none⟩), .int .u64 a, .slice ad bs.length c] w1 (TwoInt X w0 w s r (writeM M1 a bs 0) M2 (lookErr M1 a bs.length 0)) := by
  obtain ⟨F, G, h1, h2, h3, h4, h5, h7⟩ := h.own
  refine (fill_any w1 s M1 F h1 a ha bs ad c (src_old h h4 (fun k hk => (h7 k hk).1) hbs) hc hcm).mono ?_
  rintro e w' ⟨rfl, g1, g2⟩
  exact ⟨rfl, h.left h2 h3 h4 h5 h7 g1.wider g2⟩
theorem two_write (h : TwoX X w0 w s r M1 M2 w1) (a : Nat) (ha : a < 18446744073709551616) (bs : List UInt8) (ad : Option Addr) (c : Nat) (hbs : SrcOld X w w1 ad bs) (hc : bs.length ≤ c) (hcm : c ≤ 9223372036854775807) :
    Calls Try.prog 38 #[.pointer (some ⟨s, 0, none⟩), .int .u64 a, .slice ad bs.length c] w1 (TwoInt X w0 w s r (writeM M1 a bs 2) M2 (lookErr M1 a bs.length 2)) := by
  obtain ⟨F, G, h1, h2, h3, h4, h5, h7⟩ := h.own
  refine (write_any w1 s M1 F h1 a ha bs ad c (src_old h h4 (fun k hk => (h7 k hk).1) hbs) hc hcm).mono ?_
  rintro e w' ⟨rfl, g1, g2⟩
  exact ⟨rfl, h.left h2 h3 h4 h5 h7 g1.wider g2⟩
theorem two_rwrite (h : TwoX X w0 w s r M1 M2 w1) (a : Nat) (ha : a < 18446744073709551616) (bs : List UInt8) (ad : Option Addr) (c : Nat) (hbs : SrcOld X w w1 ad bs) (hc : bs.length ≤ c) (hcm : c ≤ 9223372036854775807) (p : Int) (hp : p = 0 ∨ p = 1 ∨ p = 2) :
    Calls Try.prog 67 #[.pointer (some ⟨r, 0, none⟩), .int .u64 a, .slice ad bs.length c, .int .i64 p] w1 (TwoInt X w0 w s r M1 (writeM M2 a bs p) (lookErr M2 a bs.length p)) := by
  obtain ⟨F, G, h1, h2, h3, h4, h5, h7⟩ := h.own
  refine (rwrite_any w1 r M2 G h2 a ha bs ad c (src_old h h5 (fun k hk => (h7 k hk).2) hbs) hc hcm p hp).mono ?_
  rintro e w' ⟨rfl, g1, g2, _⟩
  exact ⟨rfl, h.right h1 h3 h4 h5 h7 g1.wider g2⟩
end

theorem rf_new (w : World) : RfIn (w.alloc (.cells #[.slice none 0 0, .slice none 0 0, .slice none 0 0] 55)) w.heap.size [] (fun k => k = w.heap.size) :=
  ⟨ok_nil, ⟨none, 0, none, 0, none, 0, fun _ => 0, fun _ => 0, hp_new _ _ _ rfl, ⟨World.ownsRow_nil _ _ _ _, fun _ h => by cases h⟩, ⟨World.ownsRow_nil _ _ _ _, fun _ h => by cases h⟩, ⟨World.ownsRow_nil _ _ _ _, fun _ h => by cases h⟩, fun _ h => absurd h List.not_mem_nil, fun _ h => absurd h List.not_mem_nil⟩, rfl, fun k hk => by rw [hk]; simp⟩
theorem two_new {w w1 : World} {s : Nat} (h1 : SpIn w1 s [] (newF w)) (h2 : Below w.heap.size w w1) : Two w s w1.heap.size [] [] (w1.alloc (.cells #[.slice none 0 0, .slice none 0 0, .slice none 0 0] 55)) :=
  ⟨⟨newF w, _, h1.keepB ((Below.refl _ w1).alloc (Nat.le_refl _) _), rf_new w1, fun k hk e => by have := h1.lt k hk; omega, fun k hk => hk.1, fun k hk => by rw [hk]; exact h2.size, fun _ hk => hk.elim⟩, h2.alloc h2.size _, fun _ hk => hk.elim⟩
/-! ### A range of memory -/
structure RngM where
  at_ : Nat
  pages : Int
  prot : Int
  bytes : List UInt8
def RngAt (w : World) (x : RngM) (b off : Nat) : Prop :=
  ∃ (a : Option Addr) (c : Nat), x.at_ < 18446744073709551616 ∧ (-9223372036854775808 ≤ x.pages ∧ x.pages ≤ 9223372036854775807) ∧ x.bytes.length ≤ c ∧ c ≤ maxLen ∧
    CellsAt w b off #[.int .u64 x.at_, .int .i64 x.pages, .int .i64 x.prot, .slice a x.bytes.length c] ∧ (0 < x.bytes.length → ∃ sb so, a = some ⟨sb, so, none⟩ ∧ BytesIn w sb so x.bytes)
def Rngs (w : World) (a : Option Addr) (c : Nat) (l : List RngM) : Prop := l.length ≤ c ∧ c ≤ maxLen ∧ SliceOf a l.length 4 fun j => RngAt w (l.getD j ⟨0, 0, 0, []⟩)
theorem RngAt.keep {w w' : World} {x : RngM} {b off : Nat} (h : RngAt w x b off) (hb : Below w.heap.size w w') : RngAt w' x b off := by
  obtain ⟨a, c, h1, h2, h3, h4, h5, h6⟩ := h
  exact ⟨a, c, h1, h2, h3, h4, h5.keep hb, fun h0 => by
    obtain ⟨sb, so, k1, k2⟩ := h6 h0
    exact ⟨sb, so, k1, k2.keep (hb.block sb (block_lt_of_cell (k2 0 h0)))⟩⟩
theorem Rngs.keep {w w' : World} {a : Option Addr} {c : Nat} {l : List RngM} (h : Rngs w a c l) (hb : Below w.heap.size w w') : Rngs w' a c l := ⟨h.1, h.2.1, h.2.2.mono fun _ _ _ _ h => h.keep hb⟩
def rngBad (x : RngM) : Bool := decide (x.pages < 0) || decide (4 < x.pages) || decide (4096 * x.pages < (x.bytes.length : Int))
def rngStep (M : List Pg) (x : RngM) : List Pg := if mapErr M x.at_ (4096 * x.pages.toNat) x.prot = 0 then writeM (mapM M x.at_ (4096 * x.pages.toNat) x.prot) x.at_ x.bytes 0 else M
def memM (l : List RngM) : List Pg := l.foldl rngStep []
def memOk (l : List RngM) : Bool := decide (l.length ≤ 6) && l.all fun x => !rngBad x
theorem memM_snoc {l : List RngM} {i : Nat} {x : RngM} (h : l[i]? = some x) : memM (l.take (i + 1)) = rngStep (memM (l.take i)) x := by
  unfold memM; rw [List.take_add_one, h]; simp
end Go.Proofs.Ytepnaalgobhcdaa
