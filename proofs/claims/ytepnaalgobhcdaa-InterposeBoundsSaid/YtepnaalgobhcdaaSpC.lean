/- A space in memory: what lies where, and that it stays while other blocks turn. *Space.Free, New, Pages. -/
import Derived.Test.YtepnaalgobhcdaaSpB
namespace Go.Proofs.Ytepnaalgobhcdaa
open Go.RowKit Spm

/-- w' is w but for new blocks and the blocks of F. -/
structure Chg (F : Nat → Prop) (w w' : World) : Prop where
  os : w'.os = w.os
  tape : w'.tape = w.tape
  output : w'.output = w.output
  size : w.heap.size ≤ w'.heap.size
  block : ∀ k, k < w.heap.size → ¬ F k → w'.heap[k]? = w.heap[k]?
/-- F, and what is new. -/
def grow (F : Nat → Prop) (w w' : World) (k : Nat) : Prop := F k ∨ (w.heap.size ≤ k ∧ k < w'.heap.size)
theorem Chg.refl (F : Nat → Prop) (w : World) : Chg F w w := ⟨rfl, rfl, rfl, Nat.le_refl _, fun _ _ _ => rfl⟩
theorem Chg.trans {F : Nat → Prop} {a b c : World} (h : Chg F a b) (k : Chg (grow F a b) b c) : Chg F a c :=
  ⟨k.os.trans h.os, k.tape.trans h.tape, k.output.trans h.output, Nat.le_trans h.size k.size, fun i hi hn => (k.block i (Nat.lt_of_lt_of_le hi h.size) (fun h' => by
    rcases h' with h' | ⟨h', _⟩
    · exact hn h'
    · omega)).trans (h.block i hi hn)⟩
theorem Chg.trans_below {F : Nat → Prop} {a b c : World} (h : Chg F a b) (k : Below b.heap.size b c) : Chg F a c :=
  ⟨k.os.trans h.os, k.tape.trans h.tape, k.output.trans h.output, Nat.le_trans h.size k.size, fun i hi hn => (k.block i (Nat.lt_of_lt_of_le hi h.size)).trans (h.block i hi hn)⟩
theorem Chg.of_below {F : Nat → Prop} {w w' : World} (h : Below w.heap.size w w') : Chg F w w' := ⟨h.os, h.tape, h.output, h.size, fun k hk _ => h.block k hk⟩
theorem Chg.below {F : Nat → Prop} {w w' : World} (h : Chg F w w') {B : Nat} (hF : ∀ k, F k → B ≤ k) (hB : B ≤ w.heap.size) : Below B w w' :=
  ⟨h.os, h.tape, h.output, h.size, fun k hk => h.block k (by omega) (fun hf => by have := hF k hf; omega)⟩
theorem Chg.mono {F G : Nat → Prop} {w w' : World} (h : Chg F w w') (hFG : ∀ k, k < w.heap.size → F k → G k) : Chg G w w' := ⟨h.os, h.tape, h.output, h.size, fun k hk hn => h.block k hk (fun hf => hn (hFG k hk hf))⟩
theorem Chg.heap {F : Nat → Prop} {w w' : World} (h : Chg F w w') {k : Nat} {o : Obj} (hk : w.heap[k]? = some o) (hn : ¬ F k) : w'.heap[k]? = some o := (h.block k (lt_of_block hk) hn).trans hk

def bytesArr (bs : List UInt8) : Array Value := (bs.map fun (x : UInt8) => Value.int .u8 ((x.toNat : Nat) : Int)).toArray
def pgFn (M : List Pg) (A : Nat → Nat) (n : Nat) : Option (Nat × Int) := (pg M n).map fun p => (A n, p.prot)

/-- What a space whose map lies in block mb holds. -/
structure Pages (w : World) (mb : Nat) (A : Nat → Nat) (M : List Pg) (F : Nat → Prop) : Prop where
  map : PgMap w mb (pgFn M A) M.length
  fmap : F mb
  page : ∀ p ∈ M, F (A p.num) ∧ w.heap[A p.num]? = some (.cells (bytesArr p.bytes) 140 (0, 0))
  apart : ∀ p ∈ M, ∀ q ∈ M, A p.num = A q.num → p.num = q.num
structure SpIn (w : World) (b : Nat) (M : List Pg) (F : Nat → Prop) : Prop where
  ok : Ok M
  own : ∃ mb A, w.heap[b]? = some (.cells #[.map (some mb)] 78 (0, 0)) ∧ Pages w mb A M F
  fb : F b
  lt : ∀ k, F k → k < w.heap.size
theorem Pages.keep {w w' : World} {mb : Nat} {A : Nat → Nat} {M : List Pg} {F G : Nat → Prop} (h : Pages w mb A M F) (hc : Chg G w w') (hFG : ∀ k, F k → ¬ G k) : Pages w' mb A M F :=
  ⟨h.map.kept (hc.block mb h.map.lt (hFG _ h.fmap)), h.fmap, fun p hp => ⟨(h.page p hp).1, hc.heap (h.page p hp).2 (hFG _ (h.page p hp).1)⟩, h.apart⟩
theorem SpIn.keep {w w' : World} {b : Nat} {M : List Pg} {F G : Nat → Prop} (h : SpIn w b M F) (hc : Chg G w w') (hFG : ∀ k, F k → ¬ G k) : SpIn w' b M F := by
  obtain ⟨h1, ⟨mb, A, h2, h3⟩, h4, h5⟩ := h
  exact ⟨h1, ⟨mb, A, hc.heap h2 (hFG _ h4), h3.keep hc hFG⟩, h4, fun k hk => Nat.lt_of_lt_of_le (h5 k hk) hc.size⟩
theorem SpIn.keepB {w w' : World} {b : Nat} {M : List Pg} {F : Nat → Prop} (h : SpIn w b M F) (hc : Below w.heap.size w w') : SpIn w' b M F :=
  h.keep (Chg.of_below (F := fun _ => False) hc) (fun _ _ h => h)

set_option maxRecDepth 100000 in
theorem new_any (w : World) : Calls Try.prog 24 #[] w fun e w' => e = .returned (.pointer (some ⟨w.heap.size + 1, 0, none⟩)) ∧ SpIn w' (w.heap.size + 1) [] (fun k => w.heap.size ≤ k ∧ k < w.heap.size + 2) ∧ Below w.heap.size w w' ∧ w'.heap.size = w.heap.size + 2 := by
  have hmm := @run_makeMap Try.prog
  go_enter Try.func24, Try.ntmps24
  go_wp2_with fail
  go_ret
  refine ⟨rfl, ⟨⟨List.Pairwise.nil, fun _ hp => (List.not_mem_nil hp).elim, Nat.zero_le _⟩, ⟨w.heap.size, fun _ => 0, hp_new _ _ _ (by simp), ⟨(PgMap.made w).kept (hp_old _ _ _ (by simp)), by simp, fun _ hp => (List.not_mem_nil hp).elim, fun _ hp => (List.not_mem_nil hp).elim⟩⟩, by simp, fun k hk => by simp; omega⟩, ((Below.refl _ w).alloc (Nat.le_refl _) _).alloc (by simp) _, by simp⟩

set_option maxRecDepth 100000 in
theorem pages_any (w : World) (b : Nat) (M : List Pg) (F : Nat → Prop) (h : SpIn w b M F) : Calls Try.prog 26 #[.pointer (some ⟨b, 0, none⟩)] w fun e w' => e = .returned (.int .i64 M.length) ∧ w = w' := by
  obtain ⟨_, ⟨mb, A, hb, hp⟩, _, _⟩ := h
  have cb := cell_of_one hb
  have HP := Lib.hid hp.map
  clear hp hb
  go_enter Try.func26, Try.ntmps26
  go_wp2_with (refine wpList_pages_len rfl (.tmp 8) rfl mb HP.out rfl ?_)
  go_ret
  exact ⟨rfl, rfl⟩
end Go.Proofs.Ytepnaalgobhcdaa
