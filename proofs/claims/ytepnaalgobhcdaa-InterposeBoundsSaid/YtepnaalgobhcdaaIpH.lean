/- interpose.Map: the walk. -/
import Derived.Test.YtepnaalgobhcdaaIpG
namespace Go.Proofs.Ytepnaalgobhcdaa
open Go.RowKit Go.Shelf Spm

theorem secRun_good (M : List Pg) (addr slide : Nat) : ∀ j, ∀ p ∈ (secRun M addr slide j).2, p.1 ≠ 0 ∧ p.1 < 18446744073709551616 ∧ p.2 < 18446744073709551616
  | 0 => fun p h => by simp [secRun] at h
  | j + 1 => fun p h => by
    have ih := secRun_good M addr slide j
    unfold secRun at h
    split at h
    · exact ih p h
    · split at h
      · exact ih p h
      · split at h
        · rename_i h2
          rcases List.mem_append.1 h with h | h
          · exact ih p h
          · rw [List.mem_singleton] at h
            rw [h]
            refine ⟨h2.1, ?_⟩
            have l1 := wordOf_lt ((readAll M (secAddr addr slide (16 * j)) 16).take 8)
            have l2 := wordOf_lt ((readAll M (secAddr addr slide (16 * j)) 16).drop 8)
            rw [List.length_take, readAll_length] at l1
            rw [List.length_drop, readAll_length] at l2
            exact ⟨l1, l2⟩
        · exact ih p h
theorem pFold_good (M : List Pg) (slide : Nat) (l : List (Nat × Nat)) : ∀ p ∈ (pFold M slide l).out, p.1 ≠ 0 ∧ p.1 < 18446744073709551616 ∧ p.2 < 18446744073709551616 := by
  refine snoc_induction (p := fun l => ∀ p ∈ (pFold M slide l).out, p.1 ≠ 0 ∧ p.1 < 18446744073709551616 ∧ p.2 < 18446744073709551616) (by simp [pFold]) (fun l x ih => ?_) l
  show ∀ p ∈ (pFold M slide (l ++ [x])).out, _
  rw [pFold_snoc]
  unfold pStep
  split
  · exact ih
  · split
    · exact ih
    · split
      · exact ih
      · split
        · exact ih
        · intro p hp
          rcases List.mem_append.1 hp with h | h
          · exact ih p h
          · exact secRun_good M _ _ _ p h
theorem flat_at {l : List (Nat × Nat)} {k : Nat} (hk : k < l.length) : (flat l)[k * 2]? = some (.int .u64 ((l.getD k (0, 0)).1 : Int)) ∧ (flat l)[k * 2 + 1]? = some (.int .u64 ((l.getD k (0, 0)).2 : Int)) := by
  induction l generalizing k with
  | nil => simp at hk
  | cons x l ih =>
    have e : flat (x :: l) = .int .u64 (x.1 : Int) :: .int .u64 (x.2 : Int) :: flat l := by simp [flat]
    cases k with
    | zero => rw [e]; simp
    | succ k =>
      have := ih (k := k) (by simpa using hk)
      rw [e, show (k + 1) * 2 = k * 2 + 2 by omega]
      simpa using this
/-- A row of pairs: the k-th lies so. -/
theorem row_pair {W : World} {B : Nat} {v : Value} {l : List (Nat × Nat)} (h : W.ownsRow B 88 2 v l.length (flat l)) {k : Nat} (hk : k < l.length) : ∃ g cap, v = .slice (some ⟨g, 0, none⟩) l.length cap ∧ l.length ≤ cap ∧ cap ≤ maxLen ∧ CellsAt W g (k * 2) #[.int .u64 ((l.getD k (0, 0)).1 : Int), .int .u64 ((l.getD k (0, 0)).2 : Int)] := by
  have h2 := h.2
  rcases h2 with ⟨rfl, h0⟩ | ⟨g, cap, cur, rfl, hb, hg, hc1, hc2, hs, ht⟩
  · omega
  · refine ⟨g, cap, rfl, hc1, hc2, fun j u hj => ?_⟩
    obtain ⟨f1, f2⟩ := flat_at hk
    rw [h.cellAt (k * 2 + j) (by
      have : j < 2 := by have := (Array.getElem?_eq_some_iff.1 hj).1; simpa using this
      omega)]
    match j, hj with
    | 0, hj => rw [Nat.add_zero, f1]; simpa using hj
    | 1, hj => rw [f2]; simpa using hj
    | j + 2, hj => simp at hj
structure MpSt (w : World) (T : Tab) (W : World) : Prop where
  below : Below w.heap.size w W
  map : SwMap W w.heap.size T
section
variable {w W W' : World} {T : Tab}
theorem MpSt.keep (h : MpSt w T W) (hb : Below W.heap.size W W') : MpSt w T W' := ⟨h.below.trans (below_le hb h.below.size), h.map.keepB hb⟩
theorem MpSt.put (h : MpSt w T W) {T' : Tab} (hm : SwMap W' w.heap.size T') (hg : W.grownBy W' (some w.heap.size)) : MpSt w T' W' :=
  ⟨⟨hg.os.trans h.below.os, hg.tape.trans h.below.tape, hg.output.trans h.below.output, Nat.le_trans h.below.size hg.size, fun k hk => by
    rw [hg.block k (Nat.lt_of_lt_of_le hk h.below.size) (fun e => by have := Option.some.inj e; omega)]
    exact h.below.block k hk⟩, hm⟩
end
theorem row_put {W W' : World} {B m : Nat} {v : Value} {n : Nat} {xs : List Value} (h : W.ownsRow B 88 2 v n xs) (hg : W.grownBy W' (some m)) (hm : m < B) : W'.ownsRow B 88 2 v n xs :=
  owns2_same h fun g hgg => hg.block g (h.lt g hgg).2 (fun e => by have := (h.lt g hgg).1; have := Option.some.inj e; omega)
theorem row_keep {W W' : World} {B : Nat} {v : Value} {n : Nat} {xs : List Value} (h : W.ownsRow B 88 2 v n xs) (hb : Below W.heap.size W W') : W'.ownsRow B 88 2 v n xs :=
  owns2_same h fun g hgg => hb.block g (h.lt g hgg).2
theorem tadd_take (T : Tab) (j : Nat) (l : List (Nat × Nat)) {k : Nat} (hk : k < l.length) : tadd T j (l.take (k + 1)) = tput (tadd T j (l.take k)) j (l.getD k (0, 0)) := by
  rw [← tadd_snoc]
  congr 1
  rw [List.getD_eq_getElem?_getD, List.getElem?_eq_getElem hk]
  exact (List.take_append_getElem hk).symm
def TabRes (w : World) (s : TSt) (e : Ending) (w' : World) : Prop :=
  ∃ v, e = .returned (.tuple #[v, .int .i64 (s.at_ : Int), .int .i64 s.err]) ∧ Below w.heap.size w w' ∧ SwVal w' v s.tab
theorem ImsP.at_ {w : World} {a : Option Addr} {l : List Im} (h : ImsP w a l) {j : Nat} (hj : j < l.length) : ∃ b o, a = some ⟨b, o, none⟩ ∧ ImPAt w (l.getD j (0, [])) b (o + j * 27) := h j hj
end Go.Proofs.Ytepnaalgobhcdaa
