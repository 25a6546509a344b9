/- slices.Sorted(maps.Keys(s.pages)): the pages' numbers, rising. Runs of pages that follow one another and have one protection: plain lists. Rows that a call has made: how they stand side by side, a cell of one is stored; the list of runs in memory. *Space.runs: the runs of pages. A range over a function whose values lie in memory: the round is told what lies there. *Space.All: the iterator over the pieces. What lies in memory while a piece is put together. *Space.All: the iterator over the pieces, walked. -/
import Derived.Test.YtepnaalgobhcdaaBnJ
import Derived.Test.YtepnaalgobhcdaaBnI
import Derived.Test.YtepnaalgobhcdaaBnA
import Derived.BigQuiet
import Derived.Deep.AppendLies
import Derived.StillTailTactics
import Derived.RangeFuncNested
import Derived.RangeFuncCalls
import Derived.Deep.RegionLaw
import Derived.Deep.Cut
import Derived.BigRegion
import Derived.Test.YtepnaalgobhcdaaBnD
namespace Go.Proofs.Ytepnaalgobhcdaa
open Go.RowKit Go.Sort Go.Shelf Spm

theorem sortsU (m : Nat) : AnyZU.SortsIn Try.prog svR Fence.wide m :=
  ⟨fun blk off cap ss W hH hblk hsz => callsIn_wide.2 (sort_u64 blk off cap ss W hH hblk hsz), fun p cap W => callsIn_wide.2 (sort_u64_none p cap W)⟩

def pgNums (M : List Pg) : List Int := M.map fun p => (p.num : Int)
theorem pgNums_sorted {M : List Pg} (hM : Ok M) : (pgNums M).Pairwise (· < ·) := by
  unfold pgNums
  rw [List.pairwise_map]
  exact hM.sorted.imp fun h => by omega
/-- The keys of the map of pages. -/
theorem pgNums_perm {w : World} {mb : Nat} {M : List Pg} {A : Nat → Nat} (hM : Ok M) {D : DataW Unit} {n : Nat} (hown : w.ownsMap Try.prog 32 pgElem mb n D)
    (hf : ∀ n, n < 18446744073709551616 → (pgFn M A n = none → Maps.has D (key n) = false) ∧ ∀ p, pgFn M A n = some p → Maps.has D (key n) = true ∧ ∀ z, D.atKey (key n) z = pgData p) : (pgNums M).Perm (u64Keys D) := by
  obtain ⟨es, hD, hpw, _⟩ := hown.entries law76
  obtain ⟨es', hD', hko⟩ := hown.keysOf
  obtain rfl : es = es' := by rw [hD] at hD'; simpa using hD'
  subst hD
  have hk : ∀ p ∈ es, ∃ x : Int, p.1 = .int .u64 x ∧ (Lit.int .u64 x).wf = true := fun p hp => by
    obtain ⟨v, hv⟩ := hko p hp
    obtain ⟨x, _, hx, hw⟩ := keyInv_u64 Try.underlying32 hv
    exact ⟨x, hx, by rw [← hx]; rw [hx]; exact hw⟩
  refine perm_u64Keys hpw (fun p hp => by obtain ⟨x, hx, _⟩ := hk p hp; exact ⟨x, hx⟩) ?_ fun x => ?_
  · exact (pgNums_sorted hM).imp fun h e => by omega
  · constructor
    · intro hx
      obtain ⟨p, hp, rfl⟩ := List.mem_map.1 hx
      exact (has_page hf hM p.num (by have := (hM.pages p hp).1; omega)).2 ⟨p, hp, rfl⟩
    · intro hx
      have hx' := hx
      rw [Maps.has_eq, List.any_eq_true] at hx
      obtain ⟨p, hp, hs⟩ := hx
      obtain ⟨a, ha, hw⟩ := hk p hp
      rw [ha] at hs
      have e : a = x := by simp [Lit.sameKey] at hs; omega
      subst e
      have hb := bounds_u64 hw
      have e2 : ((a.toNat : Nat) : Int) = a := by omega
      have : Maps.has (.map es) (key a.toNat) = true := by unfold key; rw [e2]; exact hx'
      obtain ⟨q, hq, hn⟩ := (has_page hf hM a.toNat (by omega)).1 this
      exact List.mem_map.2 ⟨q, hq, by omega⟩

theorem keys_any (w : World) (mb : Option Nat) : Calls Try.prog 90 #[.map mb] w fun e w' => e = .returned (.func (.func 99) #[] #[.pointer (some ⟨w.heap.size, 0, none⟩)]) ∧ w' = w.alloc (.cells #[.map mb] 76) :=
  (callsIn_wide (n := 6)).1 (AnyZU.keys_in sv_laid Fence.wide 6 trivial rfl mb w)
theorem sorted_any (w : World) (bx mb : Nat) (M : List Pg) (A : Nat → Nat) (hM : Ok M) (hbx : w.heap[bx]? = some (.cells #[.map (some mb)] 76 (0, 0))) (h : PgMap w mb (pgFn M A) M.length) :
    Calls Try.prog 89 #[.func (.func 99) #[] #[.pointer (some ⟨bx, 0, none⟩)]] w fun e w' => ∃ v, e = .returned v ∧ w'.ownsRow w.heap.size 32 1 v M.length ((pgNums M).map encU) ∧ Below w.heap.size w w' := by
  refine (callsIn_wide (n := 6)).1 ?_
  obtain ⟨D, hown, hsz, hf⟩ := h
  have hfew := hM.few
  have hseq : SeqGives Fence.wide 3 Try.prog 99 #[.pointer (some ⟨bx, 0, none⟩)] encU (fun ss => ss.Perm (u64Keys D)) (Maps.size D) w :=
    AnyZU.keys_gives sv_laid Fence.wide _ trivial rfl (by omega) bx mb M.length D w (lt_of_block hbx) (cell_of_one hbx) hown
  have cS := AnyZU.sorted_in sv_laid Fence.wide 6 trivial trivial trivial trivial rfl (by omega) (sortsU _) (enters_of Try.func98 (by kernel_rfl) rfl) 99 #[.pointer (some ⟨bx, 0, none⟩)] trivial (enters_of Try.func99 (by kernel_rfl) rfl) _ _ (by rw [hsz]; unfold maxLen; omega) (by rw [hsz]; omega) w hseq
  refine cS.mono ?_
  rintro e w' ⟨v, ss, rfl, hp, hrow, _, hb⟩
  have hperm : ss.Perm (pgNums M) := hp.trans (pgNums_perm hM hown hf).symm
  have hms : (pgNums M).mergeSort leU = pgNums M := List.mergeSort_of_pairwise ((pgNums_sorted hM).imp fun h => by simp only [leU, decide_eq_true_eq]; omega)
  have hl : ss.length = M.length := by rw [hperm.length_eq]; unfold pgNums; simp
  have e2 : ss.mergeSort leU = pgNums M := by rw [mergeSort_of_perm_u hperm, hms]
  refine ⟨v, rfl, ?_, hb⟩
  have h3 := hrow
  change w'.ownsRow w.heap.size 32 1 v ss.length ((ss.mergeSort leU).map encU) at h3
  rw [e2, hl] at h3
  exact h3
end Go.Proofs.Ytepnaalgobhcdaa
namespace Go.Proofs.Ytepnaalgobhcdaa.Spm

structure Rn where
  first : Nat
  cnt : Nat
  prot : Int
  bytes : List UInt8

def joins (r : Rn) (p : Pg) : Bool := r.first + r.cnt == p.num && r.prot == p.prot
def rn1 (p : Pg) : Rn := ⟨p.num, 1, p.prot, p.bytes⟩
def rnUp (r : Rn) (p : Pg) : Rn := ⟨r.first, r.cnt + 1, r.prot, r.bytes ++ p.bytes⟩
def addPg (l : List Rn) (p : Pg) : List Rn := match l.getLast? with
  | some r => if joins r p then l.dropLast ++ [rnUp r p] else l ++ [rn1 p]
  | none => [rn1 p]
def runsM (M : List Pg) : List Rn := M.foldl addPg []
def pgB (M : List Pg) (n : Nat) : List UInt8 := match pg M n with
  | some p => p.bytes
  | none => []
def catB (M : List Pg) (f : Nat) : Nat → List UInt8
  | 0 => []
  | k + 1 => catB M f k ++ pgB M (f + k)

theorem runsM_snoc {M : List Pg} {i : Nat} {p : Pg} (h : M[i]? = some p) : runsM (M.take (i + 1)) = addPg (runsM (M.take i)) p := by
  unfold runsM; rw [List.take_add_one, h]; simp
theorem addPg_nil (p : Pg) : addPg [] p = [rn1 p] := rfl
theorem addPg_snoc (l : List Rn) (r : Rn) (p : Pg) : addPg (l ++ [r]) p = if joins r p then l ++ [rnUp r p] else l ++ [r] ++ [rn1 p] := by
  unfold addPg
  rw [List.getLast?_concat]
  simp only [List.dropLast_concat]

/-- What holds of a run. -/
structure RnOk (M : List Pg) (r : Rn) : Prop where
  pos : 0 < r.cnt
  there : ∀ j, j < r.cnt → ∃ p, pg M (r.first + j) = some p ∧ p.prot = r.prot
  bytes : r.bytes = catB M r.first r.cnt
/-- The last run ends with the last page. -/
def LastOk (l : List Rn) (p : Pg) : Prop := ∃ l' r, l = l' ++ [r] ∧ r.first + r.cnt = p.num + 1 ∧ r.prot = p.prot
theorem catB_one (M : List Pg) (f : Nat) : catB M f 1 = pgB M f := by simp [catB]
theorem rn1_ok {M : List Pg} (hM : Ok M) {p : Pg} (hp : p ∈ M) : RnOk M (rn1 p) :=
  ⟨Nat.one_pos, fun j hj => ⟨p, by
    obtain rfl : j = 0 := by have : j < 1 := hj; omega
    exact pg_of_mem hM hp, rfl⟩, by
    show p.bytes = catB M p.num 1
    rw [catB_one]; unfold pgB; rw [pg_of_mem hM hp]⟩
theorem rnUp_ok {M : List Pg} (hM : Ok M) {p : Pg} (hp : p ∈ M) {r : Rn} (h : RnOk M r) (hj : joins r p = true) : RnOk M (rnUp r p) := by
  simp only [joins, Bool.and_eq_true, beq_iff_eq] at hj
  refine ⟨Nat.succ_pos _, fun j hj' => ?_, ?_⟩
  · have hj2 : j < r.cnt + 1 := hj'
    by_cases e : j = r.cnt
    · subst e
      exact ⟨p, by show pg M (r.first + r.cnt) = _; rw [hj.1]; exact pg_of_mem hM hp, hj.2.symm⟩
    · exact h.there j (by omega)
  · show r.bytes ++ p.bytes = catB M r.first (r.cnt + 1)
    rw [catB, h.bytes, hj.1]
    congr 1
    unfold pgB; rw [pg_of_mem hM hp]
theorem runs_to {M : List Pg} (hM : Ok M) : ∀ i, i ≤ M.length → (∀ r ∈ runsM (M.take i), RnOk M r) ∧ (∀ p, 0 < i → M[i - 1]? = some p → LastOk (runsM (M.take i)) p) ∧ (runsM (M.take i)).length ≤ i ∧ (0 < i → 0 < (runsM (M.take i)).length)
  | 0, _ => ⟨fun r hr => by simp [runsM] at hr, fun p h => absurd h (Nat.lt_irrefl 0), by simp [runsM], fun h => absurd h (Nat.lt_irrefl 0)⟩
  | i + 1, h => by
    obtain ⟨h1, h2, h3, h4⟩ := runs_to hM i (by omega)
    obtain ⟨p, hp⟩ : ∃ p, M[i]? = some p := ⟨M[i], List.getElem?_eq_getElem (by omega)⟩
    have hpm := List.mem_of_getElem? hp
    rw [runsM_snoc hp]
    by_cases h0 : i = 0
    · subst h0
      have e : runsM (M.take 0) = [] := by simp [runsM]
      rw [e, addPg_nil]
      refine ⟨fun r hr => ?_, fun q _ hq => ?_, by simp, fun _ => by simp⟩
      · obtain rfl := List.mem_singleton.1 hr
        exact rn1_ok hM hpm
      · simp only [Nat.add_sub_cancel] at hq
        rw [hp] at hq; cases hq
        exact ⟨[], _, rfl, rfl, rfl⟩
    · obtain ⟨q, hq⟩ : ∃ q, M[i - 1]? = some q := ⟨M[i - 1], List.getElem?_eq_getElem (by omega)⟩
      obtain ⟨l', r, e, e1, e2⟩ := h2 q (by omega) hq
      rw [e] at h1 h3 h4 ⊢
      rw [addPg_snoc]
      simp only [List.length_append, List.length_singleton] at h3
      by_cases hj : joins r p = true
      · rw [if_pos hj]
        refine ⟨fun s hs => ?_, fun s _ hs => ?_, by simp; omega, fun _ => by simp⟩
        · rcases List.mem_append.1 hs with hs | hs
          · exact h1 s (List.mem_append.2 (.inl hs))
          · obtain rfl := List.mem_singleton.1 hs
            exact rnUp_ok hM hpm (h1 r (by simp)) hj
        · simp only [Nat.add_sub_cancel] at hs
          rw [hp] at hs; cases hs
          simp only [joins, Bool.and_eq_true, beq_iff_eq] at hj
          exact ⟨l', _, rfl, by show r.first + (r.cnt + 1) = _; omega, hj.2⟩
      · rw [if_neg hj]
        refine ⟨fun s hs => ?_, fun s _ hs => ?_, by simp; omega, fun _ => by simp⟩
        · rcases List.mem_append.1 hs with hs | hs
          · exact h1 s hs
          · obtain rfl := List.mem_singleton.1 hs
            exact rn1_ok hM hpm
        · simp only [Nat.add_sub_cancel] at hs
          rw [hp] at hs; cases hs
          exact ⟨_, _, rfl, rfl, rfl⟩
theorem runsM_ok {M : List Pg} (hM : Ok M) : (∀ r ∈ runsM M, RnOk M r) ∧ (runsM M).length ≤ M.length := by
  have := runs_to hM M.length (Nat.le_refl _)
  rw [List.take_length] at this
  exact ⟨this.1, this.2.2.1⟩
/-- The test, as the code makes it and as the document makes it. -/
theorem last_joins {M : List Pg} (hM : Ok M) {i : Nat} {p q : Pg} (hq : M[i - 1]? = some q) (h0 : 0 < i) (hp : M[i]? = some p) {l : List Rn} {r : Rn} (h : LastOk (l ++ [r]) q) :
    joins r p = (r.first + r.cnt == p.num && (pg M (p.num - 1)).elim false fun t => t.prot == p.prot) ∧ joins r p = (p.num == q.num + 1 && p.prot == q.prot) := by
  obtain ⟨l', r', e, e1, e2⟩ := h
  obtain ⟨rfl, rfl⟩ : l = l' ∧ r = r' := by
    have := List.append_inj' e rfl
    exact ⟨this.1, by simpa using this.2⟩
  have hqm := List.mem_of_getElem? hq
  have hlt : q.num < p.num := by
    obtain ⟨a1, a2⟩ := List.getElem?_eq_some_iff.1 hq
    obtain ⟨b1, b2⟩ := List.getElem?_eq_some_iff.1 hp
    have := List.pairwise_iff_getElem.1 hM.sorted (i - 1) i a1 b1 (by omega)
    rw [a2, b2] at this; exact this
  unfold joins
  constructor
  · by_cases hn : r.first + r.cnt = p.num
    · have : p.num - 1 = q.num := by omega
      rw [this, pg_of_mem hM hqm]
      simp [hn, e2]
    · have : (r.first + r.cnt == p.num) = false := by simpa using hn
      rw [this]; rfl
  · rw [e1, e2]
    rw [Bool.eq_iff_iff]
    simp only [Bool.and_eq_true, beq_iff_eq]
    constructor
    · rintro ⟨a, b⟩; exact ⟨a.symm, b.symm⟩
    · rintro ⟨a, b⟩; exact ⟨a.symm, b.symm⟩
theorem pgB_length {M : List Pg} (hM : Ok M) {n : Nat} {p : Pg} (h : pg M n = some p) : (pgB M n).length = 4096 := by
  unfold pgB; rw [h]
  exact (hM.pages p (pg_mem h).1).2.2.2
theorem catB_length {M : List Pg} (hM : Ok M) {f : Nat} : ∀ k, (∀ j, j < k → ∃ p, pg M (f + j) = some p) → (catB M f k).length = k * 4096
  | 0, _ => rfl
  | k + 1, h => by
    obtain ⟨p, hp⟩ := h k (Nat.lt_succ_self k)
    rw [catB, List.length_append, catB_length hM k (fun j hj => h j (by omega)), pgB_length hM hp]
    omega
theorem RnOk.length {M : List Pg} (hM : Ok M) {r : Rn} (h : RnOk M r) : r.bytes.length = r.cnt * 4096 := by
  rw [h.bytes]
  exact catB_length hM _ fun j hj => by obtain ⟨p, hp, _⟩ := h.there j hj; exact ⟨p, hp⟩
theorem RnOk.bound {M : List Pg} (hM : Ok M) {r : Rn} (h : RnOk M r) : r.first + r.cnt ≤ 34359738368 ∧ r.cnt ≤ 8192 := by
  obtain ⟨p, hp, _⟩ := h.there (r.cnt - 1) (by have := h.pos; omega)
  obtain ⟨h1, h2⟩ := pg_mem hp
  have h3 := (hM.pages p h1).1
  have h0 := h.pos
  refine ⟨by omega, ?_⟩
  have hm : missing M r.first (r.first + r.cnt) = false := by
    unfold missing
    rw [List.any_eq_false]
    intro i hi
    have := List.mem_range.1 hi
    obtain ⟨p, hp, _⟩ := h.there i (by omega)
    rw [hp]; simp
  have := present_le hm
  have := hM.few
  omega
end Go.Proofs.Ytepnaalgobhcdaa.Spm
namespace Go.Proofs.Ytepnaalgobhcdaa
open Go.RowKit Spm

section
variable {w w' W w1 : World} {B B' n m s s' : Nat} {e e' : TypeId} {u v : Value} {xs ys : List Value}
theorem ro_same (h : w.ownsRow B e s v n xs) (hs : ∀ g, v.ownBlock = some g → w'.heap[g]? = w.heap[g]?) : w'.ownsRow B e s v n xs := by
  refine ⟨h.1, ?_⟩
  rcases h.2 with hn | ⟨g, cap, cur, rfl, hb, hgg, rest⟩
  · exact .inl hn
  · exact .inr ⟨g, cap, cur, rfl, hb, (hs g rfl).trans hgg, rest⟩
theorem ro_keep (h : w.ownsRow B e s v n xs) (hb : Below w.heap.size w w') : w'.ownsRow B e s v n xs := ro_same h fun g hg => hb.block g (h.lt g hg).2
theorem ro_le (h : w.ownsRow B e s v n xs) (hb : B' ≤ B) : w.ownsRow B' e s v n xs := by
  refine ⟨h.1, ?_⟩
  rcases h.2 with h | ⟨g, cap, cur, h1, h2, r⟩
  · exact .inl h
  · exact .inr ⟨g, cap, cur, h1, by omega, r⟩
/-- A row's block is told from another block by its type. -/
theorem ro_ne (h : w.ownsRow B e s v n xs) {k : Nat} {cur : Array Value} {t : TypeId} {fr : Nat × Nat} (ht : t ≠ e) (hk : w.heap[k]? = some (.cells cur t fr)) : some k ≠ v.ownBlock := by
  rcases h.2 with ⟨rfl, _⟩ | ⟨g, cap, c, rfl, _, hg, _⟩
  · simp [Value.ownBlock]
  · intro e'
    obtain rfl : k = g := by simpa [Value.ownBlock] using e'
    rw [hk] at hg
    have := Option.some.inj hg
    injection this with _ h2 _
    exact ht h2
/-- A row of one type stays while a row of another type grows. -/
theorem ro_beside (h : W.ownsRow B e s u n xs) (hv : W.ownsRow B' e' s' v m ys) (hee : e ≠ e') (hg : W.grownBy w1 v.ownBlock) : w1.ownsRow B e s u n xs :=
  ro_same h fun g hgg => by
    have hl := (h.lt g hgg).2
    refine hg.block g hl ?_
    rcases h.2 with ⟨rfl, _⟩ | ⟨g', cap, c, rfl, _, hg', _⟩
    · simp [Value.ownBlock] at hgg
    · obtain rfl : g' = g := by simpa [Value.ownBlock] using hgg
      exact ro_ne hv hee hg'
theorem ro_below (h : Below w.heap.size w W) (hv : W.ownsRow B e s v n xs) (hB : w.heap.size ≤ B) (hg : W.grownBy w1 v.ownBlock) : Below w.heap.size w w1 :=
  ⟨hg.os.trans h.os, hg.tape.trans h.tape, hg.output.trans h.output, Nat.le_trans h.size hg.size, fun i hi => by
    rw [hg.block i (Nat.lt_of_lt_of_le hi h.size) (fun e => by have := (hv.lt i e.symm).1; omega)]
    exact h.block i hi⟩
end
/-- A cell of a row is stored. -/
theorem ro_set {w : World} {B n s g cap : Nat} {e : TypeId} {xs : List Value} (h : w.ownsRow B e s (.slice (some ⟨g, 0, none⟩) n cap) n xs) {j : Nat} (hj : j < xs.length) (u : Value) :
    (w.setCell ⟨g, j, none⟩ u).ownsRow B e s (.slice (some ⟨g, 0, none⟩) n cap) n (xs.set j u) := by
  refine ⟨by rw [List.length_set]; exact h.1, ?_⟩
  have h1 := h.1
  rcases h.2 with ⟨h2, h0⟩ | ⟨g', cap', cur, e', hb, hg, r1, r2, r3, r4⟩
  · rw [h0, Nat.zero_mul] at h1; omega
  · cases e'
    refine .inr ⟨g, cap, cur.setIfInBounds j u, rfl, hb, heap_setCell_same w _ _ _ _ _ hg, r1, r2, by simpa using r3, ?_⟩
    rw [Array.toList_setIfInBounds, List.take_set, r4]
theorem ro_free {w : World} {B n s g cap : Nat} {e : TypeId} {xs : List Value} (h : w.ownsRow B e s (.slice (some ⟨g, 0, none⟩) n cap) n xs) (j : Nat) : w.frozen? ⟨g, j, none⟩ = false := by
  rcases h.2 with ⟨h2, _⟩ | ⟨g', cap', cur, e', hb, hg, _⟩
  · cases h2
  · cases e'; simp [World.frozen?, hg]
theorem ro_form {w : World} {B n s : Nat} {v : Value} {e : TypeId} {xs : List Value} (h : w.ownsRow B e s v n xs) (h0 : 0 < n) : ∃ g cap, v = .slice (some ⟨g, 0, none⟩) n cap ∧ n ≤ cap ∧ cap ≤ 9223372036854775807 ∧ B ≤ g ∧ g < w.heap.size := by
  rcases h.2 with ⟨_, h2⟩ | ⟨g, cap, cur, rfl, hb, hg, r1, r2, r3, r4⟩
  · omega
  · exact ⟨g, cap, rfl, r1, by unfold maxLen at r2; omega, hb, lt_of_block hg⟩
theorem ro_shape {w : World} {B n s : Nat} {v : Value} {e : TypeId} {xs : List Value} (h : w.ownsRow B e s v n xs) : ∃ a cap, v = .slice a n cap ∧ n ≤ cap ∧ cap ≤ 9223372036854775807 := by
  rcases h.2 with ⟨rfl, h2⟩ | ⟨g, cap, cur, rfl, hb, hg, r1, r2, r3, r4⟩
  · exact ⟨none, 0, by rw [h2], by omega, by omega⟩
  · exact ⟨_, cap, rfl, r1, by unfold maxLen at r2; omega⟩

/-! ### The runs in memory -/
def rnCells (r : Rn) : List Value := [.int .u64 (r.first : Int), .int .u64 ((r.first + r.cnt : Nat) : Int)]
def flatR (l : List Rn) : List Value := l.flatMap rnCells
theorem flatR_snoc (l : List Rn) (r : Rn) : flatR (l ++ [r]) = flatR l ++ rnCells r := by unfold flatR; rw [List.flatMap_append]; simp
theorem flatR_length (l : List Rn) : (flatR l).length = l.length * 2 := by
  unfold flatR
  induction l with
  | nil => rfl
  | cons x l ih => rw [List.flatMap_cons, List.length_append, ih]; simp [rnCells]; omega
theorem flatR_get (l : List Rn) {k : Nat} {r : Rn} (h : l[k]? = some r) : (flatR l)[k * 2]? = some (.int .u64 (r.first : Int)) ∧ (flatR l)[k * 2 + 1]? = some (.int .u64 ((r.first + r.cnt : Nat) : Int)) := by
  induction l generalizing k with
  | nil => simp at h
  | cons x l ih =>
    unfold flatR
    rw [List.flatMap_cons]
    cases k with
    | zero =>
      simp at h
      subst h
      exact ⟨rfl, rfl⟩
    | succ k =>
      have := ih (k := k) (by simpa using h)
      rw [List.getElem?_append_right (by simp [rnCells]; omega), List.getElem?_append_right (by simp [rnCells]; omega)]
      have e : (rnCells x).length = 2 := rfl
      rw [e, show (k + 1) * 2 - 2 = k * 2 by omega, show (k + 1) * 2 + 1 - 2 = k * 2 + 1 by omega]
      exact this
/-- The last run grows by a page. -/
theorem flatR_up (l : List Rn) (r : Rn) (p : Pg) : (flatR (l ++ [r])).set (l.length * 2 + 1) (.int .u64 ((r.first + r.cnt + 1 : Nat) : Int)) = flatR (l ++ [rnUp r p]) := by
  rw [flatR_snoc, flatR_snoc, List.set_append_right _ _ (by rw [flatR_length]; omega), flatR_length, Nat.add_sub_cancel_left]
  rfl
def rnVals (M : List Pg) : List Value := M.map fun p => .int .u64 ((p.num : Nat) : Int)
/-- i pages have been gone through. -/
structure RunSt (w : World) (M : List Pg) (vS : Value) (l : List Rn) (vl : Value) (wr : World) : Prop where
  nums : wr.ownsRow w.heap.size 32 1 vS M.length (rnVals M)
  own : wr.ownsRow w.heap.size 156 2 vl l.length (flatR l)
  below : Below w.heap.size w wr
section
variable {w wr w1 : World} {M : List Pg} {vS vl v' : Value} {l : List Rn}
theorem RunSt.keep (h : RunSt w M vS l vl wr) (hb : Below wr.heap.size wr w1) : RunSt w M vS l vl w1 :=
  ⟨ro_keep h.nums hb, ro_keep h.own hb, h.below.trans ⟨hb.os, hb.tape, hb.output, hb.size, fun k hk => hb.block k (by have := h.below.size; omega)⟩⟩
theorem RunSt.alike (h : RunSt w M vS l vl wr) (hh : w1.heap = wr.heap) (h1 : w1.os = wr.os) (h2 : w1.tape = wr.tape) (h3 : w1.output = wr.output) : RunSt w M vS l vl w1 :=
  ⟨ro_same h.nums fun g _ => by rw [hh], ro_same h.own fun g _ => by rw [hh], ⟨h1.trans h.below.os, h2.trans h.below.tape, h3.trans h.below.output, by rw [hh]; exact h.below.size, fun k hk => by rw [hh]; exact h.below.block k hk⟩⟩
theorem RunSt.push (h : RunSt w M vS l vl wr) (p : Pg) (ho : w1.ownsRow w.heap.size 156 2 v' (l.length + 1) (flatR l ++ rnCells (rn1 p))) (hg : wr.grownBy w1 vl.ownBlock) : RunSt w M vS (l ++ [rn1 p]) v' w1 :=
  ⟨ro_beside h.nums h.own (by decide) hg, by rw [List.length_append, flatR_snoc]; exact ho, ro_below h.below h.own (Nat.le_refl _) hg⟩
theorem RunSt.up {r : Rn} {g cap : Nat} (h : RunSt w M vS (l ++ [r]) (.slice (some ⟨g, 0, none⟩) (l ++ [r]).length cap) wr) (p : Pg) :
    RunSt w M vS (l ++ [rnUp r p]) (.slice (some ⟨g, 0, none⟩) (l ++ [r]).length cap) (wr.setCell ⟨g, l.length * 2 + 1, none⟩ (.int .u64 ((r.first + r.cnt + 1 : Nat) : Int))) := by
  have hgl := h.own.lt g rfl
  have hne : ∀ k, vS.ownBlock = some k → k ≠ g := fun k hk e => by
    subst e
    rcases h.nums.2 with ⟨rfl, _⟩ | ⟨g', cap', c, rfl, _, hg', _⟩
    · simp [Value.ownBlock] at hk
    · obtain rfl : g' = k := by simpa [Value.ownBlock] using hk
      exact ro_ne h.own (t := 32) (by decide) hg' rfl
  refine ⟨ro_same h.nums fun k hk => heap_setCell_other _ _ _ _ (hne k hk), ?_, h.below.setCell hgl.1 _⟩
  have := ro_set h.own (j := l.length * 2 + 1) (by rw [flatR_length, List.length_append]; simp; omega) (.int .u64 ((r.first + r.cnt + 1 : Nat) : Int))
  rw [flatR_up l r p] at this
  have e : (l ++ [rnUp r p]).length = (l ++ [r]).length := by simp
  rw [e]; exact this
end
end Go.Proofs.Ytepnaalgobhcdaa
namespace Go.Proofs.Ytepnaalgobhcdaa
open Go.RowKit Spm

theorem info156 : (Try.prog.info? 156).map (fun i => (i.zero, i.size, i.bytes)) = some (some (.agg #[.int .u64 0, .int .u64 0]), 2, 16) := by kernel_rfl
theorem rnVals_eq (M : List Pg) : (pgNums M).map encU = rnVals M := by unfold pgNums rnVals encU; rw [List.map_map]; rfl
def RunsRes (w : World) (M : List Pg) (e : Ending) (w' : World) : Prop := ∃ v, e = .returned v ∧ w'.ownsRow w.heap.size 156 2 v (runsM M).length (flatR (runsM M)) ∧ Below w.heap.size w w'

set_option maxHeartbeats 4000000 in
set_option maxRecDepth 100000 in
theorem runs_any (w : World) (b : Nat) (M : List Pg) (F : Nat → Prop) (h : SpIn w b M F) : Calls Try.prog 78 #[.pointer (some ⟨b, 0, none⟩)] w (RunsRes w M) := by
  have HH := Lib.hid h
  have hOK := h.ok
  have hfew := hOK.few
  have HOK := Lib.hid hOK
  obtain ⟨mb, A, hb, hp⟩ := h.own
  have cb := cell_of_one hb
  have hbs := lt_of_block hb
  have HPM := Lib.hid hp.map
  have HB := Lib.hid hb
  have hmbl := hp.map.lt
  have HK : Hid (∀ W : World, Calls Try.prog 90 #[.map (some mb)] W fun e w' => e = .returned (.func (.func 99) #[] #[.pointer (some ⟨W.heap.size, 0, none⟩)]) ∧ w' = W.alloc (.cells #[.map (some mb)] 76)) := fun W => keys_any W (some mb)
  have HS : Hid (Calls Try.prog 89 #[.func (.func 99) #[] #[.pointer (some ⟨w.heap.size, 0, none⟩)]] (w.alloc (.cells #[.map (some mb)] 76)) fun e w' => ∃ v, e = .returned v ∧ w'.ownsRow w.heap.size 32 1 v M.length (rnVals M) ∧ Below w.heap.size w w') := by
    refine (sorted_any (w.alloc (.cells #[.map (some mb)] 76)) w.heap.size mb M A hOK (hp_new _ _ _ rfl) (hp.map.kept (hp_old _ _ _ hmbl))).mono ?_
    rintro e w' ⟨v, rfl, h1, h2⟩
    rw [rnVals_eq] at h1
    exact ⟨v, rfl, ro_le h1 (by simp), ((Below.refl _ w).alloc (Nat.le_refl _) _).trans (h2.mono (by simp))⟩
  obtain ⟨i156, hi156, hz156, hs156, hy156⟩ := info_parts info156
  have hfld := field142'
  clear h hOK hb hp
  go_enter Try.func78, Try.ntmps78
  go_wp2_with (first
    | (go_at_call 90; refine (HK.out _).mono ?_; rintro e w' ⟨rfl, rfl⟩)
    | (go_at_call 89; refine HS.out.mono ?_; rintro e w2 ⟨vS, rfl, hr2, hb2⟩; obtain ⟨aS, cS, rfl, hcS, hcS2⟩ := ro_shape hr2; have R2 := Lib.hid hr2; have B2 := Lib.hid hb2; clear hr2 hb2))
  clear HK HS
  go_loopw [3, 14] (fun vl ti wr => ∃ (i : Nat) (ls : List Rn) (n : Nat) (ad : Option Addr) (cp : Nat), i ≤ M.length ∧ ti = .int .i64 i ∧ vl = .slice ad n cp ∧ Hid (ls = runsM (M.take i)) ∧ Hid (n = ls.length ∧ RunSt w M (.slice aS M.length cS) ls (.slice ad n cp) wr)) (fun _ ti _ => M.length - (intOf ti).toNat)
  case atStart => exact ⟨0, [], 0, none, 0, Nat.zero_le _, rfl, rfl, by simp [Hid, runsM], rfl, R2.out, World.ownsRow_nil _ _ _ _, B2.out⟩
  case round =>
    obtain ⟨i, ls, n, ad, cp, hi, rfl, rfl, HL, HR0⟩ := hrel
    by_cases hlt : i < M.length
    · obtain ⟨p, hp⟩ : ∃ p, M[i]? = some p := ⟨M[i], List.getElem?_eq_getElem hlt⟩
      have hpm := List.mem_of_getElem? hp
      have hpb := (HOK.out.pages p hpm).1
      obtain ⟨hn, hR⟩ := HR0.out
      have HR := Lib.hid hR
      have hruns := runs_to HOK.out i hi
      rw [← HL.out] at hruns
      have HNEXT : Hid (runsM (M.take (i + 1)) = addPg ls p) := by show _ = _; rw [HL.out]; exact runsM_snoc hp
      obtain ⟨gS, capS, hgS, _, _, _, _⟩ := ro_form hR.nums (by omega)
      cases hgS
      have cn : wr.cell? ⟨gS, i, none⟩ = some (.int .u64 ((p.num : Nat) : Int)) := by
        rw [hR.nums.cellAt i (by omega)]; unfold rnVals; rw [List.getElem?_map, hp]; rfl
      have hbw := hR.below
      have hwz := hbw.size
      have cbw : wr.cell? ⟨b, 0, none⟩ = some (.map (some mb)) := (hbw.cell (p := ⟨b, 0, none⟩) hbs).trans cb
      have HPUSH : Hid (∀ v' w1, w1.ownsRow w.heap.size 156 2 v' (n + 1) (flatR ls ++ [.int .u64 (p.num : Int), .int .u64 ((p.num : Int) + 1)]) → (wr.alloc (.cells #[.int .u64 (p.num : Int), .int .u64 ((p.num : Int) + 1)] 156)).grownBy w1 (Value.slice ad n cp).ownBlock → (n + 1 = (ls ++ [rn1 p]).length ∧ RunSt w M (.slice (some ⟨gS, 0, none⟩) M.length cS) (ls ++ [rn1 p]) v' w1)) := fun v' w1 h1 h2 => by
        refine ⟨by rw [hn]; simp, (hR.keep ((Below.refl _ wr).alloc (Nat.le_refl _) _)).push p ?_ h2⟩
        rw [hn] at h1
        exact h1
      have HPUSHD : Hid (∀ q v' w1, w1.ownsRow w.heap.size 156 2 v' (n + 1) (flatR ls ++ [.int .u64 (p.num : Int), .int .u64 ((p.num : Int) + 1)]) → ((wr.drewN q).alloc (.cells #[.int .u64 (p.num : Int), .int .u64 ((p.num : Int) + 1)] 156)).grownBy w1 (Value.slice ad n cp).ownBlock → (n + 1 = (ls ++ [rn1 p]).length ∧ RunSt w M (.slice (some ⟨gS, 0, none⟩) M.length cS) (ls ++ [rn1 p]) v' w1)) := fun q v' w1 h1 h2 => HPUSH.out v' w1 h1 ⟨h2.os, h2.tape, h2.output, h2.size, h2.block⟩
      have hnl : n ≤ 8192 := by rw [hn]; have := hruns.2.2.1; omega
      by_cases h0 : i = 0
      · have hls : ls = [] := List.eq_nil_of_length_eq_zero (by have := hruns.2.2.1; omega)
        have HADD : Hid (addPg ls p = ls ++ [rn1 p]) := by show _ = _; rw [hls]; rfl
        have hn0 : n = 0 := by rw [hn, hls]; rfl
        subst hn0
        have HOWN := Lib.hid (show wr.ownsRow w.heap.size 156 2 (.slice ad 0 cp) 0 (flatR ls) from by have := hR.own; rw [← hn] at this; exact this)
        generalize p.num = nn at *
        clear hR hls hruns hp hpm HR0 hn h0 hbw
        go_wp2_with fail
        go_quiet (fail)
        go_wp2_with (at_builtin; refine wpList_append_own _ rfl _ _ 154 rfl w.heap.size 156 i156 (.agg #[.int .u64 0, .int .u64 0]) 2 16 Try.underlying154 hi156 hz156 hs156 hy156 rfl (by decide) _ _ _ rfl (HOWN.out.drew.alloc _) ⟨wr.heap.size, 0, none⟩ 1 1 [.int .u64 (nn : Int), .int .u64 ((nn : Int) + 1)] rfl rfl (World.news_of_block (hp_new _ _ _ rfl)) (by simp [Value.oneCell']) (by unfold maxLen; omega) (by omega) (by simp; omega) ?_; intro v5 w5 hown5 hgrow5 _; have HB5 := Lib.hid (HPUSHD.out _ _ _ hown5 hgrow5); obtain ⟨a5, c5, rfl⟩ := ownsRow_shape hown5; clear hown5 hgrow5)
        go_roundw
        case rel => exact ⟨i + 1, _, _, a5, c5, by omega, by go_num, rfl, by show _ = _; rw [HNEXT.out, HADD.out], HB5.out⟩
        case measure => simp [intOf]; omega
      · obtain ⟨q, hq⟩ : ∃ q, M[i - 1]? = some q := ⟨M[i - 1], List.getElem?_eq_getElem (by omega)⟩
        have hlast := hruns.2.1 q (by omega) hq
        have hlast0 := hlast
        obtain ⟨l', r, hlr, hl1, hl2⟩ := hlast
        obtain ⟨k, hk⟩ : ∃ k, k = l'.length := ⟨_, rfl⟩
        have hn1 : n = k + 1 := by rw [hn, hlr, hk]; simp
        subst hn1
        have hqm := List.mem_of_getElem? hq
        rw [hlr] at hlast0
        have hj := (last_joins HOK.out hq (by omega) hp hlast0)
        have hown := hR.own
        rw [← hn] at hown
        obtain ⟨g, cap, hgg, _, _, _, _⟩ := ro_form hown (by omega)
        cases hgg
        have c1 : wr.cell? ⟨g, k * 2 + 1, none⟩ = some (.int .u64 ((r.first + r.cnt : Nat) : Int)) := by
          rw [hown.cellAt (k * 2 + 1) (by omega)]
          exact (flatR_get ls (k := k) (r := r) (by rw [hlr, hk]; simp)).2
        have f1 : wr.frozen? ⟨g, k * 2 + 1, none⟩ = false := ro_free hown _
        have HOWN := Lib.hid hown
        have e1 : addPg ls p = if joins r p then l' ++ [rnUp r p] else ls ++ [rn1 p] := by rw [hlr]; exact addPg_snoc l' r p
        rw [hj.2] at e1
        have hpw : PgMap wr mb (pgFn M A) M.length := HPM.out.kept (hbw.block mb hmbl)
        by_cases he : p.num = q.num + 1
        · obtain ⟨n1, hn1⟩ : ∃ n1, n1 = q.num := ⟨_, rfl⟩
          have hlk1 : ∀ t, (Instr.lookup 76 (.map (some mb)) (.int .u64 (n1 : Int)) false).run Try.prog (wr.drewN t) = .ok (.agg #[.pointer (some ⟨A n1, 0, none⟩), .int .i64 q.prot]) (wr.drewN t) := fun t => by
            have h1 := ((hpw.kept (w' := wr.drewN t) rfl).look (n := n1) (by omega)).2
            rw [show pgFn M A n1 = some (A n1, q.prot) by unfold pgFn; rw [hn1, pg_of_mem HOK.out hqm]; rfl] at h1
            exact h1
          have hlk2 : ∀ t, (Instr.lookup 76 (.map (some mb)) (.int .u64 ((n1 : Int) + 1)) false).run Try.prog (wr.drewN t) = .ok (.agg #[.pointer (some ⟨A (n1 + 1), 0, none⟩), .int .i64 p.prot]) (wr.drewN t) := fun t => by
            have h1 := ((hpw.kept (w' := wr.drewN t) rfl).look (n := n1 + 1) (by omega)).2
            rw [show pgFn M A (n1 + 1) = some (A (n1 + 1), p.prot) by unfold pgFn; rw [hn1, ← he, pg_of_mem HOK.out hpm]; rfl] at h1
            exact h1
          rw [hl1, ← hn1] at c1
          rw [he, ← hn1] at cn HPUSHD
          rw [show ((n1 + 1 : Nat) : Int) = (n1 : Int) + 1 by omega] at c1 cn HPUSHD
          have hn1b : n1 < 34359738368 := by omega
          by_cases hpp : q.prot = p.prot
          · have HADD : Hid (addPg ls p = l' ++ [rnUp r p]) := by show _ = _; rw [e1, if_pos (by simp [he, hpp])]
            have HUP : Hid (k + 1 = (l' ++ [rnUp r p]).length ∧ RunSt w M (.slice (some ⟨gS, 0, none⟩) M.length cS) (l' ++ [rnUp r p]) (.slice (some ⟨g, 0, none⟩) (k + 1) cp) (wr.setCell ⟨g, k * 2 + 1, none⟩ (.int .u64 ((n1 : Int) + 1 + 1)))) := by
              refine ⟨by rw [hk]; simp, ?_⟩
              have h1 : RunSt w M (.slice (some ⟨gS, 0, none⟩) M.length cS) (l' ++ [r]) (.slice (some ⟨g, 0, none⟩) (l' ++ [r]).length cp) wr := by
                have h2 := hR
                rw [hlr] at h2
                rw [show (l' ++ [r]).length = k + 1 by rw [hk]; simp]
                exact h2
              have h3 := h1.up p
              rw [show (l' ++ [r]).length = k + 1 by rw [hk]; simp, ← hk, show ((r.first + r.cnt + 1 : Nat) : Int) = (n1 : Int) + 1 + 1 by omega] at h3
              exact h3
            have hb : (q.prot == p.prot) = true := by simpa using hpp
            rw [← hpp] at hlk2
            generalize q.prot = pq at *
            clear hR hruns hp hpm HR0 hn h0 hbw hlast0 hlr hl1 hl2 hk hqm hj hown e1 hpw he hn1 hpp hq hb HPUSH HPUSHD
            go_wp2_with fail
            go_quiet (fail)
            go_wp2_with fail
            go_region
            go_wp2_with fail
            go_roundw
            case rel => exact ⟨i + 1, _, _, _, cp, by omega, by go_num, rfl, by show _ = _; rw [HNEXT.out, HADD.out], HUP.out.1, HUP.out.2.alike rfl rfl rfl rfl⟩
            case measure => simp [intOf]; omega
          · have HADD : Hid (addPg ls p = ls ++ [rn1 p]) := by show _ = _; rw [e1, if_neg (by simp [he]; exact fun e => hpp e.symm)]
            have hb : ((q.prot : Int) == p.prot) = false := by simpa using hpp
            generalize q.prot = pq at *
            generalize p.prot = pp at *
            clear hR hruns hp hpm HR0 hn h0 hbw hlast0 hlr hl1 hl2 hk hqm hj hown e1 hpw he hn1 hpp hq HPUSH
            go_wp2_with fail
            go_quiet (fail)
            go_wp2_with (at_builtin; refine wpList_append_own _ rfl _ _ 154 rfl w.heap.size 156 i156 (.agg #[.int .u64 0, .int .u64 0]) 2 16 Try.underlying154 hi156 hz156 hs156 hy156 rfl (by decide) _ _ _ rfl (HOWN.out.drew.alloc _) ⟨wr.heap.size, 0, none⟩ 1 1 [.int .u64 ((n1 : Int) + 1), .int .u64 (((n1 : Int) + 1) + 1)] rfl rfl (World.news_of_block (hp_new _ _ _ rfl)) (by simp [Value.oneCell']) (by unfold maxLen; omega) (by omega) (by simp; omega) ?_; intro v5 w5 hown5 hgrow5 _; have HB5 := Lib.hid (HPUSHD.out _ _ _ hown5 hgrow5); obtain ⟨a5, c5, rfl⟩ := ownsRow_shape hown5; clear hown5 hgrow5)
            go_roundw
            case rel => exact ⟨i + 1, _, _, a5, c5, by omega, by go_num, rfl, by show _ = _; rw [HNEXT.out, HADD.out], HB5.out⟩
            case measure => simp [intOf]; omega
        · have HADD : Hid (addPg ls p = ls ++ [rn1 p]) := by show _ = _; rw [e1, if_neg (by simp [he])]
          rw [hl1] at c1
          have hne : q.num + 1 ≠ p.num := fun e => he e.symm
          obtain ⟨en, hen⟩ : ∃ en, en = q.num + 1 := ⟨_, rfl⟩
          rw [← hen] at c1 hne
          have hb : ((en : Int) == (p.num : Int)) = false := by simp; omega
          have henb : en < 34359738368 := by have := (HOK.out.pages q hqm).1; have := List.pairwise_iff_getElem.1 HOK.out.sorted (i - 1) i (by omega) (by omega) (by omega); rw [List.getElem?_eq_some_iff.1 hq |>.2, List.getElem?_eq_some_iff.1 hp |>.2] at this; omega
          generalize p.num = nn at *
          clear hR hruns hp hpm HR0 hn h0 hbw hlast0 hlr hl1 hl2 hk hqm hj hown e1 hpw he hne hen hq HPUSH
          go_wp2_with fail
          go_quiet (fail)
          go_wp2_with (at_builtin; refine wpList_append_own _ rfl _ _ 154 rfl w.heap.size 156 i156 (.agg #[.int .u64 0, .int .u64 0]) 2 16 Try.underlying154 hi156 hz156 hs156 hy156 rfl (by decide) _ _ _ rfl (HOWN.out.drew.alloc _) ⟨wr.heap.size, 0, none⟩ 1 1 [.int .u64 (nn : Int), .int .u64 ((nn : Int) + 1)] rfl rfl (World.news_of_block (hp_new _ _ _ rfl)) (by simp [Value.oneCell']) (by unfold maxLen; omega) (by omega) (by simp; omega) ?_; intro v5 w5 hown5 hgrow5 _; have HB5 := Lib.hid (HPUSHD.out _ _ _ hown5 hgrow5); obtain ⟨a5, c5, rfl⟩ := ownsRow_shape hown5; clear hown5 hgrow5)
          go_roundw
          case rel => exact ⟨i + 1, _, _, a5, c5, by omega, by go_num, rfl, by show _ = _; rw [HNEXT.out, HADD.out], HB5.out⟩
          case measure => simp [intOf]; omega
    · obtain rfl : i = M.length := by omega
      obtain ⟨hn, hR⟩ := HR0.out
      have hl := HL.out
      rw [List.take_length] at hl
      have hown := hR.own
      rw [← hn] at hown
      have HOWN : Hid (wr.ownsRow w.heap.size 156 2 (.slice ad n cp) (runsM M).length (flatR (runsM M))) := by show wr.ownsRow _ _ _ _ _ _; rw [← hl, ← hn]; exact hown
      have HBL := Lib.hid hR.below
      clear hown hl hR hn HR0 HL
      go_wp2_with fail
      go_ret
      exact ⟨_, rfl, HOWN.out, HBL.out⟩
end Go.Proofs.Ytepnaalgobhcdaa
namespace Go.Proofs.Ytepnaalgobhcdaa
open Go.RowKit
variable {F : Fence} {n : Nat} {P : Program} {w : World}

/-- What an iterator promises; R: what it says of the memory of what it hands over. -/
def SeqStopsM {α : Type} (F : Fence) (n : Nat) (P : Program) (g : Nat) (lb : Array Value) (encs : α → Array Value) (R : List α → α → World → Prop) (Kp : World → World → Prop) (S Sp : List α → Prop) (N : Nat) (w : World) : Prop :=
  ∀ (l : Nat) (J Jx : List α → World → Prop) (W : World), Below w.heap.size w W → AbidesFrom W.heap.size J → AbidesFrom W.heap.size Jx →
    (∀ pre x W1, J pre W1 → R pre x W1 → pre.length < N → YieldAt F (n - 1) P l (encs x) W1 fun e W' =>
      (e = .returned (.bool true) ∧ J (pre ++ [x]) W' ∧ Kp W1 W') ∨ (e = .returned (.bool false) ∧ Jx (pre ++ [x]) W')) →
    J [] W →
    CallsIn F n P g (#[.func (.yield l) #[] #[]] ++ lb) W fun e W' => (∃ v, e = .returned v) ∧ ((∃ xs, S xs ∧ J xs W') ∨ (∃ pre, Sp pre ∧ Jx pre W'))

theorem rangeFunc_mem {α : Type} {g : Operand} {ps : Array Tmp} {assign body : Code} {Q : Exit → Act → World → Prop} {a : Act} {w : World}
    (hro : F.round = none) (h1 : 1 ≤ n) {gf : Nat} {lb : Array Value} (hg : a.eval g = .func (.func gf) #[] lb) (hFg : F.fn gf) (eg : ∀ args w, (callFunc gf args).run P w = .ok (.enter gf args) w)
    {encs : α → Array Value} {Kp : World → World → Prop} {S Sp : List α → Prop} {N : Nat} {w0 : World} {R : List α → α → World → Prop} (hseq : SeqStopsM F (n - 1) P gf lb encs R Kp S Sp N w0)
    (hKt : ∀ {A B C : World}, Kp A B → Kp B C → Kp A C) (hKb : ∀ (W : World) (l : Nat) (o o' : Obj), w.heap.size ≤ l → W.heap[l]? = some o → o.isCells = false → o.isWalk = false → Kp W (W.putObj l o')) (hb0 : Below w0.heap.size w0 w) (hps : ∀ x, (encs x).size = ps.size)
    (I : List α → World → Prop) (Ix : Code → List α → World → Prop) (hI : OwnFrom w.heap.size I) (hIx : ∀ c, OwnFrom w.heap.size (Ix c)) (h0 : I [] w) (Ax : List α → α → Act → World → Prop) (hAx : ∀ pre x a', OwnFrom w.heap.size (fun (_ : Unit) W => Ax pre x a' W))
    (hassign : ∀ (l : Nat) (pre : List α) (x : α) (W : World) (K : Act → World → Prop), I pre W → R pre x W → (∀ a' W', KeepsFrom w.heap.size W W' → Kp W W' → I pre W' → Ax pre x a' W' → K a' W') →
      assign.wpIn (F.inRound l) (n - 1 - 1) P (Exit.then K (fun _ _ _ => False)) { tmps := (ps.zip (encs x)).foldl (fun t (p, v) => t.setIfInBounds p v) a.tmps, defers := [] } W)
    (hbody : ∀ (l : Nat) (pre : List α) (x : α) (a' : Act) (W : World), w.heap.size ≤ l → (∃ r, W.heap[l]? = some (.loop r)) → I pre W → Ax pre x a' W → pre.length < N → body.wpIn (F.inRound l) (n - 1 - 1) P (ownPostG w.heap.size Kp I Ix (pre ++ [x]) W) a' W)
    (hdone : ∀ (D : Nat) (xs : List α) (W : World), w.heap.size ≤ D → S xs → I xs W → W.heap[D]? = some (.deferred (some [])) → Q .normal { a with defers := { target := .collected D, args := #[] } :: a.defers } W)
    (hstop : ∀ (D : Nat) (c : Code) (pre : List α) (W : World), w.heap.size ≤ D → Sp pre → Ix c pre W → W.heap[D]? = some (.deferred (some [])) → c.wpIn F n P Q { a with defers := { target := .collected D, args := #[] } :: a.defers } W) :
    (Code.rangeFunc g ps assign body).wpIn F n P Q a w := by
  refine wpIn_rangeFunc ?_
  intro fn hfn
  rw [hro]
  obtain ⟨rec, hrec⟩ : ∃ rec : LoopState → Option Code → Loop, rec = fun st pe => { state := st, pending := pe, fn, tmps := a.tmps, params := ps, assign, body, defers := w.heap.size } := ⟨_, rfl⟩
  obtain ⟨W1, hW1⟩ : ∃ W1, (w.alloc (.deferred (some []))).alloc (.loop (rec .ready none)) = W1 := ⟨_, rfl⟩
  have hL1 : W1.heap[w.heap.size + 1]? = some (.loop (rec .ready none)) := by
    rw [← hW1]; have := World.alloc_heap_new (w.alloc (.deferred (some []))) (.loop (rec .ready none)); rwa [World.size_alloc] at this
  have hK1 : W1.heap[w.heap.size]? = some (.deferred (some [])) := by
    rw [← hW1]; exact (Below.heap_alloc _ _ _ (by simp)).trans (World.alloc_heap_new w _)
  have hI1 : I [] W1 := by rw [← hW1]; exact hI.alloc _ (hI.alloc _ h0)
  have hb1 : Below w0.heap.size w0 W1 := by
    rw [← hW1]; exact hb0.trans ((((Below.refl _ w).alloc (Nat.le_refl _) _).alloc (by simp) _).mono hb0.size)
  refine ⟨w.heap.size + 1, [{ target := .collected w.heap.size, args := #[] }], W1, { target := .fn (.func gf) lb, args := #[.func (.yield (w.heap.size + 1)) #[] #[]] }, W1, gf,
    #[.func (.yield (w.heap.size + 1)) #[] #[]] ++ lb, W1, ?_, ?_, ?_, ?_, fun _ => h1, ?_⟩
  · rw [← hW1, hrec]; exact run_enterLoop_outer _ _ _ _ _
  · simp only [resolve, hg]
    simp [go_sem]
  · intro f' hf'; simp [Target.leads] at hf'; subst hf'; exact hFg
  · simp [invoke, go_sem, eg]
  ·
    have hnw : ∀ {A B : World} {row : Option Nat}, (∀ r, row = some r → W1.heap.size ≤ r ∧ ∃ o : Obj, A.heap[r]? = some o ∧ o.isWalk = true) → (∀ r, row = some r → w.heap.size ≤ r ∧ ∃ o : Obj, A.heap[r]? = some o ∧ o.isCells = false) :=
      fun hr r e => by obtain ⟨hB, o, ho, hw⟩ := hr r e; exact ⟨by rw [← hW1] at hB; simp at hB; omega, o, ho, Obj.not_cells_of_walk hw⟩
    refine (hseq (w.heap.size + 1)
      (fun pre W => I pre W ∧ W.heap[w.heap.size + 1]? = some (.loop (rec .ready none)) ∧ W.heap[w.heap.size]? = some (.deferred (some [])))
      (fun pre W => ∃ c, Ix c pre W ∧ W.heap[w.heap.size + 1]? = some (.loop (rec .done (some c))) ∧ W.heap[w.heap.size]? = some (.deferred (some [])))
      W1 hb1
      (fun s A B row hs hg' hr => ⟨hI s A B row hs.1 hg' (hnw (B := B) hr), (grownBy_keeps hg' (fun r e => (hr r e).2) hs.2.1 rfl).trans hs.2.1, (grownBy_keeps hg' (fun r e => (hr r e).2) hs.2.2 rfl).trans hs.2.2⟩)
      (fun s A B row hs hg' hr => by
        obtain ⟨c, hc, hl, hk⟩ := hs
        exact ⟨c, hIx c s A B row hc hg' (hnw (B := B) hr), (grownBy_keeps hg' (fun r e => (hr r e).2) hl rfl).trans hl, (grownBy_keeps hg' (fun r e => (hr r e).2) hk rfl).trans hk⟩)
      ?_ ⟨hI1, hL1, hK1⟩).mono ?_
    ·
      rintro pre x W ⟨hi, hl, hk⟩ hmem hlen
      have hlt : w.heap.size + 1 < W.heap.size := (Array.getElem?_eq_some_iff.1 hl).1
      have hy := run_yield (P := P) (args := encs x) hl (by rw [hrec]; exact hps x)
      rw [hrec] at hy
      refine ⟨fn, _, assign, body, hy, roundIn_of_wpIn hfn (hassign _ pre x W _ hi hmem ?_)⟩
      clear hy
      intro a' Wa hkfa hkpa hia hax
      replace hl := hkfa.same _ _ (by omega) hl rfl
      replace hk := hkfa.same _ _ (Nat.le_refl _) hk rfl
      replace hlt : w.heap.size + 1 < Wa.heap.size := (Array.getElem?_eq_some_iff.1 hl).1
      replace hi := hia
      clear hia
      revert hkpa hkfa
      generalize W = Wb
      intro hkfa hkpa
      obtain ⟨W, rfl⟩ : ∃ W, W = Wa := ⟨_, rfl⟩
      refine ⟨_, run_beginRound hl (by rw [hrec]), ?_⟩
      have hl2 : (W.putObj (w.heap.size + 1) (.loop { rec .ready none with state := .busy })).heap[w.heap.size + 1]? = some (.loop { rec .ready none with state := .busy }) := World.putObj_heap_same hlt
      have hk2 : (W.putObj (w.heap.size + 1) (.loop { rec .ready none with state := .busy })).heap[w.heap.size]? = some (.deferred (some [])) := (World.putObj_heap_other (by omega)).trans hk
      have hw2 : Kp W (W.putObj (w.heap.size + 1) (.loop { rec .ready none with state := .busy })) := hKb _ _ _ _ (by omega) hl rfl rfl
      refine wpIn_mono (hbody _ pre x a' _ (by omega) ⟨_, hl2⟩ (hI.putObj _ hi (by omega) hl rfl) ((hAx pre x a').putObj (s := ()) _ hax (by omega) hl rfl) hlen) ?_
      have fin : ∀ (jump : Option Code) (W3 : World), KeepsFrom w.heap.size (W.putObj (w.heap.size + 1) (.loop { rec .ready none with state := .busy })) W3 →
          (Instr.endRound (w.heap.size + 1) jump).run P W3 = .ok (.bool jump.isNone) (W3.putObj (w.heap.size + 1) (.loop (rec (if jump.isNone then .ready else .done) jump))) ∧
          W3.heap[w.heap.size + 1]? = some (.loop { rec .ready none with state := .busy }) ∧
          (W3.putObj (w.heap.size + 1) (.loop (rec (if jump.isNone then .ready else .done) jump))).heap[w.heap.size + 1]? = some (.loop (rec (if jump.isNone then .ready else .done) jump)) ∧
          (W3.putObj (w.heap.size + 1) (.loop (rec (if jump.isNone then .ready else .done) jump))).heap[w.heap.size]? = some (.deferred (some [])) := fun jump W3 hk3 => by
        have hl3 := hk3.same _ _ (by omega) hl2 rfl
        have := run_endRound (P := P) jump hl3
        rw [hrec] at this ⊢
        exact ⟨this, by rw [hrec] at hl3; exact hl3, World.putObj_heap_same (Array.getElem?_eq_some_iff.1 hl3).1, (World.putObj_heap_other (by omega)).trans (hk3.same _ _ (Nat.le_refl _) hk2 rfl)⟩
      rintro e a3 W3 hp
      cases e with
      | normal =>
        obtain ⟨hk3, hkp3, hi3⟩ := hp
        obtain ⟨hr, hl3, hl4, hk4⟩ := fin none W3 hk3
        exact ⟨_, _, hr, .inl ⟨rfl, ⟨hI.putObj _ hi3 (by omega) hl3 rfl, hl4, hk4⟩, hKt hkpa (hKt (hKt hw2 hkp3) (hKb _ _ _ _ (by omega) hl3 rfl rfl))⟩⟩
      | ret =>
        obtain ⟨hk3, hi3⟩ := hp
        obtain ⟨hr, hl3, hl4, hk4⟩ := fin (some .ret) W3 hk3
        exact ⟨_, _, hr, .inr ⟨rfl, .ret, (hIx _).putObj _ hi3 (by omega) hl3 rfl, hl4, hk4⟩⟩
      | exit id =>
        obtain ⟨hk3, hi3⟩ := hp
        obtain ⟨hr, hl3, hl4, hk4⟩ := fin (some (.exit id)) W3 hk3
        exact ⟨_, _, hr, .inr ⟨rfl, .exit id, (hIx _).putObj _ hi3 (by omega) hl3 rfl, hl4, hk4⟩⟩
      | goto t =>
        obtain ⟨hk3, hi3⟩ := hp
        obtain ⟨hr, hl3, hl4, hk4⟩ := fin (some (.goto t)) W3 hk3
        exact ⟨_, _, hr, .inr ⟨rfl, .goto t, (hIx _).putObj _ hi3 (by omega) hl3 rfl, hl4, hk4⟩⟩
      | panic ch => exact hp.elim
      | outgrown => exact hp.elim
    ·
      rintro e W2 ⟨⟨v, rfl⟩, (⟨xs, hS, hi, hl, hk⟩ | ⟨pre, hSp, c, hi, hl, hk⟩)⟩
      · exact ⟨none, _, by have := run_endLoop (P := P) hl (by rw [hrec]; simp); rw [hrec] at this; exact this, hdone _ xs _ (Nat.le_refl _) hS (hI.putObj _ hi (by omega) hl rfl) ((World.putObj_heap_other (by omega)).trans hk)⟩
      · exact ⟨some c, _, by have := run_endLoop (P := P) hl (by rw [hrec]; simp); rw [hrec] at this; exact this, hstop _ c pre _ (Nat.le_refl _) hSp ((hIx c).putObj _ hi (by omega) hl rfl) ((World.putObj_heap_other (by omega)).trans hk)⟩
end Go.Proofs.Ytepnaalgobhcdaa
namespace Go.Proofs.Ytepnaalgobhcdaa
open Go.RowKit Spm

/-- What a round must keep for the iterator: the maps, the pages, the runs, the space. -/
structure Kq (W W' : World) : Prop where
  size : W.heap.size ≤ W'.heap.size
  cells : ∀ (k : Nat) (cur : Array Value) (t : TypeId) (fr : Nat × Nat), (t = 156 ∨ t = 78 ∨ t = 43 ∨ t = 140) → W.heap[k]? = some (.cells cur t fr) → W'.heap[k]? = some (.cells cur t fr)
  maps : ∀ (k : Nat) (es : Array MapEntry) (c : Nat), W.heap[k]? = some (.map es c) → W'.heap[k]? = some (.map es c)
theorem Kq.refl (W : World) : Kq W W := ⟨Nat.le_refl _, fun _ _ _ _ _ h => h, fun _ _ _ h => h⟩
theorem Kq.trans {A B C : World} (h : Kq A B) (k : Kq B C) : Kq A C := ⟨Nat.le_trans h.size k.size, fun i c t f ht hi => k.cells i c t f ht (h.cells i c t f ht hi), fun i e c hi => k.maps i e c (h.maps i e c hi)⟩
theorem Kq.of_below {W W' : World} (h : Below W.heap.size W W') : Kq W W' := ⟨h.size, fun k _ _ _ _ hk => (h.block k (lt_of_block hk)).trans hk, fun k _ _ hk => (h.block k (lt_of_block hk)).trans hk⟩
theorem Kq.putObj {W : World} {l : Nat} {o : Obj} (o' : Obj) (hl : W.heap[l]? = some o) (h1 : o.isCells = false) (h2 : o.isWalk = false) : Kq W (W.putObj l o') := by
  have hne : ∀ k x, W.heap[k]? = some x → (x.isCells = true ∨ x.isWalk = true) → k ≠ l := fun k x hk hx e => by
    subst e
    rw [hl] at hk
    cases hk
    rcases hx with hx | hx
    · rw [h1] at hx; cases hx
    · rw [h2] at hx; cases hx
  exact ⟨by simp, fun k cur t fr _ hk => (World.putObj_heap_other (hne k _ hk (.inl rfl))).trans hk, fun k es c hk => (World.putObj_heap_other (hne k _ hk (.inr rfl))).trans hk⟩
theorem SpIn.kq {w w' : World} {b : Nat} {M : List Pg} {F : Nat → Prop} (h : SpIn w b M F) (hk : Kq w w') : SpIn w' b M F := by
  obtain ⟨h1, ⟨mb, A, h2, h3⟩, h4, h5⟩ := h
  have hmap : w'.heap[mb]? = w.heap[mb]? := by
    obtain ⟨D, ⟨es, clock, hb, r⟩, _⟩ := h3.map
    rw [hb]; exact hk.maps _ _ _ hb
  exact ⟨h1, ⟨mb, A, hk.cells _ _ _ _ (by simp) h2, h3.map.kept hmap, h3.fmap, fun p hp => ⟨(h3.page p hp).1, hk.cells _ _ _ _ (by simp) (h3.page p hp).2⟩, h3.apart⟩, h4, fun k hk' => Nat.lt_of_lt_of_le (h5 k hk') hk.size⟩
theorem rows_kq {w w' : World} {B s n : Nat} {v : Value} {xs : List Value} (h : w.ownsRow B 156 s v n xs) (hk : Kq w w') : w'.ownsRow B 156 s v n xs :=
  ro_same h fun g hg => by
    rcases h.2 with ⟨rfl, _⟩ | ⟨g', cap, c, rfl, _, hg', _⟩
    · simp [Value.ownBlock] at hg
    · obtain rfl : g' = g := by simpa [Value.ownBlock] using hg
      rw [hg']; exact hk.cells _ _ _ _ (by simp) hg'

/-- What the iterator has at hand between two pieces. -/
structure AllSt (W0 : World) (b bx : Nat) (M : List Pg) (F : Nat → Prop) (vR : Value) (wr : World) : Prop where
  sp : SpIn wr b M F
  box : wr.heap[bx]? = some (.cells #[.pointer (some ⟨b, 0, none⟩)] 43 (0, 0))
  rows : wr.ownsRow W0.heap.size 156 2 vR (runsM M).length (flatR (runsM M))
  size : W0.heap.size ≤ wr.heap.size
theorem AllSt.kq {W0 w w' : World} {b bx : Nat} {M : List Pg} {F : Nat → Prop} {vR : Value} (h : AllSt W0 b bx M F vR w) (hk : Kq w w') : AllSt W0 b bx M F vR w' :=
  ⟨h.sp.kq hk, hk.cells _ _ _ _ (by simp) h.box, rows_kq h.rows hk, Nat.le_trans h.size hk.size⟩

def pcArr (r : Rn) (u : Value) : Array Value := #[.int .u64 ((r.first * 4096 : Nat) : Int), .int .i64 r.prot, u]
/-- A piece under way: j pages of it are there. -/
structure PgSt (wr : World) (M : List Pg) (r : Rn) (j : Nat) (u : Value) (wx : World) : Prop where
  run : wx.heap[wr.heap.size]? = some (.cells #[.int .u64 (r.first : Int), .int .u64 ((r.first + r.cnt : Nat) : Int)] 156 (0, 0))
  box : wx.heap[wr.heap.size + 1]? = some (.cells (pcArr r u) 123 (0, 0))
  row : wx.ownsRow wr.heap.size 5 1 u (j * 4096) (bvs (catB M r.first j))
  below : Below wr.heap.size wr wx
section
variable {wr wx wt w1 : World} {M : List Pg} {r : Rn} {j : Nat} {u v' : Value}
theorem PgSt.mid (h : PgSt wr M r j u wx) (hwt : Below wx.heap.size wx wt) (hg : wt.grownBy w1 u.ownBlock) :
    w1.heap[wr.heap.size]? = some (.cells #[.int .u64 (r.first : Int), .int .u64 ((r.first + r.cnt : Nat) : Int)] 156 (0, 0)) ∧ w1.heap[wr.heap.size + 1]? = some (.cells (pcArr r u) 123 (0, 0)) := by
  have hk : ∀ (k : Nat) (cur : Array Value) (t : TypeId) (fr : Nat × Nat), t ≠ 5 → wx.heap[k]? = some (.cells cur t fr) → w1.heap[k]? = some (.cells cur t fr) := fun k cur t fr ht hk => by
    rw [hg.block k (Nat.lt_of_lt_of_le (lt_of_block hk) hwt.size) (ro_ne h.row ht hk), hwt.block k (lt_of_block hk)]; exact hk
  exact ⟨hk _ _ _ _ (by decide) h.run, hk _ _ _ _ (by decide) h.box⟩
theorem PgSt.push (h : PgSt wr M r j u wx) (hwt : Below wx.heap.size wx wt) (hg : wt.grownBy w1 u.ownBlock) (ho : w1.ownsRow wr.heap.size 5 1 v' (j * 4096 + 4096) (bvs (catB M r.first j) ++ bvs (pgB M (r.first + j)))) :
    PgSt wr M r (j + 1) v' (w1.setCell ⟨wr.heap.size + 1, 2, none⟩ v') := by
  obtain ⟨h1, h2⟩ := h.mid hwt hg
  have hset : ∀ k, k ≠ wr.heap.size + 1 → (w1.setCell ⟨wr.heap.size + 1, 2, none⟩ v').heap[k]? = w1.heap[k]? := fun k hk => heap_setCell_other _ _ _ _ hk
  have hb1 : Below wr.heap.size wr w1 := by
    have h3 : Below wr.heap.size wr wt := h.below.trans ⟨hwt.os, hwt.tape, hwt.output, hwt.size, fun k hk => hwt.block k (by have := h.below.size; omega)⟩
    exact ⟨hg.os.trans h3.os, hg.tape.trans h3.tape, hg.output.trans h3.output, Nat.le_trans h3.size hg.size, fun i hi => by
      rw [hg.block i (Nat.lt_of_lt_of_le hi h3.size) (fun e => by have := (h.row.lt i e.symm).1; omega)]
      exact h3.block i hi⟩
  refine ⟨by rw [hset _ (by omega)]; exact h1, heap_setCell_same w1 _ _ _ _ _ h2, ?_, hb1.setCell (by simp) _⟩
  have e : (j + 1) * 4096 = j * 4096 + 4096 := by omega
  rw [e, show bvs (catB M r.first (j + 1)) = bvs (catB M r.first j) ++ bvs (pgB M (r.first + j)) by rw [catB]; unfold bvs; rw [List.map_append]]
  exact ro_same ho fun g hgg => hset g fun e' => by
    subst e'
    exact ro_ne ho (t := 123) (by decide) h2 hgg.symm
end
theorem slice140a (w : World) (A : Nat) : (Instr.sliceAt 140 (.pointer (some ⟨A, 0, none⟩)) none none none).run Try.prog w = .ok (.slice (some ⟨A, 0, none⟩) 4096 4096) w := by
  rw [run_sliceAt_array_all (P := Try.prog) w 140 ⟨A, 0, none⟩ under140, size140]
  simp [slicedAt, len140, Addr.add]
end Go.Proofs.Ytepnaalgobhcdaa
namespace Go.Proofs.Ytepnaalgobhcdaa
open Go.RowKit Spm
attribute [local go_sem] Oper.semAt_some

def encPc (x : Rn × Value) : Array Value := #[.agg (pcArr x.1 x.2)]
/-- The memory of a piece that is handed over. -/
def PcMem (B : Nat) (x : Rn × Value) (W : World) : Prop := W.ownsRow B 5 1 x.2 x.1.bytes.length (bvs x.1.bytes)
/-- The next piece, and its memory. -/
def PcNext (B : Nat) (M : List Pg) (pre : List (Rn × Value)) (x : Rn × Value) (W : World) : Prop := PcMem B x W ∧ (runsM M)[pre.length]? = some x.1

set_option maxHeartbeats 4000000 in
set_option maxRecDepth 100000 in
theorem all1_stops (n : Nat) (hn : 1 ≤ n) (w0 : World) (bx b : Nat) (M : List Pg) (F : Nat → Prop) (h : SpIn w0 b M F) (hbx : w0.heap[bx]? = some (.cells #[.pointer (some ⟨b, 0, none⟩)] 43 (0, 0))) :
    SeqStopsM Fence.wide n Try.prog 77 #[.pointer (some ⟨bx, 0, none⟩)] encPc (PcNext w0.heap.size M) Kq (fun xs => xs.map Prod.fst = runsM M) (fun pre => pre.map Prod.fst <+: runsM M) (runsM M).length w0 := by
  intro l J Jx W hW hJ hJx hY h0
  have hspW := h.keepB hW
  have hbxW := (hW.block bx (lt_of_block hbx)).trans hbx
  have hOK := h.ok
  have hfew := hOK.few
  obtain ⟨hruns, hrl⟩ := runsM_ok hOK
  have cbx := cell_of_one hbxW
  have hwz := hW.size
  have HRUN : Hid (Calls Try.prog 78 #[.pointer (some ⟨b, 0, none⟩)] W (RunsRes W M)) := runs_any W b M F hspW
  have HY := Lib.hid hY
  have HJ : Hid (∀ pre A B, W.heap.size ≤ A.heap.size → Below A.heap.size A B → J pre A → J pre B) := fun pre A B _ hb hj => hJ pre A B none hj ⟨hb.os, hb.tape, hb.output, hb.size, fun k hk _ => hb.block k hk⟩ (fun r e => by cases e)
  have H0 := Lib.hid h0
  have HSPW := Lib.hid hspW
  have HBXW := Lib.hid hbxW
  have HRS := Lib.hid hruns
  have HOK := Lib.hid hOK
  obtain ⟨i5, hi5, hz5, hs5, hy5⟩ := info_parts infoU8
  have hfld := field142'
  have hfld0 := field142
  have hsla := slice140a
  refine callsIn_wide.2 ?_
  show Calls Try.prog 77 #[.func (.yield l) #[] #[], .pointer (some ⟨bx, 0, none⟩)] W _
  clear hJ hJx hY h0 h hspW hbx hbxW hW hOK hruns
  go_enter Try.func77, Try.ntmps77
  go_wp2_with (go_at_call 78; refine HRUN.out.mono ?_; rintro e w1 ⟨vR, rfl, hr1, hb1⟩; obtain ⟨aR, cR, rfl, hcR, hcR2⟩ := ro_shape hr1; have HA1 : Hid (AllSt W b bx M F (.slice aR (runsM M).length cR) w1) := ⟨HSPW.out.keepB hb1, (hb1.block bx (lt_of_block HBXW.out)).trans HBXW.out, hr1, hb1.size⟩; have HJ1 : Hid (J [] w1) := HJ.out _ _ _ (Nat.le_refl _) hb1 H0.out; clear hr1 hb1)
  clear HRUN
  go_loopw [12] (fun t wr => ∃ (i : Nat) (pre : List (Rn × Value)), i ≤ (runsM M).length ∧ t = .int .i64 i ∧ Hid (pre.map Prod.fst = (runsM M).take i) ∧ Hid (J pre wr) ∧ Hid (AllSt W b bx M F (.slice aR (runsM M).length cR) wr)) (fun t _ => (runsM M).length - (intOf t).toNat)
  case atStart => exact ⟨0, [], Nat.zero_le _, rfl, by simp [Hid], HJ1.out, HA1.out⟩
  case round =>
    clear HA1 HJ1
    obtain ⟨i, pre, hi, rfl, HP, HJR, HA⟩ := hrel
    by_cases hlt : i < (runsM M).length
    · obtain ⟨r, hr⟩ : ∃ r, (runsM M)[i]? = some r := ⟨(runsM M)[i], List.getElem?_eq_getElem hlt⟩
      have hrok := HRS.out r (List.mem_of_getElem? hr)
      have hbd := hrok.bound HOK.out
      have hpos := hrok.pos
      have hA := HA.out
      obtain ⟨g, cap, hg, _, _, _, hgl⟩ := ro_form hA.rows (by omega)
      cases hg
      have hflat := flatR_get (runsM M) hr
      have hlenf := flatR_length (runsM M)
      have c0 : wr.cell? ⟨g, i * 2, none⟩ = some (.int .u64 (r.first : Int)) := by rw [hA.rows.cellAt _ (by omega)]; exact hflat.1
      have c1 : wr.cell? ⟨g, i * 2 + 1, none⟩ = some (.int .u64 ((r.first : Int) + (r.cnt : Int))) := by rw [hA.rows.cellAt _ (by omega)]; exact hflat.2
      have HC : Hid (CellsAt wr g (i * 2) #[.int .u64 (r.first : Int), .int .u64 ((r.first : Int) + (r.cnt : Int))]) := fun j v hj => by
        match j, hj with
        | 0, hj => cases hj; exact c0
        | 1, hj => cases hj; exact c1
      obtain ⟨W1, hW1⟩ : ∃ W1, wr.alloc (.cells #[.int .u64 (r.first : Int), .int .u64 ((r.first : Int) + (r.cnt : Int))] 156) = W1 := ⟨_, rfl⟩
      have hS1 : W1.heap.size = wr.heap.size + 1 := by rw [← hW1]; simp
      have hB1 : Below wr.heap.size wr W1 := by rw [← hW1]; exact (Below.refl _ wr).alloc (Nat.le_refl _) _
      have hr1 : W1.heap[wr.heap.size]? = some (.cells #[.int .u64 (r.first : Int), .int .u64 ((r.first : Int) + (r.cnt : Int))] 156 (0, 0)) := by rw [← hW1]; exact hp_new _ _ _ rfl
      have d0 : W1.cell? ⟨wr.heap.size, 0, none⟩ = some (.int .u64 (r.first : Int)) := by simp [World.cell?, hr1]
      have d1 : W1.cell? ⟨wr.heap.size, 1, none⟩ = some (.int .u64 ((r.first : Int) + (r.cnt : Int))) := by simp [World.cell?, hr1]
      have hsp1 := hA.sp.keepB hB1
      obtain ⟨mb, A, hb, hp⟩ := hsp1.own
      have cb1 := cell_of_one hb
      have hbl := lt_of_block hb
      have cbx1 : W1.cell? ⟨bx, 0, none⟩ = some (.pointer (some ⟨b, 0, none⟩)) := cell_of_one ((hB1.block bx (lt_of_block hA.box)).trans hA.box)
      have hbxl := lt_of_block hA.box
      obtain ⟨p0, hp0, hp0p⟩ := hrok.there 0 hpos
      rw [Nat.add_zero] at hp0
      have e1 : ∀ o, (W1.alloc o).cell? ⟨b, 0, none⟩ = some (.map (some mb)) := fun o => cell_of_one ((hp_old W1 o b hbl).trans hb)
      have e2 : ∀ o, (W1.alloc o).cell? ⟨bx, 0, none⟩ = some (.pointer (some ⟨b, 0, none⟩)) := fun o => cell_of_one ((hp_old W1 o bx (by omega)).trans ((hB1.block bx (lt_of_block hA.box)).trans hA.box))
      have e3 : ∀ o, (W1.alloc o).cell? ⟨wr.heap.size, 0, none⟩ = some (.int .u64 (r.first : Int)) := fun o => by simp [World.cell?, hp_old W1 o wr.heap.size (by omega), hr1]
      have e4 : ∀ o, (W1.alloc o).cell? ⟨wr.heap.size, 1, none⟩ = some (.int .u64 ((r.first : Int) + (r.cnt : Int))) := fun o => by simp [World.cell?, hp_old W1 o wr.heap.size (by omega), hr1]
      have hlk : ∀ V : World, V.heap[mb]? = W1.heap[mb]? → (Instr.lookup 76 (.map (some mb)) (.int .u64 (r.first : Int)) false).run Try.prog V = .ok (.agg #[.pointer (some ⟨A r.first, 0, none⟩), .int .i64 r.prot]) V := fun V hV => by
        have h1 := ((hp.map.kept hV).look (n := r.first) (by omega)).2
        rw [show pgFn M A r.first = some (A r.first, r.prot) by unfold pgFn; rw [hp0, Option.map_some, hp0p]] at h1
        exact h1
      have hmbl := hp.map.lt
      have l1 := hlk W1.drew rfl
      have l2 : ∀ o, _ := fun o => hlk (W1.alloc o).drew (hp_old _ _ _ hmbl)
      have l3 : ∀ o, _ := fun o => hlk (W1.drew.alloc o) (hp_old _ _ _ hmbl)
      have hmul : IntKind.u64.wrap ((r.first : Int) * 4096) = (r.first : Int) * 4096 := by rw [show IntKind.u64.wrap ((r.first : Int) * 4096) = (((r.first : Int) * 4096) % 18446744073709551616) from rfl]; omega
      have HROK := Lib.hid hrok
      have HR := Lib.hid hr
      have HA2 := Lib.hid hA
      have HB1 := Lib.hid hB1
      have HRB := Lib.hid hr1
      clear hrok hr hA hflat hlenf c0 c1 hB1 hr1 hsp1 hb hp hp0 hp0p hlk HA
      go_upto_region 4 with (refine wpList_load_agg 156 (.tmp 14) rfl rfl g (i * 2) (by simp [Act.eval]) _ _ HC.out Try.underlying156 rfl (by kernel_rfl) ?_)
      clear hW1
      go_region
      have HPG0 : Hid (PgSt wr M r 0 (.slice none 0 0) (W1.alloc (.cells #[.int .u64 ((r.first : Int) * 4096), .int .i64 r.prot, .slice none 0 0] 123)).drew) := by
        refine ⟨?_, ?_, ?_, ?_⟩
        · rw [Int.natCast_add]; exact (hp_old W1 _ _ (by omega)).trans HRB.out
        · unfold pcArr; rw [Int.natCast_mul]; exact hp_new W1 _ _ hS1.symm
        · rw [Nat.zero_mul]; exact World.ownsRow_nil _ _ _ _
        · exact (HB1.out.alloc (by omega) _).drew
      obtain ⟨W2, hW2⟩ : ∃ W2, (W1.alloc (.cells #[.int .u64 ((r.first : Int) * 4096), .int .i64 r.prot, .slice none 0 0] 123)).drew = W2 := ⟨_, rfl⟩
      have d2 : W2.cell? ⟨wr.heap.size, 0, none⟩ = some (.int .u64 (r.first : Int)) := by rw [← hW2]; exact e3 _
      rw [hW2] at HPG0 ⊢
      clear hW2 l1 l2 l3 e1 e2 e3 e4 d0 d1 cb1 cbx1
      go_wp2_with fail
      clear d2
      obtain ⟨wb, rfl⟩ : ∃ wb : World, wb = wr := ⟨_, rfl⟩
      go_loopw [6] (fun t wr => ∃ (j : Nat) (u : Value), j ≤ r.cnt ∧ t = .int .u64 ((r.first : Int) + (j : Int)) ∧ Hid (PgSt wb M r j u wr)) (fun t _ => r.first + r.cnt - (intOf t).toNat)
      case atStart => exact ⟨0, _, Nat.zero_le _, by simp, HPG0.out⟩
      case round =>
        clear HPG0
        obtain ⟨j, u, hj, rfl, HPG⟩ := hrel
        have hPG := HPG.out
        have k1 : wr.cell? ⟨wb.heap.size, 1, none⟩ = some (.int .u64 ((r.first : Int) + (r.cnt : Int))) := by
          have := hPG.run
          rw [Int.natCast_add] at this
          simp [World.cell?, this]
        by_cases hjc : j < r.cnt
        · have hsp := HA2.out.sp.keepB hPG.below
          obtain ⟨mb, A, hb, hp⟩ := hsp.own
          have k2 := cell_of_one hb
          have k3 : wr.cell? ⟨bx, 0, none⟩ = some (.pointer (some ⟨b, 0, none⟩)) := cell_of_one ((hPG.below.block bx (lt_of_block HA2.out.box)).trans HA2.out.box)
          have k4 : wr.cell? ⟨wb.heap.size + 1, 2, none⟩ = some u := by simp [World.cell?, hPG.box, pcArr]
          obtain ⟨p, hpp, hppp⟩ := HROK.out.there j hjc
          obtain ⟨q, hq⟩ : ∃ q, q = r.first + j := ⟨_, rfl⟩
          rw [← hq] at hpp
          have hl1 : ∀ V : World, V.heap[mb]? = wr.heap[mb]? → (Instr.lookup 76 (.map (some mb)) (.int .u64 ((r.first : Int) + (j : Int))) false).run Try.prog V = .ok (.agg #[.pointer (some ⟨A q, 0, none⟩), .int .i64 p.prot]) V := fun V hV => by
            have h1 := ((hp.map.kept hV).look (n := q) (by omega)).2
            rw [show pgFn M A q = some (A q, p.prot) by unfold pgFn; rw [hpp]; rfl, show ((q : Nat) : Int) = (r.first : Int) + (j : Int) by omega] at h1
            exact h1
          have l1 := hl1 wr.drew rfl
          have hpg := hp.page p (pg_mem hpp).1
          rw [(pg_mem hpp).2] at hpg
          have hpl := (HOK.out.pages p (pg_mem hpp).1).2.2.2
          have hbv : bvs (pgB M (r.first + j)) = bvs p.bytes := by unfold pgB; rw [← hq, hpp]
          have hNL : (bvs p.bytes).length = 4096 * 1 := by unfold bvs; rw [List.length_map, hpl]
          have HPA := Lib.hid hpg.2
          have HNEWS : Hid (∀ jj uu, (bvs p.bytes)[jj]? = some uu → wr.cell? ((⟨A q, 0, none⟩ : Addr).add jj) = some uu) := fun jj uu hu => by
            have := bytes_page hpg.2 (r := 0) (m := 4096) jj uu (by rw [List.drop_zero, List.take_of_length_le (by omega)]; exact hu)
            exact this
          have HPUSH : Hid (∀ v' w1, w1.ownsRow wb.heap.size 5 1 v' (j * 4096 + 4096) (bvs (catB M r.first j) ++ bvs p.bytes) → wr.drew.grownBy w1 u.ownBlock → PgSt wb M r (j + 1) v' (w1.setCell ⟨wb.heap.size + 1, 2, none⟩ v') ∧ w1.cell? ⟨wb.heap.size + 1, 2, none⟩ = some u ∧ w1.frozen? ⟨wb.heap.size + 1, 2, none⟩ = false) := fun v' w1 h1 h2 => by
            have hm := hPG.mid (Below.refl _ wr).drew h2
            exact ⟨hPG.push (Below.refl _ wr).drew h2 (by rw [hbv]; exact h1), by simp [World.cell?, hm.2, pcArr], by simp [World.frozen?, hm.2]⟩
          have hxz := hPG.below.size
          have HROW := Lib.hid hPG.row
          have hjc8 : j * 4096 + 4096 ≤ 33554432 := by omega
          generalize A q = AA at *
          have HL := Lib.hid hNL
          have HONE := Lib.hid (bvs_one p.bytes)
          generalize bvs p.bytes = PB at *
          generalize p.prot = pp at *
          clear hPG hsp hb hp hpp hppp hl1 hpg hpl hbv hNL hq
          go_upto_region 8 with fail
          go_region_law (refine step_append_lies _ rfl (.tmp 37) (.tmp 46) 57 rfl wb.heap.size 5 i5 (.int .u8 0) 1 1 Try.underlying57 hi5 hz5 hs5 hy5 rfl (by decide) u (j * 4096) (bvs (catB M r.first j)) rfl HROW.out.drew ⟨AA, 0, none⟩ 4096 4096 PB rfl HL.out (fun jj uu hu => HNEWS.out jj uu hu) HONE.out (by decide) (by unfold maxLen; omega) (by omega) (by simp; omega) _ rfl ?_; intro gN cN w5 hown hgrow _ _; obtain ⟨hst, q1, q2⟩ := HPUSH.out _ _ hown hgrow; have HST := Lib.hid hst; clear hst hown hgrow)
          all_goals
            clear q1 q2
            go_wp2_with fail
            go_roundw
            case rel => exact ⟨j + 1, _, by omega, by rw [show ((j + 1 : Nat) : Int) = (j : Int) + 1 by omega, Int.add_assoc], HST.out⟩
            case measure => simp [intOf]; omega
        · obtain rfl : j = r.cnt := by omega
          have hmem : PcMem w0.heap.size (r, u) wr := by
            unfold PcMem
            have h1 := hPG.row
            rw [← HROK.out.bytes, ← HROK.out.length HOK.out] at h1
            exact ro_le h1 (by have := HA2.out.size; omega)
          have hjw : J pre wr := HJ.out pre wb wr HA2.out.size hPG.below HJR.out
          have hpl : pre.length < (runsM M).length := by
            have := congrArg List.length HP.out
            rw [List.length_map, List.length_take] at this
            omega
          have hnext : (runsM M)[pre.length]? = some r := by
            have := congrArg List.length HP.out
            rw [List.length_map, List.length_take, Nat.min_eq_left (by omega)] at this
            rw [this]; exact HR.out
          have hyy : YieldAt Fence.wide (n - 1) Try.prog l #[.agg #[.int .u64 ((r.first : Int) * 4096), .int .i64 r.prot, u]] wr fun e W' => (e = .returned (.bool true) ∧ J (pre ++ [(r, u)]) W' ∧ Kq wr W') ∨ (e = .returned (.bool false) ∧ Jx (pre ++ [(r, u)]) W') := by
            have h1 := HY.out pre (r, u) wr hjw ⟨hmem, hnext⟩ hpl
            unfold encPc pcArr at h1
            rw [show ((r.first * 4096 : Nat) : Int) = (r.first : Int) * 4096 by omega] at h1
            exact h1
          have HC5 : Hid (CellsAt wr (wb.heap.size + 1) 0 #[.int .u64 ((r.first : Int) * 4096), .int .i64 r.prot, u]) := fun jj v hv => by
            have h1 := hPG.box
            unfold pcArr at h1
            rw [show ((r.first * 4096 : Nat) : Int) = (r.first : Int) * 4096 by omega] at h1
            simp only [World.cell?, h1, Nat.zero_add]
            exact hv
          have HA3 := Lib.hid (HA2.out.kq (Kq.of_below hPG.below))
          have HTK : Hid ((pre ++ [(r, u)]).map Prod.fst = (runsM M).take (i + 1)) := by
            show _ = _
            rw [List.map_append, HP.out, List.take_add_one, HR.out]; rfl
          obtain ⟨fn, tmps, assign, body, hy, hR⟩ := hyy
          have HRR := Lib.hid hR
          clear hR hmem hnext hjw hPG hpl
          go_upto_region 9 with fail
          refine (wpIn_wide (n := n)).1 ?_
          gi_wp2_with (refine wpListIn_load_agg rfl 123 (.tmp 5) rfl (wb.heap.size + 1) 0 rfl _ _ HC5.out Try.underlying123 rfl (by kernel_rfl) ?_)
          refine HRR.out.mono ?_
          rintro e W3 (⟨rfl, hJ3, hk3⟩ | ⟨rfl, hJx3⟩)
          · have HJ3 := Lib.hid hJ3
            have HA4 := Lib.hid (HA3.out.kq hk3)
            clear hJ3 hk3
            gi_wp2_with fail
            go_wp2_with fail
            go_roundw
            case rel => exact ⟨i + 1, _, by omega, by go_num, HTK.out, HJ3.out, HA4.out⟩
            case measure => simp [intOf]; omega
          · have HJX := Lib.hid hJx3
            clear hJx3
            gi_wp2_with fail
            go_wp2_with fail
            refine bodyPost_ret (results_none rfl _ _ _) rfl ?_
            exact ⟨⟨_, rfl⟩, .inr ⟨_, by rw [HTK.out]; exact List.take_prefix _ _, HJX.out⟩⟩
    · obtain rfl : i = (runsM M).length := by omega
      have hp := HP.out
      rw [List.take_length] at hp
      have HPF := Lib.hid hp
      clear hp
      go_wp2_with fail
      go_end0
      exact ⟨⟨_, rfl⟩, .inl ⟨pre, HPF.out, HJR.out⟩⟩
end Go.Proofs.Ytepnaalgobhcdaa
