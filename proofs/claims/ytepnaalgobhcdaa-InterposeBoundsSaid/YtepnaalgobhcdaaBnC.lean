/- The reference's space in memory: three slices in step; that it stays while other blocks turn. In, Has, Free of the reference. The reference's Free. Three rows that grow in step: the reference's new Space while it is made. Which pages stand in the reference's new Space while it is made: plain lists. The reference's Map where it maps: the walk. The reference's Map: every answer. The reference's Look: which bytes are there, and of which protection. The reference's Look: the walk. The reference's Write: what a stored byte does. The reference's Read. A space and the document's space side by side: what each call does to the two. memory of clevislaw21: both spaces hold what the ranges say. -/
import Derived.Test.YtepnaalgobhcdaaBnA
import Derived.Deep.AppendLies
import Derived.Deep.RegionLaw
import Derived.Deep.DeepCutAuto
import Derived.StillTailTactics
namespace Go.Proofs.Ytepnaalgobhcdaa
open Go.RowKit Spm

def atVals (M : List Pg) : List Value := M.map fun p => .int .u64 ((p.num * 4096 : Nat) : Int)
def prVals (M : List Pg) : List Value := M.map fun p => .int .i64 p.prot
def bsVal (A C : Nat → Nat) (p : Pg) : Value := .slice (some ⟨A p.num, 0, none⟩) 4096 (C p.num)
def bsVals (A C : Nat → Nat) (M : List Pg) : List Value := M.map (bsVal A C)
/-- A page's bytes: the block's first 4096 cells. -/
structure BsIn (w : World) (F : Nat → Prop) (A C : Nat → Nat) (p : Pg) : Prop where
  inF : F (A p.num)
  block : ∃ cur : Array Value, w.heap[A p.num]? = some (.cells cur 5 (0, 0)) ∧ cur.size = C p.num ∧ 4096 ≤ C p.num ∧ C p.num ≤ maxLen ∧ cur.toList.take 4096 = bvs p.bytes
structure RfRow (w : World) (R : Nat → Prop) (e : TypeId) (a : Option Addr) (n c : Nat) (xs : List Value) : Prop where
  own : w.ownsRow 0 e 1 (.slice a n c) n xs
  inF : ∀ x, a = some x → R x.block
/-- Three slices in step (their rows in R), and the pages' bytes (in F). -/
structure RfPages (w : World) (R F : Nat → Prop) (M : List Pg) (aA : Option Addr) (cA : Nat) (aB : Option Addr) (cB : Nat) (aP : Option Addr) (cP : Nat) (A C : Nat → Nat) : Prop where
  ats : RfRow w R 32 aA M.length cA (atVals M)
  bys : RfRow w R 57 aB M.length cB (bsVals A C M)
  prs : RfRow w R 3 aP M.length cP (prVals M)
  page : ∀ p ∈ M, BsIn w F A C p
  apart : ∀ p ∈ M, ∀ q ∈ M, A p.num = A q.num → p.num = q.num
def rfCells (n : Nat) (aA : Option Addr) (cA : Nat) (aB : Option Addr) (cB : Nat) (aP : Option Addr) (cP : Nat) : Obj := .cells #[.slice aA n cA, .slice aB n cB, .slice aP n cP] 55 (0, 0)
structure RfIn (w : World) (b : Nat) (M : List Pg) (F : Nat → Prop) : Prop where
  ok : Ok M
  own : ∃ aA cA aB cB aP cP A C, w.heap[b]? = some (rfCells M.length aA cA aB cB aP cP) ∧ RfPages w F F M aA cA aB cB aP cP A C
  fb : F b
  lt : ∀ k, F k → k < w.heap.size

theorem owns_same {w w' : World} {base : Nat} {e : TypeId} {size : Nat} {v : Value} {n : Nat} {xs : List Value} (h : w.ownsRow base e size v n xs) (hs : ∀ g, v.ownBlock = some g → w'.heap[g]? = w.heap[g]?) : w'.ownsRow base e size v n xs := by
  refine ⟨h.1, ?_⟩
  rcases h.2 with hn | ⟨g, cap, cur, rfl, hb, hgg, rest⟩
  · exact .inl hn
  · exact .inr ⟨g, cap, cur, rfl, hb, (hs g rfl).trans hgg, rest⟩
theorem RfRow.same {w w' : World} {R : Nat → Prop} {e : TypeId} {a : Option Addr} {n c : Nat} {xs : List Value} (h : RfRow w R e a n c xs) (hs : ∀ g, g < w.heap.size → R g → w'.heap[g]? = w.heap[g]?) : RfRow w' R e a n c xs :=
  ⟨owns_same h.own fun g hg => by
    have hl := (h.own.lt g hg).2
    cases a with
    | none => simp [Value.ownBlock] at hg
    | some x =>
      have e : x.block = g := by simpa [Value.ownBlock] using hg
      exact hs g hl (by rw [← e]; exact h.inF x rfl), h.inF⟩
theorem RfRow.mono {w : World} {R R' : Nat → Prop} {e : TypeId} {a : Option Addr} {n c : Nat} {xs : List Value} (h : RfRow w R e a n c xs) (hR : ∀ k, R k → R' k) : RfRow w R' e a n c xs := ⟨h.own, fun x hx => hR _ (h.inF x hx)⟩
theorem BsIn.same {w w' : World} {F : Nat → Prop} {A C : Nat → Nat} {p : Pg} (h : BsIn w F A C p) (hs : w'.heap[A p.num]? = w.heap[A p.num]?) : BsIn w' F A C p := by
  obtain ⟨h1, cur, h2, h3⟩ := h
  exact ⟨h1, cur, hs.trans h2, h3⟩
theorem BsIn.mono {w : World} {F F' : Nat → Prop} {A C : Nat → Nat} {p : Pg} (h : BsIn w F A C p) (hF : ∀ k, F k → F' k) : BsIn w F' A C p := ⟨hF _ h.inF, h.block⟩
theorem BsIn.lt {w : World} {F : Nat → Prop} {A C : Nat → Nat} {p : Pg} (h : BsIn w F A C p) : A p.num < w.heap.size := by
  obtain ⟨h1, cur, h2, h3⟩ := h
  exact lt_of_block h2
theorem RfPages.same {w w' : World} {R F : Nat → Prop} {M : List Pg} {aA : Option Addr} {cA : Nat} {aB : Option Addr} {cB : Nat} {aP : Option Addr} {cP : Nat} {A C : Nat → Nat} (h : RfPages w R F M aA cA aB cB aP cP A C)
    (hs : ∀ g, g < w.heap.size → R g ∨ F g → w'.heap[g]? = w.heap[g]?) : RfPages w' R F M aA cA aB cB aP cP A C :=
  ⟨h.ats.same fun g hl hg => hs g hl (.inl hg), h.bys.same fun g hl hg => hs g hl (.inl hg), h.prs.same fun g hl hg => hs g hl (.inl hg), fun p hp => (h.page p hp).same (hs _ (h.page p hp).lt (.inr (h.page p hp).inF)), h.apart⟩
theorem RfIn.keep {w w' : World} {b : Nat} {M : List Pg} {F G : Nat → Prop} (h : RfIn w b M F) (hc : Chg G w w') (hFG : ∀ k, F k → ¬ G k) : RfIn w' b M F := by
  obtain ⟨h1, ⟨aA, cA, aB, cB, aP, cP, A, C, h2, h3⟩, h4, h5⟩ := h
  exact ⟨h1, ⟨aA, cA, aB, cB, aP, cP, A, C, hc.heap h2 (hFG _ h4), h3.same fun g hl hg => hc.block g hl (hFG g (by rcases hg with hg | hg <;> exact hg))⟩, h4, fun k hk => Nat.lt_of_lt_of_le (h5 k hk) hc.size⟩
theorem RfIn.keepB {w w' : World} {b : Nat} {M : List Pg} {F : Nat → Prop} (h : RfIn w b M F) (hc : Below w.heap.size w w') : RfIn w' b M F :=
  h.keep (Chg.of_below (F := fun _ => False) hc) (fun _ _ h => h)
/-- An element of a row: its address and what it holds. -/
theorem RfRow.get {w : World} {R : Nat → Prop} {e : TypeId} {a : Option Addr} {n c : Nat} {xs : List Value} (h : RfRow w R e a n c xs) (h0 : 0 < n) : ∃ g, a = some ⟨g, 0, none⟩ ∧ R g ∧ ∀ i v, xs[i]? = some v → w.cell? ⟨g, i, none⟩ = some v := by
  obtain ⟨h1, h2⟩ := h
  rcases h1.2 with ⟨_, hn⟩ | ⟨g, cap, cur, hv, _⟩
  · omega
  · cases hv
    refine ⟨g, rfl, h2 _ rfl, fun i v hi => ?_⟩
    have := h1.cells (g := g) rfl i v hi
    rwa [show (⟨g, 0, none⟩ : Addr).add i = ⟨g, i, none⟩ by unfold Addr.add; split <;> simp_all] at this
theorem RfRow.cap {w : World} {R : Nat → Prop} {e : TypeId} {a : Option Addr} {n c : Nat} {xs : List Value} (h : RfRow w R e a n c xs) : n ≤ c := by
  rcases h.own.2 with ⟨hv, hn⟩ | ⟨g, cap, cur, hv, _, _, h1, _⟩
  · omega
  · cases hv; exact h1

set_option maxRecDepth 100000 in
theorem rin_any (w : World) (a n : Nat) (ha : a < 18446744073709551616) :
    Calls Try.prog 87 #[.int .u64 a, .int .u64 n] w fun e w' => e = .returned (.bool (inB a n)) ∧ w = w' := by
  by_cases h1 : a ≤ 140737488355328
  · have e : inB a n = decide ((n : Int) ≤ 140737488355328 - (a : Int)) := by
      unfold inB; rw [Bool.eq_iff_iff]; simp; omega
    have E := Lib.hid e
    clear e
    have h2 : (a : Int) ≤ 140737488355328 := by omega
    go_enter Try.func87, Try.ntmps87
    go_wp2_with fail
    go_ret
    exact ⟨by rw [E.out]; rfl, rfl⟩
  · have e : inB a n = false := by unfold inB; simp; omega
    have E := Lib.hid e
    have h2 : ¬ (a : Int) ≤ 140737488355328 := by omega
    clear e h1
    go_enter Try.func87, Try.ntmps87
    go_wp2_with fail
    go_ret
    exact ⟨by rw [E.out]; rfl, rfl⟩

/-- A page's place. -/
def ixOf (M : List Pg) (q : Nat) : Nat := M.findIdx fun p => p.num == q
def hasIx (M : List Pg) (a : Nat) : Int := if ixOf M (a / 4096) < M.length then (ixOf M (a / 4096) : Nat) else -1
theorem ix_step {M : List Pg} {q i : Nat} {p : Pg} (hi : M[i]? = some p) (h : i ≤ ixOf M q) (hp : p.num ≠ q) : i + 1 ≤ ixOf M q := by
  rcases Nat.lt_or_ge i (ixOf M q) with h1 | h1
  · exact h1
  · exfalso
    obtain ⟨hl, hg⟩ := List.getElem?_eq_some_iff.1 hi
    have e : M.findIdx (fun p => p.num == q) = i := by unfold ixOf at h h1; omega
    have := List.findIdx_getElem (p := fun p : Pg => p.num == q) (xs := M) (w := by rw [e]; exact hl)
    simp only [e, hg, beq_iff_eq] at this
    exact hp this
theorem ix_here {M : List Pg} {q i : Nat} {p : Pg} (hi : M[i]? = some p) (h : i ≤ ixOf M q) (hp : p.num = q) : ixOf M q = i := by
  obtain ⟨hl, hg⟩ := List.getElem?_eq_some_iff.1 hi
  refine Nat.le_antisymm ?_ h
  unfold ixOf at *
  rcases Nat.lt_or_ge i (M.findIdx fun p => p.num == q) with h1 | h1
  · have := List.not_of_lt_findIdx h1
    simp [hg, hp] at this
  · exact h1

set_option maxHeartbeats 1000000 in
set_option maxRecDepth 100000 in
theorem rhas_any (w : World) (b : Nat) (M : List Pg) (F : Nat → Prop) (h : RfIn w b M F) (a : Nat) (ha : a < 18446744073709551616) :
    Calls Try.prog 71 #[.pointer (some ⟨b, 0, none⟩), .int .u64 a] w fun e w' => e = .returned (.int .i64 (hasIx M a)) ∧ w = w' := by
  obtain ⟨hok, ⟨aA, cA, aB, cB, aP, cP, A, C, hb, hp⟩, _, _⟩ := h
  have cb : w.cell? ⟨b, 0, none⟩ = some (.slice aA M.length cA) := by simp [World.cell?, hb, rfCells]
  have hrow := hp.ats
  have hlen := hok.few
  have HOK := Lib.hid hok
  have HROW := Lib.hid hrow
  have hcap := hrow.cap
  clear hb hp hrow hok
  go_enter Try.func71, Try.ntmps71
  go_wp2_with fail
  go_loop [5] (fun t => ∃ i : Nat, i ≤ M.length ∧ t = .int .i64 i ∧ Hid (i ≤ ixOf M (a / 4096))) (fun t => M.length - (intOf t).toNat)
  case atStart => exact ⟨0, Nat.zero_le _, rfl, Nat.zero_le _⟩
  case round =>
    obtain ⟨i, hi, rfl, HI⟩ := hrel
    by_cases hlt : i < M.length
    · obtain ⟨g, rfl, _, hcell⟩ := HROW.out.get (by omega)
      obtain ⟨p, hpi⟩ : ∃ p, M[i]? = some p := ⟨M[i], List.getElem?_eq_getElem hlt⟩
      have hpb := (HOK.out.pages p (List.mem_of_getElem? hpi)).1
      have hc := hcell i (.int .u64 ((p.num * 4096 : Nat) : Int)) (by unfold atVals; rw [List.getElem?_map, hpi]; rfl)
      obtain ⟨at_, hat⟩ : ∃ at_, at_ = p.num * 4096 := ⟨_, rfl⟩
      rw [← hat] at hc
      by_cases h1 : at_ ≤ a
      · by_cases h2 : a - at_ < 4096
        · have e : hasIx M a = (i : Int) := by
            unfold hasIx
            rw [ix_here hpi HI.out (by omega), if_pos hlt]
          have E := Lib.hid e
          have i1 : (at_ : Int) ≤ (a : Int) := by omega
          have i2 : (a : Int) - (at_ : Int) < 4096 := by omega
          clear e hcell hpi hat hpb h1 h2
          go_wp2_with fail
          go_ret
          exact ⟨by rw [E.out]; rfl, rfl⟩
        · have HS : Hid (i + 1 ≤ ixOf M (a / 4096)) := ix_step hpi HI.out (by omega)
          have i1 : (at_ : Int) ≤ (a : Int) := by omega
          have i2 : ¬ (a : Int) - (at_ : Int) < 4096 := by omega
          clear hcell hpi hat hpb h1 h2
          go_wp2_with fail
          go_round
          case rel => exact ⟨i + 1, by omega, by go_num, HS.out⟩
          case measure => simp [intOf]; omega
      · have HS : Hid (i + 1 ≤ ixOf M (a / 4096)) := ix_step hpi HI.out (by omega)
        have i1 : ¬ (at_ : Int) ≤ (a : Int) := by omega
        clear hcell hpi hat hpb h1
        go_wp2_with fail
        go_round
        case rel => exact ⟨i + 1, by omega, by go_num, HS.out⟩
        case measure => simp [intOf]; omega
    · have e : hasIx M a = -1 := by
        unfold hasIx
        rw [if_neg (by have := HI.out; omega)]
      have E := Lib.hid e
      clear e
      go_wp2_with fail
      go_ret
      exact ⟨by rw [E.out]; rfl, rfl⟩
end Go.Proofs.Ytepnaalgobhcdaa
namespace Go.Proofs.Ytepnaalgobhcdaa
open Go.RowKit Spm

theorem clash_iff {a n : Nat} (h0 : 0 < n) {p : Pg} : clash (fst a) (lst a n) p = (decide (p.num * 4096 < a + n) && decide (a < p.num * 4096 + 4096)) := by
  unfold clash fst lst
  rw [Bool.eq_iff_iff]
  simp
  omega
theorem all_take {α : Type} {M : List α} {q : α → Bool} {i : Nat} {p : α} (hi : M[i]? = some p) (h : (M.take i).all q = true) (hq : q p = true) : (M.take (i + 1)).all q = true := by
  rw [List.take_add_one, hi, List.all_append, h]; simp [hq]

set_option maxHeartbeats 1000000 in
set_option maxRecDepth 100000 in
theorem rfree_in (w : World) (b : Nat) (M : List Pg) (F : Nat → Prop) (h : RfIn w b M F) (a n : Nat) (h0 : 0 < n) (hin : inB a n = true) :
    Calls Try.prog 72 #[.pointer (some ⟨b, 0, none⟩), .int .u64 a, .int .u64 n] w fun e w' => e = .returned (.bool (M.all fun p => !clash (fst a) (lst a n) p)) ∧ w = w' := by
  obtain ⟨hok, ⟨aA, cA, aB, cB, aP, cP, A, C, hb, hp⟩, _, _⟩ := h
  have cb : w.cell? ⟨b, 0, none⟩ = some (.slice aA M.length cA) := by simp [World.cell?, hb, rfCells]
  have hrow := hp.ats
  have hlen := hok.few
  have HOK := Lib.hid hok
  have HROW := Lib.hid hrow
  have hcap := hrow.cap
  have hz : ((n : Int) == 0) = false := by simp; omega
  have HI1 : Hid (Calls Try.prog 87 #[.int .u64 a, .int .u64 n] w fun e w' => e = .returned (.bool true) ∧ w = w') := by
    have := rin_any w a n (by unfold inB at hin; simp at hin; omega); rw [hin] at this; exact this
  have hab : a + n ≤ 140737488355328 := by unfold inB at hin; simp at hin; exact hin.2
  have HC : Hid (∀ p, clash (fst a) (lst a n) p = (decide (p.num * 4096 < a + n) && decide (a < p.num * 4096 + 4096))) := fun p => clash_iff h0
  clear hb hp hrow hok hin
  obtain ⟨q, hq⟩ : ∃ q : Pg → Bool, q = fun p => !clash (fst a) (lst a n) p := ⟨_, rfl⟩
  rw [← hq]
  have HQ : Hid (∀ p, q p = !(decide (p.num * 4096 < a + n) && decide (a < p.num * 4096 + 4096))) := fun p => by rw [hq]; show (!clash _ _ p) = _; rw [HC.out]
  clear hq HC
  go_enter Try.func72, Try.ntmps72
  go_wp2_with (go_at_call 87; refine HI1.out.mono ?_; rintro e _ ⟨rfl, rfl⟩)
  go_loop [7] (fun t => ∃ i : Nat, i ≤ M.length ∧ t = .int .i64 i ∧ Hid ((M.take i).all q = true)) (fun t => M.length - (intOf t).toNat)
  case atStart => exact ⟨0, Nat.zero_le _, rfl, rfl⟩
  case round =>
    obtain ⟨i, hi, rfl, HI⟩ := hrel
    by_cases hlt : i < M.length
    · obtain ⟨g, rfl, _, hcell⟩ := HROW.out.get (by omega)
      obtain ⟨p, hpi⟩ : ∃ p, M[i]? = some p := ⟨M[i], List.getElem?_eq_getElem hlt⟩
      have hpm := List.mem_of_getElem? hpi
      have hpb := (HOK.out.pages p hpm).1
      have hc := hcell i (.int .u64 ((p.num * 4096 : Nat) : Int)) (by unfold atVals; rw [List.getElem?_map, hpi]; rfl)
      have hqp := HQ.out p
      obtain ⟨at_, hat⟩ : ∃ at_, at_ = p.num * 4096 := ⟨_, rfl⟩
      rw [← hat] at hc hqp
      have hatb : at_ < 140737488355328 := by omega
      by_cases h1 : at_ < a + n
      · by_cases h2 : a < at_ + 4096
        · have e : M.all q = false := List.all_eq_false.2 ⟨p, hpm, by rw [hqp]; simp [h1, h2]⟩
          have E := Lib.hid e
          have i1 : (at_ : Int) < (a : Int) + (n : Int) := by omega
          have i2 : (a : Int) < (at_ : Int) + 4096 := by omega
          clear e hcell hpi hat hpb h1 h2 hqp hpm
          go_wp2_with fail
          go_ret
          exact ⟨by rw [E.out]; rfl, rfl⟩
        · have HS : Hid ((M.take (i + 1)).all q = true) := all_take hpi HI.out (by rw [hqp]; simp [h2])
          have i1 : (at_ : Int) < (a : Int) + (n : Int) := by omega
          have i2 : ¬ (a : Int) < (at_ : Int) + 4096 := by omega
          clear hcell hpi hat hpb h1 h2 hqp hpm
          go_wp2_with fail
          go_round
          case rel => exact ⟨i + 1, by omega, by go_num, HS.out⟩
          case measure => simp [intOf]; omega
      · have HS : Hid ((M.take (i + 1)).all q = true) := all_take hpi HI.out (by rw [hqp]; simp [h1])
        have i1 : ¬ (at_ : Int) < (a : Int) + (n : Int) := by omega
        clear hcell hpi hat hpb h1 hqp hpm
        go_wp2_with fail
        go_round
        case rel => exact ⟨i + 1, by omega, by go_num, HS.out⟩
        case measure => simp [intOf]; omega
    · have e : M.all q = true := by
        have := HI.out
        rwa [List.take_of_length_le (by omega)] at this
      have E := Lib.hid e
      clear e
      go_wp2_with fail
      go_ret
      exact ⟨by rw [E.out]; rfl, rfl⟩

set_option maxRecDepth 100000 in
theorem rfree_any (w : World) (b : Nat) (M : List Pg) (F : Nat → Prop) (h : RfIn w b M F) (a n : Nat) (ha : a < 18446744073709551616) :
    Calls Try.prog 72 #[.pointer (some ⟨b, 0, none⟩), .int .u64 a, .int .u64 n] w fun e w' => e = .returned (.bool (freeB M a n)) ∧ w = w' := by
  by_cases h0 : n = 0
  · have e : freeB M a n = true := by simp [freeB, h0]
    rw [e]
    subst h0
    go_enter Try.func72, Try.ntmps72
    go_wp2_with fail
    go_ret
    exact ⟨rfl, rfl⟩
  · have hz : (n == 0) = false := by simpa using h0
    cases hin : inB a n with
    | true =>
      have e : freeB M a n = M.all fun p => !clash (fst a) (lst a n) p := by simp [freeB, hz, hin]
      rw [e]
      exact rfree_in w b M F h a n (by omega) hin
    | false =>
      have e : freeB M a n = false := by simp [freeB, hz, hin]
      have HI1 : Hid (Calls Try.prog 87 #[.int .u64 a, .int .u64 n] w fun e w' => e = .returned (.bool false) ∧ w = w') := by
        have := rin_any w a n ha; rw [hin] at this; exact this
      rw [e]
      have hz' : ((n : Int) == 0) = false := by simp; omega
      clear e hin h
      go_enter Try.func72, Try.ntmps72
      go_wp2_with (go_at_call 87; refine HI1.out.mono ?_; rintro e _ ⟨rfl, rfl⟩)
      go_ret
      exact ⟨rfl, rfl⟩
end Go.Proofs.Ytepnaalgobhcdaa
namespace Go.Proofs.Ytepnaalgobhcdaa
open Go.RowKit Spm

def pageCells : Array Value := madeCells #[.int .u8 0] 4096
theorem make_page (W : World) : (Instr.makeSlice 57 (.int .i64 4096) (.int .i64 4096)).run Try.prog W = .ok (.slice (some ⟨W.heap.size, 0, none⟩) 4096 4096) (W.alloc (.cells pageCells 5)) := by
  obtain ⟨i0, hi0, hz0, hz1, hz2⟩ := info_parts infoU8
  have := run_makeSlice (P := Try.prog) W 57 5 i0 (.int .u8 0) Try.underlying57 hi0 hz0 .i64 .i64 4096 4096 (by decide) (by decide) (by rw [hz1]; decide) (by rw [hz2]; decide) (by decide)
  rw [hz1] at this
  exact this
theorem pageCells_size : pageCells.size = 4096 := size_madeCells _ _
theorem pageCells_list : pageCells.toList = bvs noughts := by
  unfold pageCells bvs noughts
  rw [toList_madeCells_one, List.map_replicate]
  rfl
/-- The blocks of bytes of wr lie in w3 as they lay. -/
def Keep5 (wr w3 : World) : Prop := ∀ (k : Nat) (cur : Array Value) (fr : Nat × Nat), wr.heap[k]? = some (.cells cur 5 fr) → w3.heap[k]? = some (.cells cur 5 fr)
theorem Keep5.trans {a b c : World} (h : Keep5 a b) (k : Keep5 b c) : Keep5 a c := fun i cur fr hi => k i cur fr (h i cur fr hi)
theorem Keep5.of_below {a b : World} (h : Below a.heap.size a b) : Keep5 a b := fun i _ _ hi => (h.block i (lt_of_block hi)).trans hi

/-- Block o holds three slices, whose rows are new since w: they hold xa, xb, xp. -/
structure MkR (w wr : World) (o : Nat) (vA vB vP : Value) (xa xb xp : List Value) : Prop where
  below : Below w.heap.size w wr
  lo : w.heap.size ≤ o
  o : wr.heap[o]? = some (.cells #[vA, vB, vP] 55 (0, 0))
  a : wr.ownsRow w.heap.size 32 1 vA xa.length xa
  b : wr.ownsRow w.heap.size 57 1 vB xb.length xb
  p : wr.ownsRow w.heap.size 3 1 vP xp.length xp

theorem row_other {wr : World} {B : Nat} {e : TypeId} {v : Value} {n : Nat} {xs : List Value} (hv : wr.ownsRow B e 1 v n xs) {k : Nat} {cur : Array Value} {t : TypeId} {fr : Nat × Nat} (ht : t ≠ e) (hk : wr.heap[k]? = some (.cells cur t fr)) : some k ≠ v.ownBlock := by
  rcases hv.2 with ⟨rfl, _⟩ | ⟨g, cap, c, rfl, _, hg, _⟩
  · simp [Value.ownBlock]
  · intro e'
    obtain rfl : k = g := by simpa [Value.ownBlock] using e'
    rw [hk] at hg
    have := Option.some.inj hg
    injection this with _ h2 _
    exact ht h2
theorem push_core {w wr wt w2 : World} {e : TypeId} {v : Value} {n : Nat} {xs : List Value} (hb : Below w.heap.size w wr) (hv : wr.ownsRow w.heap.size e 1 v n xs) (hwt : Below wr.heap.size wr wt) (hg : wt.grownBy w2 v.ownBlock) :
    (∀ (k : Nat) (cur : Array Value) (t : TypeId) (fr : Nat × Nat), t ≠ e → wr.heap[k]? = some (.cells cur t fr) → w2.heap[k]? = some (.cells cur t fr)) ∧ Below w.heap.size w w2 := by
  refine ⟨fun k cur t fr ht hk => ?_, ?_⟩
  · have hl := lt_of_block hk
    rw [hg.block k (Nat.lt_of_lt_of_le hl hwt.size) (row_other hv ht hk), hwt.block k hl]
    exact hk
  · have h1 := hb.trans (below_le hwt hb.size)
    exact ⟨hg.os.trans h1.os, hg.tape.trans h1.tape, hg.output.trans h1.output, Nat.le_trans h1.size hg.size, fun i hi => by
      rw [hg.block i (Nat.lt_of_lt_of_le hi h1.size) (fun e => by have := (hv.lt i e.symm).1; omega)]
      exact h1.block i hi⟩
theorem owns_other {w w2 : World} {B : Nat} {e t' : TypeId} {v : Value} {n : Nat} {xs : List Value} (h : w.ownsRow B e 1 v n xs) (hk : ∀ (k : Nat) (cur : Array Value) (t : TypeId) (fr : Nat × Nat), t ≠ t' → w.heap[k]? = some (.cells cur t fr) → w2.heap[k]? = some (.cells cur t fr)) (he : e ≠ t') : w2.ownsRow B e 1 v n xs :=
  owns_same h fun g hg => by
    rcases h.2 with ⟨rfl, _⟩ | ⟨g', cap, c, rfl, _, hgg, _⟩
    · simp [Value.ownBlock] at hg
    · obtain rfl : g' = g := by simpa [Value.ownBlock] using hg
      rw [hgg]; exact hk _ _ _ _ he hgg
theorem owns_set {w : World} {B : Nat} {e : TypeId} {v : Value} {n : Nat} {xs : List Value} (h : w.ownsRow B e 1 v n xs) {o : Nat} {cs : Array Value} (ho : w.heap[o]? = some (.cells cs 55 (0, 0))) (he : (55 : TypeId) ≠ e) (ad : Addr) (had : ad.block = o) (u : Value) : (w.setCell ad u).ownsRow B e 1 v n xs :=
  owns_same h fun g hg => heap_setCell_other _ _ _ _ (fun e' => row_other h he ho (by rw [hg, e', had]))
theorem MkR.cells {w wr : World} {o : Nat} {vA vB vP : Value} {xa xb xp : List Value} (h : MkR w wr o vA vB vP xa xb xp) :
    wr.cell? ⟨o, 0, none⟩ = some vA ∧ wr.cell? ⟨o, 1, none⟩ = some vB ∧ wr.cell? ⟨o, 2, none⟩ = some vP ∧ wr.frozen? ⟨o, 0, none⟩ = false ∧ wr.frozen? ⟨o, 1, none⟩ = false ∧ wr.frozen? ⟨o, 2, none⟩ = false := by
  have := h.o
  simp [World.cell?, World.frozen?, this]
theorem cells_of {w2 : World} {o : Nat} {vA vB vP : Value} (h : w2.heap[o]? = some (.cells #[vA, vB, vP] 55 (0, 0))) :
    w2.cell? ⟨o, 0, none⟩ = some vA ∧ w2.cell? ⟨o, 1, none⟩ = some vB ∧ w2.cell? ⟨o, 2, none⟩ = some vP ∧ w2.frozen? ⟨o, 0, none⟩ = false ∧ w2.frozen? ⟨o, 1, none⟩ = false ∧ w2.frozen? ⟨o, 2, none⟩ = false := by
  simp [World.cell?, World.frozen?, h]

section
variable {w wr wt w2 : World} {o : Nat} {vA vB vP v' : Value} {xa xb xp : List Value} {v : Value}
/-- Behind an append to the first row, ahead of the store. -/
theorem MkR.mid_a (h : MkR w wr o vA vB vP xa xb xp) (hwt : Below wr.heap.size wr wt) (hg : wt.grownBy w2 vA.ownBlock) : w2.heap[o]? = some (.cells #[vA, vB, vP] 55 (0, 0)) :=
  (push_core h.below h.a hwt hg).1 _ _ _ _ (by decide) h.o
theorem MkR.mid_b (h : MkR w wr o vA vB vP xa xb xp) (hwt : Below wr.heap.size wr wt) (hg : wt.grownBy w2 vB.ownBlock) : w2.heap[o]? = some (.cells #[vA, vB, vP] 55 (0, 0)) :=
  (push_core h.below h.b hwt hg).1 _ _ _ _ (by decide) h.o
theorem MkR.mid_p (h : MkR w wr o vA vB vP xa xb xp) (hwt : Below wr.heap.size wr wt) (hg : wt.grownBy w2 vP.ownBlock) : w2.heap[o]? = some (.cells #[vA, vB, vP] 55 (0, 0)) :=
  (push_core h.below h.p hwt hg).1 _ _ _ _ (by decide) h.o
theorem MkR.push_a (h : MkR w wr o vA vB vP xa xb xp) (hwt : Below wr.heap.size wr wt) (hown : w2.ownsRow w.heap.size 32 1 v' (xa.length + 1) (xa ++ [v])) (hg : wt.grownBy w2 vA.ownBlock) :
    MkR w (w2.setCell ⟨o, 0, none⟩ v') o v' vB vP (xa ++ [v]) xb xp ∧ Keep5 wt (w2.setCell ⟨o, 0, none⟩ v') := by
  obtain ⟨hk, hb⟩ := push_core h.below h.a hwt hg
  have ho := h.mid_a hwt hg
  refine ⟨⟨hb.setCell h.lo _, h.lo, ?_, ?_, ?_, ?_⟩, fun k cur fr hk5 => ?_⟩
  · rw [heap_setCell_same _ _ _ _ _ _ ho]; rfl
  · rw [List.length_append, List.length_singleton]; exact owns_set hown ho (by decide) _ rfl _
  · exact owns_set (owns_other h.b hk (by decide)) ho (by decide) _ rfl _
  · exact owns_set (owns_other h.p hk (by decide)) ho (by decide) _ rfl _
  · have hv5 : wt.ownsRow w.heap.size 32 1 vA xa.length xa := owns_same h.a fun g hg => hwt.block g (h.a.lt g hg).2
    have h2 : w2.heap[k]? = some (.cells cur 5 fr) := (hg.block k (lt_of_block hk5) (row_other hv5 (by decide) hk5)).trans hk5
    rw [heap_setCell_other _ _ _ _ (fun e => by rw [e, ho] at h2; have := Option.some.inj h2; injection this with _ h3 _; revert h3; decide)]
    exact h2
theorem MkR.push_b (h : MkR w wr o vA vB vP xa xb xp) (hwt : Below wr.heap.size wr wt) (hown : w2.ownsRow w.heap.size 57 1 v' (xb.length + 1) (xb ++ [v])) (hg : wt.grownBy w2 vB.ownBlock) :
    MkR w (w2.setCell ⟨o, 1, none⟩ v') o vA v' vP xa (xb ++ [v]) xp ∧ Keep5 wt (w2.setCell ⟨o, 1, none⟩ v') := by
  obtain ⟨hk, hb⟩ := push_core h.below h.b hwt hg
  have ho := h.mid_b hwt hg
  refine ⟨⟨hb.setCell h.lo _, h.lo, ?_, ?_, ?_, ?_⟩, fun k cur fr hk5 => ?_⟩
  · rw [heap_setCell_same _ _ _ _ _ _ ho]; rfl
  · exact owns_set (owns_other h.a hk (by decide)) ho (by decide) _ rfl _
  · rw [List.length_append, List.length_singleton]; exact owns_set hown ho (by decide) _ rfl _
  · exact owns_set (owns_other h.p hk (by decide)) ho (by decide) _ rfl _
  · have hv5 : wt.ownsRow w.heap.size 57 1 vB xb.length xb := owns_same h.b fun g hg => hwt.block g (h.b.lt g hg).2
    have h2 : w2.heap[k]? = some (.cells cur 5 fr) := (hg.block k (lt_of_block hk5) (row_other hv5 (by decide) hk5)).trans hk5
    rw [heap_setCell_other _ _ _ _ (fun e => by rw [e, ho] at h2; have := Option.some.inj h2; injection this with _ h3 _; revert h3; decide)]
    exact h2
theorem MkR.push_p (h : MkR w wr o vA vB vP xa xb xp) (hwt : Below wr.heap.size wr wt) (hown : w2.ownsRow w.heap.size 3 1 v' (xp.length + 1) (xp ++ [v])) (hg : wt.grownBy w2 vP.ownBlock) :
    MkR w (w2.setCell ⟨o, 2, none⟩ v') o vA vB v' xa xb (xp ++ [v]) ∧ Keep5 wt (w2.setCell ⟨o, 2, none⟩ v') := by
  obtain ⟨hk, hb⟩ := push_core h.below h.p hwt hg
  have ho := h.mid_p hwt hg
  refine ⟨⟨hb.setCell h.lo _, h.lo, ?_, ?_, ?_, ?_⟩, fun k cur fr hk5 => ?_⟩
  · rw [heap_setCell_same _ _ _ _ _ _ ho]; rfl
  · exact owns_set (owns_other h.a hk (by decide)) ho (by decide) _ rfl _
  · exact owns_set (owns_other h.b hk (by decide)) ho (by decide) _ rfl _
  · rw [List.length_append, List.length_singleton]; exact owns_set hown ho (by decide) _ rfl _
  · have hv5 : wt.ownsRow w.heap.size 3 1 vP xp.length xp := owns_same h.p fun g hg => hwt.block g (h.p.lt g hg).2
    have h2 : w2.heap[k]? = some (.cells cur 5 fr) := (hg.block k (lt_of_block hk5) (row_other hv5 (by decide) hk5)).trans hk5
    rw [heap_setCell_other _ _ _ _ (fun e => by rw [e, ho] at h2; have := Option.some.inj h2; injection this with _ h3 _; revert h3; decide)]
    exact h2
end

/-- The new space while it is made: it holds L. -/
structure MkSt (w : World) (F : Nat → Prop) (M : List Pg) (f k : Nat) (A0 C0 : Nat → Nat) (o : Nat) (L : List Pg) (wr : World) : Prop where
  own : ∃ (A C : Nat → Nat) (vA vB vP : Value), MkR w wr o vA vB vP (atVals L) (bsVals A C L) (prVals L) ∧ (∀ p ∈ L, BsIn wr (fun x => F x ∨ w.heap.size ≤ x) A C p) ∧
    (∀ p ∈ M, A p.num = A0 p.num ∧ C p.num = C0 p.num) ∧ (∀ p ∈ L, p ∈ M ∨ (w.heap.size ≤ A p.num ∧ f ≤ p.num ∧ p.num < f + k)) ∧ (∀ p ∈ L, ∀ q ∈ L, A p.num = A q.num → p.num = q.num)
theorem atVals_snoc (L : List Pg) (p : Pg) : atVals (L ++ [p]) = atVals L ++ [.int .u64 ((p.num * 4096 : Nat) : Int)] := by simp [atVals]
theorem prVals_snoc (L : List Pg) (p : Pg) : prVals (L ++ [p]) = prVals L ++ [.int .i64 p.prot] := by simp [prVals]
theorem bsVals_snoc (A C : Nat → Nat) (L : List Pg) (p : Pg) : bsVals A C (L ++ [p]) = bsVals A C L ++ [bsVal A C p] := by simp [bsVals]
theorem bsVals_congr {A C A' C' : Nat → Nat} {L : List Pg} (h : ∀ p ∈ L, A p.num = A' p.num ∧ C p.num = C' p.num) : bsVals A C L = bsVals A' C' L :=
  List.map_congr_left fun p hp => by unfold bsVal; rw [(h p hp).1, (h p hp).2]
theorem BsIn.keep5 {w w' : World} {F : Nat → Prop} {A C : Nat → Nat} {p : Pg} (h : BsIn w F A C p) (hk : Keep5 w w') : BsIn w' F A C p := by
  obtain ⟨h1, cur, h2, h3⟩ := h
  exact ⟨h1, cur, hk _ _ _ h2, h3⟩
theorem BsIn.congr {w : World} {F : Nat → Prop} {A C A' C' : Nat → Nat} {p : Pg} (h : BsIn w F A C p) (hA : A p.num = A' p.num) (hC : C p.num = C' p.num) : BsIn w F A' C' p := by
  obtain ⟨h1, cur, h2, h3⟩ := h
  rw [hA] at h1 h2
  rw [hC] at h3
  exact ⟨h1, cur, h2, h3⟩

/-- A new page behind the others. -/
theorem MkSt.snoc_new {w wr w3 : World} {F : Nat → Prop} {M : List Pg} {f k : Nat} {A0 C0 : Nat → Nat} {o : Nat} {L : List Pg} {A C : Nat → Nat} {vA vB vP vA' vB' vP' : Value} (_hlt : ∀ p ∈ M, A0 p.num < w.heap.size)
    (h : MkR w wr o vA vB vP (atVals L) (bsVals A C L) (prVals L)) (h2 : ∀ p ∈ L, BsIn wr (fun x => F x ∨ w.heap.size ≤ x) A C p)
    (h3 : ∀ p ∈ M, A p.num = A0 p.num ∧ C p.num = C0 p.num) (h4 : ∀ p ∈ L, p ∈ M ∨ (w.heap.size ≤ A p.num ∧ f ≤ p.num ∧ p.num < f + k)) (h5 : ∀ p ∈ L, ∀ q ∈ L, A p.num = A q.num → p.num = q.num)
    {q : Nat} {prot : Int} {blk : Nat} (hqL : ∀ p ∈ L, p.num ≠ q) (hqM : ∀ p ∈ M, p.num ≠ q) (hq : f ≤ q ∧ q < f + k) (hblk : wr.heap.size ≤ blk) (hnew : w3.heap[blk]? = some (.cells pageCells 5 (0, 0))) (hk : Keep5 wr w3)
    (hr : MkR w w3 o vA' vB' vP' (atVals L ++ [.int .u64 ((q * 4096 : Nat) : Int)]) (bsVals A C L ++ [.slice (some ⟨blk, 0, none⟩) 4096 4096]) (prVals L ++ [.int .i64 prot])) : MkSt w F M f k A0 C0 o (L ++ [⟨q, prot, noughts⟩]) w3 := by
  obtain ⟨A', hA'⟩ : ∃ A' : Nat → Nat, A' = fun x => if x = q then blk else A x := ⟨_, rfl⟩
  obtain ⟨C', hC'⟩ : ∃ C' : Nat → Nat, C' = fun x => if x = q then 4096 else C x := ⟨_, rfl⟩
  have a1 : A' q = blk := by rw [hA']; exact if_pos rfl
  have c1 : C' q = 4096 := by rw [hC']; exact if_pos rfl
  have a2 : ∀ p : Pg, p.num ≠ q → A' p.num = A p.num := fun p hp => by rw [hA']; exact if_neg hp
  have c2 : ∀ p : Pg, p.num ≠ q → C' p.num = C p.num := fun p hp => by rw [hC']; exact if_neg hp
  clear hA' hC'
  have hwb := h.below.size
  have hAL : ∀ p ∈ L, A p.num < wr.heap.size := fun p hp => (h2 p hp).lt
  refine ⟨A', C', vA', vB', vP', ?_, fun p hp => ?_, fun p hp => ?_, fun p hp => ?_, fun p hp p' hp' e => ?_⟩
  · rw [atVals_snoc, bsVals_snoc, prVals_snoc, bsVals_congr (A' := A) (C' := C) (fun p hp => ⟨a2 p (hqL p hp), c2 p (hqL p hp)⟩)]
    have : bsVal A' C' ⟨q, prot, noughts⟩ = .slice (some ⟨blk, 0, none⟩) 4096 4096 := by unfold bsVal; rw [a1, c1]
    rw [this]
    exact hr
  · rcases List.mem_append.1 hp with hp | hp
    · exact ((h2 p hp).keep5 hk).congr (a2 p (hqL p hp)).symm (c2 p (hqL p hp)).symm
    · obtain rfl := List.mem_singleton.1 hp
      have hl : (bvs noughts).length ≤ 4096 := by unfold bvs noughts; rw [List.length_map, List.length_replicate]; exact Nat.le_refl _
      exact ⟨by rw [a1]; exact .inr (by omega), pageCells, by rw [a1]; exact hnew, by rw [c1]; exact pageCells_size, by rw [c1]; exact Nat.le_refl _, by rw [c1]; unfold maxLen; omega, by
        rw [pageCells_list]; exact List.take_of_length_le hl⟩
  · rw [a2 p (hqM p hp), c2 p (hqM p hp)]; exact h3 p hp
  · rcases List.mem_append.1 hp with hp | hp
    · rw [a2 p (hqL p hp)]; exact h4 p hp
    · obtain rfl := List.mem_singleton.1 hp
      right
      rw [a1]
      exact ⟨by omega, hq⟩
  · rcases List.mem_append.1 hp with hp | hp <;> rcases List.mem_append.1 hp' with hp' | hp'
    · rw [a2 p (hqL p hp), a2 p' (hqL p' hp')] at e; exact h5 p hp p' hp' e
    · obtain rfl := List.mem_singleton.1 hp'
      rw [a2 p (hqL p hp), a1] at e
      have := hAL p hp; omega
    · obtain rfl := List.mem_singleton.1 hp
      rw [a2 p' (hqL p' hp'), a1] at e
      have := hAL p' hp'; omega
    · rw [List.mem_singleton.1 hp, List.mem_singleton.1 hp']
/-- A page of the old space behind the others. -/
theorem MkSt.snoc_old {w wr w3 : World} {F : Nat → Prop} {M : List Pg} {f k : Nat} {A0 C0 : Nat → Nat} {o : Nat} {L : List Pg} {A C : Nat → Nat} {vA vB vP vA' vB' vP' : Value} (hlt : ∀ p ∈ M, A0 p.num < w.heap.size) (hap : ∀ p ∈ M, ∀ q ∈ M, A0 p.num = A0 q.num → p.num = q.num)
    (hpg : ∀ p ∈ M, BsIn w F A0 C0 p)
    (h : MkR w wr o vA vB vP (atVals L) (bsVals A C L) (prVals L)) (h2 : ∀ p ∈ L, BsIn wr (fun x => F x ∨ w.heap.size ≤ x) A C p)
    (h3 : ∀ p ∈ M, A p.num = A0 p.num ∧ C p.num = C0 p.num) (h4 : ∀ p ∈ L, p ∈ M ∨ (w.heap.size ≤ A p.num ∧ f ≤ p.num ∧ p.num < f + k)) (h5 : ∀ p ∈ L, ∀ q ∈ L, A p.num = A q.num → p.num = q.num)
    {p0 : Pg} (hp0 : p0 ∈ M) (hk : Keep5 wr w3)
    (hr : MkR w w3 o vA' vB' vP' (atVals L ++ [.int .u64 ((p0.num * 4096 : Nat) : Int)]) (bsVals A C L ++ [bsVal A0 C0 p0]) (prVals L ++ [.int .i64 p0.prot])) : MkSt w F M f k A0 C0 o (L ++ [p0]) w3 := by
  have hk0 : Keep5 w w3 := (Keep5.of_below h.below).trans hk
  refine ⟨A, C, vA', vB', vP', ?_, fun p hp => ?_, h3, fun p hp => ?_, fun p hp p' hp' e => ?_⟩
  · rw [atVals_snoc, bsVals_snoc, prVals_snoc]
    have : bsVal A C p0 = bsVal A0 C0 p0 := by unfold bsVal; rw [(h3 p0 hp0).1, (h3 p0 hp0).2]
    rw [this]; exact hr
  · rcases List.mem_append.1 hp with hp | hp
    · exact (h2 p hp).keep5 hk
    · obtain rfl := List.mem_singleton.1 hp
      exact (((hpg p hp0).keep5 hk0).mono (fun k hk => .inl hk)).congr (h3 p hp0).1.symm (h3 p hp0).2.symm
  · rcases List.mem_append.1 hp with hp | hp
    · exact h4 p hp
    · obtain rfl := List.mem_singleton.1 hp
      exact .inl hp0
  · have hc : ∀ p ∈ L ++ [p0], p ∈ M ∨ (w.heap.size ≤ A p.num ∧ p ∈ L) := fun p hp => by
      rcases List.mem_append.1 hp with hp | hp
      · rcases h4 p hp with h | h
        · exact .inl h
        · exact .inr ⟨h.1, hp⟩
      · obtain rfl := List.mem_singleton.1 hp
        exact .inl hp0
    rcases hc p hp with hm | ⟨hm, hl⟩ <;> rcases hc p' hp' with hm' | ⟨hm', hl'⟩
    · rw [(h3 p hm).1, (h3 p' hm').1] at e; exact hap p hm p' hm' e
    · rw [(h3 p hm).1] at e; have := hlt p hm; omega
    · rw [(h3 p' hm').1] at e; have := hlt p' hm'; omega
    · exact h5 p hl p' hl' e
end Go.Proofs.Ytepnaalgobhcdaa
namespace Go.Proofs.Ytepnaalgobhcdaa
open Go.RowKit Spm

def PutOk (M : List Pg) (f k : Nat) (prot : Int) (i : Nat) (put : Bool) (L : List Pg) : Prop :=
  (put = false ∧ i ≤ M.length ∧ L = M.take i ∧ ∀ p ∈ M.take i, p.num < f) ∨
  (put = true ∧ ∃ i0, i0 ≤ i ∧ i0 ≤ M.length ∧ L = M.take i0 ++ newPages f k prot ++ (M.drop i0).take (i - i0) ∧ (∀ p ∈ M.take i0, p.num < f) ∧ ∀ p ∈ M.drop i0, f ≤ p.num)
section
variable {M : List Pg} {f k : Nat} {prot : Int} {i : Nat} {L : List Pg}
theorem PutOk.start : PutOk M f k prot 0 false [] := .inl ⟨rfl, Nat.zero_le _, by simp, by simp⟩
theorem PutOk.old {put : Bool} {p : Pg} (h : PutOk M f k prot i put L) (hp : M[i]? = some p) (hf : put = false → p.num < f) : PutOk M f k prot (i + 1) put (L ++ [p]) := by
  have hl := (List.getElem?_eq_some_iff.1 hp).1
  rcases h with ⟨rfl, h1, h2, h3⟩ | ⟨rfl, i0, h1, h2, h3, h4, h5⟩
  · refine .inl ⟨rfl, by omega, by rw [List.take_add_one, hp, h2]; rfl, fun q hq => ?_⟩
    rw [List.take_add_one, hp] at hq
    rcases List.mem_append.1 hq with hq | hq
    · exact h3 q hq
    · obtain rfl : q = p := by simpa using hq
      exact hf rfl
  · refine .inr ⟨rfl, i0, by omega, h2, ?_, h4, h5⟩
    have e : (M.drop i0)[i - i0]? = some p := by rw [List.getElem?_drop, show i0 + (i - i0) = i by omega, hp]
    rw [show i + 1 - i0 = (i - i0) + 1 by omega, List.take_add_one, e, h3]
    simp
theorem PutOk.last (h : PutOk M f k prot M.length true L) : PutOk M f k prot (M.length + 1) true L := by
  rcases h with ⟨h, _⟩ | ⟨_, i0, h1, h2, h3, h4, h5⟩
  · cases h
  · refine .inr ⟨rfl, i0, by omega, h2, ?_, h4, h5⟩
    rw [h3, List.take_of_length_le (l := M.drop i0) (i := M.length - i0) (by simp), List.take_of_length_le (l := M.drop i0) (i := M.length + 1 - i0) (by simp; omega)]
theorem PutOk.put (hM : Ok M) (h : PutOk M f k prot i false L) (hi : i = M.length ∨ ∃ p, M[i]? = some p ∧ f ≤ p.num) : PutOk M f k prot i true (L ++ newPages f k prot) := by
  rcases h with ⟨_, h1, h2, h3⟩ | ⟨h, _⟩
  · refine .inr ⟨rfl, i, Nat.le_refl _, h1, by rw [h2]; simp, h3, fun q hq => ?_⟩
    rcases hi with rfl | ⟨p, hp, hfp⟩
    · simp at hq
    · obtain ⟨j, hj⟩ := List.getElem?_of_mem hq
      rw [List.getElem?_drop] at hj
      obtain ⟨hl, hg⟩ := List.getElem?_eq_some_iff.1 hp
      obtain ⟨hl2, hg2⟩ := List.getElem?_eq_some_iff.1 hj
      by_cases e : j = 0
      · subst e
        rw [Nat.add_zero, hp] at hj
        cases hj; exact hfp
      · have := List.pairwise_iff_getElem.1 hM.sorted i (i + j) hl hl2 (by omega)
        rw [hg, hg2] at this
        omega
  · cases h
theorem filter_lt {A B : List Pg} (hA : ∀ p ∈ A, p.num < f) (hB : ∀ p ∈ B, f ≤ p.num) : (A ++ B).filter (fun p => decide (p.num < f)) = A ∧ (A ++ B).filter (fun p => decide (f ≤ p.num)) = B := by
  constructor
  · rw [List.filter_append, List.filter_eq_self.2 (fun p hp => by simpa using hA p hp), List.filter_eq_nil_iff.2 (fun p hp => by have := hB p hp; simp; omega), List.append_nil]
  · rw [List.filter_append, List.filter_eq_nil_iff.2 (fun p hp => by have := hA p hp; simp; omega), List.filter_eq_self.2 (fun p hp => by simpa using hB p hp), List.nil_append]
theorem PutOk.done {put : Bool} (h : PutOk M f k prot (M.length + 1) put L) : L = mapIn M f k prot := by
  rcases h with ⟨_, h1, _⟩ | ⟨_, i0, h1, h2, h3, h4, h5⟩
  · omega
  · obtain ⟨e1, e2⟩ := filter_lt h4 h5
    rw [List.take_append_drop] at e1 e2
    unfold mapIn
    rw [h3, e1, e2, List.take_of_length_le (l := M.drop i0) (i := M.length + 1 - i0) (by simp; omega)]
theorem PutOk.lens {put : Bool} (h : PutOk M f k prot i put L) : L.length ≤ M.length + k := by
  rcases h with ⟨_, h1, h2, h3⟩ | ⟨_, i0, h1, h2, h3, h4, h5⟩
  · rw [h2, List.length_take]; omega
  · rw [h3]
    simp only [List.length_append, List.length_take, List.length_drop, newPages, List.length_map, List.length_range]
    omega
/-- The number of a page that is still to come stands nowhere yet. -/
theorem PutOk.fresh (hc : Clear M f k) (h : PutOk M f k prot i false L) {j : Nat} (hj : j < k) : ∀ p ∈ L ++ newPages f j prot, p.num ≠ f + j := fun p hp e => by
  rcases h with ⟨_, h1, h2, h3⟩ | ⟨h, _⟩
  · rcases List.mem_append.1 hp with hp | hp
    · rw [h2] at hp
      exact hc p (List.mem_of_mem_take hp) ⟨by omega, by omega⟩
    · have := (newPages_num hp).2.1; omega
  · cases h
end
/-- The new pages' addresses and bytes, of which j are laid. -/
theorem MkSt.start {w wr : World} {F : Nat → Prop} {M : List Pg} {f k : Nat} {A0 C0 : Nat → Nat} {o : Nat} (hb : Below w.heap.size w wr) (ho : w.heap.size ≤ o) (h : wr.heap[o]? = some (.cells #[.slice none 0 0, .slice none 0 0, .slice none 0 0] 55 (0, 0))) : MkSt w F M f k A0 C0 o [] wr :=
  ⟨A0, C0, _, _, _, ⟨hb, ho, h, World.ownsRow_nil _ _ _ _, World.ownsRow_nil _ _ _ _, World.ownsRow_nil _ _ _ _⟩, fun _ h => absurd h List.not_mem_nil, fun _ _ => ⟨rfl, rfl⟩, fun _ h => absurd h List.not_mem_nil, fun _ h => absurd h List.not_mem_nil⟩
/-- The new space stored over the old one. -/
theorem MkSt.done {w wr w3 : World} {F : Nat → Prop} {_M : List Pg} {_f _k : Nat} {_A0 _C0 : Nat → Nat} {o b : Nat} {L : List Pg} {A C : Nat → Nat} {vA vB vP : Value} (hF : ∀ k, F k → k < w.heap.size) (hb : F b) (hok : Ok L)
    (h : MkR w wr o vA vB vP (atVals L) (bsVals A C L) (prVals L)) (h2 : ∀ p ∈ L, BsIn wr (fun x => F x ∨ w.heap.size ≤ x) A C p) (h5 : ∀ p ∈ L, ∀ q ∈ L, A p.num = A q.num → p.num = q.num)
    {old : Array Value} (hold : wr.heap[b]? = some (.cells old 55 (0, 0))) (hnew : w3.heap[b]? = some (.cells #[vA, vB, vP] 55 (0, 0))) (hg : wr.grownBy w3 (some b)) (hs : w3.heap.size = wr.heap.size) : RfIn w3 b L (grow F w w3) ∧ Chg F w w3 := by
  have hsz := h.below.size
  have hrow : ∀ {e : TypeId} {v : Value} {xs : List Value}, wr.ownsRow w.heap.size e 1 v xs.length xs → xs.length = L.length → ∃ a c, v = .slice a L.length c ∧ RfRow w3 (grow F w w3) e a L.length c xs := fun {e v xs} hv hl => by
    obtain ⟨a, c, rfl⟩ := ownsRow_shape hv
    refine ⟨a, c, by rw [hl], owns_same (w := wr) (base := 0) ?_ fun g hgg => ?_, fun x hx => ?_⟩
    · rw [← hl]
      refine ⟨hv.1, ?_⟩
      rcases hv.2 with hn | ⟨g, cap, cur, h1, h2, h3⟩
      · exact .inl hn
      · exact .inr ⟨g, cap, cur, h1, Nat.zero_le _, h3⟩
    · refine hg.block g ?_ (fun e' => ?_)
      · refine (hv.lt g ?_).2
        rw [← hgg]; cases a <;> rfl
      · have hgb : w.heap.size ≤ g := (hv.lt g (by rw [← hgg]; cases a <;> rfl)).1
        cases e'
        have := hF _ hb; omega
    · subst hx
      have hgb := hv.lt x.block rfl
      exact .inr ⟨hgb.1, by omega⟩
  have la : (atVals L).length = L.length := by simp [atVals]
  have lb : (bsVals A C L).length = L.length := by simp [bsVals]
  have lp : (prVals L).length = L.length := by simp [prVals]
  obtain ⟨aA, cA, eA, rA⟩ := hrow h.a la
  obtain ⟨aB, cB, eB, rB⟩ := hrow h.b lb
  obtain ⟨aP, cP, eP, rP⟩ := hrow h.p lp
  subst eA eB eP
  have hsub : ∀ x, F x ∨ w.heap.size ≤ x → x < wr.heap.size → grow F w w3 x := fun x hx hl => by
    rcases hx with hx | hx
    · exact .inl hx
    · exact .inr ⟨hx, by omega⟩
  refine ⟨⟨hok, ⟨aA, cA, aB, cB, aP, cP, A, C, hnew, rA, rB, rP, fun p hp => ?_, h5⟩, .inl hb, fun x hx => ?_⟩, ?_⟩
  · have hp2 := h2 p hp
    have hl := hp2.lt
    have hbl := hp2.block
    obtain ⟨cur, c1, c2⟩ := hbl
    refine ⟨hsub _ hp2.inF hl, cur, ?_, c2⟩
    rw [hg.block _ hl (fun e => by
      have e' : A p.num = b := by simpa using e
      rw [e', hold] at c1
      have := Option.some.inj c1
      injection this with _ h3 _
      revert h3; decide)]
    exact c1
  · rcases hx with hx | hx
    · have := hF x hx; omega
    · exact hx.2
  · refine ⟨hg.os.trans h.below.os, hg.tape.trans h.below.tape, hg.output.trans h.below.output, by omega, fun x hx hn => ?_⟩
    rw [hg.block x (by omega) (fun e => hn (by cases e; exact hb))]
    exact h.below.block x hx
/-- The three appends of a new page, put together. -/
theorem MkSt.new_all {w wr wt1 w2 wc wt3 w7 : World} {F : Nat → Prop} {M : List Pg} {f k j : Nat} {A0 C0 : Nat → Nat} {o : Nat} {L : List Pg} {A C : Nat → Nat} {vA vB vP vA' vB' vP' : Value} {prot : Int} {blk : Nat} {pc : Array Value} (hlt : ∀ p ∈ M, A0 p.num < w.heap.size)
    (h : MkR w wr o vA vB vP (atVals L) (bsVals A C L) (prVals L)) (h2 : ∀ p ∈ L, BsIn wr (fun x => F x ∨ w.heap.size ≤ x) A C p)
    (h3 : ∀ p ∈ M, A p.num = A0 p.num ∧ C p.num = C0 p.num) (h4 : ∀ p ∈ L, p ∈ M ∨ (w.heap.size ≤ A p.num ∧ f ≤ p.num ∧ p.num < f + k)) (h5 : ∀ p ∈ L, ∀ q ∈ L, A p.num = A q.num → p.num = q.num)
    (hj : j < k) (hqL : ∀ p ∈ L, p.num ≠ f + j) (hcl : Clear M f k) (t1 : Below wr.heap.size wr wt1) (p1 : Keep5 wt1 w2) (hsz : wr.heap.size ≤ w2.heap.size) (p2 : Keep5 w2 wc) (hblk : w2.heap.size ≤ blk)
    (hn : wc.heap[blk]? = some (.cells pc 5 (0, 0))) (hpc : pc = pageCells) (t3 : Below wc.heap.size wc wt3) (p3 : Keep5 wt3 w7)
    (hr : MkR w w7 o vA' vB' vP' (atVals L ++ [.int .u64 ((f : Int) * 4096 + (j : Int) * 4096)]) (bsVals A C L ++ [.slice (some ⟨blk, 0, none⟩) 4096 4096]) (prVals L ++ [.int .i64 prot])) : MkSt w F M f k A0 C0 o (L ++ [⟨f + j, prot, noughts⟩]) w7 := by
  subst hpc
  have k3 : Keep5 wc w7 := (Keep5.of_below t3).trans p3
  rw [show ((f : Int) * 4096 + (j : Int) * 4096) = (((f + j) * 4096 : Nat) : Int) by omega] at hr
  exact MkSt.snoc_new hlt h h2 h3 h4 h5 hqL (fun p hp e => hcl p hp (by omega)) (by omega) (Nat.le_trans hsz hblk) (k3 _ _ _ hn) ((((Keep5.of_below t1).trans p1).trans p2).trans k3) hr
/-- The three appends of an old page, put together. -/
theorem MkSt.old_all {w wr wt1 w2 wt2 wc wt3 w7 : World} {F : Nat → Prop} {M : List Pg} {f k : Nat} {A0 C0 : Nat → Nat} {o : Nat} {L : List Pg} {A C : Nat → Nat} {vA vB vP vA' vB' vP' : Value} {aA : Option Addr} {cA : Nat} {aB : Option Addr} {cB : Nat} {aP : Option Addr} {cP : Nat} {R : Nat → Prop} (hp : RfPages w R F M aA cA aB cB aP cP A0 C0)
    (h : MkR w wr o vA vB vP (atVals L) (bsVals A C L) (prVals L)) (h2 : ∀ p ∈ L, BsIn wr (fun x => F x ∨ w.heap.size ≤ x) A C p)
    (h3 : ∀ p ∈ M, A p.num = A0 p.num ∧ C p.num = C0 p.num) (h4 : ∀ p ∈ L, p ∈ M ∨ (w.heap.size ≤ A p.num ∧ f ≤ p.num ∧ p.num < f + k)) (h5 : ∀ p ∈ L, ∀ q ∈ L, A p.num = A q.num → p.num = q.num)
    {p0 : Pg} (hp0 : p0 ∈ M) (t1 : Below wr.heap.size wr wt1) (p1 : Keep5 wt1 w2) (t2 : Below w2.heap.size w2 wt2) (p2 : Keep5 wt2 wc) (t3 : Below wc.heap.size wc wt3) (p3 : Keep5 wt3 w7)
    (hr : MkR w w7 o vA' vB' vP' (atVals L ++ [.int .u64 ((p0.num * 4096 : Nat) : Int)]) (bsVals A C L ++ [bsVal A0 C0 p0]) (prVals L ++ [.int .i64 p0.prot])) : MkSt w F M f k A0 C0 o (L ++ [p0]) w7 :=
  MkSt.snoc_old (fun p hp' => (hp.page p hp').lt) hp.apart hp.page h h2 h3 h4 h5 hp0 ((((Keep5.of_below t1).trans p1).trans ((Keep5.of_below t2).trans p2)).trans ((Keep5.of_below t3).trans p3)) hr
end Go.Proofs.Ytepnaalgobhcdaa
namespace Go.Proofs.Ytepnaalgobhcdaa
open Go.RowKit Spm

theorem info32 : (Try.prog.info? 32).map (fun i => (i.zero, i.size, i.bytes)) = some (some (.int .u64 0), 1, 8) := by kernel_rfl
theorem info57 : (Try.prog.info? 57).map (fun i => (i.zero, i.size, i.bytes)) = some (some (.slice none 0 0), 1, 24) := by kernel_rfl
theorem size55 : (Try.prog.info? 55).map (·.size) = some 3 := by kernel_rfl
def RMapRes (w : World) (b : Nat) (M : List Pg) (F : Nat → Prop) (a n : Nat) (prot : Int) (e : Ending) (w' : World) : Prop :=
  e = .returned (.int .i64 (mapErr M a n prot)) ∧ RfIn w' b (mapM M a n prot) (grow F w w') ∧ Chg F w w'

set_option maxHeartbeats 4000000 in
set_option maxRecDepth 100000 in
theorem rmap_good (w : World) (b : Nat) (M : List Pg) (F : Nat → Prop) (h : RfIn w b M F) (f k : Nat) (prot : Int) (he : mapErr M (f * 4096) (k * 4096) prot = 0) :
    Calls Try.prog 66 #[.pointer (some ⟨b, 0, none⟩), .int .u64 ((f : Int) * 4096), .int .u64 ((k : Int) * 4096), .int .i64 prot] w (RMapRes w b M F (f * 4096) (k * 4096) prot) := by
  have hmm : mapM M (f * 4096) (k * 4096) prot = mapIn M f k prot := by
    unfold mapM; rw [if_pos he]; unfold fst; rw [Nat.mul_div_cancel _ (by decide), Nat.mul_div_cancel _ (by decide)]
  have hokM := mapM_ok h.ok (f * 4096) (k * 4096) prot
  rw [hmm] at hokM
  have hfew := h.ok.few
  unfold mapErr at he
  by_cases h1 : badArg (f * 4096) (k * 4096) prot = true
  · rw [if_pos h1] at he; cases he
  rw [if_neg h1] at he
  by_cases h2 : inB (f * 4096) (k * 4096) = false
  · rw [if_pos h2] at he; cases he
  rw [if_neg h2] at he
  by_cases h3 : freeB M (f * 4096) (k * 4096) = false
  · rw [if_pos h3] at he; cases he
  rw [if_neg h3] at he
  by_cases h4 : 8192 - M.length < k * 4096 / 4096
  · rw [if_pos h4] at he; cases he
  have h2' : inB (f * 4096) (k * 4096) = true := by simpa using h2
  have h3' : freeB M (f * 4096) (k * 4096) = true := by simpa using h3
  have hbad : 0 < k ∧ 1 ≤ prot ∧ prot ≤ 7 := by simp [badArg] at h1; omega
  have hsum : f * 4096 + k * 4096 ≤ 140737488355328 := by simp [inB] at h2; omega
  have hclear := Clear.of_free h3' (by omega) (by omega) (by omega)
  have e1 : fst (f * 4096) = f := by unfold fst; omega
  have e2 : k * 4096 / 4096 = k := by omega
  rw [e1, e2] at hclear
  obtain ⟨hk0, hp1, hp7⟩ := hbad
  have hkm : M.length + k ≤ 8192 := by omega
  have HI1 : Hid (Calls Try.prog 87 #[.int .u64 ((f : Int) * 4096), .int .u64 ((k : Int) * 4096)] w fun e w' => e = .returned (.bool true) ∧ w = w') := by
    have := rin_any w (f * 4096) (k * 4096) (by omega); rw [h2'] at this
    rw [show ((f * 4096 : Nat) : Int) = (f : Int) * 4096 by omega, show ((k * 4096 : Nat) : Int) = (k : Int) * 4096 by omega] at this
    exact this
  have HFR : Hid (Calls Try.prog 72 #[.pointer (some ⟨b, 0, none⟩), .int .u64 ((f : Int) * 4096), .int .u64 ((k : Int) * 4096)] w fun e w' => e = .returned (.bool true) ∧ w = w') := by
    have := rfree_any w b M F h (f * 4096) (k * 4096) (by omega); rw [h3'] at this
    rw [show ((f * 4096 : Nat) : Int) = (f : Int) * 4096 by omega, show ((k * 4096 : Nat) : Int) = (k : Int) * 4096 by omega] at this
    exact this
  have b1 : ((f : Int) * 4096 % 4096 != 0) = false := by rw [bne_eq_false_iff_eq]; omega
  have b2 : ((k : Int) * 4096 % 4096 != 0) = false := by rw [bne_eq_false_iff_eq]; omega
  have b3 : ((k : Int) * 4096 == 0) = false := by rw [beq_eq_false_iff_ne]; omega
  have b4 : ¬ prot < 1 := by omega
  have b5 : ¬ 7 < prot := by omega
  have b6 : (k : Int) * 4096 / 4096 = (k : Int) := by omega
  have b7 : ¬ (8192 : Int) - (M.length : Int) < (k : Int) := by omega
  have hRes : ∀ w', RfIn w' b (mapIn M f k prot) (grow F w w') → Chg F w w' → RMapRes w b M F (f * 4096) (k * 4096) prot (.returned (.int .i64 0)) w' := fun w' g1 g2 => by
    refine ⟨?_, by rw [hmm]; exact g1, g2⟩
    unfold mapErr
    rw [if_neg h1, if_neg h2, if_neg h3, if_neg h4]
  have HRES := Lib.hid hRes
  obtain ⟨hok, ⟨aA, cA, aB, cB, aP, cP, A0, C0, hb, hp⟩, hFb, hFl⟩ := h
  have HOK := Lib.hid hok
  have HOKM := Lib.hid hokM
  have HCL := Lib.hid hclear
  have HP := Lib.hid hp
  have HB := Lib.hid hb
  have HFL := Lib.hid hFl
  have HLT : Hid (∀ p ∈ M, A0 p.num < w.heap.size) := fun p hp' => (hp.page p hp').lt
  have hbl := lt_of_block hb
  have cb0 : w.cell? ⟨b, 0, none⟩ = some (.slice aA M.length cA) := by simp [World.cell?, hb, rfCells]
  have hcapA := hp.ats.cap
  clear h1 h2 h3 h4 h2' h3' he hclear e1 e2 hmm hRes hok hokM hb hp hFl
  go_enter Try.func66, Try.ntmps66
  go_wp2_with (first
    | (go_at_call 87; refine HI1.out.mono ?_; rintro e _ ⟨rfl, rfl⟩)
    | (go_at_call 72; refine HFR.out.mono ?_; rintro e _ ⟨rfl, rfl⟩))
  clear HI1 HFR b1 b2 b3 b4 b5 b6 b7
  have HS0 : Hid (MkSt w F M f k A0 C0 w.heap.size [] (w.alloc (.cells #[.slice none 0 0, .slice none 0 0, .slice none 0 0] 55))) := MkSt.start ((Below.refl _ w).alloc (Nat.le_refl _) _) (Nat.le_refl _) (hp_new _ _ _ rfl)
  obtain ⟨i32, hi32, hz32, hs32, hy32⟩ := info_parts info32
  obtain ⟨i57, hi57, hz57, hs57, hy57⟩ := info_parts info57
  obtain ⟨i3, hi3, hz3, hs3, hy3⟩ := info_parts Try.info3
  obtain ⟨pc, hmk, hpc⟩ : ∃ pc : Array Value, (∀ W : World, (Instr.makeSlice 57 (.int .i64 4096) (.int .i64 4096)).run Try.prog W = .ok (.slice (some ⟨W.heap.size, 0, none⟩) 4096 4096) (W.alloc (.cells pc 5))) ∧ pc = pageCells := ⟨_, make_page, rfl⟩
  have HPC := Lib.hid hpc
  clear hpc
  go_loopw [10, 11] (fun tp ti wr => ∃ (i : Nat) (put : Bool) (L : List Pg), i ≤ M.length + 1 ∧ ti = .int .i64 i ∧ tp = .bool put ∧ Hid (PutOk M f k prot i put L) ∧ Hid (MkSt w F M f k A0 C0 w.heap.size L wr)) (fun _ ti _ => M.length + 1 - (intOf ti).toNat)
  case atStart => exact ⟨0, false, [], Nat.zero_le _, rfl, rfl, PutOk.start, HS0.out⟩
  case round =>
    obtain ⟨i, put, L, hi, rfl, rfl, HPO, HST⟩ := hrel
    obtain ⟨A, C, vA, vB, vP, hr, g2, g3, g4, g5⟩ := HST.out.own
    have HBEL := Lib.hid hr.below
    have cb := cell_keep cb0 HBEL.out
    have hll := HPO.out.lens
    clear hr g2 g3 g4 g5
    by_cases hlast : i < M.length + 1
    · cases put with
      | false =>
        by_cases hlt : i < M.length
        · obtain ⟨ga, rfl, _, hga⟩ := HP.out.ats.get (by omega)
          obtain ⟨gb, rfl, _, hgb⟩ := HP.out.bys.get (by omega)
          obtain ⟨gp, rfl, _, hgp⟩ := HP.out.prs.get (by omega)
          obtain ⟨p, hpi⟩ : ∃ p, M[i]? = some p := ⟨M[i], List.getElem?_eq_getElem hlt⟩
          have HPM := Lib.hid (List.mem_of_getElem? hpi)
          have HPI := Lib.hid hpi
          have hpb := (HOK.out.pages p HPM.out).1
          obtain ⟨at_, hat⟩ : ∃ at_, at_ = p.num * 4096 := ⟨_, rfl⟩
          obtain ⟨pp, hpp⟩ : ∃ pp, pp = p.prot := ⟨_, rfl⟩
          obtain ⟨ab, ac, hab⟩ : ∃ ab ac, bsVal A0 C0 p = .slice (some ⟨ab, 0, none⟩) 4096 ac := ⟨_, _, rfl⟩
          have sga : w.cell? ⟨ga, i, none⟩ = some (.int .u64 (at_ : Int)) := hga i _ (by unfold atVals; rw [List.getElem?_map, hpi, hat]; rfl)
          have sgb : w.cell? ⟨gb, i, none⟩ = some (.slice (some ⟨ab, 0, none⟩) 4096 ac) := hgb i _ (by unfold bsVals; rw [List.getElem?_map, hpi, ← hab]; rfl)
          have sgp : w.cell? ⟨gp, i, none⟩ = some (.int .i64 pp) := hgp i _ (by unfold prVals; rw [List.getElem?_map, hpi, hpp]; rfl)
          have sb0 : w.cell? ⟨b, 0, none⟩ = some (.slice (some ⟨ga, 0, none⟩) M.length cA) := by simp [World.cell?, HB.out, rfCells]
          have sb1 : w.cell? ⟨b, 1, none⟩ = some (.slice (some ⟨gb, 0, none⟩) M.length cB) := by simp [World.cell?, HB.out, rfCells]
          have sb2 : w.cell? ⟨b, 2, none⟩ = some (.slice (some ⟨gp, 0, none⟩) M.length cP) := by simp [World.cell?, HB.out, rfCells]
          have hcapB := HP.out.bys.cap
          have hcapP := HP.out.prs.cap
          have HAT := Lib.hid hat
          have HPP := Lib.hid hpp
          have HAB := Lib.hid hab
          have hatb : at_ < 140737488355328 := by omega
          have z0 : (0 : Int) ≤ (i : Int) := by omega
          have z1 : (i : Int) < (M.length : Int) := by omega
          have z2 : ((i : Int) == (M.length : Int)) = false := by rw [beq_eq_false_iff_ne]; omega
          clear hga hgb hgp hat hpp hab
          by_cases hf : p.num < f
          · have HPNEXT := Lib.hid (HPO.out.old HPI.out (fun _ => hf))
            have i2 : ¬ (f : Int) * 4096 < (at_ : Int) := by have := HAT.out; omega
            clear hpi hpb cb0
            have sgaq := cell_keep sga HBEL.out
            obtain ⟨A, C, vA, vB, vP, hr, g2, g3, g4, g5⟩ := HST.out.own
            obtain ⟨co0, co1, co2, fo0, fo1, fo2⟩ := hr.cells
            have HBELX := Lib.hid hr.below
            have hwz := hr.below.size
            have sb0x := cell_keep sb0 HBELX.out
            have sb1x := cell_keep sb1 HBELX.out
            have sb2x := cell_keep sb2 HBELX.out
            have sgax := cell_keep sga HBELX.out
            have sgbx := cell_keep sgb HBELX.out
            have sgpx := cell_keep sgp HBELX.out
            have hlj := HPO.out.lens
            obtain ⟨LJ, hLJ⟩ : ∃ LJ, LJ = L := ⟨_, rfl⟩
            rw [← hLJ] at hr g2 g4 g5 hlj
            have na : (atVals LJ).length ≤ 16384 := by rw [show (atVals LJ).length = LJ.length by simp [atVals]]; omega
            have nb : (bsVals A C LJ).length ≤ 16384 := by rw [show (bsVals A C LJ).length = LJ.length by simp [bsVals]]; omega
            have np : (prVals LJ).length ≤ 16384 := by rw [show (prVals LJ).length = LJ.length by simp [prVals]]; omega
            have HR := Lib.hid hr
            have HLJ := Lib.hid hLJ
            have G2 := Lib.hid g2
            have G3 := Lib.hid g3
            have G4 := Lib.hid g4
            have G5 := Lib.hid g5
            have hblx : b < wr.heap.size := by omega
            have hlx : w.heap.size < wr.heap.size := block_lt_of_cell co0
            have hlga := block_lt_of_cell sgax
            have hlgb := block_lt_of_cell sgbx
            have hlgp := block_lt_of_cell sgpx
            have HW0 : Hid (∀ o, Below wr.heap.size wr (wr.alloc o).drew) := fun o => ((Below.refl _ wr).alloc (Nat.le_refl _) o).drew
            clear hr hLJ g2 g3 g4 g5 hlj
            go_wp2_with fail
            go_upto_region 23 with fail
            go_cut [] (fun wx => Hid (∃ v' : Value, MkR w wx w.heap.size v' vB vP ((atVals LJ) ++ [.int .u64 (at_ : Int)]) (bsVals A C LJ) (prVals LJ) ∧ Keep5 wr wx))
            case first =>
              go_region_law (refine step_append_lies _ rfl (.tmp 116) (.tmp 124) 52 rfl w.heap.size 32 i32 (.int .u64 0) 1 8 Try.underlying52 hi32 hz32 hs32 hy32 rfl (by decide) vA (atVals LJ).length (atVals LJ) rfl (owns_same HR.out.a fun g hg => (HW0.out _).block g (HR.out.a.lt g hg).2) ⟨wr.heap.size, 0, none⟩ 1 1 [.int .u64 (at_ : Int)] rfl rfl (World.news_of_block (hp_new wr _ _ rfl)) (by simp [Value.oneCell']) (by omega) (by unfold maxLen; omega) (by omega) (by simp; omega) _ rfl ?_; intro gN cN wn hown hgrow _ _; have hm := HR.out.mid_a (HW0.out _) hgrow; obtain ⟨d0, d1, d2, df0, df1, df2⟩ := cells_of hm; have HPN := Lib.hid (HR.out.push_a (HW0.out _) hown hgrow); clear hm hown hgrow)
              all_goals
                go_wp2_with fail
                go_meet
                exact ⟨_, HPN.out.1, (Keep5.of_below (HW0.out _)).trans HPN.out.2⟩
            case rest =>
              obtain ⟨v0, hr0, hk0⟩ := hcut.out
              clear hcut co0 co1 co2 fo0 fo1 fo2 hblx hlx hlga hlgb hlgp hwz sb0x sb1x sb2x sgax sgbx sgpx
              obtain ⟨co0, co1, co2, fo0, fo1, fo2⟩ := hr0.cells
              have HR0 := Lib.hid hr0
              have HK0 := Lib.hid hk0
              have HBW0 := Lib.hid hr0.below
              have hwz := hr0.below.size
              have sb0x := cell_keep sb0 HBW0.out
              have sb1x := cell_keep sb1 HBW0.out
              have sb2x := cell_keep sb2 HBW0.out
              have sgax := cell_keep sga HBW0.out
              have sgbx := cell_keep sgb HBW0.out
              have sgpx := cell_keep sgp HBW0.out
              have hblx : b < wc.heap.size := by omega
              have hlx : w.heap.size < wc.heap.size := block_lt_of_cell co0
              have hlga := block_lt_of_cell sgax
              have hlgb := block_lt_of_cell sgbx
              have hlgp := block_lt_of_cell sgpx
              have HW1 : Hid (∀ o, Below wc.heap.size wc (wc.alloc o).drew) := fun o => ((Below.refl _ wc).alloc (Nat.le_refl _) o).drew
              clear hr0 hk0
              go_upto_region 24 with fail
              go_cut [] (fun wx => Hid (∃ v' : Value, MkR w wx w.heap.size v0 v' vP ((atVals LJ) ++ [.int .u64 (at_ : Int)]) ((bsVals A C LJ) ++ [.slice (some ⟨ab, 0, none⟩) 4096 ac]) (prVals LJ) ∧ Keep5 wc wx))
              case first =>
                go_region_law (refine step_append_lies _ rfl (.tmp 128) (.tmp 136) 53 rfl w.heap.size 57 i57 (.slice none 0 0) 1 24 Try.underlying53 hi57 hz57 hs57 hy57 rfl (by decide) vB (bsVals A C LJ).length (bsVals A C LJ) rfl (owns_same HR0.out.b fun g hg => (HW1.out _).block g (HR0.out.b.lt g hg).2) ⟨wc.heap.size, 0, none⟩ 1 1 [.slice (some ⟨ab, 0, none⟩) 4096 ac] rfl rfl (World.news_of_block (hp_new wc _ _ rfl)) (by simp [Value.oneCell']) (by omega) (by unfold maxLen; omega) (by omega) (by simp; omega) _ rfl ?_; intro gN cN wn hown hgrow _ _; have hm := HR0.out.mid_b (HW1.out _) hgrow; obtain ⟨d0, d1, d2, df0, df1, df2⟩ := cells_of hm; have HPN := Lib.hid (HR0.out.push_b (HW1.out _) hown hgrow); clear hm hown hgrow)
                all_goals
                  go_wp2_with fail
                  go_meet
                  exact ⟨_, HPN.out.1, (Keep5.of_below (HW1.out _)).trans HPN.out.2⟩
              case rest =>
                obtain ⟨v1, hr1, hk1⟩ := hcut.out
                clear hcut co0 co1 co2 fo0 fo1 fo2 hblx hlx hlga hlgb hlgp hwz sb0x sb1x sb2x sgax sgbx sgpx
                obtain ⟨co0, co1, co2, fo0, fo1, fo2⟩ := hr1.cells
                have HR1 := Lib.hid hr1
                have HK1 := Lib.hid hk1
                have HBW1 := Lib.hid hr1.below
                have hwz := hr1.below.size
                have sb0x := cell_keep sb0 HBW1.out
                have sb1x := cell_keep sb1 HBW1.out
                have sb2x := cell_keep sb2 HBW1.out
                have sgax := cell_keep sga HBW1.out
                have sgbx := cell_keep sgb HBW1.out
                have sgpx := cell_keep sgp HBW1.out
                have hblx : b < wc.heap.size := by omega
                have hlx : w.heap.size < wc.heap.size := block_lt_of_cell co0
                have hlga := block_lt_of_cell sgax
                have hlgb := block_lt_of_cell sgbx
                have hlgp := block_lt_of_cell sgpx
                have HW2 : Hid (∀ o, Below wc.heap.size wc (wc.alloc o).drew) := fun o => ((Below.refl _ wc).alloc (Nat.le_refl _) o).drew
                clear hr1 hk1
                go_wp2_with fail
                go_region_law (refine step_append_lies _ rfl (.tmp 140) (.tmp 148) 25 rfl w.heap.size 3 i3 (.int .i64 0) 1 8 Try.underlying25 hi3 hz3 hs3 hy3 rfl (by decide) vP (prVals LJ).length (prVals LJ) rfl (owns_same HR1.out.p fun g hg => (HW2.out _).block g (HR1.out.p.lt g hg).2) ⟨wc.heap.size, 0, none⟩ 1 1 [.int .i64 pp] rfl rfl (World.news_of_block (hp_new wc _ _ rfl)) (by simp [Value.oneCell']) (by omega) (by unfold maxLen; omega) (by omega) (by simp; omega) _ rfl ?_; intro gN cN wn hown hgrow _ _; have hm := HR1.out.mid_p (HW2.out _) hgrow; obtain ⟨d0, d1, d2, df0, df1, df2⟩ := cells_of hm; have HPN := Lib.hid (HR1.out.push_p (HW2.out _) hown hgrow); clear hm hown hgrow)
                all_goals
                  go_wp2_with fail
                  go_roundw
                  case rel =>
                    have hfin := MkSt.old_all (f := f) (k := k) HP.out HR.out G2.out G3.out G4.out G5.out HPM.out (Below.refl _ _) HK0.out (Below.refl _ _) HK1.out (HW2.out _) HPN.out.2 (by rw [← HAT.out, ← HPP.out, HAB.out]; exact HPN.out.1)
                    exact ⟨i + 1, false, LJ ++ [p], by omega, by go_num, rfl, by rw [HLJ.out]; exact HPNEXT.out, hfin⟩
                  case measure => simp [intOf]; omega
          · have HPX := Lib.hid (HPO.out.put HOK.out (.inr ⟨p, HPI.out, by omega⟩))
            have HPNEXT := Lib.hid (HPX.out.old HPI.out (fun h => by cases h))
            have i2 : (f : Int) * 4096 < (at_ : Int) := by
              have h1 := HAT.out
              have h2 : p.num ≠ f := fun e => HCL.out p HPM.out (by omega)
              omega
            clear hpi hpb
            have sgaq := cell_keep sga HBEL.out
            have i3b : decide (i ≤ M.length) = true := decide_eq_true (Nat.le_of_lt hlt)
            have i2b : decide ((f : Int) * 4096 < (at_ : Int)) = true := decide_eq_true i2
            go_wp2_with fail
            go_loopw [12] (fun t wr => ∃ j : Nat, j ≤ k ∧ t = .int .u64 ((j : Int) * 4096) ∧ Hid (MkSt w F M f k A0 C0 w.heap.size (L ++ newPages f j prot) wr)) (fun t _ => k * 4096 - (intOf t).toNat)
            case atStart => exact ⟨0, Nat.zero_le _, by simp, by rw [newPages_zero, List.append_nil]; exact HST.out⟩
            case round =>
              obtain ⟨j, hj, rfl, HSJ⟩ := hrel
              by_cases hjk : j < k
              · obtain ⟨A, C, vA, vB, vP, hr, g2, g3, g4, g5⟩ := HSJ.out.own
                obtain ⟨co0, co1, co2, fo0, fo1, fo2⟩ := hr.cells
                have hlj : (L ++ newPages f j prot).length ≤ 16384 := by simp only [List.length_append, newPages, List.length_map, List.length_range]; omega
                have HFRESH := Lib.hid (HPO.out.fresh HCL.out hjk)
                obtain ⟨LJ, hLJ⟩ : ∃ LJ, LJ = L ++ newPages f j prot := ⟨_, rfl⟩
                rw [← hLJ] at hr g2 g4 g5 hlj HFRESH
                have na : (atVals LJ).length ≤ 16384 := by simpa [atVals] using hlj
                have nb : (bsVals A C LJ).length ≤ 16384 := by simpa [bsVals] using hlj
                have np : (prVals LJ).length ≤ 16384 := by simpa [prVals] using hlj
                have HR := Lib.hid hr
                have HLJ := Lib.hid hLJ
                have G2 := Lib.hid g2
                have G3 := Lib.hid g3
                have G4 := Lib.hid g4
                have G5 := Lib.hid g5
                have hwz := hr.below.size
                have HW1 : Hid (∀ o, Below wr.heap.size wr (wr.alloc o)) := fun o => (Below.refl _ wr).alloc (Nat.le_refl _) o
                have i1 : (j : Int) * 4096 < (k : Int) * 4096 := by omega
                clear hr hLJ g2 g3 g4 g5 hlj
                go_wp2_with (at_builtin; refine wpList_append_lies _ rfl (.tmp 89) (.tmp 93) 52 rfl w.heap.size 32 i32 (.int .u64 0) 1 8 Try.underlying52 hi32 hz32 hs32 hy32 rfl (by decide) vA (atVals LJ).length (atVals LJ) rfl (HR.out.a.alloc _) ⟨wr.heap.size, 0, none⟩ 1 1 [.int .u64 ((f : Int) * 4096 + (j : Int) * 4096)] rfl rfl (World.news_of_block (heap_alloc_new wr _)) (by simp [Value.oneCell']) (by omega) (by unfold maxLen; omega) (by omega) (by simp; omega) _ rfl ?_; intro gA cA1 w1 hown1 hgrow1 _ _; have hm1 := HR.out.mid_a (HW1.out _) hgrow1; obtain ⟨d0, _, _, df0, _, _⟩ := cells_of hm1; have HPA := Lib.hid (HR.out.push_a (HW1.out _) hown1 hgrow1); have HSZ : Hid (∀ a v, wr.heap.size ≤ (w1.setCell a v).heap.size) := (fun a v => by have := hgrow1.size; simp at this; simp; omega); clear hm1 hown1 hgrow1)
                replace HSZ := Lib.hid (HSZ.out ⟨w.heap.size, 0, none⟩ (.slice (some ⟨gA, 0, none⟩) ((atVals LJ).length + 1) cA1))
                generalize w1.setCell ⟨w.heap.size, 0, none⟩ (.slice (some ⟨gA, 0, none⟩) ((atVals LJ).length + 1) cA1) = w2 at *
                clear co0 co1 co2 fo0 fo1 fo2 d0 df0
                obtain ⟨co0, co1, co2, fo0, fo1, fo2⟩ := HPA.out.1.cells
                have HW2 : Hid (∀ o o', Below w2.heap.size w2 ((w2.alloc o).alloc o').drew) := fun o o' => (((Below.refl _ w2).alloc (Nat.le_refl _) o).alloc (by simp) o').drew
                have hwz2 := HPA.out.1.below.size
                have hlt2 : w.heap.size < w2.heap.size := block_lt_of_cell co1
                go_upto_region 19 with fail
                go_cut [] (fun wx => Hid (∃ (vB' : Value) (blk : Nat), MkR w wx w.heap.size (.slice (some ⟨gA, 0, none⟩) ((atVals LJ).length + 1) cA1) vB' vP (atVals LJ ++ [.int .u64 ((f : Int) * 4096 + (j : Int) * 4096)]) (bsVals A C LJ ++ [.slice (some ⟨blk, 0, none⟩) 4096 4096]) (prVals LJ) ∧ w2.heap.size ≤ blk ∧ wx.heap[blk]? = some (.cells pc 5 (0, 0)) ∧ Keep5 w2 wx))
                case first =>
                  go_region_law (refine step_append_lies _ rfl (.tmp 97) (.tmp 99) 53 rfl w.heap.size 57 i57 (.slice none 0 0) 1 24 Try.underlying53 hi57 hz57 hs57 hy57 rfl (by decide) vB (bsVals A C LJ).length (bsVals A C LJ) rfl (owns_same HPA.out.1.b fun g hg => (HW2.out _ _).block g (HPA.out.1.b.lt g hg).2) ⟨w2.heap.size + 1, 0, none⟩ 1 1 [.slice (some ⟨w2.heap.size, 0, none⟩) 4096 4096] rfl rfl (World.news_of_block (hp_new (w2.alloc (.cells pc 5)) _ _ (by simp))) (by simp [Value.oneCell']) (by omega) (by unfold maxLen; omega) (by omega) (by simp; omega) _ rfl ?_; intro gB cB1 w4 hown2 hgrow2 _ _; have hm2 := HPA.out.1.mid_b (HW2.out _ _) hgrow2; obtain ⟨_, d1, _, _, df1, _⟩ := cells_of hm2; have HPB := Lib.hid (HPA.out.1.push_b (HW2.out _ _) hown2 hgrow2); clear hm2 hown2 hgrow2)
                  all_goals
                    go_wp2_with fail
                    go_meet
                    have hk1 : Keep5 w2 ((w2.alloc (.cells pc 5)).alloc (.cells #[.slice (some ⟨w2.heap.size, 0, none⟩) 4096 4096] 57)).drew := Keep5.of_below (HW2.out _ _)
                    have hn1 : ((w2.alloc (.cells pc 5)).alloc (.cells #[.slice (some ⟨w2.heap.size, 0, none⟩) 4096 4096] 57)).drew.heap[w2.heap.size]? = some (.cells pc 5 (0, 0)) := (hp_old _ _ _ (by simp)).trans (hp_new _ _ _ rfl)
                    exact ⟨_, w2.heap.size, HPB.out.1, Nat.le_refl _, HPB.out.2 _ _ _ hn1, hk1.trans HPB.out.2⟩
                case rest =>
                  obtain ⟨vB', blk, hr5, hbl5, hn5, hk5⟩ := hcut.out
                  clear hcut co0 co1 co2 fo0 fo1 fo2 hlt2 hwz2 HW2
                  obtain ⟨co0, co1, co2, fo0, fo1, fo2⟩ := hr5.cells
                  have HR5 := Lib.hid hr5
                  have HN5 := Lib.hid hn5
                  have HK5 := Lib.hid hk5
                  have HBL5 := Lib.hid hbl5
                  have hwz5 := hr5.below.size
                  have HW5 : Hid (∀ o, Below wc.heap.size wc (wc.alloc o)) := fun o => (Below.refl _ wc).alloc (Nat.le_refl _) o
                  clear hr5 hn5 hk5 hbl5
                  go_wp2_with (at_builtin; refine wpList_append_lies _ rfl (.tmp 103) (.tmp 105) 25 rfl w.heap.size 3 i3 (.int .i64 0) 1 8 Try.underlying25 hi3 hz3 hs3 hy3 rfl (by decide) vP (prVals LJ).length (prVals LJ) rfl (HR5.out.p.alloc _) ⟨wc.heap.size, 0, none⟩ 1 1 [.int .i64 prot] rfl rfl (World.news_of_block (heap_alloc_new wc _)) (by simp [Value.oneCell']) (by omega) (by unfold maxLen; omega) (by omega) (by simp; omega) _ rfl ?_; intro gP cP1 w6 hown6 hgrow6 _ _; have hm6 := HR5.out.mid_p (HW5.out _) hgrow6; obtain ⟨_, _, d2, _, _, df2⟩ := cells_of hm6; have HPP := Lib.hid (HR5.out.push_p (HW5.out _) hown6 hgrow6); clear hm6 hown6 hgrow6)
                  go_roundw
                  case rel =>
                    refine ⟨j + 1, by omega, by go_num, ?_⟩
                    have hfin := MkSt.new_all HLT.out HR.out G2.out G3.out G4.out G5.out hjk HFRESH.out HCL.out (HW1.out _) HPA.out.2 HSZ.out HK5.out HBL5.out HN5.out HPC.out (HW5.out _) HPP.out.2 HPP.out.1
                    rw [newPages_succ, ← List.append_assoc, ← HLJ.out]; exact hfin
                  case measure => simp [intOf]; omega
              · obtain rfl : k = j := by omega
                obtain ⟨_, _, _, _, _, hrx, _⟩ := HSJ.out.own
                have HBX := Lib.hid hrx.below
                have cbx := cell_keep cb0 HBX.out
                clear hrx
                have HPO2 := HPX
                clear cb0 cbx sgaq
                obtain ⟨A, C, vA, vB, vP, hr, g2, g3, g4, g5⟩ := HSJ.out.own
                obtain ⟨co0, co1, co2, fo0, fo1, fo2⟩ := hr.cells
                have HBELX := Lib.hid hr.below
                have hwz := hr.below.size
                have sb0x := cell_keep sb0 HBELX.out
                have sb1x := cell_keep sb1 HBELX.out
                have sb2x := cell_keep sb2 HBELX.out
                have sgax := cell_keep sga HBELX.out
                have sgbx := cell_keep sgb HBELX.out
                have sgpx := cell_keep sgp HBELX.out
                have hlj := HPO2.out.lens
                obtain ⟨LJ, hLJ⟩ : ∃ LJ, LJ = (L ++ newPages f k prot) := ⟨_, rfl⟩
                rw [← hLJ] at hr g2 g4 g5 hlj
                have na : (atVals LJ).length ≤ 16384 := by rw [show (atVals LJ).length = LJ.length by simp [atVals]]; omega
                have nb : (bsVals A C LJ).length ≤ 16384 := by rw [show (bsVals A C LJ).length = LJ.length by simp [bsVals]]; omega
                have np : (prVals LJ).length ≤ 16384 := by rw [show (prVals LJ).length = LJ.length by simp [prVals]]; omega
                have HR := Lib.hid hr
                have HLJ := Lib.hid hLJ
                have G2 := Lib.hid g2
                have G3 := Lib.hid g3
                have G4 := Lib.hid g4
                have G5 := Lib.hid g5
                have hblx : b < wr.heap.size := by omega
                have hlx : w.heap.size < wr.heap.size := block_lt_of_cell co0
                have hlga := block_lt_of_cell sgax
                have hlgb := block_lt_of_cell sgbx
                have hlgp := block_lt_of_cell sgpx
                have HW0 : Hid (∀ o, Below wr.heap.size wr (wr.alloc o).drew) := fun o => ((Below.refl _ wr).alloc (Nat.le_refl _) o).drew
                clear hr hLJ g2 g3 g4 g5 hlj
                go_wp2_with fail
                go_upto_region 23 with fail
                go_cut [] (fun wx => Hid (∃ v' : Value, MkR w wx w.heap.size v' vB vP ((atVals LJ) ++ [.int .u64 (at_ : Int)]) (bsVals A C LJ) (prVals LJ) ∧ Keep5 wr wx))
                case first =>
                  go_region_law (refine step_append_lies _ rfl (.tmp 116) (.tmp 124) 52 rfl w.heap.size 32 i32 (.int .u64 0) 1 8 Try.underlying52 hi32 hz32 hs32 hy32 rfl (by decide) vA (atVals LJ).length (atVals LJ) rfl (owns_same HR.out.a fun g hg => (HW0.out _).block g (HR.out.a.lt g hg).2) ⟨wr.heap.size, 0, none⟩ 1 1 [.int .u64 (at_ : Int)] rfl rfl (World.news_of_block (hp_new wr _ _ rfl)) (by simp [Value.oneCell']) (by omega) (by unfold maxLen; omega) (by omega) (by simp; omega) _ rfl ?_; intro gN cN wn hown hgrow _ _; have hm := HR.out.mid_a (HW0.out _) hgrow; obtain ⟨d0, d1, d2, df0, df1, df2⟩ := cells_of hm; have HPN := Lib.hid (HR.out.push_a (HW0.out _) hown hgrow); clear hm hown hgrow)
                  all_goals
                    go_wp2_with fail
                    go_meet
                    exact ⟨_, HPN.out.1, (Keep5.of_below (HW0.out _)).trans HPN.out.2⟩
                case rest =>
                  obtain ⟨v0, hr0, hk0⟩ := hcut.out
                  clear hcut co0 co1 co2 fo0 fo1 fo2 hblx hlx hlga hlgb hlgp hwz sb0x sb1x sb2x sgax sgbx sgpx
                  obtain ⟨co0, co1, co2, fo0, fo1, fo2⟩ := hr0.cells
                  have HR0 := Lib.hid hr0
                  have HK0 := Lib.hid hk0
                  have HBW0 := Lib.hid hr0.below
                  have hwz := hr0.below.size
                  have sb0x := cell_keep sb0 HBW0.out
                  have sb1x := cell_keep sb1 HBW0.out
                  have sb2x := cell_keep sb2 HBW0.out
                  have sgax := cell_keep sga HBW0.out
                  have sgbx := cell_keep sgb HBW0.out
                  have sgpx := cell_keep sgp HBW0.out
                  have hblx : b < wc.heap.size := by omega
                  have hlx : w.heap.size < wc.heap.size := block_lt_of_cell co0
                  have hlga := block_lt_of_cell sgax
                  have hlgb := block_lt_of_cell sgbx
                  have hlgp := block_lt_of_cell sgpx
                  have HW1 : Hid (∀ o, Below wc.heap.size wc (wc.alloc o).drew) := fun o => ((Below.refl _ wc).alloc (Nat.le_refl _) o).drew
                  clear hr0 hk0
                  go_upto_region 24 with fail
                  go_cut [] (fun wx => Hid (∃ v' : Value, MkR w wx w.heap.size v0 v' vP ((atVals LJ) ++ [.int .u64 (at_ : Int)]) ((bsVals A C LJ) ++ [.slice (some ⟨ab, 0, none⟩) 4096 ac]) (prVals LJ) ∧ Keep5 wc wx))
                  case first =>
                    go_region_law (refine step_append_lies _ rfl (.tmp 128) (.tmp 136) 53 rfl w.heap.size 57 i57 (.slice none 0 0) 1 24 Try.underlying53 hi57 hz57 hs57 hy57 rfl (by decide) vB (bsVals A C LJ).length (bsVals A C LJ) rfl (owns_same HR0.out.b fun g hg => (HW1.out _).block g (HR0.out.b.lt g hg).2) ⟨wc.heap.size, 0, none⟩ 1 1 [.slice (some ⟨ab, 0, none⟩) 4096 ac] rfl rfl (World.news_of_block (hp_new wc _ _ rfl)) (by simp [Value.oneCell']) (by omega) (by unfold maxLen; omega) (by omega) (by simp; omega) _ rfl ?_; intro gN cN wn hown hgrow _ _; have hm := HR0.out.mid_b (HW1.out _) hgrow; obtain ⟨d0, d1, d2, df0, df1, df2⟩ := cells_of hm; have HPN := Lib.hid (HR0.out.push_b (HW1.out _) hown hgrow); clear hm hown hgrow)
                    all_goals
                      go_wp2_with fail
                      go_meet
                      exact ⟨_, HPN.out.1, (Keep5.of_below (HW1.out _)).trans HPN.out.2⟩
                  case rest =>
                    obtain ⟨v1, hr1, hk1⟩ := hcut.out
                    clear hcut co0 co1 co2 fo0 fo1 fo2 hblx hlx hlga hlgb hlgp hwz sb0x sb1x sb2x sgax sgbx sgpx
                    obtain ⟨co0, co1, co2, fo0, fo1, fo2⟩ := hr1.cells
                    have HR1 := Lib.hid hr1
                    have HK1 := Lib.hid hk1
                    have HBW1 := Lib.hid hr1.below
                    have hwz := hr1.below.size
                    have sb0x := cell_keep sb0 HBW1.out
                    have sb1x := cell_keep sb1 HBW1.out
                    have sb2x := cell_keep sb2 HBW1.out
                    have sgax := cell_keep sga HBW1.out
                    have sgbx := cell_keep sgb HBW1.out
                    have sgpx := cell_keep sgp HBW1.out
                    have hblx : b < wc.heap.size := by omega
                    have hlx : w.heap.size < wc.heap.size := block_lt_of_cell co0
                    have hlga := block_lt_of_cell sgax
                    have hlgb := block_lt_of_cell sgbx
                    have hlgp := block_lt_of_cell sgpx
                    have HW2 : Hid (∀ o, Below wc.heap.size wc (wc.alloc o).drew) := fun o => ((Below.refl _ wc).alloc (Nat.le_refl _) o).drew
                    clear hr1 hk1
                    go_wp2_with fail
                    go_region_law (refine step_append_lies _ rfl (.tmp 140) (.tmp 148) 25 rfl w.heap.size 3 i3 (.int .i64 0) 1 8 Try.underlying25 hi3 hz3 hs3 hy3 rfl (by decide) vP (prVals LJ).length (prVals LJ) rfl (owns_same HR1.out.p fun g hg => (HW2.out _).block g (HR1.out.p.lt g hg).2) ⟨wc.heap.size, 0, none⟩ 1 1 [.int .i64 pp] rfl rfl (World.news_of_block (hp_new wc _ _ rfl)) (by simp [Value.oneCell']) (by omega) (by unfold maxLen; omega) (by omega) (by simp; omega) _ rfl ?_; intro gN cN wn hown hgrow _ _; have hm := HR1.out.mid_p (HW2.out _) hgrow; obtain ⟨d0, d1, d2, df0, df1, df2⟩ := cells_of hm; have HPN := Lib.hid (HR1.out.push_p (HW2.out _) hown hgrow); clear hm hown hgrow)
                    all_goals
                      go_wp2_with fail
                      go_roundw
                      case rel =>
                        have hfin := MkSt.old_all (f := f) (k := k) HP.out HR.out G2.out G3.out G4.out G5.out HPM.out (Below.refl _ _) HK0.out (Below.refl _ _) HK1.out (HW2.out _) HPN.out.2 (by rw [← HAT.out, ← HPP.out, HAB.out]; exact HPN.out.1)
                        exact ⟨i + 1, true, LJ ++ [p], by omega, by go_num, rfl, by rw [HLJ.out]; exact HPNEXT.out, hfin⟩
                      case measure => simp [intOf]; omega
        · obtain rfl : i = M.length := by omega
          go_wp2_with fail
          go_loopw [12] (fun t wr => ∃ j : Nat, j ≤ k ∧ t = .int .u64 ((j : Int) * 4096) ∧ Hid (MkSt w F M f k A0 C0 w.heap.size (L ++ newPages f j prot) wr)) (fun t _ => k * 4096 - (intOf t).toNat)
          case atStart => exact ⟨0, Nat.zero_le _, by simp, by rw [newPages_zero, List.append_nil]; exact HST.out⟩
          case round =>
            obtain ⟨j, hj, rfl, HSJ⟩ := hrel
            by_cases hjk : j < k
            · obtain ⟨A, C, vA, vB, vP, hr, g2, g3, g4, g5⟩ := HSJ.out.own
              obtain ⟨co0, co1, co2, fo0, fo1, fo2⟩ := hr.cells
              have hlj : (L ++ newPages f j prot).length ≤ 16384 := by simp only [List.length_append, newPages, List.length_map, List.length_range]; omega
              have HFRESH := Lib.hid (HPO.out.fresh HCL.out hjk)
              obtain ⟨LJ, hLJ⟩ : ∃ LJ, LJ = L ++ newPages f j prot := ⟨_, rfl⟩
              rw [← hLJ] at hr g2 g4 g5 hlj HFRESH
              have na : (atVals LJ).length ≤ 16384 := by simpa [atVals] using hlj
              have nb : (bsVals A C LJ).length ≤ 16384 := by simpa [bsVals] using hlj
              have np : (prVals LJ).length ≤ 16384 := by simpa [prVals] using hlj
              have HR := Lib.hid hr
              have HLJ := Lib.hid hLJ
              have G2 := Lib.hid g2
              have G3 := Lib.hid g3
              have G4 := Lib.hid g4
              have G5 := Lib.hid g5
              have hwz := hr.below.size
              have HW1 : Hid (∀ o, Below wr.heap.size wr (wr.alloc o)) := fun o => (Below.refl _ wr).alloc (Nat.le_refl _) o
              have i1 : (j : Int) * 4096 < (k : Int) * 4096 := by omega
              clear hr hLJ g2 g3 g4 g5 hlj
              go_wp2_with (at_builtin; refine wpList_append_lies _ rfl (.tmp 89) (.tmp 93) 52 rfl w.heap.size 32 i32 (.int .u64 0) 1 8 Try.underlying52 hi32 hz32 hs32 hy32 rfl (by decide) vA (atVals LJ).length (atVals LJ) rfl (HR.out.a.alloc _) ⟨wr.heap.size, 0, none⟩ 1 1 [.int .u64 ((f : Int) * 4096 + (j : Int) * 4096)] rfl rfl (World.news_of_block (heap_alloc_new wr _)) (by simp [Value.oneCell']) (by omega) (by unfold maxLen; omega) (by omega) (by simp; omega) _ rfl ?_; intro gA cA1 w1 hown1 hgrow1 _ _; have hm1 := HR.out.mid_a (HW1.out _) hgrow1; obtain ⟨d0, _, _, df0, _, _⟩ := cells_of hm1; have HPA := Lib.hid (HR.out.push_a (HW1.out _) hown1 hgrow1); have HSZ : Hid (∀ a v, wr.heap.size ≤ (w1.setCell a v).heap.size) := (fun a v => by have := hgrow1.size; simp at this; simp; omega); clear hm1 hown1 hgrow1)
              replace HSZ := Lib.hid (HSZ.out ⟨w.heap.size, 0, none⟩ (.slice (some ⟨gA, 0, none⟩) ((atVals LJ).length + 1) cA1))
              generalize w1.setCell ⟨w.heap.size, 0, none⟩ (.slice (some ⟨gA, 0, none⟩) ((atVals LJ).length + 1) cA1) = w2 at *
              clear co0 co1 co2 fo0 fo1 fo2 d0 df0
              obtain ⟨co0, co1, co2, fo0, fo1, fo2⟩ := HPA.out.1.cells
              have HW2 : Hid (∀ o o', Below w2.heap.size w2 ((w2.alloc o).alloc o').drew) := fun o o' => (((Below.refl _ w2).alloc (Nat.le_refl _) o).alloc (by simp) o').drew
              have hwz2 := HPA.out.1.below.size
              have hlt2 : w.heap.size < w2.heap.size := block_lt_of_cell co1
              go_upto_region 19 with fail
              go_cut [] (fun wx => Hid (∃ (vB' : Value) (blk : Nat), MkR w wx w.heap.size (.slice (some ⟨gA, 0, none⟩) ((atVals LJ).length + 1) cA1) vB' vP (atVals LJ ++ [.int .u64 ((f : Int) * 4096 + (j : Int) * 4096)]) (bsVals A C LJ ++ [.slice (some ⟨blk, 0, none⟩) 4096 4096]) (prVals LJ) ∧ w2.heap.size ≤ blk ∧ wx.heap[blk]? = some (.cells pc 5 (0, 0)) ∧ Keep5 w2 wx))
              case first =>
                go_region_law (refine step_append_lies _ rfl (.tmp 97) (.tmp 99) 53 rfl w.heap.size 57 i57 (.slice none 0 0) 1 24 Try.underlying53 hi57 hz57 hs57 hy57 rfl (by decide) vB (bsVals A C LJ).length (bsVals A C LJ) rfl (owns_same HPA.out.1.b fun g hg => (HW2.out _ _).block g (HPA.out.1.b.lt g hg).2) ⟨w2.heap.size + 1, 0, none⟩ 1 1 [.slice (some ⟨w2.heap.size, 0, none⟩) 4096 4096] rfl rfl (World.news_of_block (hp_new (w2.alloc (.cells pc 5)) _ _ (by simp))) (by simp [Value.oneCell']) (by omega) (by unfold maxLen; omega) (by omega) (by simp; omega) _ rfl ?_; intro gB cB1 w4 hown2 hgrow2 _ _; have hm2 := HPA.out.1.mid_b (HW2.out _ _) hgrow2; obtain ⟨_, d1, _, _, df1, _⟩ := cells_of hm2; have HPB := Lib.hid (HPA.out.1.push_b (HW2.out _ _) hown2 hgrow2); clear hm2 hown2 hgrow2)
                all_goals
                  go_wp2_with fail
                  go_meet
                  have hk1 : Keep5 w2 ((w2.alloc (.cells pc 5)).alloc (.cells #[.slice (some ⟨w2.heap.size, 0, none⟩) 4096 4096] 57)).drew := Keep5.of_below (HW2.out _ _)
                  have hn1 : ((w2.alloc (.cells pc 5)).alloc (.cells #[.slice (some ⟨w2.heap.size, 0, none⟩) 4096 4096] 57)).drew.heap[w2.heap.size]? = some (.cells pc 5 (0, 0)) := (hp_old _ _ _ (by simp)).trans (hp_new _ _ _ rfl)
                  exact ⟨_, w2.heap.size, HPB.out.1, Nat.le_refl _, HPB.out.2 _ _ _ hn1, hk1.trans HPB.out.2⟩
              case rest =>
                obtain ⟨vB', blk, hr5, hbl5, hn5, hk5⟩ := hcut.out
                clear hcut co0 co1 co2 fo0 fo1 fo2 hlt2 hwz2 HW2
                obtain ⟨co0, co1, co2, fo0, fo1, fo2⟩ := hr5.cells
                have HR5 := Lib.hid hr5
                have HN5 := Lib.hid hn5
                have HK5 := Lib.hid hk5
                have HBL5 := Lib.hid hbl5
                have hwz5 := hr5.below.size
                have HW5 : Hid (∀ o, Below wc.heap.size wc (wc.alloc o)) := fun o => (Below.refl _ wc).alloc (Nat.le_refl _) o
                clear hr5 hn5 hk5 hbl5
                go_wp2_with (at_builtin; refine wpList_append_lies _ rfl (.tmp 103) (.tmp 105) 25 rfl w.heap.size 3 i3 (.int .i64 0) 1 8 Try.underlying25 hi3 hz3 hs3 hy3 rfl (by decide) vP (prVals LJ).length (prVals LJ) rfl (HR5.out.p.alloc _) ⟨wc.heap.size, 0, none⟩ 1 1 [.int .i64 prot] rfl rfl (World.news_of_block (heap_alloc_new wc _)) (by simp [Value.oneCell']) (by omega) (by unfold maxLen; omega) (by omega) (by simp; omega) _ rfl ?_; intro gP cP1 w6 hown6 hgrow6 _ _; have hm6 := HR5.out.mid_p (HW5.out _) hgrow6; obtain ⟨_, _, d2, _, _, df2⟩ := cells_of hm6; have HPP := Lib.hid (HR5.out.push_p (HW5.out _) hown6 hgrow6); clear hm6 hown6 hgrow6)
                go_roundw
                case rel =>
                  refine ⟨j + 1, by omega, by go_num, ?_⟩
                  have hfin := MkSt.new_all HLT.out HR.out G2.out G3.out G4.out G5.out hjk HFRESH.out HCL.out (HW1.out _) HPA.out.2 HSZ.out HK5.out HBL5.out HN5.out HPC.out (HW5.out _) HPP.out.2 HPP.out.1
                  rw [newPages_succ, ← List.append_assoc, ← HLJ.out]; exact hfin
                case measure => simp [intOf]; omega
            · obtain rfl : k = j := by omega
              obtain ⟨_, _, _, _, _, hrx, _⟩ := HSJ.out.own
              have HBX := Lib.hid hrx.below
              have cbx := cell_keep cb0 HBX.out
              clear hrx
              have HPO2 := Lib.hid ((HPO.out.put HOK.out (.inl rfl)).last)
              go_wp2_with fail
              go_roundw
              case rel => exact ⟨M.length + 1, true, _, by omega, by go_num, rfl, HPO2.out, HSJ.out⟩
              case measure => simp [intOf]
      | true =>
        by_cases hlt : i < M.length
        · obtain ⟨ga, rfl, _, hga⟩ := HP.out.ats.get (by omega)
          obtain ⟨gb, rfl, _, hgb⟩ := HP.out.bys.get (by omega)
          obtain ⟨gp, rfl, _, hgp⟩ := HP.out.prs.get (by omega)
          obtain ⟨p, hpi⟩ : ∃ p, M[i]? = some p := ⟨M[i], List.getElem?_eq_getElem hlt⟩
          have HPM := Lib.hid (List.mem_of_getElem? hpi)
          have HPI := Lib.hid hpi
          have hpb := (HOK.out.pages p HPM.out).1
          obtain ⟨at_, hat⟩ : ∃ at_, at_ = p.num * 4096 := ⟨_, rfl⟩
          obtain ⟨pp, hpp⟩ : ∃ pp, pp = p.prot := ⟨_, rfl⟩
          obtain ⟨ab, ac, hab⟩ : ∃ ab ac, bsVal A0 C0 p = .slice (some ⟨ab, 0, none⟩) 4096 ac := ⟨_, _, rfl⟩
          have sga : w.cell? ⟨ga, i, none⟩ = some (.int .u64 (at_ : Int)) := hga i _ (by unfold atVals; rw [List.getElem?_map, hpi, hat]; rfl)
          have sgb : w.cell? ⟨gb, i, none⟩ = some (.slice (some ⟨ab, 0, none⟩) 4096 ac) := hgb i _ (by unfold bsVals; rw [List.getElem?_map, hpi, ← hab]; rfl)
          have sgp : w.cell? ⟨gp, i, none⟩ = some (.int .i64 pp) := hgp i _ (by unfold prVals; rw [List.getElem?_map, hpi, hpp]; rfl)
          have sb0 : w.cell? ⟨b, 0, none⟩ = some (.slice (some ⟨ga, 0, none⟩) M.length cA) := by simp [World.cell?, HB.out, rfCells]
          have sb1 : w.cell? ⟨b, 1, none⟩ = some (.slice (some ⟨gb, 0, none⟩) M.length cB) := by simp [World.cell?, HB.out, rfCells]
          have sb2 : w.cell? ⟨b, 2, none⟩ = some (.slice (some ⟨gp, 0, none⟩) M.length cP) := by simp [World.cell?, HB.out, rfCells]
          have hcapB := HP.out.bys.cap
          have hcapP := HP.out.prs.cap
          have HAT := Lib.hid hat
          have HPP := Lib.hid hpp
          have HAB := Lib.hid hab
          have hatb : at_ < 140737488355328 := by omega
          have z0 : (0 : Int) ≤ (i : Int) := by omega
          have z1 : (i : Int) < (M.length : Int) := by omega
          have z2 : ((i : Int) == (M.length : Int)) = false := by rw [beq_eq_false_iff_ne]; omega
          clear hga hgb hgp hat hpp hab
          have HPNEXT := Lib.hid (HPO.out.old HPI.out (fun h => by cases h))
          clear hpi hpb cb0
          obtain ⟨A, C, vA, vB, vP, hr, g2, g3, g4, g5⟩ := HST.out.own
          obtain ⟨co0, co1, co2, fo0, fo1, fo2⟩ := hr.cells
          have HBELX := Lib.hid hr.below
          have hwz := hr.below.size
          have sb0x := cell_keep sb0 HBELX.out
          have sb1x := cell_keep sb1 HBELX.out
          have sb2x := cell_keep sb2 HBELX.out
          have sgax := cell_keep sga HBELX.out
          have sgbx := cell_keep sgb HBELX.out
          have sgpx := cell_keep sgp HBELX.out
          have hlj := HPO.out.lens
          obtain ⟨LJ, hLJ⟩ : ∃ LJ, LJ = L := ⟨_, rfl⟩
          rw [← hLJ] at hr g2 g4 g5 hlj
          have na : (atVals LJ).length ≤ 16384 := by rw [show (atVals LJ).length = LJ.length by simp [atVals]]; omega
          have nb : (bsVals A C LJ).length ≤ 16384 := by rw [show (bsVals A C LJ).length = LJ.length by simp [bsVals]]; omega
          have np : (prVals LJ).length ≤ 16384 := by rw [show (prVals LJ).length = LJ.length by simp [prVals]]; omega
          have HR := Lib.hid hr
          have HLJ := Lib.hid hLJ
          have G2 := Lib.hid g2
          have G3 := Lib.hid g3
          have G4 := Lib.hid g4
          have G5 := Lib.hid g5
          have hblx : b < wr.heap.size := by omega
          have hlx : w.heap.size < wr.heap.size := block_lt_of_cell co0
          have hlga := block_lt_of_cell sgax
          have hlgb := block_lt_of_cell sgbx
          have hlgp := block_lt_of_cell sgpx
          have HW0 : Hid (∀ o, Below wr.heap.size wr (wr.alloc o).drew) := fun o => ((Below.refl _ wr).alloc (Nat.le_refl _) o).drew
          clear hr hLJ g2 g3 g4 g5 hlj
          go_wp2_with fail
          go_upto_region 23 with fail
          go_cut [] (fun wx => Hid (∃ v' : Value, MkR w wx w.heap.size v' vB vP ((atVals LJ) ++ [.int .u64 (at_ : Int)]) (bsVals A C LJ) (prVals LJ) ∧ Keep5 wr wx))
          case first =>
            go_region_law (refine step_append_lies _ rfl (.tmp 116) (.tmp 124) 52 rfl w.heap.size 32 i32 (.int .u64 0) 1 8 Try.underlying52 hi32 hz32 hs32 hy32 rfl (by decide) vA (atVals LJ).length (atVals LJ) rfl (owns_same HR.out.a fun g hg => (HW0.out _).block g (HR.out.a.lt g hg).2) ⟨wr.heap.size, 0, none⟩ 1 1 [.int .u64 (at_ : Int)] rfl rfl (World.news_of_block (hp_new wr _ _ rfl)) (by simp [Value.oneCell']) (by omega) (by unfold maxLen; omega) (by omega) (by simp; omega) _ rfl ?_; intro gN cN wn hown hgrow _ _; have hm := HR.out.mid_a (HW0.out _) hgrow; obtain ⟨d0, d1, d2, df0, df1, df2⟩ := cells_of hm; have HPN := Lib.hid (HR.out.push_a (HW0.out _) hown hgrow); clear hm hown hgrow)
            all_goals
              go_wp2_with fail
              go_meet
              exact ⟨_, HPN.out.1, (Keep5.of_below (HW0.out _)).trans HPN.out.2⟩
          case rest =>
            obtain ⟨v0, hr0, hk0⟩ := hcut.out
            clear hcut co0 co1 co2 fo0 fo1 fo2 hblx hlx hlga hlgb hlgp hwz sb0x sb1x sb2x sgax sgbx sgpx
            obtain ⟨co0, co1, co2, fo0, fo1, fo2⟩ := hr0.cells
            have HR0 := Lib.hid hr0
            have HK0 := Lib.hid hk0
            have HBW0 := Lib.hid hr0.below
            have hwz := hr0.below.size
            have sb0x := cell_keep sb0 HBW0.out
            have sb1x := cell_keep sb1 HBW0.out
            have sb2x := cell_keep sb2 HBW0.out
            have sgax := cell_keep sga HBW0.out
            have sgbx := cell_keep sgb HBW0.out
            have sgpx := cell_keep sgp HBW0.out
            have hblx : b < wc.heap.size := by omega
            have hlx : w.heap.size < wc.heap.size := block_lt_of_cell co0
            have hlga := block_lt_of_cell sgax
            have hlgb := block_lt_of_cell sgbx
            have hlgp := block_lt_of_cell sgpx
            have HW1 : Hid (∀ o, Below wc.heap.size wc (wc.alloc o).drew) := fun o => ((Below.refl _ wc).alloc (Nat.le_refl _) o).drew
            clear hr0 hk0
            go_upto_region 24 with fail
            go_cut [] (fun wx => Hid (∃ v' : Value, MkR w wx w.heap.size v0 v' vP ((atVals LJ) ++ [.int .u64 (at_ : Int)]) ((bsVals A C LJ) ++ [.slice (some ⟨ab, 0, none⟩) 4096 ac]) (prVals LJ) ∧ Keep5 wc wx))
            case first =>
              go_region_law (refine step_append_lies _ rfl (.tmp 128) (.tmp 136) 53 rfl w.heap.size 57 i57 (.slice none 0 0) 1 24 Try.underlying53 hi57 hz57 hs57 hy57 rfl (by decide) vB (bsVals A C LJ).length (bsVals A C LJ) rfl (owns_same HR0.out.b fun g hg => (HW1.out _).block g (HR0.out.b.lt g hg).2) ⟨wc.heap.size, 0, none⟩ 1 1 [.slice (some ⟨ab, 0, none⟩) 4096 ac] rfl rfl (World.news_of_block (hp_new wc _ _ rfl)) (by simp [Value.oneCell']) (by omega) (by unfold maxLen; omega) (by omega) (by simp; omega) _ rfl ?_; intro gN cN wn hown hgrow _ _; have hm := HR0.out.mid_b (HW1.out _) hgrow; obtain ⟨d0, d1, d2, df0, df1, df2⟩ := cells_of hm; have HPN := Lib.hid (HR0.out.push_b (HW1.out _) hown hgrow); clear hm hown hgrow)
              all_goals
                go_wp2_with fail
                go_meet
                exact ⟨_, HPN.out.1, (Keep5.of_below (HW1.out _)).trans HPN.out.2⟩
            case rest =>
              obtain ⟨v1, hr1, hk1⟩ := hcut.out
              clear hcut co0 co1 co2 fo0 fo1 fo2 hblx hlx hlga hlgb hlgp hwz sb0x sb1x sb2x sgax sgbx sgpx
              obtain ⟨co0, co1, co2, fo0, fo1, fo2⟩ := hr1.cells
              have HR1 := Lib.hid hr1
              have HK1 := Lib.hid hk1
              have HBW1 := Lib.hid hr1.below
              have hwz := hr1.below.size
              have sb0x := cell_keep sb0 HBW1.out
              have sb1x := cell_keep sb1 HBW1.out
              have sb2x := cell_keep sb2 HBW1.out
              have sgax := cell_keep sga HBW1.out
              have sgbx := cell_keep sgb HBW1.out
              have sgpx := cell_keep sgp HBW1.out
              have hblx : b < wc.heap.size := by omega
              have hlx : w.heap.size < wc.heap.size := block_lt_of_cell co0
              have hlga := block_lt_of_cell sgax
              have hlgb := block_lt_of_cell sgbx
              have hlgp := block_lt_of_cell sgpx
              have HW2 : Hid (∀ o, Below wc.heap.size wc (wc.alloc o).drew) := fun o => ((Below.refl _ wc).alloc (Nat.le_refl _) o).drew
              clear hr1 hk1
              go_wp2_with fail
              go_region_law (refine step_append_lies _ rfl (.tmp 140) (.tmp 148) 25 rfl w.heap.size 3 i3 (.int .i64 0) 1 8 Try.underlying25 hi3 hz3 hs3 hy3 rfl (by decide) vP (prVals LJ).length (prVals LJ) rfl (owns_same HR1.out.p fun g hg => (HW2.out _).block g (HR1.out.p.lt g hg).2) ⟨wc.heap.size, 0, none⟩ 1 1 [.int .i64 pp] rfl rfl (World.news_of_block (hp_new wc _ _ rfl)) (by simp [Value.oneCell']) (by omega) (by unfold maxLen; omega) (by omega) (by simp; omega) _ rfl ?_; intro gN cN wn hown hgrow _ _; have hm := HR1.out.mid_p (HW2.out _) hgrow; obtain ⟨d0, d1, d2, df0, df1, df2⟩ := cells_of hm; have HPN := Lib.hid (HR1.out.push_p (HW2.out _) hown hgrow); clear hm hown hgrow)
              all_goals
                go_wp2_with fail
                go_roundw
                case rel =>
                  have hfin := MkSt.old_all (f := f) (k := k) HP.out HR.out G2.out G3.out G4.out G5.out HPM.out (Below.refl _ _) HK0.out (Below.refl _ _) HK1.out (HW2.out _) HPN.out.2 (by rw [← HAT.out, ← HPP.out, HAB.out]; exact HPN.out.1)
                  exact ⟨i + 1, true, LJ ++ [p], by omega, by go_num, rfl, by rw [HLJ.out]; exact HPNEXT.out, hfin⟩
                case measure => simp [intOf]; omega
        · obtain rfl : i = M.length := by omega
          have HPO2 := Lib.hid HPO.out.last
          go_wp2_with fail
          go_roundw
          case rel => exact ⟨M.length + 1, true, _, by omega, by go_num, rfl, HPO2.out, HST.out⟩
          case measure => simp [intOf]
    · obtain rfl : i = M.length + 1 := by omega
      have hL := HPO.out.done
      subst hL
      obtain ⟨A, C, vA, vB, vP, hr, g2, g3, g4, g5⟩ := HST.out.own
      have HR := Lib.hid hr
      have HBW : Hid (wr.heap[b]? = some (.cells #[.slice aA M.length cA, .slice aB M.length cB, .slice aP M.length cP] 55 (0, 0))) := (HBEL.out.block b hbl).trans HB.out
      have HCS : Hid (CellsAt wr w.heap.size 0 #[vA, vB, vP]) := fun j v hv => by
        have := hr.o
        simp only [World.cell?, this, Nat.zero_add]; exact hv
      have hFIN := fun (w3 : World) (h1 : w3.heap[b]? = some (.cells #[vA, vB, vP] 55 (0, 0))) (h2 : wr.grownBy w3 (some b)) (h3 : w3.heap.size = wr.heap.size) => MkSt.done (_M := M) (_f := f) (_k := k) (_A0 := A0) (_C0 := C0) HFL.out hFb HOKM.out hr g2 g5 HBW.out h1 h2 h3
      have HFIN := Lib.hid hFIN
      have hone : (#[vA, vB, vP] : Array Value).all (·.oneCell') = true := by
        obtain ⟨_, _, e1⟩ := ownsRow_shape hr.a
        obtain ⟨_, _, e2⟩ := ownsRow_shape hr.b
        obtain ⟨_, _, e3⟩ := ownsRow_shape hr.p
        rw [e1, e2, e3]; simp [Value.oneCell']
      have HONE := Lib.hid hone
      clear hr g2 g3 g4 g5 hFIN hone
      go_wp2_with (first
        | (refine wpList_load_agg 55 (.tmp 9) rfl rfl w.heap.size 0 rfl #[vA, vB, vP] _ HCS.out Try.underlying55 rfl size55 ?_)
        | (refine wpList_store_whole rfl 55 (.tmp 153) (.tmp 152) rfl b #[vA, vB, vP] rfl rfl 55 _ HBW.out size55 rfl HONE.out ?_; intro w3 k1 k2 k3; have HF3 := Lib.hid (HFIN.out w3 k1 k2 k3); clear k1 k2 k3))
      go_ret
      exact HRES.out _ HF3.out.1 HF3.out.2
end Go.Proofs.Ytepnaalgobhcdaa
namespace Go.Proofs.Ytepnaalgobhcdaa
open Go.RowKit Spm

theorem RfIn.grown {w w' : World} {b : Nat} {M : List Pg} {F : Nat → Prop} (h : RfIn w b M F) (hb : Below w.heap.size w w') : RfIn w' b M (grow F w w') := by
  obtain ⟨h1, ⟨aA, cA, aB, cB, aP, cP, A, C, h2, h3⟩, h4, h5⟩ := h.keepB hb
  exact ⟨h1, ⟨aA, cA, aB, cB, aP, cP, A, C, h2, h3.ats.mono fun _ h => .inl h, h3.bys.mono fun _ h => .inl h, h3.prs.mono fun _ h => .inl h, fun p hp => (h3.page p hp).mono fun _ h => .inl h, h3.apart⟩, .inl h4, fun k hk => by
    rcases hk with hk | hk
    · exact h5 k hk
    · exact hk.2⟩
theorem RMapRes.no {w : World} {b : Nat} {M : List Pg} {F : Nat → Prop} {a n : Nat} {prot : Int} {er : Int} (h : RfIn w b M F) (he : mapErr M a n prot = er) (h0 : er ≠ 0) : RMapRes w b M F a n prot (.returned (.int .i64 er)) w := by
  refine ⟨by rw [he], ?_, Chg.refl _ _⟩
  unfold mapM
  rw [if_neg (by rw [he]; exact h0)]
  exact h.grown (Below.refl _ w)

set_option maxHeartbeats 1000000 in
set_option maxRecDepth 100000 in
theorem rmap_bad (w : World) (b : Nat) (M : List Pg) (F : Nat → Prop) (h : RfIn w b M F) (a n : Nat) (prot : Int) (hbad : badArg a n prot = true) :
    Calls Try.prog 66 #[.pointer (some ⟨b, 0, none⟩), .int .u64 a, .int .u64 n, .int .i64 prot] w (RMapRes w b M F a n prot) := by
  have HR := Lib.hid (RMapRes.no h (show mapErr M a n prot = 2 by unfold mapErr; rw [if_pos hbad]) (by decide))
  clear h
  by_cases h1 : a % 4096 = 0
  · have b1 : ((a : Int) % 4096 != 0) = false := by rw [bne_eq_false_iff_eq]; omega
    by_cases h2 : n % 4096 = 0
    · have b2 : ((n : Int) % 4096 != 0) = false := by rw [bne_eq_false_iff_eq]; omega
      by_cases h3 : n = 0
      · have b3 : ((n : Int) == 0) = true := by simp; exact h3
        clear hbad h1 h2 h3
        go_enter Try.func66, Try.ntmps66
        go_wp2_with fail
        go_ret
        exact HR.out
      · have b3 : ((n : Int) == 0) = false := by simp; exact h3
        by_cases h4 : prot < 1
        · clear hbad h1 h2 h3
          go_enter Try.func66, Try.ntmps66
          go_wp2_with fail
          go_ret
          exact HR.out
        · have h5 : 7 < prot := by simp [badArg, h1, h2, h3, h4] at hbad; exact hbad
          clear hbad h1 h2 h3
          go_enter Try.func66, Try.ntmps66
          go_wp2_with fail
          go_ret
          exact HR.out
    · have b2 : ((n : Int) % 4096 != 0) = true := by rw [bne_iff_ne]; omega
      clear hbad h1 h2
      go_enter Try.func66, Try.ntmps66
      go_wp2_with fail
      go_ret
      exact HR.out
  · have b1 : ((a : Int) % 4096 != 0) = true := by rw [bne_iff_ne]; omega
    clear hbad h1
    go_enter Try.func66, Try.ntmps66
    go_wp2_with fail
    go_ret
    exact HR.out

set_option maxHeartbeats 1000000 in
set_option maxRecDepth 100000 in
theorem rmap_any (w : World) (b : Nat) (M : List Pg) (F : Nat → Prop) (h : RfIn w b M F) (a n : Nat) (ha : a < 18446744073709551616) (prot : Int) :
    Calls Try.prog 66 #[.pointer (some ⟨b, 0, none⟩), .int .u64 a, .int .u64 n, .int .i64 prot] w (RMapRes w b M F a n prot) := by
  cases hbad : badArg a n prot with
  | true => exact rmap_bad w b M F h a n prot hbad
  | false =>
    have hb2 := hbad
    simp only [badArg, Bool.or_eq_false_iff, bne_eq_false_iff_eq, beq_eq_false_iff_ne, decide_eq_false_iff_not] at hb2
    obtain ⟨⟨⟨⟨h1, h2⟩, h3⟩, h4⟩, h5⟩ := hb2
    have b1 : ((a : Int) % 4096 != 0) = false := by rw [bne_eq_false_iff_eq]; omega
    have b2 : ((n : Int) % 4096 != 0) = false := by rw [bne_eq_false_iff_eq]; omega
    have b3 : ((n : Int) == 0) = false := by simp; omega
    have e0 : mapErr M a n prot = if inB a n = false then 4 else if freeB M a n = false then 21 else if 8192 - M.length < n / 4096 then 11 else 0 := by unfold mapErr; rw [if_neg (by simp [hbad])]
    cases hin : inB a n with
    | false =>
      have HI1 : Hid (Calls Try.prog 87 #[.int .u64 a, .int .u64 n] w fun e w' => e = .returned (.bool false) ∧ w = w') := by
        have := rin_any w a n ha; rw [hin] at this; exact this
      have HR := Lib.hid (RMapRes.no h (show mapErr M a n prot = 4 by rw [e0, if_pos hin]) (by decide))
      clear h e0 hin hbad h1 h2 h3
      go_enter Try.func66, Try.ntmps66
      go_wp2_with (go_at_call 87; refine HI1.out.mono ?_; rintro e _ ⟨rfl, rfl⟩)
      go_ret
      exact HR.out
    | true =>
      have HI1 : Hid (Calls Try.prog 87 #[.int .u64 a, .int .u64 n] w fun e w' => e = .returned (.bool true) ∧ w = w') := by
        have := rin_any w a n ha; rw [hin] at this; exact this
      cases hfr : freeB M a n with
      | false =>
        have HFR : Hid (Calls Try.prog 72 #[.pointer (some ⟨b, 0, none⟩), .int .u64 a, .int .u64 n] w fun e w' => e = .returned (.bool false) ∧ w = w') := by
          have := rfree_any w b M F h a n ha; rw [hfr] at this; exact this
        have HR := Lib.hid (RMapRes.no h (show mapErr M a n prot = 21 by rw [e0, if_neg (by simp [hin]), if_pos hfr]) (by decide))
        clear h e0 hin hbad h1 h2 h3 hfr
        go_enter Try.func66, Try.ntmps66
        go_wp2_with (first
          | (go_at_call 87; refine HI1.out.mono ?_; rintro e _ ⟨rfl, rfl⟩)
          | (go_at_call 72; refine HFR.out.mono ?_; rintro e _ ⟨rfl, rfl⟩))
        go_ret
        exact HR.out
      | true =>
        by_cases hmany : 8192 - M.length < n / 4096
        · have HFR : Hid (Calls Try.prog 72 #[.pointer (some ⟨b, 0, none⟩), .int .u64 a, .int .u64 n] w fun e w' => e = .returned (.bool true) ∧ w = w') := by
            have := rfree_any w b M F h a n ha; rw [hfr] at this; exact this
          have HR := Lib.hid (RMapRes.no h (show mapErr M a n prot = 11 by rw [e0, if_neg (by simp [hin]), if_neg (by simp [hfr]), if_pos hmany]) (by decide))
          have hlen := h.ok.few
          have hnl : (n : Int) ≤ 140737488355328 := by simp [inB] at hin; omega
          obtain ⟨aA, cA, aB, cB, aP, cP, A0, C0, hb, hp⟩ := h.own
          have cb0 : w.cell? ⟨b, 0, none⟩ = some (.slice aA M.length cA) := by simp [World.cell?, hb, rfCells]
          have hcapA := hp.ats.cap
          have i1 : (8192 : Int) - (M.length : Int) < (n : Int) / 4096 := by omega
          clear h e0 hin hbad h1 h2 h3 hfr hmany hb hp
          go_enter Try.func66, Try.ntmps66
          go_wp2_with (first
            | (go_at_call 87; refine HI1.out.mono ?_; rintro e _ ⟨rfl, rfl⟩)
            | (go_at_call 72; refine HFR.out.mono ?_; rintro e _ ⟨rfl, rfl⟩))
          go_ret
          exact HR.out
        · have e1 : mapErr M a n prot = 0 := by rw [e0, if_neg (by simp [hin]), if_neg (by simp [hfr]), if_neg hmany]
          obtain ⟨f, rfl⟩ : ∃ f, a = f * 4096 := ⟨a / 4096, by omega⟩
          obtain ⟨k, rfl⟩ : ∃ k, n = k * 4096 := ⟨n / 4096, by omega⟩
          have := rmap_good w b M F h f k prot e1
          rw [show ((f * 4096 : Nat) : Int) = (f : Int) * 4096 by omega, show ((k * 4096 : Nat) : Int) = (k : Int) * 4096 by omega]
          exact this
end Go.Proofs.Ytepnaalgobhcdaa
namespace Go.Proofs.Ytepnaalgobhcdaa
open Go.RowKit Spm

theorem pg_ix {M : List Pg} {q : Nat} {p : Pg} (h : pg M q = some p) : M[ixOf M q]? = some p := by
  unfold pg at h
  unfold ixOf
  induction M with
  | nil => cases h
  | cons x M ih =>
    rw [List.find?_cons] at h
    by_cases hx : x.num = q
    · have e : (x.num == q) = true := by simpa using hx
      rw [e] at h
      cases h
      rw [List.findIdx_cons, e]
      rfl
    · have e : (x.num == q) = false := by simpa using hx
      rw [e] at h
      rw [List.findIdx_cons, e]
      simpa using ih h
theorem hasIx_some {M : List Pg} {a : Nat} {p : Pg} (h : pg M (a / 4096) = some p) : ∃ i : Nat, hasIx M a = (i : Int) ∧ M[i]? = some p := by
  have := pg_ix h
  refine ⟨ixOf M (a / 4096), ?_, this⟩
  unfold hasIx
  rw [if_pos (List.getElem?_eq_some_iff.1 this).1]
theorem hasIx_none {M : List Pg} {a : Nat} (h : pg M (a / 4096) = none) : hasIx M a = -1 := by
  unfold hasIx
  rw [if_neg ?_]
  intro hl
  unfold pg at h
  unfold ixOf at hl
  have := List.findIdx_getElem (w := hl)
  have h2 := List.find?_eq_none.1 h _ (List.getElem_mem hl)
  simp at this h2
  exact h2 this

/-- The first page number behind those of the first k bytes. -/
def upTo (a k : Nat) : Nat := if k = 0 then a / 4096 else (a + k - 1) / 4096 + 1
theorem upTo_lst {a n : Nat} (h : 0 < n) : upTo a n = lst a n := by unfold upTo lst; rw [if_neg (by omega)]
theorem upTo_step {a k : Nat} : upTo a (k + 1) = (a + k) / 4096 + 1 := by unfold upTo; rw [if_neg (by omega)]; congr 1
theorem upTo_skip {a k : Nat} (h0 : 0 < k) (h : (a + k) % 4096 ≠ 0) : upTo a (k + 1) = upTo a k := by
  rw [upTo_step]; unfold upTo; rw [if_neg (by omega)]; omega
theorem upTo_visit {a k : Nat} : upTo a k = (a + k) / 4096 ∨ upTo a k = (a + k) / 4096 + 1 := by
  unfold upTo
  by_cases h : k = 0
  · rw [if_pos h, h]; left; rfl
  · rw [if_neg h]; omega
theorem visit_has {M : List Pg} {f u q : Nat} {r : Int} {p : Pg} (hu : u = q ∨ u = q + 1) (hf : f ≤ q) (hm : missing M f u = false) (hp : pg M q = some p) :
    missing M f (q + 1) = false ∧ lackVal M f (q + 1) r = if hasP p.prot r then lackVal M f u r else 19 := by
  have h1 := missing_step (i := q) hf hp
  have h2 := lacks_step (i := q) (r := r) hf hp
  rcases hu with rfl | rfl
  · refine ⟨h1.trans hm, ?_⟩
    unfold lackVal
    rw [h2]
    cases hasP p.prot r <;> simp
  · refine ⟨hm, ?_⟩
    unfold lackVal
    cases hh : hasP p.prot r with
    | true => simp
    | false => rw [h2, hh]; simp
theorem look_big {M : List Pg} (hM : Ok M) {a n : Nat} {r : Int} (h : 33554432 < n) : lookErr M a n r = 4 := by
  unfold lookErr
  rw [if_neg (by omega)]
  split
  · rfl
  · rw [if_pos]
    cases hm : missing M (fst a) (lst a n) with
    | true => rfl
    | false =>
      have := present_le hm
      have := hM.few
      unfold fst lst at *
      omega
theorem bit1 {P : Int} (hP : 1 ≤ P ∧ P ≤ 7) : (P % 2 == 0) = !hasP P 1 ∧ (P / 2 % 2 == 0) = !hasP P 2 := by
  have : P = 1 ∨ P = 2 ∨ P = 3 ∨ P = 4 ∨ P = 5 ∨ P = 6 ∨ P = 7 := by omega
  rcases this with rfl | rfl | rfl | rfl | rfl | rfl | rfl <;> decide
theorem hasP_zero {P : Int} : hasP P 0 = true := by simp [hasP]
end Go.Proofs.Ytepnaalgobhcdaa
namespace Go.Proofs.Ytepnaalgobhcdaa
open Go.RowKit Spm

def skipB (a n k : Nat) : Bool := decide (0 < k) && decide (k + 1 < n) && decide ((a + k) % 4096 ≠ 0)
set_option maxHeartbeats 4000000 in
set_option maxRecDepth 100000 in
theorem rlook_in (w : World) (b : Nat) (M : List Pg) (F : Nat → Prop) (h : RfIn w b M F) (a n : Nat) (r : Int) (hr : r = 0 ∨ r = 1 ∨ r = 2) (h0 : 0 < n) (hin : inB a n = true) (hn : n ≤ 33554432) :
    Calls Try.prog 88 #[.pointer (some ⟨b, 0, none⟩), .int .u64 a, .int .u64 n, .int .i64 r] w fun e w' => e = .returned (.int .i64 (lookVal M (fst a) (lst a n) r)) ∧ w = w' := by
  have hab : a + n ≤ 140737488355328 := by simp [inB] at hin; omega
  have HI1 : Hid (Calls Try.prog 87 #[.int .u64 a, .int .u64 n] w fun e w' => e = .returned (.bool true) ∧ w = w') := by
    have := rin_any w a n (by omega); rw [hin] at this; exact this
  have HH : Hid (∀ c : Nat, c < 18446744073709551616 → Calls Try.prog 71 #[.pointer (some ⟨b, 0, none⟩), .int .u64 c] w fun e w' => e = .returned (.int .i64 (hasIx M c)) ∧ w = w') := fun c hc => rhas_any w b M F h c hc
  have hz : ((n : Int) == 0) = false := by simp; omega
  have hfew := h.ok.few
  obtain ⟨hok, ⟨aA, cA, aB, cB, aP, cP, A, C, hb, hp⟩, _, _⟩ := h
  have cb2 : w.cell? ⟨b, 2, none⟩ = some (.slice aP M.length cP) := by simp [World.cell?, hb, rfCells]
  have hcap := hp.prs.cap
  have HROW := Lib.hid hp.prs
  have HOK := Lib.hid hok
  have hle : fst a ≤ lst a n := by unfold fst lst; omega
  have HLST := Lib.hid (upTo_lst (a := a) h0)
  obtain ⟨ff, hff⟩ : ∃ ff, ff = fst a := ⟨_, rfl⟩
  rw [← hff] at hle
  rw [← hff]
  have HFF : Hid (ff = a / 4096) := hff
  have HRR := Lib.hid hr
  clear hb hp hok hin hff hr hle
  go_enter Try.func88, Try.ntmps88
  go_wp2_with (go_at_call 87; refine HI1.out.mono ?_; rintro e _ ⟨rfl, rfl⟩)
  clear hz HI1
  go_loop [9, 10] (fun ev t => ∃ k : Nat, k ≤ n ∧ t = .int .u64 k ∧ ev = .int .i64 (lackVal M ff (upTo a k) r) ∧ Hid (missing M ff (upTo a k) = false)) (fun _ t => n - (intOf t).toNat)
  case atStart =>
    have e : upTo a 0 = ff := by rw [HFF.out]; rfl
    exact ⟨0, Nat.zero_le _, rfl, by rw [e]; unfold lackVal; rw [lacks_zero]; rfl, by show missing M ff (upTo a 0) = false; rw [e]; exact missing_zero M ff⟩
  case round =>
    obtain ⟨k, hk, rfl, rfl, HM⟩ := hrel
    by_cases hlt : k < n
    · obtain ⟨sk, hsk⟩ : ∃ sk, sk = skipB a n k := ⟨_, rfl⟩
      have HSK := Lib.hid hsk
      clear hsk
      go_upto_region 9 with fail
      go_cut [42] (fun s42 wx => s42 = .bool sk ∧ w = wx)
      case first =>
        by_cases c1 : 0 < k
        · by_cases c2 : k + 1 < n
          · by_cases c3 : (a + k) % 4096 = 0
            · have e : sk = false := by rw [HSK.out]; simp [skipB, c3]
              have i1 : (0 : Int) < (k : Int) := by omega
              have i2 : (k : Int) + 1 < (n : Int) := by omega
              have i3 : (((a : Int) + (k : Int)) % 4096 != 0) = false := by rw [bne_eq_false_iff_eq]; omega
              have E := Lib.hid e
              clear e c1 c2 c3
              go_wp2_with fail
              go_meet
              exact ⟨by rw [E.out], rfl⟩
            · have e : sk = true := by rw [HSK.out]; simp [skipB, c1, c2, c3]
              have i1 : (0 : Int) < (k : Int) := by omega
              have i2 : (k : Int) + 1 < (n : Int) := by omega
              have i3 : (((a : Int) + (k : Int)) % 4096 != 0) = true := by rw [bne_iff_ne]; omega
              have E := Lib.hid e
              clear e c1 c2 c3
              go_wp2_with fail
              go_meet
              exact ⟨by rw [E.out], rfl⟩
          · have e : sk = false := by rw [HSK.out]; simp [skipB, c2]
            have i1 : (0 : Int) < (k : Int) := by omega
            have i2 : ¬ (k : Int) + 1 < (n : Int) := by omega
            have E := Lib.hid e
            clear e c1 c2
            go_wp2_with fail
            go_meet
            exact ⟨by rw [E.out], rfl⟩
        · have e : sk = false := by rw [HSK.out]; simp [skipB, c1]
          obtain rfl : k = 0 := by omega
          have E := Lib.hid e
          clear e c1
          go_wp2_with fail
          go_meet
          exact ⟨by rw [E.out], rfl⟩
      case rest =>
        obtain ⟨rfl, rfl⟩ := hcut
        cases sk with
        | true =>
          have hs := HSK.out.symm
          simp only [skipB, Bool.and_eq_true, decide_eq_true_eq] at hs
          have e := upTo_skip hs.1.1 hs.2
          have HNX : Hid (upTo a (k + 1) = upTo a k) := e
          clear hs e
          go_wp2_with fail
          go_round
          case rel => exact ⟨k + 1, by omega, by go_num, by rw [HNX.out], by show missing M ff (upTo a (k + 1)) = false; rw [HNX.out]; exact HM.out⟩
          case measure => simp [intOf]; omega
        | false =>
          have HC : Hid (Calls Try.prog 71 #[.pointer (some ⟨b, 0, none⟩), .int .u64 ((a : Int) + (k : Int))] w fun e w' => e = .returned (.int .i64 (hasIx M (a + k))) ∧ w = w') := by
            have := HH.out (a + k) (by omega)
            rwa [show ((a + k : Nat) : Int) = (a : Int) + (k : Int) by omega] at this
          have hfq : ff ≤ (a + k) / 4096 := by rw [HFF.out]; omega
          cases hpg : pg M ((a + k) / 4096) with
          | none =>
            have hix := hasIx_none hpg
            rw [hix] at HC
            have hmt : missing M ff (lst a n) = true := missing_true hfq (by unfold lst; omega) hpg
            have HRES : Hid (lookVal M ff (lst a n) r = 4) := by show lookVal _ _ _ _ = 4; unfold lookVal; rw [if_pos hmt]
            clear hix hmt hpg hfq
            go_wp2_with (go_at_call 71; refine HC.out.mono ?_; rintro e _ ⟨rfl, rfl⟩)
            go_ret
            exact ⟨by rw [HRES.out]; rfl, rfl⟩
          | some p =>
            obtain ⟨i, hix, hpi⟩ := hasIx_some hpg
            rw [hix] at HC
            have hil := (List.getElem?_eq_some_iff.1 hpi).1
            have hpp := HOK.out.pages p (List.mem_of_getElem? hpi)
            obtain ⟨g, rfl, _, hcell⟩ := HROW.out.get (by omega)
            have hc := hcell i (.int .i64 p.prot) (by unfold prVals; rw [List.getElem?_map, hpi]; rfl)
            obtain ⟨v1, v2⟩ := visit_has (r := r) upTo_visit hfq HM.out hpg
            rw [← upTo_step] at v1 v2
            have V1 := Lib.hid v1
            have V2 := Lib.hid v2
            obtain ⟨e1, e2⟩ := bit1 ⟨hpp.2.1, hpp.2.2.1⟩
            have hp1 := hpp.2.1
            have hp7 := hpp.2.2.1
            generalize p.prot = pr at *
            clear hix hpi hpg hcell v1 v2 hfq hpp
            have hz0 := @hasP_zero pr
            obtain ⟨lv, hlv⟩ : ∃ lv, lv = lackVal M ff (upTo a k) r := ⟨_, rfl⟩
            rw [← hlv] at V2
            rw [← hlv]
            clear hlv
            rcases HRR.out with rfl | rfl | rfl
            · rw [hz0] at V2
              clear e1 e2
              go_wp2_with (go_at_call 71; refine HC.out.mono ?_; rintro e _ ⟨rfl, rfl⟩)
              refine wp_loop_rounds 4 ?_
              rw [rounds_succ]
              go_wp2_with fail
              rw [rounds_succ]
              go_wp2_with fail
              rw [rounds_succ]
              go_wp2_with fail
              rw [rounds_succ]
              go_wp2_with fail
              exact ⟨⟨k + 1, by omega, by go_num, by rw [V2.out]; rfl, V1.out⟩, by simp [intOf]; omega⟩
            · clear e2 hz0
              cases hh : hasP pr 1 with
              | true =>
                rw [hh] at V2 e1
                have e1' : (pr / 1 % 2 == 0) = false := by rw [Int.ediv_one]; exact e1
                clear hh
                go_wp2_with (go_at_call 71; refine HC.out.mono ?_; rintro e _ ⟨rfl, rfl⟩)
                refine wp_loop_rounds 4 ?_
                rw [rounds_succ]
                go_wp2_with fail
                rw [rounds_succ]
                go_wp2_with fail
                rw [rounds_succ]
                go_wp2_with fail
                rw [rounds_succ]
                go_wp2_with fail
                exact ⟨⟨k + 1, by omega, by go_num, by rw [V2.out]; rfl, V1.out⟩, by simp [intOf]; omega⟩
              | false =>
                rw [hh] at V2 e1
                have e1' : (pr / 1 % 2 == 0) = true := by rw [Int.ediv_one]; exact e1
                clear hh
                go_wp2_with (go_at_call 71; refine HC.out.mono ?_; rintro e _ ⟨rfl, rfl⟩)
                refine wp_loop_rounds 4 ?_
                rw [rounds_succ]
                go_wp2_with fail
                rw [rounds_succ]
                go_wp2_with fail
                rw [rounds_succ]
                go_wp2_with fail
                rw [rounds_succ]
                go_wp2_with fail
                exact ⟨⟨k + 1, by omega, by go_num, by rw [V2.out]; rfl, V1.out⟩, by simp [intOf]; omega⟩
            · clear e1 hz0
              cases hh : hasP pr 2 with
              | true =>
                rw [hh] at V2 e2
                clear hh
                go_wp2_with (go_at_call 71; refine HC.out.mono ?_; rintro e _ ⟨rfl, rfl⟩)
                refine wp_loop_rounds 4 ?_
                rw [rounds_succ]
                go_wp2_with fail
                rw [rounds_succ]
                go_wp2_with fail
                rw [rounds_succ]
                go_wp2_with fail
                rw [rounds_succ]
                go_wp2_with fail
                exact ⟨⟨k + 1, by omega, by go_num, by rw [V2.out]; rfl, V1.out⟩, by simp [intOf]; omega⟩
              | false =>
                rw [hh] at V2 e2
                clear hh
                go_wp2_with (go_at_call 71; refine HC.out.mono ?_; rintro e _ ⟨rfl, rfl⟩)
                refine wp_loop_rounds 4 ?_
                rw [rounds_succ]
                go_wp2_with fail
                rw [rounds_succ]
                go_wp2_with fail
                rw [rounds_succ]
                go_wp2_with fail
                rw [rounds_succ]
                go_wp2_with fail
                exact ⟨⟨k + 1, by omega, by go_num, by rw [V2.out]; rfl, V1.out⟩, by simp [intOf]; omega⟩
    · obtain rfl : k = n := by omega
      have HRES : Hid (lackVal M ff (upTo a k) r = lookVal M ff (lst a k) r) := by
        show lackVal M ff (upTo a k) r = _
        have := HM.out
        unfold lookVal lackVal
        rw [HLST.out] at this ⊢
        rw [this]; rfl
      go_wp2_with fail
      go_ret
      exact ⟨by rw [HRES.out]; rfl, rfl⟩
set_option maxHeartbeats 1000000 in
set_option maxRecDepth 100000 in
theorem rlook_any (w : World) (b : Nat) (M : List Pg) (F : Nat → Prop) (h : RfIn w b M F) (a n : Nat) (ha : a < 18446744073709551616) (r : Int) (hr : r = 0 ∨ r = 1 ∨ r = 2) :
    Calls Try.prog 88 #[.pointer (some ⟨b, 0, none⟩), .int .u64 a, .int .u64 n, .int .i64 r] w fun e w' => e = .returned (.int .i64 (lookErr M a n r)) ∧ w = w' := by
  by_cases h0 : n = 0
  · have e : lookErr M a n r = 0 := by simp [lookErr, h0]
    rw [e]
    subst h0
    clear h e hr
    go_enter Try.func88, Try.ntmps88
    go_wp2_with fail
    go_ret
    exact ⟨rfl, rfl⟩
  · have hz : ((n : Int) == 0) = false := by simp; omega
    cases hin : inB a n with
    | false =>
      have HI1 : Hid (Calls Try.prog 87 #[.int .u64 a, .int .u64 n] w fun e w' => e = .returned (.bool false) ∧ w = w') := by
        have := rin_any w a n ha; rw [hin] at this; exact this
      have e : lookErr M a n r = 4 := by simp [lookErr, h0, hin]
      rw [e]
      clear h e hin hr
      go_enter Try.func88, Try.ntmps88
      go_wp2_with (go_at_call 87; refine HI1.out.mono ?_; rintro e _ ⟨rfl, rfl⟩)
      go_ret
      exact ⟨rfl, rfl⟩
    | true =>
      by_cases hbig : n ≤ 33554432
      · have e0 : lookErr M a n r = lookVal M (fst a) (lst a n) r := by unfold lookErr lookVal; rw [if_neg h0, if_neg (by simp [hin])]
        rw [e0]
        exact rlook_in w b M F h a n r hr (by omega) hin hbig
      · have HI1 : Hid (Calls Try.prog 87 #[.int .u64 a, .int .u64 n] w fun e w' => e = .returned (.bool true) ∧ w = w') := by
          have := rin_any w a n ha; rw [hin] at this; exact this
        rw [look_big h.ok (by omega)]
        have i1 : (33554432 : Int) < (n : Int) := by omega
        clear h hin hr hbig
        go_enter Try.func88, Try.ntmps88
        go_wp2_with (go_at_call 87; refine HI1.out.mono ?_; rintro e _ ⟨rfl, rfl⟩)
        go_ret
        exact ⟨rfl, rfl⟩
end Go.Proofs.Ytepnaalgobhcdaa
namespace Go.Proofs.Ytepnaalgobhcdaa
open Go.RowKit Spm

theorem u64n {n : Nat} (h : n < 18446744073709551616) : IntKind.u64.wrap (n : Int) = (n : Int) := by
  rw [show IntKind.u64.wrap (n : Int) = ((n : Int) % 18446744073709551616) from rfl]; omega
theorem atVals_wr1 (M : List Pg) (c : Nat) (x : UInt8) : atVals (wr1 M c x) = atVals M := by
  unfold atVals wr1; rw [List.map_map]; refine List.map_congr_left fun p _ => ?_; simp only [Function.comp]; split <;> rfl
theorem prVals_wr1 (M : List Pg) (c : Nat) (x : UInt8) : prVals (wr1 M c x) = prVals M := by
  unfold prVals wr1; rw [List.map_map]; refine List.map_congr_left fun p _ => ?_; simp only [Function.comp]; split <;> rfl
theorem bsVals_wr1 (A C : Nat → Nat) (M : List Pg) (c : Nat) (x : UInt8) : bsVals A C (wr1 M c x) = bsVals A C M := by
  unfold bsVals wr1; rw [List.map_map]; refine List.map_congr_left fun p _ => ?_; simp only [Function.comp]; split <;> rfl
theorem wr1_length (M : List Pg) (c : Nat) (x : UInt8) : (wr1 M c x).length = M.length := by simp [wr1]
theorem mem_wr1 {M : List Pg} {c : Nat} {x : UInt8} {p : Pg} (h : p ∈ wr1 M c x) : ∃ q ∈ M, p.num = q.num ∧ p.prot = q.prot ∧ ((q.num = c / 4096 ∧ p.bytes = q.bytes.set (c % 4096) x) ∨ (q.num ≠ c / 4096 ∧ p = q)) := by
  unfold wr1 at h
  obtain ⟨q, hq, rfl⟩ := List.mem_map.1 h
  refine ⟨q, hq, ?_⟩
  by_cases e : q.num = c / 4096
  · rw [if_pos e]; exact ⟨rfl, rfl, .inl ⟨e, rfl⟩⟩
  · rw [if_neg e]; exact ⟨rfl, rfl, .inr ⟨e, rfl⟩⟩
/-- A row of another type is not the block of bytes. -/
theorem RfRow.other {w w' : World} {R : Nat → Prop} {e : TypeId} {a : Option Addr} {n c : Nat} {xs : List Value} (h : RfRow w R e a n c xs) {g : Nat} {cur : Array Value} (hg : w.heap[g]? = some (.cells cur 5 (0, 0))) (he : (5 : TypeId) ≠ e) (hs : ∀ k, k ≠ g → w'.heap[k]? = w.heap[k]?) : RfRow w' R e a n c xs :=
  ⟨owns_same h.own fun k hk => hs k fun e' => row_other h.own he hg (by rw [hk, e']), h.inF⟩
theorem RfIn.set {w w' : World} {b : Nat} {M : List Pg} {F : Nat → Prop} (h : RfIn w b M F) {aA : Option Addr} {cA : Nat} {aB : Option Addr} {cB : Nat} {aP : Option Addr} {cP : Nat} {A C : Nat → Nat}
    (hb : w.heap[b]? = some (rfCells M.length aA cA aB cB aP cP)) (hp : RfPages w F F M aA cA aB cB aP cP A C) {p : Pg} (hpm : p ∈ M) {c : Nat} (hc : p.num = c / 4096) (x : UInt8) (hw : w' = (w.drew.setCell ⟨A p.num, c % 4096, none⟩ (byteVal x))) :
    RfIn w' b (wr1 M c x) F ∧ Chg F w w' ∧ w'.heap.size = w.heap.size := by
  obtain ⟨hF, cur, h1, h2, h3, h4, h5⟩ := hp.page p hpm
  have hs : ∀ k, k ≠ A p.num → w'.heap[k]? = w.heap[k]? := fun k hk => by rw [hw]; exact heap_setCell_other _ _ _ _ hk
  have hsz : w'.heap.size = w.heap.size := by rw [hw]; simp [World.setCell]
  have hnew : w'.heap[A p.num]? = some (.cells (cur.setIfInBounds (c % 4096) (byteVal x)) 5 (0, 0)) := by
    rw [hw]; exact heap_setCell_same w.drew _ _ _ _ _ h1
  have hbA : b ≠ A p.num := fun e => by
    rw [← e, hb] at h1
    have := Option.some.inj h1
    unfold rfCells at this
    injection this with _ h6 _
    revert h6; decide
  have hpl : p.bytes.length = 4096 := (h.ok.pages p hpm).2.2.2
  refine ⟨⟨(wrAll_alike [x] M c).ok h.ok, ⟨aA, cA, aB, cB, aP, cP, A, C, by rw [wr1_length, hs b hbA]; exact hb, ?_, ?_, ?_, fun q hq => ?_, fun q hq q' hq' e => ?_⟩, h.fb, fun k hk => by rw [hsz]; exact h.lt k hk⟩, ?_, hsz⟩
  · rw [wr1_length, atVals_wr1]; exact hp.ats.other h1 (by decide) hs
  · rw [wr1_length, bsVals_wr1]; exact hp.bys.other h1 (by decide) hs
  · rw [wr1_length, prVals_wr1]; exact hp.prs.other h1 (by decide) hs
  · obtain ⟨q0, hq0, e1, e2, e3⟩ := mem_wr1 hq
    rcases e3 with ⟨e3, e4⟩ | ⟨e3, e4⟩
    · have e5 : q0 = p := ok_unique h.ok hq0 hpm (by rw [e3, hc])
      subst e5
      refine ⟨by rw [e1]; exact hF, _, by rw [e1]; exact hnew, by rw [e1]; simpa using h2, by rw [e1]; exact h3, by rw [e1]; exact h4, ?_⟩
      rw [e4, Array.toList_setIfInBounds, List.take_set, h5]
      unfold bvs
      rw [List.map_set]
    · rw [e4]
      refine (hp.page q0 hq0).same (hs _ fun e => e3 ?_)
      rw [hp.apart q0 hq0 p hpm e, hc]
  · obtain ⟨q0, hq0, e1, _⟩ := mem_wr1 hq
    obtain ⟨q1, hq1, e1', _⟩ := mem_wr1 hq'
    rw [e1, e1'] at e ⊢
    exact hp.apart q0 hq0 q1 hq1 e
  · rw [hw]
    exact ⟨rfl, rfl, rfl, by simp [World.setCell], fun k _ hn => heap_setCell_other _ _ _ _ (fun e => hn (by rw [e]; exact hF))⟩
/-- What lies at a page's byte. -/
theorem BsIn.cell {w : World} {F : Nat → Prop} {A C : Nat → Nat} {p : Pg} (h : BsIn w F A C p) {i : Nat} (hi : i < p.bytes.length) (h4 : i < 4096) : w.cell? ⟨A p.num, i, none⟩ = some (byteVal (p.bytes.getD i 0)) ∧ w.frozen? ⟨A p.num, i, none⟩ = false := by
  obtain ⟨hF, cur, h1, h2, h3, h5, h6⟩ := h
  refine ⟨?_, by simp [World.frozen?, h1]⟩
  simp only [World.cell?, h1]
  have : (cur.toList.take 4096)[i]? = (bvs p.bytes)[i]? := by rw [h6]
  rw [List.getElem?_take, if_pos h4] at this
  rw [← Array.getElem?_toList, this]
  unfold bvs
  rw [List.getElem?_map, List.getElem?_eq_getElem hi]
  simp [List.getD_eq_getElem?_getD, List.getElem?_eq_getElem hi]
theorem wrAll_take {M : List Pg} {a k : Nat} {bs : List UInt8} (h : k < bs.length) : wrAll M a (bs.take (k + 1)) = wr1 (wrAll M a (bs.take k)) (a + k) (bs.getD k 0) := by
  rw [List.take_add_one, List.getElem?_eq_getElem h, Option.toList_some, wrAll_append, List.length_take, Nat.min_eq_left (Nat.le_of_lt h)]
  simp [wrAll, List.getD_eq_getElem?_getD, List.getElem?_eq_getElem h]
structure RWSt (w : World) (b : Nat) (M : List Pg) (F : Nat → Prop) (a : Nat) (bs : List UInt8) (k : Nat) (wr : World) : Prop where
  sp : RfIn wr b (wrAll M a (bs.take k)) F
  chg : Chg F w wr
  size : wr.heap.size = w.heap.size
def RWriteRes (w : World) (b : Nat) (M : List Pg) (F : Nat → Prop) (a : Nat) (bs : List UInt8) (r : Int) (e : Ending) (w' : World) : Prop :=
  e = .returned (.int .i64 (lookErr M a bs.length r)) ∧ RfIn w' b (writeM M a bs r) F ∧ Chg F w w' ∧ w'.heap.size = w.heap.size

set_option maxHeartbeats 4000000 in
set_option maxRecDepth 100000 in
theorem rwrite_any (w : World) (b : Nat) (M : List Pg) (F : Nat → Prop) (h : RfIn w b M F) (a : Nat) (ha : a < 18446744073709551616) (bs : List UInt8) (ad : Option Addr) (c : Nat) (hbs : SrcIn w F ad bs) (hc : bs.length ≤ c) (hcm : c ≤ 9223372036854775807) (r : Int) (hr : r = 0 ∨ r = 1 ∨ r = 2) :
    Calls Try.prog 67 #[.pointer (some ⟨b, 0, none⟩), .int .u64 a, .slice ad bs.length c, .int .i64 r] w (RWriteRes w b M F a bs r) := by
  have HL : Hid (Calls Try.prog 88 #[.pointer (some ⟨b, 0, none⟩), .int .u64 a, .int .u64 bs.length, .int .i64 r] w fun e w' => e = .returned (.int .i64 (lookErr M a bs.length r)) ∧ w = w') := rlook_any w b M F h a bs.length ha r hr
  by_cases he : lookErr M a bs.length r = 0
  · have hres : ∀ wr, RWSt w b M F a bs bs.length wr → RWriteRes w b M F a bs r (.returned (.int .i64 0)) wr := fun wr hs => by
      refine ⟨by rw [he], ?_, hs.chg, hs.size⟩
      unfold writeM; rw [if_pos he]
      have := hs.sp; rwa [List.take_length] at this
    have HRES := Lib.hid hres
    have hx : 0 < bs.length → inB a bs.length = true ∧ missing M (fst a) (lst a bs.length) = false := fun h0 => by
      unfold lookErr at he
      rw [if_neg (by omega)] at he
      cases hi : inB a bs.length with
      | false => rw [hi] at he; cases he
      | true =>
        rw [hi, if_neg (by decide)] at he
        cases hm : missing M (fst a) (lst a bs.length) with
        | false => exact ⟨rfl, rfl⟩
        | true => rw [hm] at he; cases he
    have HX := Lib.hid hx
    rw [he] at HL
    have HST : Hid (RWSt w b M F a bs 0 w) := ⟨h, Chg.refl _ _, rfl⟩
    have HBS := Lib.hid hbs
    clear he hres hx h hbs hr
    go_enter Try.func67, Try.ntmps67
    go_wp2_with (go_at_call 88; refine HL.out.mono ?_; rintro e _ ⟨rfl, rfl⟩)
    clear HL
    go_loopw [10] (fun t wr => ∃ k : Nat, k ≤ bs.length ∧ t = .int .i64 k ∧ Hid (RWSt w b M F a bs k wr)) (fun t _ => bs.length - (intOf t).toNat)
    case atStart => exact ⟨0, Nat.zero_le _, rfl, HST.out⟩
    case round =>
      obtain ⟨k, hk, rfl, HS⟩ := hrel
      by_cases hlt : k < bs.length
      · obtain ⟨hin, hmiss⟩ := HX.out (by omega)
        obtain ⟨sb, so, rfl, hsrc, hnF, hsl⟩ := HBS.out (by omega)
        have hab : a + bs.length ≤ 140737488355328 := by simp [inB] at hin; exact hin.2
        obtain ⟨cc, hcc⟩ : ∃ cc, cc = a + k := ⟨_, rfl⟩
        obtain ⟨p0, hp0⟩ := missing_false hmiss (n := cc / 4096) (by unfold fst; omega) (by unfold lst; omega)
        obtain ⟨p, hp⟩ : ∃ p, pg (wrAll M a (bs.take k)) (cc / 4096) = some p := by
          have := Spm.pg_alike_none (wrAll_alike (bs.take k) M a) (cc / 4096)
          rw [hp0] at this
          cases hq : pg (wrAll M a (bs.take k)) (cc / 4096) with
          | none => rw [hq] at this; cases this
          | some p => exact ⟨p, rfl⟩
        obtain ⟨aA, cA, aB, cB, aP, cP, A, C, hb, hpg⟩ := HS.out.sp.own
        have hhas := rhas_any wr b _ F HS.out.sp cc (by omega)
        obtain ⟨i, hix, hpi⟩ := hasIx_some hp
        rw [hix] at hhas
        have hil := (List.getElem?_eq_some_iff.1 hpi).1
        have hpm := List.mem_of_getElem? hpi
        have hfew := HS.out.sp.ok.few
        have hpb := HS.out.sp.ok.pages p hpm
        obtain ⟨ga, rfl, _, hga⟩ := hpg.ats.get (by omega)
        obtain ⟨gb, rfl, _, hgb⟩ := hpg.bys.get (by omega)
        have ca := hga i (.int .u64 ((p.num * 4096 : Nat) : Int)) (by unfold atVals; rw [List.getElem?_map, hpi]; rfl)
        have cb := hgb i (.slice (some ⟨A p.num, 0, none⟩) 4096 (C p.num)) (by unfold bsVals; rw [List.getElem?_map, hpi]; rfl)
        obtain ⟨ix, hixx⟩ : ∃ ix, ix = cc % 4096 := ⟨_, rfl⟩
        have hix4 : ix < 4096 := by omega
        have hnum := (pg_mem hp).2
        obtain ⟨cx, fx⟩ := (hpg.page p hpm).cell (i := ix) (by rw [hpb.2.2.2]; exact hix4) hix4
        have c0 : wr.cell? ⟨b, 0, none⟩ = some (.slice (some ⟨ga, 0, none⟩) (wrAll M a (bs.take k)).length cA) := by simp [World.cell?, hb, rfCells]
        have c1 : wr.cell? ⟨b, 1, none⟩ = some (.slice (some ⟨gb, 0, none⟩) (wrAll M a (bs.take k)).length cB) := by simp [World.cell?, hb, rfCells]
        have csrc : wr.cell? ⟨sb, so + k, none⟩ = some (byteVal (bs.getD k 0)) := (hsrc.keep (HS.out.chg.block sb hsl hnF)) k hlt
        have hst := fun w' hw => HS.out.sp.set hb hpg hpm (c := cc) hnum (bs.getD k 0) (w' := w') hw
        have HNEXT : Hid (∀ w', w' = (wr.drew.setCell ⟨A p.num, ix, none⟩ (byteVal (bs.getD k 0))) → RWSt w b M F a bs (k + 1) w') := fun w' hw => by
          obtain ⟨s1, s2, s3⟩ := hst w' (by rw [hw, hixx])
          exact ⟨by rw [wrAll_take hlt, ← hcc]; exact s1, HS.out.chg.trans (s2.mono fun k _ hk => .inl hk), by rw [s3]; exact HS.out.size⟩
        have HH := Lib.hid hhas
        have hcap1 := hpg.ats.cap
        have hcap2 := hpg.bys.cap
        obtain ⟨at_, hat⟩ : ∃ at_, at_ = p.num * 4096 := ⟨_, rfl⟩
        rw [← hat] at ca
        have hcat : cc = at_ + ix := by omega
        have hatb : at_ < 140737488355328 := by omega
        have hccb : cc < 140737488355328 := by omega
        have e1 : (a : Int) + (k : Int) = (cc : Int) := by omega
        have e2 : (cc : Int) - (at_ : Int) = (ix : Int) := by omega
        have z1 : (i : Int) < ((wrAll M a (bs.take k)).length : Int) := by omega
        have z2 : (ix : Int) < 4096 := by omega
        have z3 : (k : Int) < (bs.length : Int) := by omega
        generalize wrAll M a (bs.take k) = MM at *
        generalize A p.num = AA at *
        generalize C p.num = CC at *
        unfold byteVal at csrc cx HNEXT
        have hx1 : (bs.getD k 0).toNat < 256 := (bs.getD k 0).toNat_lt
        have hx2 : (p.bytes.getD ix 0).toNat < 256 := (p.bytes.getD ix 0).toNat_lt
        generalize (bs.getD k 0).toNat = bx at *
        generalize (p.bytes.getD ix 0).toNat = by_ at *
        clear hin hmiss hcc hp0 hp hhas hix hpi hga hgb hixx hnum hb hpg hst hat hcat hsrc hnF hpm hpb
        go_wp2_with (go_at_call 71; refine HH.out.mono ?_; rintro e _ ⟨rfl, rfl⟩)
        have w1 := u64n (n := k) (by omega)
        have w2 := u64n (n := cc) (by omega)
        have w3 := u64n (n := ix) (by omega)
        go_still_tail 24, (by kernel_rfl)
        change wpList _ _ _ _ _ wr.drew
        clear w1 w2 w3
        go_wp2_with fail
        go_roundw
        case rel => exact ⟨k + 1, by omega, by go_num, HNEXT.out _ rfl⟩
        case measure => simp [intOf]; omega
      · obtain rfl : k = bs.length := by omega
        go_wp2_with fail
        go_ret
        exact HRES.out _ HS.out
  · have hres : RWriteRes w b M F a bs r (.returned (.int .i64 (lookErr M a bs.length r))) w := ⟨rfl, by unfold writeM; rw [if_neg he]; exact h, Chg.refl _ _, rfl⟩
    have HRES := Lib.hid hres
    generalize lookErr M a bs.length r = er at *
    have i1 : ((er : Int) != 0) = true := by rw [bne_iff_ne]; exact he
    clear h hbs he hres hr
    go_enter Try.func67, Try.ntmps67
    go_wp2_with (go_at_call 88; refine HL.out.mono ?_; rintro e _ ⟨rfl, rfl⟩)
    go_ret
    exact HRES.out
end Go.Proofs.Ytepnaalgobhcdaa
namespace Go.Proofs.Ytepnaalgobhcdaa
open Go.RowKit Spm

theorem readAll_succ (M : List Pg) (a k : Nat) : readAll M a (k + 1) = readAll M a k ++ [byteAt M (a + k)] := by
  unfold readAll; rw [List.range_succ, List.map_append]; rfl
structure RRSt (w : World) (M : List Pg) (a k : Nat) (v : Value) (wr : World) : Prop where
  own : wr.ownsRow w.heap.size 5 1 v k (bvs (readAll M a k))
  below : Below w.heap.size w wr

set_option maxHeartbeats 4000000 in
set_option maxRecDepth 100000 in
theorem rread_any (w : World) (b : Nat) (M : List Pg) (F : Nat → Prop) (h : RfIn w b M F) (a n : Nat) (ha : a < 18446744073709551616) :
    Calls Try.prog 68 #[.pointer (some ⟨b, 0, none⟩), .int .u64 a, .int .u64 n] w (ReadRes w M a n) := by
  by_cases hbig : 1048576 < n
  · have HR := Lib.hid (ReadRes.no (w := w) (M := M) (a := a) (n := n) (er := 4) (by unfold readErr; rw [if_pos hbig]) (by decide) (Below.refl _ w))
    have i1 : (1048576 : Int) < (n : Int) := by omega
    clear h hbig
    go_enter Try.func68, Try.ntmps68
    go_wp2_with fail
    go_ret2
    exact HR.out
  · have e : readErr M a n = lookErr M a n 1 := by unfold readErr; rw [if_neg hbig]
    have HL : Hid (Calls Try.prog 88 #[.pointer (some ⟨b, 0, none⟩), .int .u64 a, .int .u64 n, .int .i64 1] w fun e w' => e = .returned (.int .i64 (readErr M a n)) ∧ w = w') := by
      have := rlook_any w b M F h a n ha 1 (by decide); rw [← e] at this; exact this
    have i1 : ¬ (1048576 : Int) < (n : Int) := by omega
    by_cases he : readErr M a n = 0
    · have hx : 0 < n → inB a n = true ∧ missing M (fst a) (lst a n) = false := fun h0 => by
        rw [he] at e
        unfold lookErr at e
        rw [if_neg (by omega)] at e
        cases hi : inB a n with
        | false => rw [hi] at e; cases e
        | true =>
          rw [hi, if_neg (by decide)] at e
          cases hm : missing M (fst a) (lst a n) with
          | false => exact ⟨rfl, rfl⟩
          | true => rw [hm] at e; cases e
      have HX := Lib.hid hx
      have HE := Lib.hid he
      rw [he] at HL
      have HH := Lib.hid h
      obtain ⟨i0, hi0, hz0, hz1, hz2⟩ := info_parts infoU8
      clear he hx h e
      go_enter Try.func68, Try.ntmps68
      go_wp2_with (go_at_call 88; refine HL.out.mono ?_; rintro e _ ⟨rfl, rfl⟩)
      clear HL i1
      go_loopw [9, 10] (fun v t wr => ∃ (k : Nat) (ad : Option Addr) (cp : Nat), k ≤ n ∧ t = .int .u64 k ∧ v = .slice ad k cp ∧ Hid (RRSt w M a k (.slice ad k cp) wr)) (fun _ t _ => n - (intOf t).toNat)
      case atStart => exact ⟨0, none, 0, Nat.zero_le _, rfl, rfl, World.ownsRow_nil _ _ _ _, Below.refl _ _⟩
      case round =>
        obtain ⟨k, ad, cp, hk, rfl, rfl, HS⟩ := hrel
        by_cases hlt : k < n
        · obtain ⟨hin, hmiss⟩ := HX.out (by omega)
          have hab : a + n ≤ 140737488355328 := by simp [inB] at hin; exact hin.2
          obtain ⟨cc, hcc⟩ : ∃ cc, cc = a + k := ⟨_, rfl⟩
          obtain ⟨p, hp⟩ := missing_false hmiss (n := cc / 4096) (by unfold fst; omega) (by unfold lst; omega)
          have hsp := HH.out.keepB HS.out.below
          obtain ⟨aA, cA, aB, cB, aP, cP, A, C, hb, hpg⟩ := hsp.own
          have hhas := rhas_any wr b _ F hsp cc (by omega)
          obtain ⟨i, hix, hpi⟩ := hasIx_some hp
          rw [hix] at hhas
          have hil := (List.getElem?_eq_some_iff.1 hpi).1
          have hpm := List.mem_of_getElem? hpi
          have hfew := hsp.ok.few
          have hpb := hsp.ok.pages p hpm
          obtain ⟨ga, rfl, _, hga⟩ := hpg.ats.get (by omega)
          obtain ⟨gb, rfl, _, hgb⟩ := hpg.bys.get (by omega)
          have ca := hga i (.int .u64 ((p.num * 4096 : Nat) : Int)) (by unfold atVals; rw [List.getElem?_map, hpi]; rfl)
          have cb := hgb i (.slice (some ⟨A p.num, 0, none⟩) 4096 (C p.num)) (by unfold bsVals; rw [List.getElem?_map, hpi]; rfl)
          obtain ⟨ix, hixx⟩ : ∃ ix, ix = cc % 4096 := ⟨_, rfl⟩
          have hix4 : ix < 4096 := by omega
          have hnum := (pg_mem hp).2
          obtain ⟨cx, fx⟩ := (hpg.page p hpm).cell (i := ix) (by rw [hpb.2.2.2]; exact hix4) hix4
          have hbyte : byteAt M (a + k) = p.bytes.getD ix 0 := by unfold byteAt; rw [← hcc, hp, ← hixx]
          have c0 : wr.cell? ⟨b, 0, none⟩ = some (.slice (some ⟨ga, 0, none⟩) M.length cA) := by simp [World.cell?, hb, rfCells]
          have c1 : wr.cell? ⟨b, 1, none⟩ = some (.slice (some ⟨gb, 0, none⟩) M.length cB) := by simp [World.cell?, hb, rfCells]
          obtain ⟨x, hxx⟩ : ∃ x, x = p.bytes.getD ix 0 := ⟨_, rfl⟩
          rw [← hxx] at cx hbyte
          have hnext : ∀ v' w2 wt, Below wr.heap.size wr wt → w2.ownsRow w.heap.size 5 1 v' (k + 1) (bvs (readAll M a k) ++ [byteVal x]) → wt.grownBy w2 (Value.slice ad k cp).ownBlock → RRSt w M a (k + 1) v' w2 := fun v' w2 wt h0 h1 h2 => by
            refine ⟨?_, (push_core HS.out.below HS.out.own h0 h2).2⟩
            rw [readAll_succ, hbyte]
            unfold bvs at h1 ⊢
            rw [List.map_append]; exact h1
          have HNEXT := Lib.hid hnext
          have HH2 := Lib.hid hhas
          have hcap1 := hpg.ats.cap
          have hcap2 := hpg.bys.cap
          obtain ⟨at_, hat⟩ : ∃ at_, at_ = p.num * 4096 := ⟨_, rfl⟩
          rw [← hat] at ca
          have hcat : cc = at_ + ix := by omega
          have hatb : at_ < 140737488355328 := by omega
          have hccb : cc < 140737488355328 := by omega
          have e1 : (a : Int) + (k : Int) = (cc : Int) := by omega
          have e2 : (cc : Int) - (at_ : Int) = (ix : Int) := by omega
          have z1 : (i : Int) < (M.length : Int) := by omega
          have z2 : (ix : Int) < 4096 := by omega
          generalize A p.num = AA at *
          generalize C p.num = CC at *
          unfold byteVal at cx HNEXT
          have hx1 : x.toNat < 256 := x.toNat_lt
          generalize x.toNat = bx at *
          clear hin hmiss hcc hp hhas hix hpi hga hgb hixx hnum hb hpg hat hcat hpm hpb hsp hnext hbyte hxx
          go_wp2_with (go_at_call 71; refine HH2.out.mono ?_; rintro e _ ⟨rfl, rfl⟩)
          have hbz := HS.out.below.size
          have hkn : k + 1 ≤ 1048576 := by omega
          have HWT : Hid (∀ o, Below wr.heap.size wr (wr.alloc o).drew) := fun o => ((Below.refl _ wr).alloc (Nat.le_refl _) o).drew
          have HM1 : Hid (k + 1 ≤ maxLen) := by show k + 1 ≤ maxLen; unfold maxLen; omega
          have HM2 : Hid ((k + 1) * 1 ≤ 140737488355328) := by show (k + 1) * 1 ≤ _; omega
          have HM3 : Hid (w.heap.size ≤ wr.heap.size + 1) := by show w.heap.size ≤ _; omega
          have w1 := u64n (n := k) (by omega)
          have w2 := u64n (n := cc) (by omega)
          have w3 := u64n (n := ix) (by omega)
          go_region_law (refine step_append_lies _ rfl (.tmp 31) (.tmp 52) 57 rfl w.heap.size 5 i0 (.int .u8 0) 1 1 Try.underlying57 hi0 hz0 hz1 hz2 rfl (by decide) (.slice ad k cp) k (bvs (readAll M a k)) rfl (owns_same (HS.out.own.alloc _) fun _ _ => rfl) ⟨wr.heap.size, 0, none⟩ 1 1 [.int .u8 (bx : Int)] rfl rfl (World.news_of_block (hp_new wr _ _ rfl)) (by simp [Value.oneCell']) (by decide) HM1.out HM2.out (by simp; exact HM3.out) _ rfl ?_; intro gN cN w2' hown' hgrow _ _; have HS2 := Lib.hid (HNEXT.out _ w2' _ (HWT.out _) hown' hgrow); clear hown' hgrow)
          all_goals
            clear w1 w2 w3
            go_wp2_with fail
            go_roundw
            case rel => exact ⟨k + 1, _, _, by omega, by go_num, rfl, HS2.out⟩
            case measure => simp [intOf]; omega
        · obtain rfl : k = n := by omega
          go_wp2_with fail
          go_ret2
          exact ⟨_, by rw [HE.out]; rfl, HS.out.below, fun h0 => absurd HE.out h0, fun _ => HS.out.own⟩
    · have hres : ReadRes w M a n (.returned (.tuple #[.slice none 0 0, .int .i64 (readErr M a n)])) w := ReadRes.no rfl he (Below.refl _ w)
      have HR := Lib.hid hres
      generalize readErr M a n = er at *
      have i2 : ((er : Int) != 0) = true := by rw [bne_iff_ne]; exact he
      clear h he hbig hres e
      go_enter Try.func68, Try.ntmps68
      go_wp2_with (go_at_call 88; refine HL.out.mono ?_; rintro e _ ⟨rfl, rfl⟩)
      go_ret2
      exact HR.out
end Go.Proofs.Ytepnaalgobhcdaa
namespace Go.Proofs.Ytepnaalgobhcdaa
open Go.RowKit Spm

/-- The space at s holds M1, the document's space at r holds M2; both are new since w, and share nothing; the blocks of X lie as they lay in w0. -/
structure TwoX (X : Nat → Prop) (w0 w : World) (s r : Nat) (M1 M2 : List Pg) (wr : World) : Prop where
  own : ∃ F G : Nat → Prop, SpIn wr s M1 F ∧ RfIn wr r M2 G ∧ (∀ k, F k → ¬ G k) ∧ (∀ k, F k → w.heap.size ≤ k) ∧ (∀ k, G k → w.heap.size ≤ k) ∧ ∀ k, X k → ¬ F k ∧ ¬ G k
  below : Below w.heap.size w wr
  xs : ∀ k, X k → k < w0.heap.size ∧ wr.heap[k]? = w0.heap[k]?
/-- Nothing is held. -/
abbrev Two (w : World) (s r : Nat) (M1 M2 : List Pg) (wr : World) : Prop := TwoX (fun _ => False) w w s r M1 M2 wr

section
variable {X : Nat → Prop} {w0 w w1 w2 : World} {s r : Nat} {M1 M2 : List Pg}
theorem TwoX.xlt (h : TwoX X w0 w s r M1 M2 w1) {k : Nat} (hk : X k) : k < w1.heap.size := by
  obtain ⟨h1, h2⟩ := h.xs k hk
  rw [Array.getElem?_eq_getElem h1] at h2
  exact lt_of_block h2
theorem TwoX.keep (h : TwoX X w0 w s r M1 M2 w1) (hb : Below w1.heap.size w1 w2) : TwoX X w0 w s r M1 M2 w2 := by
  obtain ⟨F, G, h1, h2, h3, h4, h5, h7⟩ := h.own
  exact ⟨⟨F, G, h1.keepB hb, h2.keepB hb, h3, h4, h5, h7⟩, h.below.trans (below_le hb h.below.size), fun k hk => ⟨(h.xs k hk).1, (hb.block k (h.xlt hk)).trans (h.xs k hk).2⟩⟩
theorem TwoX.ok1 (h : TwoX X w0 w s r M1 M2 w1) : Ok M1 := by
  obtain ⟨⟨F, G, h1, _⟩, _⟩ := h; exact h1.ok
theorem TwoX.ok2 (h : TwoX X w0 w s r M1 M2 w1) : Ok M2 := by
  obtain ⟨⟨F, G, _, h1, _⟩, _⟩ := h; exact h1.ok
/-- What is laid anew is held from here on. -/
theorem TwoX.hold {Y : Nat → Prop} (h : TwoX X w0 w s r M1 M2 w1) (hb : Below w1.heap.size w1 w2) (hY : ∀ k, Y k → w1.heap.size ≤ k ∧ k < w2.heap.size) : TwoX Y w2 w s r M1 M2 w2 := by
  obtain ⟨F, G, h1, h2, h3, h4, h5, _⟩ := h.own
  exact ⟨⟨F, G, h1.keepB hb, h2.keepB hb, h3, h4, h5, fun k hk => ⟨fun hf => by have := h1.lt k hf; have := hY k hk; omega, fun hg => by have := h2.lt k hg; have := hY k hk; omega⟩⟩, h.below.trans (below_le hb h.below.size), fun k hk => ⟨(hY k hk).2, rfl⟩⟩
theorem TwoX.drop (h : TwoX X w0 w s r M1 M2 w1) : Two w s r M1 M2 w1 := by
  obtain ⟨F, G, h1, h2, h3, h4, h5, _⟩ := h.own
  exact ⟨⟨F, G, h1, h2, h3, h4, h5, fun _ hk => hk.elim⟩, h.below, fun _ hk => hk.elim⟩
/-- What turns the first space only. -/
theorem TwoX.left {M1' : List Pg} {F G : Nat → Prop} (h : TwoX X w0 w s r M1 M2 w1) (h2 : RfIn w1 r M2 G) (h3 : ∀ k, F k → ¬ G k) (h4 : ∀ k, F k → w.heap.size ≤ k) (h5 : ∀ k, G k → w.heap.size ≤ k) (h7 : ∀ k, X k → ¬ F k ∧ ¬ G k)
    (hs : SpIn w2 s M1' (grow F w1 w2)) (hc : Chg F w1 w2) : TwoX X w0 w s r M1' M2 w2 :=
  ⟨⟨grow F w1 w2, G, hs, h2.keep hc (fun k hg hf => h3 k hf hg), fun k hk hg => by
    rcases hk with hk | hk
    · exact h3 k hk hg
    · have := h2.lt k hg; omega, grow_below h4 h.below.size, h5, fun k hk => ⟨fun hf => by
    rcases hf with hf | hf
    · exact (h7 k hk).1 hf
    · have := h.xlt hk; omega, (h7 k hk).2⟩⟩, h.below.trans (hc.below h4 h.below.size), fun k hk => ⟨(h.xs k hk).1, (hc.block k (h.xlt hk) (h7 k hk).1).trans (h.xs k hk).2⟩⟩
/-- What turns the second space only. -/
theorem TwoX.right {M2' : List Pg} {F G : Nat → Prop} (h : TwoX X w0 w s r M1 M2 w1) (h1 : SpIn w1 s M1 F) (h3 : ∀ k, F k → ¬ G k) (h4 : ∀ k, F k → w.heap.size ≤ k) (h5 : ∀ k, G k → w.heap.size ≤ k) (h7 : ∀ k, X k → ¬ F k ∧ ¬ G k)
    (hs : RfIn w2 r M2' (grow G w1 w2)) (hc : Chg G w1 w2) : TwoX X w0 w s r M1 M2' w2 :=
  ⟨⟨F, grow G w1 w2, h1.keep hc h3, hs, fun k hk hg => by
    rcases hg with hg | hg
    · exact h3 k hk hg
    · have := h1.lt k hk; omega, h4, grow_below h5 h.below.size, fun k hk => ⟨(h7 k hk).1, fun hg => by
    rcases hg with hg | hg
    · exact (h7 k hk).2 hg
    · have := h.xlt hk; omega⟩⟩, h.below.trans (hc.below h5 h.below.size), fun k hk => ⟨(h.xs k hk).1, (hc.block k (h.xlt hk) (h7 k hk).2).trans (h.xs k hk).2⟩⟩
end
theorem SpIn.wider {w1 w2 : World} {b : Nat} {M : List Pg} {F : Nat → Prop} (h : SpIn w2 b M F) : SpIn w2 b M (grow F w1 w2) := by
  obtain ⟨h1, ⟨mb, A, h2, h3⟩, h4, h5⟩ := h
  exact ⟨h1, ⟨mb, A, h2, ⟨h3.map, .inl h3.fmap, fun p hp => ⟨.inl (h3.page p hp).1, (h3.page p hp).2⟩, h3.apart⟩⟩, .inl h4, fun k hk => by
    rcases hk with hk | hk
    · exact h5 k hk
    · exact hk.2⟩
theorem RfIn.wider {w1 w2 : World} {b : Nat} {M : List Pg} {F : Nat → Prop} (h : RfIn w2 b M F) : RfIn w2 b M (grow F w1 w2) := by
  obtain ⟨h1, ⟨aA, cA, aB, cB, aP, cP, A, C, h2, h3⟩, h4, h5⟩ := h
  exact ⟨h1, ⟨aA, cA, aB, cB, aP, cP, A, C, h2, h3.ats.mono fun _ h => .inl h, h3.bys.mono fun _ h => .inl h, h3.prs.mono fun _ h => .inl h, fun p hp => (h3.page p hp).mono fun _ h => .inl h, h3.apart⟩, .inl h4, fun k hk => by
    rcases hk with hk | hk
    · exact h5 k hk
    · exact hk.2⟩

def TwoInt (X : Nat → Prop) (w0 w : World) (s r : Nat) (M1 M2 : List Pg) (er : Int) (e : Ending) (w' : World) : Prop := e = .returned (.int .i64 er) ∧ TwoX X w0 w s r M1 M2 w'
section
variable {X : Nat → Prop} {w0 w w1 : World} {s r : Nat} {M1 M2 : List Pg}
theorem two_map (h : TwoX X w0 w s r M1 M2 w1) (a n : Nat) (ha : a < 18446744073709551616) (prot : Int) :
    Calls Try.prog 25 #[.pointer (some ⟨s, 0, none⟩), .int .u64 a, .int .u64 n, .int .i64 prot] w1 (TwoInt X w0 w s r (mapM M1 a n prot) M2 (mapErr M1 a n prot)) := by
  obtain ⟨F, G, h1, h2, h3, h4, h5, h7⟩ := h.own
  refine (map_any w1 s M1 F h1 a n ha prot).mono ?_
  rintro e w' ⟨rfl, g1, g2⟩
  exact ⟨rfl, h.left h2 h3 h4 h5 h7 g1 g2⟩
theorem two_rmap (h : TwoX X w0 w s r M1 M2 w1) (a n : Nat) (ha : a < 18446744073709551616) (prot : Int) :
    Calls Try.prog 66 #[.pointer (some ⟨r, 0, none⟩), .int .u64 a, .int .u64 n, .int .i64 prot] w1 (TwoInt X w0 w s r M1 (mapM M2 a n prot) (mapErr M2 a n prot)) := by
  obtain ⟨F, G, h1, h2, h3, h4, h5, h7⟩ := h.own
  refine (rmap_any w1 r M2 G h2 a n ha prot).mono ?_
  rintro e w' ⟨rfl, g1, g2⟩
  exact ⟨rfl, h.right h1 h3 h4 h5 h7 g1 g2⟩
/-- Bytes that lie in what was there before w, or in what is held. -/
def SrcOld (X : Nat → Prop) (w w1 : World) (ad : Option Addr) (bs : List UInt8) : Prop := 0 < bs.length → ∃ sb so, ad = some ⟨sb, so, none⟩ ∧ BytesIn w1 sb so bs ∧ (sb < w.heap.size ∨ X sb)
theorem src_old (h : TwoX X w0 w s r M1 M2 w1) {F : Nat → Prop} (h4 : ∀ k, F k → w.heap.size ≤ k) (h7 : ∀ k, X k → ¬ F k) {ad : Option Addr} {bs : List UInt8} (hbs : SrcOld X w w1 ad bs) : SrcIn w1 F ad bs := fun h0 => by
  obtain ⟨sb, so, k1, k2, k3⟩ := hbs h0
  refine ⟨sb, so, k1, k2, fun hF => ?_, ?_⟩
  · rcases k3 with k3 | k3
    · have := h4 sb hF; omega
    · exact h7 sb k3 hF
  · rcases k3 with k3 | k3
    · exact Nat.lt_of_lt_of_le k3 h.below.size
    · exact h.xlt k3
theorem two_fill (h : TwoX X w0 w s r M1 M2 w1) (a : Nat) (ha : a < 18446744073709551616) (bs : List UInt8) (ad : Option Addr) (c : Nat) (hbs : SrcOld X w w1 ad bs) (hc : bs.length ≤ c) (hcm : c ≤ 9223372036854775807) :
    Calls Try.prog 37 #[.pointer (some ⟨s, 0, none⟩), .int .u64 a, .slice ad bs.length c] w1 (TwoInt X w0 w s r (writeM M1 a bs 0) M2 (lookErr M1 a bs.length 0)) := by
  obtain ⟨F, G, h1, h2, h3, h4, h5, h7⟩ := h.own
  refine (fill_any w1 s M1 F h1 a ha bs ad c (src_old h h4 (fun k hk => (h7 k hk).1) hbs) hc hcm).mono ?_
  rintro e w' ⟨rfl, g1, g2⟩
  exact ⟨rfl, h.left h2 h3 h4 h5 h7 g1.wider g2⟩
theorem two_write (h : TwoX X w0 w s r M1 M2 w1) (a : Nat) (ha : a < 18446744073709551616) (bs : List UInt8) (ad : Option Addr) (c : Nat) (hbs : SrcOld X w w1 ad bs) (hc : bs.length ≤ c) (hcm : c ≤ 9223372036854775807) :
    Calls Try.prog 38 #[.pointer (some ⟨s, 0, none⟩), .int .u64 a, .slice ad bs.length c] w1 (TwoInt X w0 w s r (writeM M1 a bs 2) M2 (lookErr M1 a bs.length 2)) := by
  obtain ⟨F, G, h1, h2, h3, h4, h5, h7⟩ := h.own
  refine (write_any w1 s M1 F h1 a ha bs ad c (src_old h h4 (fun k hk => (h7 k hk).1) hbs) hc hcm).mono ?_
  rintro e w' ⟨rfl, g1, g2⟩
  exact ⟨rfl, h.left h2 h3 h4 h5 h7 g1.wider g2⟩
theorem two_rwrite (h : TwoX X w0 w s r M1 M2 w1) (a : Nat) (ha : a < 18446744073709551616) (bs : List UInt8) (ad : Option Addr) (c : Nat) (hbs : SrcOld X w w1 ad bs) (hc : bs.length ≤ c) (hcm : c ≤ 9223372036854775807) (p : Int) (hp : p = 0 ∨ p = 1 ∨ p = 2) :
    Calls Try.prog 67 #[.pointer (some ⟨r, 0, none⟩), .int .u64 a, .slice ad bs.length c, .int .i64 p] w1 (TwoInt X w0 w s r M1 (writeM M2 a bs p) (lookErr M2 a bs.length p)) := by
  obtain ⟨F, G, h1, h2, h3, h4, h5, h7⟩ := h.own
  refine (rwrite_any w1 r M2 G h2 a ha bs ad c (src_old h h5 (fun k hk => (h7 k hk).2) hbs) hc hcm p hp).mono ?_
  rintro e w' ⟨rfl, g1, g2, _⟩
  exact ⟨rfl, h.right h1 h3 h4 h5 h7 g1.wider g2⟩
end

theorem rf_new (w : World) : RfIn (w.alloc (.cells #[.slice none 0 0, .slice none 0 0, .slice none 0 0] 55)) w.heap.size [] (fun k => k = w.heap.size) :=
  ⟨ok_nil, ⟨none, 0, none, 0, none, 0, fun _ => 0, fun _ => 0, hp_new _ _ _ rfl, ⟨World.ownsRow_nil _ _ _ _, fun _ h => by cases h⟩, ⟨World.ownsRow_nil _ _ _ _, fun _ h => by cases h⟩, ⟨World.ownsRow_nil _ _ _ _, fun _ h => by cases h⟩, fun _ h => absurd h List.not_mem_nil, fun _ h => absurd h List.not_mem_nil⟩, rfl, fun k hk => by rw [hk]; simp⟩
theorem two_new {w w1 : World} {s : Nat} (h1 : SpIn w1 s [] (newF w)) (h2 : Below w.heap.size w w1) : Two w s w1.heap.size [] [] (w1.alloc (.cells #[.slice none 0 0, .slice none 0 0, .slice none 0 0] 55)) :=
  ⟨⟨newF w, _, h1.keepB ((Below.refl _ w1).alloc (Nat.le_refl _) _), rf_new w1, fun k hk e => by have := h1.lt k hk; omega, fun k hk => hk.1, fun k hk => by rw [hk]; exact h2.size, fun _ hk => hk.elim⟩, h2.alloc h2.size _, fun _ hk => hk.elim⟩
/-! ### A range of memory -/
structure RngM where
  at_ : Nat
  pages : Int
  prot : Int
  bytes : List UInt8
def RngAt (w : World) (x : RngM) (b off : Nat) : Prop :=
  ∃ (a : Option Addr) (c : Nat), x.at_ < 18446744073709551616 ∧ (-9223372036854775808 ≤ x.pages ∧ x.pages ≤ 9223372036854775807) ∧ x.bytes.length ≤ c ∧ c ≤ maxLen ∧
    CellsAt w b off #[.int .u64 x.at_, .int .i64 x.pages, .int .i64 x.prot, .slice a x.bytes.length c] ∧ (0 < x.bytes.length → ∃ sb so, a = some ⟨sb, so, none⟩ ∧ BytesIn w sb so x.bytes)
def Rngs (w : World) (a : Option Addr) (c : Nat) (l : List RngM) : Prop := l.length ≤ c ∧ c ≤ maxLen ∧ SliceOf a l.length 4 fun j => RngAt w (l.getD j ⟨0, 0, 0, []⟩)
theorem RngAt.keep {w w' : World} {x : RngM} {b off : Nat} (h : RngAt w x b off) (hb : Below w.heap.size w w') : RngAt w' x b off := by
  obtain ⟨a, c, h1, h2, h3, h4, h5, h6⟩ := h
  exact ⟨a, c, h1, h2, h3, h4, h5.keep hb, fun h0 => by
    obtain ⟨sb, so, k1, k2⟩ := h6 h0
    exact ⟨sb, so, k1, k2.keep (hb.block sb (block_lt_of_cell (k2 0 h0)))⟩⟩
theorem Rngs.keep {w w' : World} {a : Option Addr} {c : Nat} {l : List RngM} (h : Rngs w a c l) (hb : Below w.heap.size w w') : Rngs w' a c l := ⟨h.1, h.2.1, h.2.2.mono fun _ _ _ _ h => h.keep hb⟩
def rngBad (x : RngM) : Bool := decide (x.pages < 0) || decide (4 < x.pages) || decide (4096 * x.pages < (x.bytes.length : Int))
def rngStep (M : List Pg) (x : RngM) : List Pg := if mapErr M x.at_ (4096 * x.pages.toNat) x.prot = 0 then writeM (mapM M x.at_ (4096 * x.pages.toNat) x.prot) x.at_ x.bytes 0 else M
def memM (l : List RngM) : List Pg := l.foldl rngStep []
def memOk (l : List RngM) : Bool := decide (l.length ≤ 6) && l.all fun x => !rngBad x
theorem memM_snoc {l : List RngM} {i : Nat} {x : RngM} (h : l[i]? = some x) : memM (l.take (i + 1)) = rngStep (memM (l.take i)) x := by
  unfold memM; rw [List.take_add_one, h]; simp
end Go.Proofs.Ytepnaalgobhcdaa
namespace Go.Proofs.Ytepnaalgobhcdaa
open Go.RowKit Spm

def MemRes21 (w : World) (l : List RngM) (e : Ending) (w' : World) : Prop :=
  (memOk l = false ∧ e = .returned (.tuple #[.pointer none, .pointer none, .bool false]) ∧ Below w.heap.size w w') ∨
  (memOk l = true ∧ ∃ s r : Nat, e = .returned (.tuple #[.pointer (some ⟨s, 0, none⟩), .pointer (some ⟨r, 0, none⟩), .bool true]) ∧ Two w s r (memM l) (memM l) w')
theorem size159 : (Try.prog.info? 159).map (·.size) = some 4 := by kernel_rfl

set_option maxHeartbeats 4000000 in
set_option maxRecDepth 100000 in
theorem memory21_any (w : World) (a : Option Addr) (c : Nat) (l : List RngM) (h : Rngs w a c l) : Calls Try.prog 45 #[.slice a l.length c] w (MemRes21 w l) := by
  have HN : Hid (∀ W : World, Calls Try.prog 24 #[] W fun e w' => e = .returned (.pointer (some ⟨W.heap.size + 1, 0, none⟩)) ∧ SpIn w' (W.heap.size + 1) [] (newF W) ∧ Below W.heap.size W w' ∧ w'.heap.size = W.heap.size + 2) := new_any
  have hm := h.2.1
  unfold maxLen at hm
  have hlc := h.1
  have HL := Lib.hid h
  by_cases h6 : 6 < l.length
  · have e : memOk l = false := by unfold memOk; simp; omega
    have E := Lib.hid e
    have i1 : (6 : Int) < (l.length : Int) := by omega
    clear h e
    go_enter Try.func45, Try.ntmps45
    go_wp2_with (go_at_call 24; refine (HN.out _).mono ?_; rintro e w1 ⟨rfl, h1, h2, h3⟩; have B1 := Lib.hid h2; clear h1 h2 h3)
    go_ret3
    exact .inl ⟨E.out, rfl, B1.out.alloc B1.out.size _⟩
  · have i1 : ¬ (6 : Int) < (l.length : Int) := by omega
    clear h
    go_enter Try.func45, Try.ntmps45
    go_wp2_with (go_at_call 24; refine (HN.out _).mono ?_; rintro e w1 ⟨rfl, h1, h2, h3⟩; have HT0 : Hid (Two w (w.heap.size + 1) w1.heap.size [] [] (w1.alloc (.cells #[.slice none 0 0, .slice none 0 0, .slice none 0 0] 55))) := two_new h1 h2; have S1 := Lib.hid h3; clear h1 h2 h3)
    clear HN i1
    go_loopw [7] (fun t wr => ∃ i : Nat, i ≤ l.length ∧ t = .int .i64 i ∧ Hid ((l.take i).all (fun x => !rngBad x) = true) ∧ Hid (Two w (w.heap.size + 1) w1.heap.size (memM (l.take i)) (memM (l.take i)) wr)) (fun t _ => l.length - (intOf t).toNat)
    case atStart => exact ⟨0, Nat.zero_le _, rfl, rfl, HT0.out⟩
    case round =>
      obtain ⟨i, hi, rfl, HA, HT⟩ := hrel
      by_cases hlt : i < l.length
      · obtain ⟨x, hx⟩ : ∃ x, l[i]? = some x := ⟨l[i], List.getElem?_eq_getElem hlt⟩
        have hxd : l.getD i ⟨0, 0, 0, []⟩ = x := by rw [List.getD_eq_getElem?_getD, hx]; rfl
        obtain ⟨b, o, rfl, hr⟩ := HL.out.2.2.get (by omega)
        have hri := hr i hlt
        rw [hxd] at hri
        obtain ⟨ad, cp, x1, x2, x3, x4, x5, x6⟩ := hri
        have HX := Lib.hid hx
        have HX6 := Lib.hid x6
        have hbl := x5.lt (by simp)
        have HC5 := Lib.hid (x5.keep HT.out.below)
        have hwz := HT.out.below.size
        unfold maxLen at x4
        have hoff : i * 4 = i * 4 := rfl
        have hm1 := @memM_snoc l i x hx
        have HM1 := Lib.hid hm1
        have ha1 : rngBad x = false → (l.take (i + 1)).all (fun x => !rngBad x) = true := fun hb => all_take (q := fun x => !rngBad x) hx HA.out (show (!rngBad x) = true by rw [hb]; rfl)
        have HA1 := Lib.hid ha1
        have HBAD : Hid (rngBad x = true → memOk l = false) := fun hb => by
          unfold memOk
          rw [List.all_eq_false.2 ⟨x, List.mem_of_getElem? hx, by rw [hb]; simp⟩]; simp
        obtain ⟨M, hM⟩ : ∃ M, M = memM (l.take i) := ⟨_, rfl⟩
        rw [← hM] at HT HM1
        obtain ⟨xa, xp, xr, xb⟩ := x
        simp only at x1 x2 x3 x4 HC5 HX6
        clear hx hxd hr x5 x6 hm1 ha1 hM hoff
        by_cases c1 : xp < 0
        · have E := Lib.hid (HBAD.out (by simp [rngBad, c1]))
          go_wp2_with (refine wpList_load_agg 159 (.tmp 24) rfl rfl b (o + i * 4) (by simp [Act.eval]) _ _ HC5.out Try.underlying159 rfl size159 ?_)
          go_ret3
          exact .inl ⟨E.out, rfl, HT.out.below.alloc hwz _⟩
        by_cases c2 : 4 < xp
        · have E := Lib.hid (HBAD.out (by simp [rngBad, c2]))
          go_wp2_with (refine wpList_load_agg 159 (.tmp 24) rfl rfl b (o + i * 4) (by simp [Act.eval]) _ _ HC5.out Try.underlying159 rfl size159 ?_)
          go_ret3
          exact .inl ⟨E.out, rfl, HT.out.below.alloc hwz _⟩
        by_cases c3 : 4096 * xp < (xb.length : Int)
        · have E := Lib.hid (HBAD.out (by simp [rngBad, c3]))
          go_wp2_with (refine wpList_load_agg 159 (.tmp 24) rfl rfl b (o + i * 4) (by simp [Act.eval]) _ _ HC5.out Try.underlying159 rfl size159 ?_)
          go_ret3
          exact .inl ⟨E.out, rfl, HT.out.below.alloc hwz _⟩
        obtain ⟨xn, rfl⟩ : ∃ xn : Nat, xp = (xn : Int) := ⟨xp.toNat, by omega⟩
        have hxn : xn ≤ 4 := by omega
        have HALL := Lib.hid (HA1.out (by simp [rngBad, c1, c2, c3]))
        obtain ⟨OB, hOB⟩ : ∃ OB : Obj, OB = .cells #[.int .u64 (xa : Int), .int .i64 (xn : Int), .int .i64 xr, .slice ad xb.length cp] 159 := ⟨_, rfl⟩
        obtain ⟨wx, hwx⟩ : ∃ wx, wx = wr.alloc OB := ⟨_, rfl⟩
        have HTX : Hid (TwoX (fun k => k = wr.heap.size) wx w (w.heap.size + 1) w1.heap.size M M wx) := by
          rw [hwx]; exact HT.out.hold ((Below.refl _ wr).alloc (Nat.le_refl _) _) (fun k hk => by subst hk; simp)
        have HCX : Hid (∀ N1 N2 u, TwoX (fun k => k = wr.heap.size) wx w (w.heap.size + 1) w1.heap.size N1 N2 u → u.cell? ⟨wr.heap.size, 0, none⟩ = some (.int .u64 (xa : Int)) ∧ u.cell? ⟨wr.heap.size, 1, none⟩ = some (.int .i64 (xn : Int)) ∧ u.cell? ⟨wr.heap.size, 2, none⟩ = some (.int .i64 xr) ∧ u.cell? ⟨wr.heap.size, 3, none⟩ = some (.slice ad xb.length cp)) := fun N1 N2 u hu => by
          have h1 := (hu.xs _ rfl).2
          have h2 : wx.heap[wr.heap.size]? = some OB := by rw [hwx]; exact hp_new _ _ _ rfl
          rw [h2, hOB] at h1
          simp [World.cell?, h1]
        have HWX := Lib.hid hwx
        have HOB := Lib.hid hOB
        have HS : Hid (∀ u, Below w.heap.size w u → SrcOld (fun k => k = wr.heap.size) w u ad xb) := fun u hu h0 => by
          obtain ⟨sb, so, k1, k2⟩ := HX6.out h0
          have hsb := block_lt_of_cell (k2 0 h0)
          exact ⟨sb, so, k1, k2.keep (hu.block sb hsb), .inl hsb⟩
        obtain ⟨PX, hPX⟩ : ∃ PX : List Pg → List Pg → World → Prop, PX = TwoX (fun k => k = wr.heap.size) wx w (w.heap.size + 1) w1.heap.size := ⟨_, rfl⟩
        clear HA1 HBAD HX6 c1 c2 hwx hOB
        have HMP : Hid (∀ u, PX M M u → Calls Try.prog 25 #[.pointer (some ⟨w.heap.size + 1, 0, none⟩), .int .u64 (xa : Int), .int .u64 (4096 * (xn : Int)), .int .i64 xr] u fun e u' => e = .returned (.int .i64 (mapErr M xa (4096 * xn) xr)) ∧ PX (mapM M xa (4096 * xn) xr) M u') := fun u hu => by
          subst hPX
          have := two_map hu xa (4096 * xn) x1 xr
          rwa [show ((4096 * xn : Nat) : Int) = 4096 * (xn : Int) by omega] at this
        have HRM : Hid (∀ u, PX (mapM M xa (4096 * xn) xr) M u → Calls Try.prog 66 #[.pointer (some ⟨w1.heap.size, 0, none⟩), .int .u64 (xa : Int), .int .u64 (4096 * (xn : Int)), .int .i64 xr] u fun e u' => e = .returned (.int .i64 (mapErr M xa (4096 * xn) xr)) ∧ PX (mapM M xa (4096 * xn) xr) (mapM M xa (4096 * xn) xr) u') := fun u hu => by
          subst hPX
          have := two_rmap hu xa (4096 * xn) x1 xr
          rwa [show ((4096 * xn : Nat) : Int) = 4096 * (xn : Int) by omega] at this
        have hst : memM (l.take (i + 1)) = if mapErr M xa (4096 * xn) xr = 0 then writeM (mapM M xa (4096 * xn) xr) xa xb 0 else M := by
          rw [HM1.out]; unfold rngStep; simp only [Int.toNat_natCast]
        have HFL : Hid (∀ u M2, PX M2 M2 u → Calls Try.prog 37 #[.pointer (some ⟨w.heap.size + 1, 0, none⟩), .int .u64 (xa : Int), .slice ad xb.length cp] u fun e u' => e = .returned (.int .i64 (lookErr M2 xa xb.length 0)) ∧ PX (writeM M2 xa xb 0) M2 u') := fun u M2 hu => by
          subst hPX
          exact two_fill hu xa x1 xb ad cp (HS.out u hu.below) x3 x4
        have HRW : Hid (∀ u M2, PX (writeM M2 xa xb 0) M2 u → Calls Try.prog 67 #[.pointer (some ⟨w1.heap.size, 0, none⟩), .int .u64 (xa : Int), .slice ad xb.length cp, .int .i64 0] u fun e u' => e = .returned (.int .i64 (lookErr M2 xa xb.length 0)) ∧ PX (writeM M2 xa xb 0) (writeM M2 xa xb 0) u') := fun u M2 hu => by
          subst hPX
          exact two_rwrite hu xa x1 xb ad cp (HS.out u hu.below) x3 x4 0 (by decide)
        have HTX2 : Hid (PX M M wx) := by show PX M M wx; rw [hPX]; exact HTX.out
        have HCX2 : Hid (∀ N1 N2 u, PX N1 N2 u → u.cell? ⟨wr.heap.size, 0, none⟩ = some (.int .u64 (xa : Int)) ∧ u.cell? ⟨wr.heap.size, 1, none⟩ = some (.int .i64 (xn : Int)) ∧ u.cell? ⟨wr.heap.size, 2, none⟩ = some (.int .i64 xr) ∧ u.cell? ⟨wr.heap.size, 3, none⟩ = some (.slice ad xb.length cp)) := by rw [hPX]; exact HCX.out
        have HPXX : Hid (∀ N u, PX N N u → Two w (w.heap.size + 1) w1.heap.size N N u) := fun N u hu => by subst hPX; exact hu.drop
        clear hPX HTX HCX HM1
        obtain ⟨f0, f1, f2, f3⟩ := HCX2.out _ _ _ HTX2.out
        rw [HWX.out, HOB.out] at HTX2 f0 f1 f2 f3
        clear HWX HOB
        by_cases he : mapErr M xa (4096 * xn) xr = 0
        · rw [if_pos he] at hst
          rw [he] at HMP HRM
          have HST := Lib.hid hst
          generalize mapM M xa (4096 * xn) xr = M2 at *
          have hb2 : ((mapErr M xa (4096 * xn) xr : Int) == 0) = true := by simp [he]
          clear hst he
          go_wp2_with (first
            | (refine wpList_load_agg 159 (.tmp 24) rfl rfl b (o + i * 4) (by simp [Act.eval]) _ _ HC5.out Try.underlying159 rfl size159 ?_)
            | (go_at_call 25; refine (HMP.out _ HTX2.out).mono ?_; rintro e u1 ⟨rfl, k1⟩; have K1 := Lib.hid k1; clear f0 f1 f2 f3; obtain ⟨f0, f1, f2, f3⟩ := HCX2.out _ _ _ K1.out; clear k1 HMP)
            | (go_at_call 66; refine (HRM.out _ K1.out).mono ?_; rintro e u2 ⟨rfl, k1⟩; have K2 := Lib.hid k1; clear f0 f1 f2 f3; obtain ⟨f0, f1, f2, f3⟩ := HCX2.out _ _ _ K2.out; clear k1 HRM)
            | (go_at_call 37; refine (HFL.out _ _ K2.out).mono ?_; rintro e u3 ⟨rfl, k1⟩; have K3 := Lib.hid k1; clear f0 f1 f2 f3; obtain ⟨f0, f1, f2, f3⟩ := HCX2.out _ _ _ K3.out; clear k1 HFL)
            | (go_at_call 67; refine (HRW.out _ _ K3.out).mono ?_; rintro e u4 ⟨rfl, k1⟩; have K4 := Lib.hid k1; clear f0 f1 f2 f3; clear k1 HRW))
          exact ⟨⟨i + 1, by omega, by go_num, HALL.out, by show Two _ _ _ _ _ _; rw [HST.out]; exact HPXX.out _ _ K4.out⟩, by simp [intOf]; omega⟩
        · rw [if_neg he] at hst
          have hmm : mapM M xa (4096 * xn) xr = M := by unfold mapM; rw [if_neg he]
          rw [hmm] at HMP HRM
          have HST := Lib.hid hst
          generalize mapErr M xa (4096 * xn) xr = er at *
          have hb2 : ((er : Int) == 0) = false := by simpa using he
          clear hst he hmm HFL HRW
          go_wp2_with (first
            | (refine wpList_load_agg 159 (.tmp 24) rfl rfl b (o + i * 4) (by simp [Act.eval]) _ _ HC5.out Try.underlying159 rfl size159 ?_)
            | (go_at_call 25; refine (HMP.out _ HTX2.out).mono ?_; rintro e u1 ⟨rfl, k1⟩; have K1 := Lib.hid k1; clear f0 f1 f2 f3; obtain ⟨f0, f1, f2, f3⟩ := HCX2.out _ _ _ K1.out; clear k1 HMP)
            | (go_at_call 66; refine (HRM.out _ K1.out).mono ?_; rintro e u2 ⟨rfl, k1⟩; have K2 := Lib.hid k1; clear f0 f1 f2 f3; clear k1 HRM))
          exact ⟨⟨i + 1, by omega, by go_num, HALL.out, by show Two _ _ _ _ _ _; rw [HST.out]; exact HPXX.out _ _ K2.out⟩, by simp [intOf]; omega⟩
      · obtain rfl : i = l.length := by omega
        have hall := HA.out
        have ht := HT.out
        rw [List.take_length] at hall ht
        have E : Hid (memOk l = true) := by show memOk l = true; unfold memOk; rw [hall]; simp; omega
        have HT2 := Lib.hid ht
        clear hall ht
        go_wp2_with fail
        go_ret3
        exact .inr ⟨E.out, _, _, rfl, HT2.out⟩
end Go.Proofs.Ytepnaalgobhcdaa
