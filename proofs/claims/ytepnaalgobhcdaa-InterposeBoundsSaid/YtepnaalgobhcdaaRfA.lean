/- The reference's space in memory: three slices in step; that it stays while other blocks turn. In, Has, Free of the reference. -/
import Derived.Test.YtepnaalgobhcdaaSpO
namespace Go.Proofs.Ytepnaalgobhcdaa
open Go.RowKit Spm

def atVals (M : List Pg) : List Value := M.map fun p => .int .u64 ((p.num * 4096 : Nat) : Int)
def prVals (M : List Pg) : List Value := M.map fun p => .int .i64 p.prot
def bsVal (A C : Nat → Nat) (p : Pg) : Value := .slice (some ⟨A p.num, 0, none⟩) 4096 (C p.num)
def bsVals (A C : Nat → Nat) (M : List Pg) : List Value := M.map (bsVal A C)
/-- A page's bytes: the block's first 4096 cells. -/
structure BsIn (w : World) (F : Nat → Prop) (A C : Nat → Nat) (p : Pg) : Prop where
  inF : F (A p.num)
  block : ∃ cur : Array Value, w.heap[A p.num]? = some (.cells cur 5 (0, 0)) ∧ cur.size = C p.num ∧ 4096 ≤ C p.num ∧ C p.num ≤ maxLen ∧ cur.toList.take 4096 = bvs p.bytes
structure RfRow (w : World) (R : Nat → Prop) (e : TypeId) (a : Option Addr) (n c : Nat) (xs : List Value) : Prop where
  own : w.ownsRow 0 e 1 (.slice a n c) n xs
  inF : ∀ x, a = some x → R x.block
/-- Three slices in step (their rows in R), and the pages' bytes (in F). -/
structure RfPages (w : World) (R F : Nat → Prop) (M : List Pg) (aA : Option Addr) (cA : Nat) (aB : Option Addr) (cB : Nat) (aP : Option Addr) (cP : Nat) (A C : Nat → Nat) : Prop where
  ats : RfRow w R 32 aA M.length cA (atVals M)
  bys : RfRow w R 57 aB M.length cB (bsVals A C M)
  prs : RfRow w R 3 aP M.length cP (prVals M)
  page : ∀ p ∈ M, BsIn w F A C p
  apart : ∀ p ∈ M, ∀ q ∈ M, A p.num = A q.num → p.num = q.num
def rfCells (n : Nat) (aA : Option Addr) (cA : Nat) (aB : Option Addr) (cB : Nat) (aP : Option Addr) (cP : Nat) : Obj := .cells #[.slice aA n cA, .slice aB n cB, .slice aP n cP] 55 (0, 0)
structure RfIn (w : World) (b : Nat) (M : List Pg) (F : Nat → Prop) : Prop where
  ok : Ok M
  own : ∃ aA cA aB cB aP cP A C, w.heap[b]? = some (rfCells M.length aA cA aB cB aP cP) ∧ RfPages w F F M aA cA aB cB aP cP A C
  fb : F b
  lt : ∀ k, F k → k < w.heap.size

theorem owns_same {w w' : World} {base : Nat} {e : TypeId} {size : Nat} {v : Value} {n : Nat} {xs : List Value} (h : w.ownsRow base e size v n xs) (hs : ∀ g, v.ownBlock = some g → w'.heap[g]? = w.heap[g]?) : w'.ownsRow base e size v n xs := by
  refine ⟨h.1, ?_⟩
  rcases h.2 with hn | ⟨g, cap, cur, rfl, hb, hgg, rest⟩
  · exact .inl hn
  · exact .inr ⟨g, cap, cur, rfl, hb, (hs g rfl).trans hgg, rest⟩
theorem RfRow.same {w w' : World} {R : Nat → Prop} {e : TypeId} {a : Option Addr} {n c : Nat} {xs : List Value} (h : RfRow w R e a n c xs) (hs : ∀ g, g < w.heap.size → R g → w'.heap[g]? = w.heap[g]?) : RfRow w' R e a n c xs :=
  ⟨owns_same h.own fun g hg => by
    have hl := (h.own.lt g hg).2
    cases a with
    | none => simp [Value.ownBlock] at hg
    | some x =>
      have e : x.block = g := by simpa [Value.ownBlock] using hg
      exact hs g hl (by rw [← e]; exact h.inF x rfl), h.inF⟩
theorem RfRow.mono {w : World} {R R' : Nat → Prop} {e : TypeId} {a : Option Addr} {n c : Nat} {xs : List Value} (h : RfRow w R e a n c xs) (hR : ∀ k, R k → R' k) : RfRow w R' e a n c xs := ⟨h.own, fun x hx => hR _ (h.inF x hx)⟩
theorem BsIn.same {w w' : World} {F : Nat → Prop} {A C : Nat → Nat} {p : Pg} (h : BsIn w F A C p) (hs : w'.heap[A p.num]? = w.heap[A p.num]?) : BsIn w' F A C p := by
  obtain ⟨h1, cur, h2, h3⟩ := h
  exact ⟨h1, cur, hs.trans h2, h3⟩
theorem BsIn.mono {w : World} {F F' : Nat → Prop} {A C : Nat → Nat} {p : Pg} (h : BsIn w F A C p) (hF : ∀ k, F k → F' k) : BsIn w F' A C p := ⟨hF _ h.inF, h.block⟩
theorem BsIn.lt {w : World} {F : Nat → Prop} {A C : Nat → Nat} {p : Pg} (h : BsIn w F A C p) : A p.num < w.heap.size := by
  obtain ⟨h1, cur, h2, h3⟩ := h
  exact lt_of_block h2
theorem RfPages.same {w w' : World} {R F : Nat → Prop} {M : List Pg} {aA : Option Addr} {cA : Nat} {aB : Option Addr} {cB : Nat} {aP : Option Addr} {cP : Nat} {A C : Nat → Nat} (h : RfPages w R F M aA cA aB cB aP cP A C)
    (hs : ∀ g, g < w.heap.size → R g ∨ F g → w'.heap[g]? = w.heap[g]?) : RfPages w' R F M aA cA aB cB aP cP A C :=
  ⟨h.ats.same fun g hl hg => hs g hl (.inl hg), h.bys.same fun g hl hg => hs g hl (.inl hg), h.prs.same fun g hl hg => hs g hl (.inl hg), fun p hp => (h.page p hp).same (hs _ (h.page p hp).lt (.inr (h.page p hp).inF)), h.apart⟩
theorem RfIn.keep {w w' : World} {b : Nat} {M : List Pg} {F G : Nat → Prop} (h : RfIn w b M F) (hc : Chg G w w') (hFG : ∀ k, F k → ¬ G k) : RfIn w' b M F := by
  obtain ⟨h1, ⟨aA, cA, aB, cB, aP, cP, A, C, h2, h3⟩, h4, h5⟩ := h
  exact ⟨h1, ⟨aA, cA, aB, cB, aP, cP, A, C, hc.heap h2 (hFG _ h4), h3.same fun g hl hg => hc.block g hl (hFG g (by rcases hg with hg | hg <;> exact hg))⟩, h4, fun k hk => Nat.lt_of_lt_of_le (h5 k hk) hc.size⟩
theorem RfIn.keepB {w w' : World} {b : Nat} {M : List Pg} {F : Nat → Prop} (h : RfIn w b M F) (hc : Below w.heap.size w w') : RfIn w' b M F :=
  h.keep (Chg.of_below (F := fun _ => False) hc) (fun _ _ h => h)
/-- An element of a row: its address and what it holds. -/
theorem RfRow.get {w : World} {R : Nat → Prop} {e : TypeId} {a : Option Addr} {n c : Nat} {xs : List Value} (h : RfRow w R e a n c xs) (h0 : 0 < n) : ∃ g, a = some ⟨g, 0, none⟩ ∧ R g ∧ ∀ i v, xs[i]? = some v → w.cell? ⟨g, i, none⟩ = some v := by
  obtain ⟨h1, h2⟩ := h
  rcases h1.2 with ⟨_, hn⟩ | ⟨g, cap, cur, hv, _⟩
  · omega
  · cases hv
    refine ⟨g, rfl, h2 _ rfl, fun i v hi => ?_⟩
    have := h1.cells (g := g) rfl i v hi
    rwa [show (⟨g, 0, none⟩ : Addr).add i = ⟨g, i, none⟩ by unfold Addr.add; split <;> simp_all] at this
theorem RfRow.cap {w : World} {R : Nat → Prop} {e : TypeId} {a : Option Addr} {n c : Nat} {xs : List Value} (h : RfRow w R e a n c xs) : n ≤ c := by
  rcases h.own.2 with ⟨hv, hn⟩ | ⟨g, cap, cur, hv, _, _, h1, _⟩
  · omega
  · cases hv; exact h1

set_option maxRecDepth 100000 in
theorem rin_any (w : World) (a n : Nat) (ha : a < 18446744073709551616) :
    Calls Try.prog 87 #[.int .u64 a, .int .u64 n] w fun e w' => e = .returned (.bool (inB a n)) ∧ w = w' := by
  by_cases h1 : a ≤ 140737488355328
  · have e : inB a n = decide ((n : Int) ≤ 140737488355328 - (a : Int)) := by
      unfold inB; rw [Bool.eq_iff_iff]; simp; omega
    have E := Lib.hid e
    clear e
    have h2 : (a : Int) ≤ 140737488355328 := by omega
    go_enter Try.func87, Try.ntmps87
    go_wp2_with fail
    go_ret
    exact ⟨by rw [E.out]; rfl, rfl⟩
  · have e : inB a n = false := by unfold inB; simp; omega
    have E := Lib.hid e
    have h2 : ¬ (a : Int) ≤ 140737488355328 := by omega
    clear e h1
    go_enter Try.func87, Try.ntmps87
    go_wp2_with fail
    go_ret
    exact ⟨by rw [E.out]; rfl, rfl⟩

/-- A page's place. -/
def ixOf (M : List Pg) (q : Nat) : Nat := M.findIdx fun p => p.num == q
def hasIx (M : List Pg) (a : Nat) : Int := if ixOf M (a / 4096) < M.length then (ixOf M (a / 4096) : Nat) else -1
theorem ix_step {M : List Pg} {q i : Nat} {p : Pg} (hi : M[i]? = some p) (h : i ≤ ixOf M q) (hp : p.num ≠ q) : i + 1 ≤ ixOf M q := by
  rcases Nat.lt_or_ge i (ixOf M q) with h1 | h1
  · exact h1
  · exfalso
    obtain ⟨hl, hg⟩ := List.getElem?_eq_some_iff.1 hi
    have e : M.findIdx (fun p => p.num == q) = i := by unfold ixOf at h h1; omega
    have := List.findIdx_getElem (p := fun p : Pg => p.num == q) (xs := M) (w := by rw [e]; exact hl)
    simp only [e, hg, beq_iff_eq] at this
    exact hp this
theorem ix_here {M : List Pg} {q i : Nat} {p : Pg} (hi : M[i]? = some p) (h : i ≤ ixOf M q) (hp : p.num = q) : ixOf M q = i := by
  obtain ⟨hl, hg⟩ := List.getElem?_eq_some_iff.1 hi
  refine Nat.le_antisymm ?_ h
  unfold ixOf at *
  rcases Nat.lt_or_ge i (M.findIdx fun p => p.num == q) with h1 | h1
  · have := List.not_of_lt_findIdx h1
    simp [hg, hp] at this
  · exact h1

set_option maxHeartbeats 1000000 in
set_option maxRecDepth 100000 in
theorem rhas_any (w : World) (b : Nat) (M : List Pg) (F : Nat → Prop) (h : RfIn w b M F) (a : Nat) (ha : a < 18446744073709551616) :
    Calls Try.prog 71 #[.pointer (some ⟨b, 0, none⟩), .int .u64 a] w fun e w' => e = .returned (.int .i64 (hasIx M a)) ∧ w = w' := by
  obtain ⟨hok, ⟨aA, cA, aB, cB, aP, cP, A, C, hb, hp⟩, _, _⟩ := h
  have cb : w.cell? ⟨b, 0, none⟩ = some (.slice aA M.length cA) := by simp [World.cell?, hb, rfCells]
  have hrow := hp.ats
  have hlen := hok.few
  have HOK := Lib.hid hok
  have HROW := Lib.hid hrow
  have hcap := hrow.cap
  clear hb hp hrow hok
  go_enter Try.func71, Try.ntmps71
  go_wp2_with fail
  go_loop [5] (fun t => ∃ i : Nat, i ≤ M.length ∧ t = .int .i64 i ∧ Hid (i ≤ ixOf M (a / 4096))) (fun t => M.length - (intOf t).toNat)
  case atStart => exact ⟨0, Nat.zero_le _, rfl, Nat.zero_le _⟩
  case round =>
    obtain ⟨i, hi, rfl, HI⟩ := hrel
    by_cases hlt : i < M.length
    · obtain ⟨g, rfl, _, hcell⟩ := HROW.out.get (by omega)
      obtain ⟨p, hpi⟩ : ∃ p, M[i]? = some p := ⟨M[i], List.getElem?_eq_getElem hlt⟩
      have hpb := (HOK.out.pages p (List.mem_of_getElem? hpi)).1
      have hc := hcell i (.int .u64 ((p.num * 4096 : Nat) : Int)) (by unfold atVals; rw [List.getElem?_map, hpi]; rfl)
      obtain ⟨at_, hat⟩ : ∃ at_, at_ = p.num * 4096 := ⟨_, rfl⟩
      rw [← hat] at hc
      by_cases h1 : at_ ≤ a
      · by_cases h2 : a - at_ < 4096
        · have e : hasIx M a = (i : Int) := by
            unfold hasIx
            rw [ix_here hpi HI.out (by omega), if_pos hlt]
          have E := Lib.hid e
          have i1 : (at_ : Int) ≤ (a : Int) := by omega
          have i2 : (a : Int) - (at_ : Int) < 4096 := by omega
          clear e hcell hpi hat hpb h1 h2
          go_wp2_with fail
          go_ret
          exact ⟨by rw [E.out]; rfl, rfl⟩
        · have HS : Hid (i + 1 ≤ ixOf M (a / 4096)) := ix_step hpi HI.out (by omega)
          have i1 : (at_ : Int) ≤ (a : Int) := by omega
          have i2 : ¬ (a : Int) - (at_ : Int) < 4096 := by omega
          clear hcell hpi hat hpb h1 h2
          go_wp2_with fail
          go_round
          case rel => exact ⟨i + 1, by omega, by go_num, HS.out⟩
          case measure => simp [intOf]; omega
      · have HS : Hid (i + 1 ≤ ixOf M (a / 4096)) := ix_step hpi HI.out (by omega)
        have i1 : ¬ (at_ : Int) ≤ (a : Int) := by omega
        clear hcell hpi hat hpb h1
        go_wp2_with fail
        go_round
        case rel => exact ⟨i + 1, by omega, by go_num, HS.out⟩
        case measure => simp [intOf]; omega
    · have e : hasIx M a = -1 := by
        unfold hasIx
        rw [if_neg (by have := HI.out; omega)]
      have E := Lib.hid e
      clear e
      go_wp2_with fail
      go_ret
      exact ⟨by rw [E.out]; rfl, rfl⟩
end Go.Proofs.Ytepnaalgobhcdaa
