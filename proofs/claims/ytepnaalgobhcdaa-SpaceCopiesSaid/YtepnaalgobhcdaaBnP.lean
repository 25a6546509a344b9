/- The reference's Copy: what its rounds leave. The reference's Copy, walked. -/
import Derived.Test.YtepnaalgobhcdaaBnO
import Derived.Test.YtepnaalgobhcdaaBnC
import Derived.Deep.AppendLies
import Derived.Deep.RegionLaw
import Derived.Deep.DeepCutAuto
namespace Go.Proofs.Ytepnaalgobhcdaa
open Go.RowKit Spm

/-- The copy holds L. -/
structure RcSt (w : World) (o : Nat) (L : List Pg) (wr : World) : Prop where
  own : ∃ (A C : Nat → Nat) (vA vB vP : Value), MkR w wr o vA vB vP (atVals L) (bsVals A C L) (prVals L) ∧ (∀ p ∈ L, BsIn wr (fun x => w.heap.size ≤ x) A C p) ∧ ∀ p ∈ L, ∀ q ∈ L, A p.num = A q.num → p.num = q.num
theorem RcSt.snoc {w wr w3 : World} {o : Nat} {L : List Pg} {A C : Nat → Nat} {vA' vB' vP' : Value}
    (h2 : ∀ p ∈ L, BsIn wr (fun x => w.heap.size ≤ x) A C p) (h5 : ∀ p ∈ L, ∀ q ∈ L, A p.num = A q.num → p.num = q.num)
    {p0 : Pg} {blk cap : Nat} {cur : Array Value} (hqL : ∀ p ∈ L, p.num ≠ p0.num) (hblk : ∀ p ∈ L, A p.num < blk) (hlow : w.heap.size ≤ blk) (hnew : w3.heap[blk]? = some (.cells cur 5 (0, 0))) (hc1 : cur.size = cap) (hc2 : 4096 ≤ cap) (hc3 : cap ≤ maxLen) (hc4 : cur.toList.take 4096 = bvs p0.bytes) (hk : Keep5 wr w3)
    (hr : MkR w w3 o vA' vB' vP' (atVals L ++ [.int .u64 ((p0.num * 4096 : Nat) : Int)]) (bsVals A C L ++ [.slice (some ⟨blk, 0, none⟩) 4096 cap]) (prVals L ++ [.int .i64 p0.prot])) : RcSt w o (L ++ [p0]) w3 := by
  obtain ⟨A', hA'⟩ : ∃ A' : Nat → Nat, A' = fun x => if x = p0.num then blk else A x := ⟨_, rfl⟩
  obtain ⟨C', hC'⟩ : ∃ C' : Nat → Nat, C' = fun x => if x = p0.num then cap else C x := ⟨_, rfl⟩
  have a1 : A' p0.num = blk := by rw [hA']; exact if_pos rfl
  have c1 : C' p0.num = cap := by rw [hC']; exact if_pos rfl
  have a2 : ∀ p : Pg, p.num ≠ p0.num → A' p.num = A p.num := fun p hp => by rw [hA']; exact if_neg hp
  have c2 : ∀ p : Pg, p.num ≠ p0.num → C' p.num = C p.num := fun p hp => by rw [hC']; exact if_neg hp
  clear hA' hC'
  refine ⟨A', C', vA', vB', vP', ?_, fun p hp => ?_, fun p hp p' hp' e => ?_⟩
  · rw [atVals_snoc, bsVals_snoc, prVals_snoc, bsVals_congr (A' := A) (C' := C) (fun p hp => ⟨a2 p (hqL p hp), c2 p (hqL p hp)⟩)]
    have : bsVal A' C' p0 = .slice (some ⟨blk, 0, none⟩) 4096 cap := by unfold bsVal; rw [a1, c1]
    rw [this]
    exact hr
  · rcases List.mem_append.1 hp with hp | hp
    · exact ((h2 p hp).keep5 hk).congr (a2 p (hqL p hp)).symm (c2 p (hqL p hp)).symm
    · obtain rfl := List.mem_singleton.1 hp
      exact ⟨by rw [a1]; exact hlow, cur, by rw [a1]; exact hnew, by rw [c1]; exact hc1, by rw [c1]; exact hc2, by rw [c1]; exact hc3, hc4⟩
  · rcases List.mem_append.1 hp with h1 | h1 <;> rcases List.mem_append.1 hp' with h1' | h1'
    · rw [a2 p (hqL p h1), a2 p' (hqL p' h1')] at e; exact h5 p h1 p' h1' e
    · rw [List.mem_singleton.1 h1', a2 p (hqL p h1), a1] at e
      have := hblk p h1; omega
    · rw [List.mem_singleton.1 h1, a2 p' (hqL p' h1'), a1] at e
      have := hblk p' h1'; omega
    · rw [List.mem_singleton.1 h1, List.mem_singleton.1 h1']
theorem RcSt.done {w wr : World} {o : Nat} {L : List Pg} (h : RcSt w o L wr) (hok : Ok L) : RfIn wr o L (fun k => w.heap.size ≤ k ∧ k < wr.heap.size) := by
  obtain ⟨A, C, vA, vB, vP, h, h2, h5⟩ := h.own
  have hsz := h.below.size
  have hrow : ∀ {e : TypeId} {v : Value} {xs : List Value}, wr.ownsRow w.heap.size e 1 v xs.length xs → xs.length = L.length → ∃ a c, v = .slice a L.length c ∧ RfRow wr (fun k => w.heap.size ≤ k ∧ k < wr.heap.size) e a L.length c xs := fun {e v xs} hv hl => by
    obtain ⟨a, c, rfl⟩ := ownsRow_shape hv
    refine ⟨a, c, by rw [hl], ?_, fun x hx => ?_⟩
    · rw [← hl]
      refine ⟨hv.1, ?_⟩
      rcases hv.2 with hn | ⟨g, cap, cur, h1, h2, h3⟩
      · exact .inl hn
      · exact .inr ⟨g, cap, cur, h1, Nat.zero_le _, h3⟩
    · subst hx
      exact hv.lt x.block rfl
  have la : (atVals L).length = L.length := by simp [atVals]
  have lb : (bsVals A C L).length = L.length := by simp [bsVals]
  have lp : (prVals L).length = L.length := by simp [prVals]
  obtain ⟨aA, cA, eA, rA⟩ := hrow h.a la
  obtain ⟨aB, cB, eB, rB⟩ := hrow h.b lb
  obtain ⟨aP, cP, eP, rP⟩ := hrow h.p lp
  subst eA eB eP
  exact ⟨hok, ⟨aA, cA, aB, cB, aP, cP, A, C, h.o, rA, rB, rP, fun p hp => ⟨⟨(h2 p hp).inF, (h2 p hp).lt⟩, (h2 p hp).block⟩, h5⟩, ⟨h.lo, lt_of_block h.o⟩, fun k hk => hk.2⟩
def RCopyRes (w : World) (M : List Pg) (e : Ending) (w' : World) : Prop := ∃ o : Nat, e = .returned (.pointer (some ⟨o, 0, none⟩)) ∧ RfIn w' o M (fun k => w.heap.size ≤ k ∧ k < w'.heap.size) ∧ Below w.heap.size w w'
end Go.Proofs.Ytepnaalgobhcdaa
namespace Go.Proofs.Ytepnaalgobhcdaa
open Go.RowKit Spm

theorem row_bytesC {w wf : World} {B g c : Nat} {bs : List UInt8} {o : Obj} (h : w.ownsRow B 5 1 (.slice (some ⟨g, 0, none⟩) 4096 c) 4096 (bvs bs)) (hk : Keep5 (w.alloc o) wf) :
    ∃ cur : Array Value, wf.heap[g]? = some (.cells cur 5 (0, 0)) ∧ cur.size = c ∧ 4096 ≤ c ∧ c ≤ maxLen ∧ cur.toList.take 4096 = bvs bs ∧ B ≤ g := by
  rcases h.2 with ⟨e, _⟩ | ⟨g', cap, cur, e, h1, h2, h3, h4, h5, h6⟩
  · cases e
  · cases e
    exact ⟨cur, hk _ _ _ ((hp_old _ _ _ (lt_of_block h2)).trans h2), by rw [h5, Nat.mul_one], h3, h4, h6, h1⟩
set_option maxHeartbeats 8000000 in
set_option maxRecDepth 100000 in
theorem rcopy_any (w : World) (b : Nat) (M : List Pg) (F : Nat → Prop) (h : RfIn w b M F) : Calls Try.prog 30 #[.pointer (some ⟨b, 0, none⟩)] w (RCopyRes w M) := by
  obtain ⟨hok, ⟨aA, cA, aB, cB, aP, cP, A0, C0, hb, hp⟩, _, _⟩ := h
  have hfew := hok.few
  obtain ⟨i32, hi32, hz32, hs32, hy32⟩ := info_parts info32
  obtain ⟨i57, hi57, hz57, hs57, hy57⟩ := info_parts info57
  obtain ⟨i3, hi3, hz3, hs3, hy3⟩ := info_parts Try.info3
  obtain ⟨i5, hi5, hz5, hs5, hy5⟩ := info_parts infoU8
  have sb0 : w.cell? ⟨b, 0, none⟩ = some (.slice aA M.length cA) := by simp [World.cell?, hb, rfCells]
  have sb1 : w.cell? ⟨b, 1, none⟩ = some (.slice aB M.length cB) := by simp [World.cell?, hb, rfCells]
  have sb2 : w.cell? ⟨b, 2, none⟩ = some (.slice aP M.length cP) := by simp [World.cell?, hb, rfCells]
  have hlb := lt_of_block hb
  have HOK := Lib.hid hok
  have HP := Lib.hid hp
  clear hok hb hp
  go_enter Try.func30, Try.ntmps30
  go_wp2_with fail
  obtain ⟨w1, hw1⟩ : ∃ w1, w1 = w.alloc (.cells #[.slice none 0 0, .slice none 0 0, .slice none 0 0] 55) := ⟨_, rfl⟩
  have HST : Hid (RcSt w w.heap.size [] w1) := by
    have hb1 : Below w.heap.size w w1 := by rw [hw1]; exact (Below.refl _ w).alloc (Nat.le_refl _) _
    exact ⟨fun _ => 0, fun _ => 0, _, _, _, ⟨hb1, Nat.le_refl _, by rw [hw1]; exact hp_new _ _ _ rfl, World.ownsRow_nil _ _ _ _, World.ownsRow_nil _ _ _ _, World.ownsRow_nil _ _ _ _⟩, fun _ h => absurd h List.not_mem_nil, fun _ h => absurd h List.not_mem_nil⟩
  rw [← hw1]
  clear hw1
  go_loopw [4] (fun t wr => ∃ i : Nat, i ≤ M.length ∧ t = .int .i64 i ∧ Hid (RcSt w w.heap.size (M.take i) wr)) (fun t _ => M.length - (intOf t).toNat)
  case atStart => exact ⟨0, Nat.zero_le _, rfl, HST.out⟩
  case round =>
    clear HST
    obtain ⟨i, hi, rfl, HR⟩ := hrel
    obtain ⟨A, C, vA, vB, vP, hr, g2, g5⟩ := HR.out.own
    have HBEL := Lib.hid hr.below
    have hwz := hr.below.size
    have hblx : b < wr.heap.size := by omega
    have sb0x := cell_keep sb0 HBEL.out
    by_cases hlt : i < M.length
    · obtain ⟨p, hpi⟩ : ∃ p, M[i]? = some p := ⟨M[i], List.getElem?_eq_getElem hlt⟩
      have hpm := List.mem_of_getElem? hpi
      obtain ⟨ga, rfl, _, hga⟩ := HP.out.ats.get (by omega)
      obtain ⟨gb, rfl, _, hgb⟩ := HP.out.bys.get (by omega)
      obtain ⟨gp, rfl, _, hgp⟩ := HP.out.prs.get (by omega)
      have sga := hga i (.int .u64 ((p.num * 4096 : Nat) : Int)) (by unfold atVals; rw [List.getElem?_map, hpi]; rfl)
      have sgb := hgb i (.slice (some ⟨A0 p.num, 0, none⟩) 4096 (C0 p.num)) (by unfold bsVals; rw [List.getElem?_map, hpi]; rfl)
      have sgp := hgp i (.int .i64 p.prot) (by unfold prVals; rw [List.getElem?_map, hpi]; rfl)
      obtain ⟨_, cur0, hc0, hc1, hc2, hc3, hc4⟩ := HP.out.page p hpm
      obtain ⟨at_, hat⟩ : ∃ at_, at_ = p.num * 4096 := ⟨_, rfl⟩
      obtain ⟨pp, hpp⟩ : ∃ pp, pp = p.prot := ⟨_, rfl⟩
      obtain ⟨ab, hab⟩ : ∃ ab, ab = A0 p.num := ⟨_, rfl⟩
      obtain ⟨ac, hac⟩ : ∃ ac, ac = C0 p.num := ⟨_, rfl⟩
      rw [← hat] at sga
      rw [← hpp] at sgp
      rw [← hab, ← hac] at sgb
      rw [← hab] at hc0
      rw [← hac] at hc1 hc2 hc3
      have HAT := Lib.hid hat
      have HPP := Lib.hid hpp
      have HPI := Lib.hid hpi
      have HNEWS : Hid (∀ W, Below w.heap.size w W → ∀ j v, (bvs p.bytes)[j]? = some v → W.cell? ((⟨ab, 0, none⟩ : Addr).add j) = some v) := fun W hW j v hv => by
        rw [show (⟨ab, 0, none⟩ : Addr).add j = ⟨ab, j, none⟩ by unfold Addr.add; split <;> simp_all]
        have h1 := (hW.block ab (lt_of_block hc0)).trans hc0
        simp only [World.cell?, h1]
        rw [← hc4, List.getElem?_take] at hv
        by_cases h4 : j < 4096
        · rw [if_pos h4] at hv; simpa using hv
        · rw [if_neg h4] at hv; cases hv
      have HLB : Hid ((bvs p.bytes).length = 4096 * 1) := by
        show (bvs p.bytes).length = 4096 * 1
        unfold bvs; rw [List.length_map, (HOK.out.pages p hpm).2.2.2]
      have hqL : ∀ q ∈ M.take i, q.num ≠ p.num := fun q hq => by
        obtain ⟨j, hj, rfl⟩ := List.mem_iff_getElem.1 hq
        have hji : j < i := by rw [List.length_take] at hj; omega
        obtain ⟨hl, hg⟩ := List.getElem?_eq_some_iff.1 hpi
        have := List.pairwise_iff_getElem.1 HOK.out.sorted j i (by omega) hl hji
        rw [List.getElem_take]
        rw [hg] at this
        omega
      have HQL := Lib.hid hqL
      clear hga hgb hgp hat hpp hab hac hpi hpm hc0 hc1 hc4 hqL
      have hlj : (M.take i).length ≤ 8192 := by rw [List.length_take]; omega
      obtain ⟨LJ, hLJ⟩ : ∃ LJ, LJ = M.take i := ⟨_, rfl⟩
      rw [← hLJ] at hr g2 g5 hlj HQL
      have na : (atVals LJ).length ≤ 16384 := by rw [show (atVals LJ).length = LJ.length by simp [atVals]]; omega
      have nb : (bsVals A C LJ).length ≤ 16384 := by rw [show (bsVals A C LJ).length = LJ.length by simp [bsVals]]; omega
      have np : (prVals LJ).length ≤ 16384 := by rw [show (prVals LJ).length = LJ.length by simp [prVals]]; omega
      have HRR := Lib.hid hr
      have HLJ := Lib.hid hLJ
      have G2 := Lib.hid g2
      have G5 := Lib.hid g5
      obtain ⟨co0, co1, co2, fo0, fo1, fo2⟩ := hr.cells
      have sgax := cell_keep sga HBEL.out
      have hlx : w.heap.size < wr.heap.size := block_lt_of_cell co0
      have hlga := block_lt_of_cell sgax
      have HW0 : Hid (∀ o, Below wr.heap.size wr (wr.alloc o).drew) := fun o => ((Below.refl _ wr).alloc (Nat.le_refl _) o).drew
      clear hr g2 g5 hLJ hlj
      go_upto_region 5 with fail
      go_cut [] (fun wx => Hid (∃ v' : Value, MkR w wx w.heap.size v' vB vP ((atVals LJ) ++ [.int .u64 (at_ : Int)]) (bsVals A C LJ) (prVals LJ) ∧ Keep5 wr wx))
      case first =>
        go_region_law (refine step_append_lies _ rfl (.tmp 20) (.tmp 28) 52 rfl w.heap.size 32 i32 (.int .u64 0) 1 8 Try.underlying52 hi32 hz32 hs32 hy32 rfl (by decide) vA (atVals LJ).length (atVals LJ) rfl (owns_same HRR.out.a fun g hg => (HW0.out _).block g (HRR.out.a.lt g hg).2) ⟨wr.heap.size, 0, none⟩ 1 1 [.int .u64 (at_ : Int)] rfl rfl (World.news_of_block (hp_new wr _ _ rfl)) (by simp [Value.oneCell']) (by omega) (by unfold maxLen; omega) (by omega) (by simp; omega) _ rfl ?_; intro gN cN wn hown hgrow _ _; have hm := HRR.out.mid_a (HW0.out _) hgrow; obtain ⟨d0, d1, d2, df0, df1, df2⟩ := cells_of hm; have HPN := Lib.hid (HRR.out.push_a (HW0.out _) hown hgrow); clear hm hown hgrow)
        all_goals
          go_wp2_with fail
          go_meet
          exact ⟨_, HPN.out.1, (Keep5.of_below (HW0.out _)).trans HPN.out.2⟩
      case rest =>
        obtain ⟨v0, hr0, hk0⟩ := hcut.out
        clear hcut co0 co1 co2 fo0 fo1 fo2 hblx hlx hlga hwz sb0x sgax
        obtain ⟨co0, co1, co2, fo0, fo1, fo2⟩ := hr0.cells
        have HR0 := Lib.hid hr0
        have HK0 := Lib.hid hk0
        have HBW0 := Lib.hid hr0.below
        have hwz := hr0.below.size
        have sb1x := cell_keep sb1 HBW0.out
        have sgbx := cell_keep sgb HBW0.out
        have hblx : b < wc.heap.size := by omega
        have hlx : w.heap.size < wc.heap.size := block_lt_of_cell co0
        have hlgb := block_lt_of_cell sgbx
        have hcap : (4096 : Int) ≤ (ac : Int) := by omega
        have HKA : Hid (∀ g, wc.heap.size ≤ g → ∀ p ∈ LJ, A p.num < g) := fun g hg p hp => by
          obtain ⟨_, cur, h1, _⟩ := G2.out p hp
          have := lt_of_block (hk0 _ _ _ h1)
          omega
        have HKW : Hid (∀ g, wc.heap.size ≤ g → w.heap.size ≤ g) := fun g hg => by omega
        clear hr0 hk0
        go_upto_region 6 with fail
        go_cut [] (fun wx => Hid (∃ (v' : Value) (gN cN : Nat), MkR w wx w.heap.size v0 v' vP ((atVals LJ) ++ [.int .u64 (at_ : Int)]) ((bsVals A C LJ) ++ [.slice (some ⟨gN, 0, none⟩) 4096 cN]) (prVals LJ) ∧ Keep5 wc wx ∧ ∃ cur : Array Value, wx.heap[gN]? = some (.cells cur 5 (0, 0)) ∧ cur.size = cN ∧ 4096 ≤ cN ∧ cN ≤ maxLen ∧ cur.toList.take 4096 = bvs p.bytes ∧ wc.heap.size ≤ gN))
        case first =>
          go_region_law (first
            | (refine step_append_lies _ rfl (.tmp 36) (.tmp 45) 53 rfl w.heap.size 57 i57 (.slice none 0 0) 1 24 Try.underlying53 hi57 hz57 hs57 hy57 rfl (by decide) vB (bsVals A C LJ).length (bsVals A C LJ) rfl (owns_same HR0.out.b fun g hg => (HW5.out _).block g (HR0.out.b.lt g hg).2) ⟨w5.heap.size, 0, none⟩ 1 1 [.slice (some ⟨g5, 0, none⟩) 4096 c5] rfl rfl (World.news_of_block (hp_new w5 _ _ rfl)) (by simp [Value.oneCell']) (by omega) (by unfold maxLen; omega) (by omega) (by have := HZ5.out; simp <;> omega) _ rfl ?_; intro gN cN wn hown hgrow _ _; have hm := HR0.out.mid_b (HW5.out _) hgrow; obtain ⟨d0, d1, d2, df0, df1, df2⟩ := cells_of hm; have HPN := Lib.hid (HR0.out.push_b (HW5.out _) hown hgrow); clear hm hown hgrow)
            | (refine step_append_lies _ rfl (.const (.slice none 0 0)) (.tmp 43) 57 rfl wc.heap.size 5 i5 (.int .u8 0) 1 1 Try.underlying57 hi5 hz5 hs5 hy5 rfl (by decide) (.slice none 0 0) 0 [] rfl (World.ownsRow_nil _ _ _ _) ⟨ab, 0, none⟩ 4096 ac (bvs p.bytes) rfl HLB.out (HNEWS.out _ (HBW0.out.trans (below_le (Below.refl _ wc).drew HBW0.out.size))) (bvs_one p.bytes) (by decide) (by unfold maxLen; omega) (by omega) (Nat.le_refl _) _ rfl ?_; intro g5 c5 w5 hown hgrow _ _; rw [Nat.zero_add, List.nil_append] at hown; rw [Nat.zero_add]; have HROW5 := Lib.hid hown; have hB5 : Below wc.heap.size wc w5 := ⟨hgrow.os, hgrow.tape, hgrow.output, hgrow.size, fun k hk => hgrow.block k hk (by simp [Value.ownBlock])⟩; have HW5 : Hid (∀ o, Below wc.heap.size wc (w5.alloc o)) := fun o => hB5.alloc hB5.size o; have HZ5 := Lib.hid hB5.size; have e1 := cell_keep co1 hB5; have e2 := cell_keep sb1x hB5; have e3 := cell_keep sgbx hB5; have z5 := hB5.size; have y1 : w.heap.size < w5.heap.size := (by omega); have y2 : b < w5.heap.size := (by omega); have y3 : gb < w5.heap.size := Nat.lt_of_lt_of_le hlgb z5; clear hown hgrow hB5))
          all_goals
            go_wp2_with fail
            go_meet
            exact ⟨_, g5, c5, HPN.out.1, (Keep5.of_below (HW5.out _)).trans HPN.out.2, row_bytesC HROW5.out HPN.out.2⟩
        case rest =>
          obtain ⟨v1, g5, c5, hr1, hk1, cur5, q1, q2, q3, q4, q5, q6⟩ := hcut.out
          clear hcut co0 co1 co2 fo0 fo1 fo2 hblx hlx hlgb hwz sb1x sgbx
          obtain ⟨co0, co1, co2, fo0, fo1, fo2⟩ := hr1.cells
          have HR1 := Lib.hid hr1
          have HK1 := Lib.hid hk1
          have HBW1 := Lib.hid hr1.below
          have hwz := hr1.below.size
          have Q1 := Lib.hid q1
          have Q5 := Lib.hid q5
          have Q2 := Lib.hid q2
          have sb2x := cell_keep sb2 HBW1.out
          have sgpx := cell_keep sgp HBW1.out
          have hblx : b < wc.heap.size := by omega
          have hlx : w.heap.size < wc.heap.size := block_lt_of_cell co0
          have hlgp := block_lt_of_cell sgpx
          have HW2 : Hid (∀ o, Below wc.heap.size wc (wc.alloc o).drew) := fun o => ((Below.refl _ wc).alloc (Nat.le_refl _) o).drew
          have HSN : Hid (∀ p ∈ LJ, A p.num < g5) := HKA.out g5 q6
          have HSL : Hid (w.heap.size ≤ g5) := HKW.out g5 q6
          clear hr1 hk1 q1 q2 q5 q6
          go_upto_region 7 with fail
          go_region_law (refine step_append_lies _ rfl (.tmp 53) (.tmp 61) 25 rfl w.heap.size 3 i3 (.int .i64 0) 1 8 Try.underlying25 hi3 hz3 hs3 hy3 rfl (by decide) vP (prVals LJ).length (prVals LJ) rfl (owns_same HR1.out.p fun g hg => (HW2.out _).block g (HR1.out.p.lt g hg).2) ⟨wc.heap.size, 0, none⟩ 1 1 [.int .i64 pp] rfl rfl (World.news_of_block (hp_new wc _ _ rfl)) (by simp [Value.oneCell']) (by omega) (by unfold maxLen; omega) (by omega) (by simp; omega) _ rfl ?_; intro gN cN wn hown hgrow _ _; have hm := HR1.out.mid_p (HW2.out _) hgrow; obtain ⟨d0, d1, d2, df0, df1, df2⟩ := cells_of hm; have HPN := Lib.hid (HR1.out.push_p (HW2.out _) hown hgrow); clear hm hown hgrow)
          all_goals
            go_wp2_with fail
            go_roundw
            case rel =>
              have hk2 := (Keep5.of_below (HW2.out _)).trans HPN.out.2
              have hfin := RcSt.snoc G2.out G5.out HQL.out HSN.out HSL.out (hk2 _ _ _ Q1.out) Q2.out q3 q4 Q5.out (HK0.out.trans (HK1.out.trans hk2)) (by rw [← HAT.out, ← HPP.out]; exact HPN.out.1)
              refine ⟨i + 1, by omega, by go_num, ?_⟩
              rw [List.take_add_one, HPI.out, ← HLJ.out]
              exact hfin
            case measure => simp [intOf]; omega
    · obtain rfl : i = M.length := by omega
      have HRES : Hid (RCopyRes w M (.returned (.pointer (some ⟨w.heap.size, 0, none⟩))) wr) := by
        have hd := HR.out
        rw [List.take_length] at hd
        exact ⟨_, rfl, hd.done HOK.out, HBEL.out⟩
      clear g2 g5 hr
      go_wp2_with fail
      go_ret
      exact HRES.out
end Go.Proofs.Ytepnaalgobhcdaa
