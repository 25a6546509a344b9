/- The reference's Map where it maps: the walk. -/
import Derived.Test.YtepnaalgobhcdaaRfD
import Derived.Deep.AppendLies
import Derived.Deep.RegionLaw
import Derived.Deep.DeepCutAuto
namespace Go.Proofs.Ytepnaalgobhcdaa
open Go.RowKit Spm

theorem info32 : (Try.prog.info? 32).map (fun i => (i.zero, i.size, i.bytes)) = some (some (.int .u64 0), 1, 8) := by kernel_rfl
theorem info57 : (Try.prog.info? 57).map (fun i => (i.zero, i.size, i.bytes)) = some (some (.slice none 0 0), 1, 24) := by kernel_rfl
theorem size55 : (Try.prog.info? 55).map (·.size) = some 3 := by kernel_rfl
def RMapRes (w : World) (b : Nat) (M : List Pg) (F : Nat → Prop) (a n : Nat) (prot : Int) (e : Ending) (w' : World) : Prop :=
  e = .returned (.int .i64 (mapErr M a n prot)) ∧ RfIn w' b (mapM M a n prot) (grow F w w') ∧ Chg F w w'

set_option maxHeartbeats 4000000 in
set_option maxRecDepth 100000 in
theorem rmap_good (w : World) (b : Nat) (M : List Pg) (F : Nat → Prop) (h : RfIn w b M F) (f k : Nat) (prot : Int) (he : mapErr M (f * 4096) (k * 4096) prot = 0) :
    Calls Try.prog 66 #[.pointer (some ⟨b, 0, none⟩), .int .u64 ((f : Int) * 4096), .int .u64 ((k : Int) * 4096), .int .i64 prot] w (RMapRes w b M F (f * 4096) (k * 4096) prot) := by
  have hmm : mapM M (f * 4096) (k * 4096) prot = mapIn M f k prot := by
    unfold mapM; rw [if_pos he]; unfold fst; rw [Nat.mul_div_cancel _ (by decide), Nat.mul_div_cancel _ (by decide)]
  have hokM := mapM_ok h.ok (f * 4096) (k * 4096) prot
  rw [hmm] at hokM
  have hfew := h.ok.few
  unfold mapErr at he
  by_cases h1 : badArg (f * 4096) (k * 4096) prot = true
  · rw [if_pos h1] at he; cases he
  rw [if_neg h1] at he
  by_cases h2 : inB (f * 4096) (k * 4096) = false
  · rw [if_pos h2] at he; cases he
  rw [if_neg h2] at he
  by_cases h3 : freeB M (f * 4096) (k * 4096) = false
  · rw [if_pos h3] at he; cases he
  rw [if_neg h3] at he
  by_cases h4 : 8192 - M.length < k * 4096 / 4096
  · rw [if_pos h4] at he; cases he
  have h2' : inB (f * 4096) (k * 4096) = true := by simpa using h2
  have h3' : freeB M (f * 4096) (k * 4096) = true := by simpa using h3
  have hbad : 0 < k ∧ 1 ≤ prot ∧ prot ≤ 7 := by simp [badArg] at h1; omega
  have hsum : f * 4096 + k * 4096 ≤ 140737488355328 := by simp [inB] at h2; omega
  have hclear := Clear.of_free h3' (by omega) (by omega) (by omega)
  have e1 : fst (f * 4096) = f := by unfold fst; omega
  have e2 : k * 4096 / 4096 = k := by omega
  rw [e1, e2] at hclear
  obtain ⟨hk0, hp1, hp7⟩ := hbad
  have hkm : M.length + k ≤ 8192 := by omega
  have HI1 : Hid (Calls Try.prog 87 #[.int .u64 ((f : Int) * 4096), .int .u64 ((k : Int) * 4096)] w fun e w' => e = .returned (.bool true) ∧ w = w') := by
    have := rin_any w (f * 4096) (k * 4096) (by omega); rw [h2'] at this
    rw [show ((f * 4096 : Nat) : Int) = (f : Int) * 4096 by omega, show ((k * 4096 : Nat) : Int) = (k : Int) * 4096 by omega] at this
    exact this
  have HFR : Hid (Calls Try.prog 72 #[.pointer (some ⟨b, 0, none⟩), .int .u64 ((f : Int) * 4096), .int .u64 ((k : Int) * 4096)] w fun e w' => e = .returned (.bool true) ∧ w = w') := by
    have := rfree_any w b M F h (f * 4096) (k * 4096) (by omega); rw [h3'] at this
    rw [show ((f * 4096 : Nat) : Int) = (f : Int) * 4096 by omega, show ((k * 4096 : Nat) : Int) = (k : Int) * 4096 by omega] at this
    exact this
  have b1 : ((f : Int) * 4096 % 4096 != 0) = false := by rw [bne_eq_false_iff_eq]; omega
  have b2 : ((k : Int) * 4096 % 4096 != 0) = false := by rw [bne_eq_false_iff_eq]; omega
  have b3 : ((k : Int) * 4096 == 0) = false := by rw [beq_eq_false_iff_ne]; omega
  have b4 : ¬ prot < 1 := by omega
  have b5 : ¬ 7 < prot := by omega
  have b6 : (k : Int) * 4096 / 4096 = (k : Int) := by omega
  have b7 : ¬ (8192 : Int) - (M.length : Int) < (k : Int) := by omega
  have hRes : ∀ w', RfIn w' b (mapIn M f k prot) (grow F w w') → Chg F w w' → RMapRes w b M F (f * 4096) (k * 4096) prot (.returned (.int .i64 0)) w' := fun w' g1 g2 => by
    refine ⟨?_, by rw [hmm]; exact g1, g2⟩
    unfold mapErr
    rw [if_neg h1, if_neg h2, if_neg h3, if_neg h4]
  have HRES := Lib.hid hRes
  obtain ⟨hok, ⟨aA, cA, aB, cB, aP, cP, A0, C0, hb, hp⟩, hFb, hFl⟩ := h
  have HOK := Lib.hid hok
  have HOKM := Lib.hid hokM
  have HCL := Lib.hid hclear
  have HP := Lib.hid hp
  have HB := Lib.hid hb
  have HFL := Lib.hid hFl
  have HLT : Hid (∀ p ∈ M, A0 p.num < w.heap.size) := fun p hp' => (hp.page p hp').lt
  have hbl := lt_of_block hb
  have cb0 : w.cell? ⟨b, 0, none⟩ = some (.slice aA M.length cA) := by simp [World.cell?, hb, rfCells]
  have hcapA := hp.ats.cap
  clear h1 h2 h3 h4 h2' h3' he hclear e1 e2 hmm hRes hok hokM hb hp hFl
  go_enter Try.func66, Try.ntmps66
  go_wp2_with (first
    | (go_at_call 87; refine HI1.out.mono ?_; rintro e _ ⟨rfl, rfl⟩)
    | (go_at_call 72; refine HFR.out.mono ?_; rintro e _ ⟨rfl, rfl⟩))
  clear HI1 HFR b1 b2 b3 b4 b5 b6 b7
  have HS0 : Hid (MkSt w F M f k A0 C0 w.heap.size [] (w.alloc (.cells #[.slice none 0 0, .slice none 0 0, .slice none 0 0] 55))) := MkSt.start ((Below.refl _ w).alloc (Nat.le_refl _) _) (Nat.le_refl _) (hp_new _ _ _ rfl)
  obtain ⟨i32, hi32, hz32, hs32, hy32⟩ := info_parts info32
  obtain ⟨i57, hi57, hz57, hs57, hy57⟩ := info_parts info57
  obtain ⟨i3, hi3, hz3, hs3, hy3⟩ := info_parts Try.info3
  obtain ⟨pc, hmk, hpc⟩ : ∃ pc : Array Value, (∀ W : World, (Instr.makeSlice 57 (.int .i64 4096) (.int .i64 4096)).run Try.prog W = .ok (.slice (some ⟨W.heap.size, 0, none⟩) 4096 4096) (W.alloc (.cells pc 5))) ∧ pc = pageCells := ⟨_, make_page, rfl⟩
  have HPC := Lib.hid hpc
  clear hpc
  go_loopw [10, 11] (fun tp ti wr => ∃ (i : Nat) (put : Bool) (L : List Pg), i ≤ M.length + 1 ∧ ti = .int .i64 i ∧ tp = .bool put ∧ Hid (PutOk M f k prot i put L) ∧ Hid (MkSt w F M f k A0 C0 w.heap.size L wr)) (fun _ ti _ => M.length + 1 - (intOf ti).toNat)
  case atStart => exact ⟨0, false, [], Nat.zero_le _, rfl, rfl, PutOk.start, HS0.out⟩
  case round =>
    obtain ⟨i, put, L, hi, rfl, rfl, HPO, HST⟩ := hrel
    obtain ⟨A, C, vA, vB, vP, hr, g2, g3, g4, g5⟩ := HST.out.own
    have HBEL := Lib.hid hr.below
    have cb := cell_keep cb0 HBEL.out
    have hll := HPO.out.lens
    clear hr g2 g3 g4 g5
    by_cases hlast : i < M.length + 1
    · cases put with
      | false =>
        by_cases hlt : i < M.length
        · obtain ⟨ga, rfl, _, hga⟩ := HP.out.ats.get (by omega)
          obtain ⟨gb, rfl, _, hgb⟩ := HP.out.bys.get (by omega)
          obtain ⟨gp, rfl, _, hgp⟩ := HP.out.prs.get (by omega)
          obtain ⟨p, hpi⟩ : ∃ p, M[i]? = some p := ⟨M[i], List.getElem?_eq_getElem hlt⟩
          have HPM := Lib.hid (List.mem_of_getElem? hpi)
          have HPI := Lib.hid hpi
          have hpb := (HOK.out.pages p HPM.out).1
          obtain ⟨at_, hat⟩ : ∃ at_, at_ = p.num * 4096 := ⟨_, rfl⟩
          obtain ⟨pp, hpp⟩ : ∃ pp, pp = p.prot := ⟨_, rfl⟩
          obtain ⟨ab, ac, hab⟩ : ∃ ab ac, bsVal A0 C0 p = .slice (some ⟨ab, 0, none⟩) 4096 ac := ⟨_, _, rfl⟩
          have sga : w.cell? ⟨ga, i, none⟩ = some (.int .u64 (at_ : Int)) := hga i _ (by unfold atVals; rw [List.getElem?_map, hpi, hat]; rfl)
          have sgb : w.cell? ⟨gb, i, none⟩ = some (.slice (some ⟨ab, 0, none⟩) 4096 ac) := hgb i _ (by unfold bsVals; rw [List.getElem?_map, hpi, ← hab]; rfl)
          have sgp : w.cell? ⟨gp, i, none⟩ = some (.int .i64 pp) := hgp i _ (by unfold prVals; rw [List.getElem?_map, hpi, hpp]; rfl)
          have sb0 : w.cell? ⟨b, 0, none⟩ = some (.slice (some ⟨ga, 0, none⟩) M.length cA) := by simp [World.cell?, HB.out, rfCells]
          have sb1 : w.cell? ⟨b, 1, none⟩ = some (.slice (some ⟨gb, 0, none⟩) M.length cB) := by simp [World.cell?, HB.out, rfCells]
          have sb2 : w.cell? ⟨b, 2, none⟩ = some (.slice (some ⟨gp, 0, none⟩) M.length cP) := by simp [World.cell?, HB.out, rfCells]
          have hcapB := HP.out.bys.cap
          have hcapP := HP.out.prs.cap
          have HAT := Lib.hid hat
          have HPP := Lib.hid hpp
          have HAB := Lib.hid hab
          have hatb : at_ < 140737488355328 := by omega
          have z0 : (0 : Int) ≤ (i : Int) := by omega
          have z1 : (i : Int) < (M.length : Int) := by omega
          have z2 : ((i : Int) == (M.length : Int)) = false := by rw [beq_eq_false_iff_ne]; omega
          clear hga hgb hgp hat hpp hab
          by_cases hf : p.num < f
          · have HPNEXT := Lib.hid (HPO.out.old HPI.out (fun _ => hf))
            have i2 : ¬ (f : Int) * 4096 < (at_ : Int) := by have := HAT.out; omega
            clear hpi hpb cb0
            have sgaq := cell_keep sga HBEL.out
            obtain ⟨A, C, vA, vB, vP, hr, g2, g3, g4, g5⟩ := HST.out.own
            obtain ⟨co0, co1, co2, fo0, fo1, fo2⟩ := hr.cells
            have HBELX := Lib.hid hr.below
            have hwz := hr.below.size
            have sb0x := cell_keep sb0 HBELX.out
            have sb1x := cell_keep sb1 HBELX.out
            have sb2x := cell_keep sb2 HBELX.out
            have sgax := cell_keep sga HBELX.out
            have sgbx := cell_keep sgb HBELX.out
            have sgpx := cell_keep sgp HBELX.out
            have hlj := HPO.out.lens
            obtain ⟨LJ, hLJ⟩ : ∃ LJ, LJ = L := ⟨_, rfl⟩
            rw [← hLJ] at hr g2 g4 g5 hlj
            have na : (atVals LJ).length ≤ 16384 := by rw [show (atVals LJ).length = LJ.length by simp [atVals]]; omega
            have nb : (bsVals A C LJ).length ≤ 16384 := by rw [show (bsVals A C LJ).length = LJ.length by simp [bsVals]]; omega
            have np : (prVals LJ).length ≤ 16384 := by rw [show (prVals LJ).length = LJ.length by simp [prVals]]; omega
            have HR := Lib.hid hr
            have HLJ := Lib.hid hLJ
            have G2 := Lib.hid g2
            have G3 := Lib.hid g3
            have G4 := Lib.hid g4
            have G5 := Lib.hid g5
            have hblx : b < wr.heap.size := by omega
            have hlx : w.heap.size < wr.heap.size := block_lt_of_cell co0
            have hlga := block_lt_of_cell sgax
            have hlgb := block_lt_of_cell sgbx
            have hlgp := block_lt_of_cell sgpx
            have HW0 : Hid (∀ o, Below wr.heap.size wr (wr.alloc o).drew) := fun o => ((Below.refl _ wr).alloc (Nat.le_refl _) o).drew
            clear hr hLJ g2 g3 g4 g5 hlj
            go_wp2_with fail
            go_upto_region 23 with fail
            go_cut [] (fun wx => Hid (∃ v' : Value, MkR w wx w.heap.size v' vB vP ((atVals LJ) ++ [.int .u64 (at_ : Int)]) (bsVals A C LJ) (prVals LJ) ∧ Keep5 wr wx))
            case first =>
              go_region_law (refine step_append_lies _ rfl (.tmp 116) (.tmp 124) 52 rfl w.heap.size 32 i32 (.int .u64 0) 1 8 Try.underlying52 hi32 hz32 hs32 hy32 rfl (by decide) vA (atVals LJ).length (atVals LJ) rfl (owns_same HR.out.a fun g hg => (HW0.out _).block g (HR.out.a.lt g hg).2) ⟨wr.heap.size, 0, none⟩ 1 1 [.int .u64 (at_ : Int)] rfl rfl (World.news_of_block (hp_new wr _ _ rfl)) (by simp [Value.oneCell']) (by omega) (by unfold maxLen; omega) (by omega) (by simp; omega) _ rfl ?_; intro gN cN wn hown hgrow _ _; have hm := HR.out.mid_a (HW0.out _) hgrow; obtain ⟨d0, d1, d2, df0, df1, df2⟩ := cells_of hm; have HPN := Lib.hid (HR.out.push_a (HW0.out _) hown hgrow); clear hm hown hgrow)
              all_goals
                go_wp2_with fail
                go_meet
                exact ⟨_, HPN.out.1, (Keep5.of_below (HW0.out _)).trans HPN.out.2⟩
            case rest =>
              obtain ⟨v0, hr0, hk0⟩ := hcut.out
              clear hcut co0 co1 co2 fo0 fo1 fo2 hblx hlx hlga hlgb hlgp hwz sb0x sb1x sb2x sgax sgbx sgpx
              obtain ⟨co0, co1, co2, fo0, fo1, fo2⟩ := hr0.cells
              have HR0 := Lib.hid hr0
              have HK0 := Lib.hid hk0
              have HBW0 := Lib.hid hr0.below
              have hwz := hr0.below.size
              have sb0x := cell_keep sb0 HBW0.out
              have sb1x := cell_keep sb1 HBW0.out
              have sb2x := cell_keep sb2 HBW0.out
              have sgax := cell_keep sga HBW0.out
              have sgbx := cell_keep sgb HBW0.out
              have sgpx := cell_keep sgp HBW0.out
              have hblx : b < wc.heap.size := by omega
              have hlx : w.heap.size < wc.heap.size := block_lt_of_cell co0
              have hlga := block_lt_of_cell sgax
              have hlgb := block_lt_of_cell sgbx
              have hlgp := block_lt_of_cell sgpx
              have HW1 : Hid (∀ o, Below wc.heap.size wc (wc.alloc o).drew) := fun o => ((Below.refl _ wc).alloc (Nat.le_refl _) o).drew
              clear hr0 hk0
              go_upto_region 24 with fail
              go_cut [] (fun wx => Hid (∃ v' : Value, MkR w wx w.heap.size v0 v' vP ((atVals LJ) ++ [.int .u64 (at_ : Int)]) ((bsVals A C LJ) ++ [.slice (some ⟨ab, 0, none⟩) 4096 ac]) (prVals LJ) ∧ Keep5 wc wx))
              case first =>
                go_region_law (refine step_append_lies _ rfl (.tmp 128) (.tmp 136) 53 rfl w.heap.size 57 i57 (.slice none 0 0) 1 24 Try.underlying53 hi57 hz57 hs57 hy57 rfl (by decide) vB (bsVals A C LJ).length (bsVals A C LJ) rfl (owns_same HR0.out.b fun g hg => (HW1.out _).block g (HR0.out.b.lt g hg).2) ⟨wc.heap.size, 0, none⟩ 1 1 [.slice (some ⟨ab, 0, none⟩) 4096 ac] rfl rfl (World.news_of_block (hp_new wc _ _ rfl)) (by simp [Value.oneCell']) (by omega) (by unfold maxLen; omega) (by omega) (by simp; omega) _ rfl ?_; intro gN cN wn hown hgrow _ _; have hm := HR0.out.mid_b (HW1.out _) hgrow; obtain ⟨d0, d1, d2, df0, df1, df2⟩ := cells_of hm; have HPN := Lib.hid (HR0.out.push_b (HW1.out _) hown hgrow); clear hm hown hgrow)
                all_goals
                  go_wp2_with fail
                  go_meet
                  exact ⟨_, HPN.out.1, (Keep5.of_below (HW1.out _)).trans HPN.out.2⟩
              case rest =>
                obtain ⟨v1, hr1, hk1⟩ := hcut.out
                clear hcut co0 co1 co2 fo0 fo1 fo2 hblx hlx hlga hlgb hlgp hwz sb0x sb1x sb2x sgax sgbx sgpx
                obtain ⟨co0, co1, co2, fo0, fo1, fo2⟩ := hr1.cells
                have HR1 := Lib.hid hr1
                have HK1 := Lib.hid hk1
                have HBW1 := Lib.hid hr1.below
                have hwz := hr1.below.size
                have sb0x := cell_keep sb0 HBW1.out
                have sb1x := cell_keep sb1 HBW1.out
                have sb2x := cell_keep sb2 HBW1.out
                have sgax := cell_keep sga HBW1.out
                have sgbx := cell_keep sgb HBW1.out
                have sgpx := cell_keep sgp HBW1.out
                have hblx : b < wc.heap.size := by omega
                have hlx : w.heap.size < wc.heap.size := block_lt_of_cell co0
                have hlga := block_lt_of_cell sgax
                have hlgb := block_lt_of_cell sgbx
                have hlgp := block_lt_of_cell sgpx
                have HW2 : Hid (∀ o, Below wc.heap.size wc (wc.alloc o).drew) := fun o => ((Below.refl _ wc).alloc (Nat.le_refl _) o).drew
                clear hr1 hk1
                go_wp2_with fail
                go_region_law (refine step_append_lies _ rfl (.tmp 140) (.tmp 148) 25 rfl w.heap.size 3 i3 (.int .i64 0) 1 8 Try.underlying25 hi3 hz3 hs3 hy3 rfl (by decide) vP (prVals LJ).length (prVals LJ) rfl (owns_same HR1.out.p fun g hg => (HW2.out _).block g (HR1.out.p.lt g hg).2) ⟨wc.heap.size, 0, none⟩ 1 1 [.int .i64 pp] rfl rfl (World.news_of_block (hp_new wc _ _ rfl)) (by simp [Value.oneCell']) (by omega) (by unfold maxLen; omega) (by omega) (by simp; omega) _ rfl ?_; intro gN cN wn hown hgrow _ _; have hm := HR1.out.mid_p (HW2.out _) hgrow; obtain ⟨d0, d1, d2, df0, df1, df2⟩ := cells_of hm; have HPN := Lib.hid (HR1.out.push_p (HW2.out _) hown hgrow); clear hm hown hgrow)
                all_goals
                  go_wp2_with fail
                  go_roundw
                  case rel =>
                    have hfin := MkSt.old_all (f := f) (k := k) HP.out HR.out G2.out G3.out G4.out G5.out HPM.out (Below.refl _ _) HK0.out (Below.refl _ _) HK1.out (HW2.out _) HPN.out.2 (by rw [← HAT.out, ← HPP.out, HAB.out]; exact HPN.out.1)
                    exact ⟨i + 1, false, LJ ++ [p], by omega, by go_num, rfl, by rw [HLJ.out]; exact HPNEXT.out, hfin⟩
                  case measure => simp [intOf]; omega
          · have HPX := Lib.hid (HPO.out.put HOK.out (.inr ⟨p, HPI.out, by omega⟩))
            have HPNEXT := Lib.hid (HPX.out.old HPI.out (fun h => by cases h))
            have i2 : (f : Int) * 4096 < (at_ : Int) := by
              have h1 := HAT.out
              have h2 : p.num ≠ f := fun e => HCL.out p HPM.out (by omega)
              omega
            clear hpi hpb
            have sgaq := cell_keep sga HBEL.out
            have i3b : decide (i ≤ M.length) = true := decide_eq_true (Nat.le_of_lt hlt)
            have i2b : decide ((f : Int) * 4096 < (at_ : Int)) = true := decide_eq_true i2
            go_wp2_with fail
            go_loopw [12] (fun t wr => ∃ j : Nat, j ≤ k ∧ t = .int .u64 ((j : Int) * 4096) ∧ Hid (MkSt w F M f k A0 C0 w.heap.size (L ++ newPages f j prot) wr)) (fun t _ => k * 4096 - (intOf t).toNat)
            case atStart => exact ⟨0, Nat.zero_le _, by simp, by rw [newPages_zero, List.append_nil]; exact HST.out⟩
            case round =>
              obtain ⟨j, hj, rfl, HSJ⟩ := hrel
              by_cases hjk : j < k
              · obtain ⟨A, C, vA, vB, vP, hr, g2, g3, g4, g5⟩ := HSJ.out.own
                obtain ⟨co0, co1, co2, fo0, fo1, fo2⟩ := hr.cells
                have hlj : (L ++ newPages f j prot).length ≤ 16384 := by simp only [List.length_append, newPages, List.length_map, List.length_range]; omega
                have HFRESH := Lib.hid (HPO.out.fresh HCL.out hjk)
                obtain ⟨LJ, hLJ⟩ : ∃ LJ, LJ = L ++ newPages f j prot := ⟨_, rfl⟩
                rw [← hLJ] at hr g2 g4 g5 hlj HFRESH
                have na : (atVals LJ).length ≤ 16384 := by simpa [atVals] using hlj
                have nb : (bsVals A C LJ).length ≤ 16384 := by simpa [bsVals] using hlj
                have np : (prVals LJ).length ≤ 16384 := by simpa [prVals] using hlj
                have HR := Lib.hid hr
                have HLJ := Lib.hid hLJ
                have G2 := Lib.hid g2
                have G3 := Lib.hid g3
                have G4 := Lib.hid g4
                have G5 := Lib.hid g5
                have hwz := hr.below.size
                have HW1 : Hid (∀ o, Below wr.heap.size wr (wr.alloc o)) := fun o => (Below.refl _ wr).alloc (Nat.le_refl _) o
                have i1 : (j : Int) * 4096 < (k : Int) * 4096 := by omega
                clear hr hLJ g2 g3 g4 g5 hlj
                go_wp2_with (at_builtin; refine wpList_append_lies _ rfl (.tmp 89) (.tmp 93) 52 rfl w.heap.size 32 i32 (.int .u64 0) 1 8 Try.underlying52 hi32 hz32 hs32 hy32 rfl (by decide) vA (atVals LJ).length (atVals LJ) rfl (HR.out.a.alloc _) ⟨wr.heap.size, 0, none⟩ 1 1 [.int .u64 ((f : Int) * 4096 + (j : Int) * 4096)] rfl rfl (World.news_of_block (heap_alloc_new wr _)) (by simp [Value.oneCell']) (by omega) (by unfold maxLen; omega) (by omega) (by simp; omega) _ rfl ?_; intro gA cA1 w1 hown1 hgrow1 _ _; have hm1 := HR.out.mid_a (HW1.out _) hgrow1; obtain ⟨d0, _, _, df0, _, _⟩ := cells_of hm1; have HPA := Lib.hid (HR.out.push_a (HW1.out _) hown1 hgrow1); have HSZ : Hid (∀ a v, wr.heap.size ≤ (w1.setCell a v).heap.size) := (fun a v => by have := hgrow1.size; simp at this; simp; omega); clear hm1 hown1 hgrow1)
                replace HSZ := Lib.hid (HSZ.out ⟨w.heap.size, 0, none⟩ (.slice (some ⟨gA, 0, none⟩) ((atVals LJ).length + 1) cA1))
                generalize w1.setCell ⟨w.heap.size, 0, none⟩ (.slice (some ⟨gA, 0, none⟩) ((atVals LJ).length + 1) cA1) = w2 at *
                clear co0 co1 co2 fo0 fo1 fo2 d0 df0
                obtain ⟨co0, co1, co2, fo0, fo1, fo2⟩ := HPA.out.1.cells
                have HW2 : Hid (∀ o o', Below w2.heap.size w2 ((w2.alloc o).alloc o').drew) := fun o o' => (((Below.refl _ w2).alloc (Nat.le_refl _) o).alloc (by simp) o').drew
                have hwz2 := HPA.out.1.below.size
                have hlt2 : w.heap.size < w2.heap.size := block_lt_of_cell co1
                go_upto_region 19 with fail
                go_cut [] (fun wx => Hid (∃ (vB' : Value) (blk : Nat), MkR w wx w.heap.size (.slice (some ⟨gA, 0, none⟩) ((atVals LJ).length + 1) cA1) vB' vP (atVals LJ ++ [.int .u64 ((f : Int) * 4096 + (j : Int) * 4096)]) (bsVals A C LJ ++ [.slice (some ⟨blk, 0, none⟩) 4096 4096]) (prVals LJ) ∧ w2.heap.size ≤ blk ∧ wx.heap[blk]? = some (.cells pc 5 (0, 0)) ∧ Keep5 w2 wx))
                case first =>
                  go_region_law (refine step_append_lies _ rfl (.tmp 97) (.tmp 99) 53 rfl w.heap.size 57 i57 (.slice none 0 0) 1 24 Try.underlying53 hi57 hz57 hs57 hy57 rfl (by decide) vB (bsVals A C LJ).length (bsVals A C LJ) rfl (owns_same HPA.out.1.b fun g hg => (HW2.out _ _).block g (HPA.out.1.b.lt g hg).2) ⟨w2.heap.size + 1, 0, none⟩ 1 1 [.slice (some ⟨w2.heap.size, 0, none⟩) 4096 4096] rfl rfl (World.news_of_block (hp_new (w2.alloc (.cells pc 5)) _ _ (by simp))) (by simp [Value.oneCell']) (by omega) (by unfold maxLen; omega) (by omega) (by simp; omega) _ rfl ?_; intro gB cB1 w4 hown2 hgrow2 _ _; have hm2 := HPA.out.1.mid_b (HW2.out _ _) hgrow2; obtain ⟨_, d1, _, _, df1, _⟩ := cells_of hm2; have HPB := Lib.hid (HPA.out.1.push_b (HW2.out _ _) hown2 hgrow2); clear hm2 hown2 hgrow2)
                  all_goals
                    go_wp2_with fail
                    go_meet
                    have hk1 : Keep5 w2 ((w2.alloc (.cells pc 5)).alloc (.cells #[.slice (some ⟨w2.heap.size, 0, none⟩) 4096 4096] 57)).drew := Keep5.of_below (HW2.out _ _)
                    have hn1 : ((w2.alloc (.cells pc 5)).alloc (.cells #[.slice (some ⟨w2.heap.size, 0, none⟩) 4096 4096] 57)).drew.heap[w2.heap.size]? = some (.cells pc 5 (0, 0)) := (hp_old _ _ _ (by simp)).trans (hp_new _ _ _ rfl)
                    exact ⟨_, w2.heap.size, HPB.out.1, Nat.le_refl _, HPB.out.2 _ _ _ hn1, hk1.trans HPB.out.2⟩
                case rest =>
                  obtain ⟨vB', blk, hr5, hbl5, hn5, hk5⟩ := hcut.out
                  clear hcut co0 co1 co2 fo0 fo1 fo2 hlt2 hwz2 HW2
                  obtain ⟨co0, co1, co2, fo0, fo1, fo2⟩ := hr5.cells
                  have HR5 := Lib.hid hr5
                  have HN5 := Lib.hid hn5
                  have HK5 := Lib.hid hk5
                  have HBL5 := Lib.hid hbl5
                  have hwz5 := hr5.below.size
                  have HW5 : Hid (∀ o, Below wc.heap.size wc (wc.alloc o)) := fun o => (Below.refl _ wc).alloc (Nat.le_refl _) o
                  clear hr5 hn5 hk5 hbl5
                  go_wp2_with (at_builtin; refine wpList_append_lies _ rfl (.tmp 103) (.tmp 105) 25 rfl w.heap.size 3 i3 (.int .i64 0) 1 8 Try.underlying25 hi3 hz3 hs3 hy3 rfl (by decide) vP (prVals LJ).length (prVals LJ) rfl (HR5.out.p.alloc _) ⟨wc.heap.size, 0, none⟩ 1 1 [.int .i64 prot] rfl rfl (World.news_of_block (heap_alloc_new wc _)) (by simp [Value.oneCell']) (by omega) (by unfold maxLen; omega) (by omega) (by simp; omega) _ rfl ?_; intro gP cP1 w6 hown6 hgrow6 _ _; have hm6 := HR5.out.mid_p (HW5.out _) hgrow6; obtain ⟨_, _, d2, _, _, df2⟩ := cells_of hm6; have HPP := Lib.hid (HR5.out.push_p (HW5.out _) hown6 hgrow6); clear hm6 hown6 hgrow6)
                  go_roundw
                  case rel =>
                    refine ⟨j + 1, by omega, by go_num, ?_⟩
                    have hfin := MkSt.new_all HLT.out HR.out G2.out G3.out G4.out G5.out hjk HFRESH.out HCL.out (HW1.out _) HPA.out.2 HSZ.out HK5.out HBL5.out HN5.out HPC.out (HW5.out _) HPP.out.2 HPP.out.1
                    rw [newPages_succ, ← List.append_assoc, ← HLJ.out]; exact hfin
                  case measure => simp [intOf]; omega
              · obtain rfl : k = j := by omega
                obtain ⟨_, _, _, _, _, hrx, _⟩ := HSJ.out.own
                have HBX := Lib.hid hrx.below
                have cbx := cell_keep cb0 HBX.out
                clear hrx
                have HPO2 := HPX
                clear cb0 cbx sgaq
                obtain ⟨A, C, vA, vB, vP, hr, g2, g3, g4, g5⟩ := HSJ.out.own
                obtain ⟨co0, co1, co2, fo0, fo1, fo2⟩ := hr.cells
                have HBELX := Lib.hid hr.below
                have hwz := hr.below.size
                have sb0x := cell_keep sb0 HBELX.out
                have sb1x := cell_keep sb1 HBELX.out
                have sb2x := cell_keep sb2 HBELX.out
                have sgax := cell_keep sga HBELX.out
                have sgbx := cell_keep sgb HBELX.out
                have sgpx := cell_keep sgp HBELX.out
                have hlj := HPO2.out.lens
                obtain ⟨LJ, hLJ⟩ : ∃ LJ, LJ = (L ++ newPages f k prot) := ⟨_, rfl⟩
                rw [← hLJ] at hr g2 g4 g5 hlj
                have na : (atVals LJ).length ≤ 16384 := by rw [show (atVals LJ).length = LJ.length by simp [atVals]]; omega
                have nb : (bsVals A C LJ).length ≤ 16384 := by rw [show (bsVals A C LJ).length = LJ.length by simp [bsVals]]; omega
                have np : (prVals LJ).length ≤ 16384 := by rw [show (prVals LJ).length = LJ.length by simp [prVals]]; omega
                have HR := Lib.hid hr
                have HLJ := Lib.hid hLJ
                have G2 := Lib.hid g2
                have G3 := Lib.hid g3
                have G4 := Lib.hid g4
                have G5 := Lib.hid g5
                have hblx : b < wr.heap.size := by omega
                have hlx : w.heap.size < wr.heap.size := block_lt_of_cell co0
                have hlga := block_lt_of_cell sgax
                have hlgb := block_lt_of_cell sgbx
                have hlgp := block_lt_of_cell sgpx
                have HW0 : Hid (∀ o, Below wr.heap.size wr (wr.alloc o).drew) := fun o => ((Below.refl _ wr).alloc (Nat.le_refl _) o).drew
                clear hr hLJ g2 g3 g4 g5 hlj
                go_wp2_with fail
                go_upto_region 23 with fail
                go_cut [] (fun wx => Hid (∃ v' : Value, MkR w wx w.heap.size v' vB vP ((atVals LJ) ++ [.int .u64 (at_ : Int)]) (bsVals A C LJ) (prVals LJ) ∧ Keep5 wr wx))
                case first =>
                  go_region_law (refine step_append_lies _ rfl (.tmp 116) (.tmp 124) 52 rfl w.heap.size 32 i32 (.int .u64 0) 1 8 Try.underlying52 hi32 hz32 hs32 hy32 rfl (by decide) vA (atVals LJ).length (atVals LJ) rfl (owns_same HR.out.a fun g hg => (HW0.out _).block g (HR.out.a.lt g hg).2) ⟨wr.heap.size, 0, none⟩ 1 1 [.int .u64 (at_ : Int)] rfl rfl (World.news_of_block (hp_new wr _ _ rfl)) (by simp [Value.oneCell']) (by omega) (by unfold maxLen; omega) (by omega) (by simp; omega) _ rfl ?_; intro gN cN wn hown hgrow _ _; have hm := HR.out.mid_a (HW0.out _) hgrow; obtain ⟨d0, d1, d2, df0, df1, df2⟩ := cells_of hm; have HPN := Lib.hid (HR.out.push_a (HW0.out _) hown hgrow); clear hm hown hgrow)
                  all_goals
                    go_wp2_with fail
                    go_meet
                    exact ⟨_, HPN.out.1, (Keep5.of_below (HW0.out _)).trans HPN.out.2⟩
                case rest =>
                  obtain ⟨v0, hr0, hk0⟩ := hcut.out
                  clear hcut co0 co1 co2 fo0 fo1 fo2 hblx hlx hlga hlgb hlgp hwz sb0x sb1x sb2x sgax sgbx sgpx
                  obtain ⟨co0, co1, co2, fo0, fo1, fo2⟩ := hr0.cells
                  have HR0 := Lib.hid hr0
                  have HK0 := Lib.hid hk0
                  have HBW0 := Lib.hid hr0.below
                  have hwz := hr0.below.size
                  have sb0x := cell_keep sb0 HBW0.out
                  have sb1x := cell_keep sb1 HBW0.out
                  have sb2x := cell_keep sb2 HBW0.out
                  have sgax := cell_keep sga HBW0.out
                  have sgbx := cell_keep sgb HBW0.out
                  have sgpx := cell_keep sgp HBW0.out
                  have hblx : b < wc.heap.size := by omega
                  have hlx : w.heap.size < wc.heap.size := block_lt_of_cell co0
                  have hlga := block_lt_of_cell sgax
                  have hlgb := block_lt_of_cell sgbx
                  have hlgp := block_lt_of_cell sgpx
                  have HW1 : Hid (∀ o, Below wc.heap.size wc (wc.alloc o).drew) := fun o => ((Below.refl _ wc).alloc (Nat.le_refl _) o).drew
                  clear hr0 hk0
                  go_upto_region 24 with fail
                  go_cut [] (fun wx => Hid (∃ v' : Value, MkR w wx w.heap.size v0 v' vP ((atVals LJ) ++ [.int .u64 (at_ : Int)]) ((bsVals A C LJ) ++ [.slice (some ⟨ab, 0, none⟩) 4096 ac]) (prVals LJ) ∧ Keep5 wc wx))
                  case first =>
                    go_region_law (refine step_append_lies _ rfl (.tmp 128) (.tmp 136) 53 rfl w.heap.size 57 i57 (.slice none 0 0) 1 24 Try.underlying53 hi57 hz57 hs57 hy57 rfl (by decide) vB (bsVals A C LJ).length (bsVals A C LJ) rfl (owns_same HR0.out.b fun g hg => (HW1.out _).block g (HR0.out.b.lt g hg).2) ⟨wc.heap.size, 0, none⟩ 1 1 [.slice (some ⟨ab, 0, none⟩) 4096 ac] rfl rfl (World.news_of_block (hp_new wc _ _ rfl)) (by simp [Value.oneCell']) (by omega) (by unfold maxLen; omega) (by omega) (by simp; omega) _ rfl ?_; intro gN cN wn hown hgrow _ _; have hm := HR0.out.mid_b (HW1.out _) hgrow; obtain ⟨d0, d1, d2, df0, df1, df2⟩ := cells_of hm; have HPN := Lib.hid (HR0.out.push_b (HW1.out _) hown hgrow); clear hm hown hgrow)
                    all_goals
                      go_wp2_with fail
                      go_meet
                      exact ⟨_, HPN.out.1, (Keep5.of_below (HW1.out _)).trans HPN.out.2⟩
                  case rest =>
                    obtain ⟨v1, hr1, hk1⟩ := hcut.out
                    clear hcut co0 co1 co2 fo0 fo1 fo2 hblx hlx hlga hlgb hlgp hwz sb0x sb1x sb2x sgax sgbx sgpx
                    obtain ⟨co0, co1, co2, fo0, fo1, fo2⟩ := hr1.cells
                    have HR1 := Lib.hid hr1
                    have HK1 := Lib.hid hk1
                    have HBW1 := Lib.hid hr1.below
                    have hwz := hr1.below.size
                    have sb0x := cell_keep sb0 HBW1.out
                    have sb1x := cell_keep sb1 HBW1.out
                    have sb2x := cell_keep sb2 HBW1.out
                    have sgax := cell_keep sga HBW1.out
                    have sgbx := cell_keep sgb HBW1.out
                    have sgpx := cell_keep sgp HBW1.out
                    have hblx : b < wc.heap.size := by omega
                    have hlx : w.heap.size < wc.heap.size := block_lt_of_cell co0
                    have hlga := block_lt_of_cell sgax
                    have hlgb := block_lt_of_cell sgbx
                    have hlgp := block_lt_of_cell sgpx
                    have HW2 : Hid (∀ o, Below wc.heap.size wc (wc.alloc o).drew) := fun o => ((Below.refl _ wc).alloc (Nat.le_refl _) o).drew
                    clear hr1 hk1
                    go_wp2_with fail
                    go_region_law (refine step_append_lies _ rfl (.tmp 140) (.tmp 148) 25 rfl w.heap.size 3 i3 (.int .i64 0) 1 8 Try.underlying25 hi3 hz3 hs3 hy3 rfl (by decide) vP (prVals LJ).length (prVals LJ) rfl (owns_same HR1.out.p fun g hg => (HW2.out _).block g (HR1.out.p.lt g hg).2) ⟨wc.heap.size, 0, none⟩ 1 1 [.int .i64 pp] rfl rfl (World.news_of_block (hp_new wc _ _ rfl)) (by simp [Value.oneCell']) (by omega) (by unfold maxLen; omega) (by omega) (by simp; omega) _ rfl ?_; intro gN cN wn hown hgrow _ _; have hm := HR1.out.mid_p (HW2.out _) hgrow; obtain ⟨d0, d1, d2, df0, df1, df2⟩ := cells_of hm; have HPN := Lib.hid (HR1.out.push_p (HW2.out _) hown hgrow); clear hm hown hgrow)
                    all_goals
                      go_wp2_with fail
                      go_roundw
                      case rel =>
                        have hfin := MkSt.old_all (f := f) (k := k) HP.out HR.out G2.out G3.out G4.out G5.out HPM.out (Below.refl _ _) HK0.out (Below.refl _ _) HK1.out (HW2.out _) HPN.out.2 (by rw [← HAT.out, ← HPP.out, HAB.out]; exact HPN.out.1)
                        exact ⟨i + 1, true, LJ ++ [p], by omega, by go_num, rfl, by rw [HLJ.out]; exact HPNEXT.out, hfin⟩
                      case measure => simp [intOf]; omega
        · obtain rfl : i = M.length := by omega
          go_wp2_with fail
          go_loopw [12] (fun t wr => ∃ j : Nat, j ≤ k ∧ t = .int .u64 ((j : Int) * 4096) ∧ Hid (MkSt w F M f k A0 C0 w.heap.size (L ++ newPages f j prot) wr)) (fun t _ => k * 4096 - (intOf t).toNat)
          case atStart => exact ⟨0, Nat.zero_le _, by simp, by rw [newPages_zero, List.append_nil]; exact HST.out⟩
          case round =>
            obtain ⟨j, hj, rfl, HSJ⟩ := hrel
            by_cases hjk : j < k
            · obtain ⟨A, C, vA, vB, vP, hr, g2, g3, g4, g5⟩ := HSJ.out.own
              obtain ⟨co0, co1, co2, fo0, fo1, fo2⟩ := hr.cells
              have hlj : (L ++ newPages f j prot).length ≤ 16384 := by simp only [List.length_append, newPages, List.length_map, List.length_range]; omega
              have HFRESH := Lib.hid (HPO.out.fresh HCL.out hjk)
              obtain ⟨LJ, hLJ⟩ : ∃ LJ, LJ = L ++ newPages f j prot := ⟨_, rfl⟩
              rw [← hLJ] at hr g2 g4 g5 hlj HFRESH
              have na : (atVals LJ).length ≤ 16384 := by simpa [atVals] using hlj
              have nb : (bsVals A C LJ).length ≤ 16384 := by simpa [bsVals] using hlj
              have np : (prVals LJ).length ≤ 16384 := by simpa [prVals] using hlj
              have HR := Lib.hid hr
              have HLJ := Lib.hid hLJ
              have G2 := Lib.hid g2
              have G3 := Lib.hid g3
              have G4 := Lib.hid g4
              have G5 := Lib.hid g5
              have hwz := hr.below.size
              have HW1 : Hid (∀ o, Below wr.heap.size wr (wr.alloc o)) := fun o => (Below.refl _ wr).alloc (Nat.le_refl _) o
              have i1 : (j : Int) * 4096 < (k : Int) * 4096 := by omega
              clear hr hLJ g2 g3 g4 g5 hlj
              go_wp2_with (at_builtin; refine wpList_append_lies _ rfl (.tmp 89) (.tmp 93) 52 rfl w.heap.size 32 i32 (.int .u64 0) 1 8 Try.underlying52 hi32 hz32 hs32 hy32 rfl (by decide) vA (atVals LJ).length (atVals LJ) rfl (HR.out.a.alloc _) ⟨wr.heap.size, 0, none⟩ 1 1 [.int .u64 ((f : Int) * 4096 + (j : Int) * 4096)] rfl rfl (World.news_of_block (heap_alloc_new wr _)) (by simp [Value.oneCell']) (by omega) (by unfold maxLen; omega) (by omega) (by simp; omega) _ rfl ?_; intro gA cA1 w1 hown1 hgrow1 _ _; have hm1 := HR.out.mid_a (HW1.out _) hgrow1; obtain ⟨d0, _, _, df0, _, _⟩ := cells_of hm1; have HPA := Lib.hid (HR.out.push_a (HW1.out _) hown1 hgrow1); have HSZ : Hid (∀ a v, wr.heap.size ≤ (w1.setCell a v).heap.size) := (fun a v => by have := hgrow1.size; simp at this; simp; omega); clear hm1 hown1 hgrow1)
              replace HSZ := Lib.hid (HSZ.out ⟨w.heap.size, 0, none⟩ (.slice (some ⟨gA, 0, none⟩) ((atVals LJ).length + 1) cA1))
              generalize w1.setCell ⟨w.heap.size, 0, none⟩ (.slice (some ⟨gA, 0, none⟩) ((atVals LJ).length + 1) cA1) = w2 at *
              clear co0 co1 co2 fo0 fo1 fo2 d0 df0
              obtain ⟨co0, co1, co2, fo0, fo1, fo2⟩ := HPA.out.1.cells
              have HW2 : Hid (∀ o o', Below w2.heap.size w2 ((w2.alloc o).alloc o').drew) := fun o o' => (((Below.refl _ w2).alloc (Nat.le_refl _) o).alloc (by simp) o').drew
              have hwz2 := HPA.out.1.below.size
              have hlt2 : w.heap.size < w2.heap.size := block_lt_of_cell co1
              go_upto_region 19 with fail
              go_cut [] (fun wx => Hid (∃ (vB' : Value) (blk : Nat), MkR w wx w.heap.size (.slice (some ⟨gA, 0, none⟩) ((atVals LJ).length + 1) cA1) vB' vP (atVals LJ ++ [.int .u64 ((f : Int) * 4096 + (j : Int) * 4096)]) (bsVals A C LJ ++ [.slice (some ⟨blk, 0, none⟩) 4096 4096]) (prVals LJ) ∧ w2.heap.size ≤ blk ∧ wx.heap[blk]? = some (.cells pc 5 (0, 0)) ∧ Keep5 w2 wx))
              case first =>
                go_region_law (refine step_append_lies _ rfl (.tmp 97) (.tmp 99) 53 rfl w.heap.size 57 i57 (.slice none 0 0) 1 24 Try.underlying53 hi57 hz57 hs57 hy57 rfl (by decide) vB (bsVals A C LJ).length (bsVals A C LJ) rfl (owns_same HPA.out.1.b fun g hg => (HW2.out _ _).block g (HPA.out.1.b.lt g hg).2) ⟨w2.heap.size + 1, 0, none⟩ 1 1 [.slice (some ⟨w2.heap.size, 0, none⟩) 4096 4096] rfl rfl (World.news_of_block (hp_new (w2.alloc (.cells pc 5)) _ _ (by simp))) (by simp [Value.oneCell']) (by omega) (by unfold maxLen; omega) (by omega) (by simp; omega) _ rfl ?_; intro gB cB1 w4 hown2 hgrow2 _ _; have hm2 := HPA.out.1.mid_b (HW2.out _ _) hgrow2; obtain ⟨_, d1, _, _, df1, _⟩ := cells_of hm2; have HPB := Lib.hid (HPA.out.1.push_b (HW2.out _ _) hown2 hgrow2); clear hm2 hown2 hgrow2)
                all_goals
                  go_wp2_with fail
                  go_meet
                  have hk1 : Keep5 w2 ((w2.alloc (.cells pc 5)).alloc (.cells #[.slice (some ⟨w2.heap.size, 0, none⟩) 4096 4096] 57)).drew := Keep5.of_below (HW2.out _ _)
                  have hn1 : ((w2.alloc (.cells pc 5)).alloc (.cells #[.slice (some ⟨w2.heap.size, 0, none⟩) 4096 4096] 57)).drew.heap[w2.heap.size]? = some (.cells pc 5 (0, 0)) := (hp_old _ _ _ (by simp)).trans (hp_new _ _ _ rfl)
                  exact ⟨_, w2.heap.size, HPB.out.1, Nat.le_refl _, HPB.out.2 _ _ _ hn1, hk1.trans HPB.out.2⟩
              case rest =>
                obtain ⟨vB', blk, hr5, hbl5, hn5, hk5⟩ := hcut.out
                clear hcut co0 co1 co2 fo0 fo1 fo2 hlt2 hwz2 HW2
                obtain ⟨co0, co1, co2, fo0, fo1, fo2⟩ := hr5.cells
                have HR5 := Lib.hid hr5
                have HN5 := Lib.hid hn5
                have HK5 := Lib.hid hk5
                have HBL5 := Lib.hid hbl5
                have hwz5 := hr5.below.size
                have HW5 : Hid (∀ o, Below wc.heap.size wc (wc.alloc o)) := fun o => (Below.refl _ wc).alloc (Nat.le_refl _) o
                clear hr5 hn5 hk5 hbl5
                go_wp2_with (at_builtin; refine wpList_append_lies _ rfl (.tmp 103) (.tmp 105) 25 rfl w.heap.size 3 i3 (.int .i64 0) 1 8 Try.underlying25 hi3 hz3 hs3 hy3 rfl (by decide) vP (prVals LJ).length (prVals LJ) rfl (HR5.out.p.alloc _) ⟨wc.heap.size, 0, none⟩ 1 1 [.int .i64 prot] rfl rfl (World.news_of_block (heap_alloc_new wc _)) (by simp [Value.oneCell']) (by omega) (by unfold maxLen; omega) (by omega) (by simp; omega) _ rfl ?_; intro gP cP1 w6 hown6 hgrow6 _ _; have hm6 := HR5.out.mid_p (HW5.out _) hgrow6; obtain ⟨_, _, d2, _, _, df2⟩ := cells_of hm6; have HPP := Lib.hid (HR5.out.push_p (HW5.out _) hown6 hgrow6); clear hm6 hown6 hgrow6)
                go_roundw
                case rel =>
                  refine ⟨j + 1, by omega, by go_num, ?_⟩
                  have hfin := MkSt.new_all HLT.out HR.out G2.out G3.out G4.out G5.out hjk HFRESH.out HCL.out (HW1.out _) HPA.out.2 HSZ.out HK5.out HBL5.out HN5.out HPC.out (HW5.out _) HPP.out.2 HPP.out.1
                  rw [newPages_succ, ← List.append_assoc, ← HLJ.out]; exact hfin
                case measure => simp [intOf]; omega
            · obtain rfl : k = j := by omega
              obtain ⟨_, _, _, _, _, hrx, _⟩ := HSJ.out.own
              have HBX := Lib.hid hrx.below
              have cbx := cell_keep cb0 HBX.out
              clear hrx
              have HPO2 := Lib.hid ((HPO.out.put HOK.out (.inl rfl)).last)
              go_wp2_with fail
              go_roundw
              case rel => exact ⟨M.length + 1, true, _, by omega, by go_num, rfl, HPO2.out, HSJ.out⟩
              case measure => simp [intOf]
      | true =>
        by_cases hlt : i < M.length
        · obtain ⟨ga, rfl, _, hga⟩ := HP.out.ats.get (by omega)
          obtain ⟨gb, rfl, _, hgb⟩ := HP.out.bys.get (by omega)
          obtain ⟨gp, rfl, _, hgp⟩ := HP.out.prs.get (by omega)
          obtain ⟨p, hpi⟩ : ∃ p, M[i]? = some p := ⟨M[i], List.getElem?_eq_getElem hlt⟩
          have HPM := Lib.hid (List.mem_of_getElem? hpi)
          have HPI := Lib.hid hpi
          have hpb := (HOK.out.pages p HPM.out).1
          obtain ⟨at_, hat⟩ : ∃ at_, at_ = p.num * 4096 := ⟨_, rfl⟩
          obtain ⟨pp, hpp⟩ : ∃ pp, pp = p.prot := ⟨_, rfl⟩
          obtain ⟨ab, ac, hab⟩ : ∃ ab ac, bsVal A0 C0 p = .slice (some ⟨ab, 0, none⟩) 4096 ac := ⟨_, _, rfl⟩
          have sga : w.cell? ⟨ga, i, none⟩ = some (.int .u64 (at_ : Int)) := hga i _ (by unfold atVals; rw [List.getElem?_map, hpi, hat]; rfl)
          have sgb : w.cell? ⟨gb, i, none⟩ = some (.slice (some ⟨ab, 0, none⟩) 4096 ac) := hgb i _ (by unfold bsVals; rw [List.getElem?_map, hpi, ← hab]; rfl)
          have sgp : w.cell? ⟨gp, i, none⟩ = some (.int .i64 pp) := hgp i _ (by unfold prVals; rw [List.getElem?_map, hpi, hpp]; rfl)
          have sb0 : w.cell? ⟨b, 0, none⟩ = some (.slice (some ⟨ga, 0, none⟩) M.length cA) := by simp [World.cell?, HB.out, rfCells]
          have sb1 : w.cell? ⟨b, 1, none⟩ = some (.slice (some ⟨gb, 0, none⟩) M.length cB) := by simp [World.cell?, HB.out, rfCells]
          have sb2 : w.cell? ⟨b, 2, none⟩ = some (.slice (some ⟨gp, 0, none⟩) M.length cP) := by simp [World.cell?, HB.out, rfCells]
          have hcapB := HP.out.bys.cap
          have hcapP := HP.out.prs.cap
          have HAT := Lib.hid hat
          have HPP := Lib.hid hpp
          have HAB := Lib.hid hab
          have hatb : at_ < 140737488355328 := by omega
          have z0 : (0 : Int) ≤ (i : Int) := by omega
          have z1 : (i : Int) < (M.length : Int) := by omega
          have z2 : ((i : Int) == (M.length : Int)) = false := by rw [beq_eq_false_iff_ne]; omega
          clear hga hgb hgp hat hpp hab
          have HPNEXT := Lib.hid (HPO.out.old HPI.out (fun h => by cases h))
          clear hpi hpb cb0
          obtain ⟨A, C, vA, vB, vP, hr, g2, g3, g4, g5⟩ := HST.out.own
          obtain ⟨co0, co1, co2, fo0, fo1, fo2⟩ := hr.cells
          have HBELX := Lib.hid hr.below
          have hwz := hr.below.size
          have sb0x := cell_keep sb0 HBELX.out
          have sb1x := cell_keep sb1 HBELX.out
          have sb2x := cell_keep sb2 HBELX.out
          have sgax := cell_keep sga HBELX.out
          have sgbx := cell_keep sgb HBELX.out
          have sgpx := cell_keep sgp HBELX.out
          have hlj := HPO.out.lens
          obtain ⟨LJ, hLJ⟩ : ∃ LJ, LJ = L := ⟨_, rfl⟩
          rw [← hLJ] at hr g2 g4 g5 hlj
          have na : (atVals LJ).length ≤ 16384 := by rw [show (atVals LJ).length = LJ.length by simp [atVals]]; omega
          have nb : (bsVals A C LJ).length ≤ 16384 := by rw [show (bsVals A C LJ).length = LJ.length by simp [bsVals]]; omega
          have np : (prVals LJ).length ≤ 16384 := by rw [show (prVals LJ).length = LJ.length by simp [prVals]]; omega
          have HR := Lib.hid hr
          have HLJ := Lib.hid hLJ
          have G2 := Lib.hid g2
          have G3 := Lib.hid g3
          have G4 := Lib.hid g4
          have G5 := Lib.hid g5
          have hblx : b < wr.heap.size := by omega
          have hlx : w.heap.size < wr.heap.size := block_lt_of_cell co0
          have hlga := block_lt_of_cell sgax
          have hlgb := block_lt_of_cell sgbx
          have hlgp := block_lt_of_cell sgpx
          have HW0 : Hid (∀ o, Below wr.heap.size wr (wr.alloc o).drew) := fun o => ((Below.refl _ wr).alloc (Nat.le_refl _) o).drew
          clear hr hLJ g2 g3 g4 g5 hlj
          go_wp2_with fail
          go_upto_region 23 with fail
          go_cut [] (fun wx => Hid (∃ v' : Value, MkR w wx w.heap.size v' vB vP ((atVals LJ) ++ [.int .u64 (at_ : Int)]) (bsVals A C LJ) (prVals LJ) ∧ Keep5 wr wx))
          case first =>
            go_region_law (refine step_append_lies _ rfl (.tmp 116) (.tmp 124) 52 rfl w.heap.size 32 i32 (.int .u64 0) 1 8 Try.underlying52 hi32 hz32 hs32 hy32 rfl (by decide) vA (atVals LJ).length (atVals LJ) rfl (owns_same HR.out.a fun g hg => (HW0.out _).block g (HR.out.a.lt g hg).2) ⟨wr.heap.size, 0, none⟩ 1 1 [.int .u64 (at_ : Int)] rfl rfl (World.news_of_block (hp_new wr _ _ rfl)) (by simp [Value.oneCell']) (by omega) (by unfold maxLen; omega) (by omega) (by simp; omega) _ rfl ?_; intro gN cN wn hown hgrow _ _; have hm := HR.out.mid_a (HW0.out _) hgrow; obtain ⟨d0, d1, d2, df0, df1, df2⟩ := cells_of hm; have HPN := Lib.hid (HR.out.push_a (HW0.out _) hown hgrow); clear hm hown hgrow)
            all_goals
              go_wp2_with fail
              go_meet
              exact ⟨_, HPN.out.1, (Keep5.of_below (HW0.out _)).trans HPN.out.2⟩
          case rest =>
            obtain ⟨v0, hr0, hk0⟩ := hcut.out
            clear hcut co0 co1 co2 fo0 fo1 fo2 hblx hlx hlga hlgb hlgp hwz sb0x sb1x sb2x sgax sgbx sgpx
            obtain ⟨co0, co1, co2, fo0, fo1, fo2⟩ := hr0.cells
            have HR0 := Lib.hid hr0
            have HK0 := Lib.hid hk0
            have HBW0 := Lib.hid hr0.below
            have hwz := hr0.below.size
            have sb0x := cell_keep sb0 HBW0.out
            have sb1x := cell_keep sb1 HBW0.out
            have sb2x := cell_keep sb2 HBW0.out
            have sgax := cell_keep sga HBW0.out
            have sgbx := cell_keep sgb HBW0.out
            have sgpx := cell_keep sgp HBW0.out
            have hblx : b < wc.heap.size := by omega
            have hlx : w.heap.size < wc.heap.size := block_lt_of_cell co0
            have hlga := block_lt_of_cell sgax
            have hlgb := block_lt_of_cell sgbx
            have hlgp := block_lt_of_cell sgpx
            have HW1 : Hid (∀ o, Below wc.heap.size wc (wc.alloc o).drew) := fun o => ((Below.refl _ wc).alloc (Nat.le_refl _) o).drew
            clear hr0 hk0
            go_upto_region 24 with fail
            go_cut [] (fun wx => Hid (∃ v' : Value, MkR w wx w.heap.size v0 v' vP ((atVals LJ) ++ [.int .u64 (at_ : Int)]) ((bsVals A C LJ) ++ [.slice (some ⟨ab, 0, none⟩) 4096 ac]) (prVals LJ) ∧ Keep5 wc wx))
            case first =>
              go_region_law (refine step_append_lies _ rfl (.tmp 128) (.tmp 136) 53 rfl w.heap.size 57 i57 (.slice none 0 0) 1 24 Try.underlying53 hi57 hz57 hs57 hy57 rfl (by decide) vB (bsVals A C LJ).length (bsVals A C LJ) rfl (owns_same HR0.out.b fun g hg => (HW1.out _).block g (HR0.out.b.lt g hg).2) ⟨wc.heap.size, 0, none⟩ 1 1 [.slice (some ⟨ab, 0, none⟩) 4096 ac] rfl rfl (World.news_of_block (hp_new wc _ _ rfl)) (by simp [Value.oneCell']) (by omega) (by unfold maxLen; omega) (by omega) (by simp; omega) _ rfl ?_; intro gN cN wn hown hgrow _ _; have hm := HR0.out.mid_b (HW1.out _) hgrow; obtain ⟨d0, d1, d2, df0, df1, df2⟩ := cells_of hm; have HPN := Lib.hid (HR0.out.push_b (HW1.out _) hown hgrow); clear hm hown hgrow)
              all_goals
                go_wp2_with fail
                go_meet
                exact ⟨_, HPN.out.1, (Keep5.of_below (HW1.out _)).trans HPN.out.2⟩
            case rest =>
              obtain ⟨v1, hr1, hk1⟩ := hcut.out
              clear hcut co0 co1 co2 fo0 fo1 fo2 hblx hlx hlga hlgb hlgp hwz sb0x sb1x sb2x sgax sgbx sgpx
              obtain ⟨co0, co1, co2, fo0, fo1, fo2⟩ := hr1.cells
              have HR1 := Lib.hid hr1
              have HK1 := Lib.hid hk1
              have HBW1 := Lib.hid hr1.below
              have hwz := hr1.below.size
              have sb0x := cell_keep sb0 HBW1.out
              have sb1x := cell_keep sb1 HBW1.out
              have sb2x := cell_keep sb2 HBW1.out
              have sgax := cell_keep sga HBW1.out
              have sgbx := cell_keep sgb HBW1.out
              have sgpx := cell_keep sgp HBW1.out
              have hblx : b < wc.heap.size := by omega
              have hlx : w.heap.size < wc.heap.size := block_lt_of_cell co0
              have hlga := block_lt_of_cell sgax
              have hlgb := block_lt_of_cell sgbx
              have hlgp := block_lt_of_cell sgpx
              have HW2 : Hid (∀ o, Below wc.heap.size wc (wc.alloc o).drew) := fun o => ((Below.refl _ wc).alloc (Nat.le_refl _) o).drew
              clear hr1 hk1
              go_wp2_with fail
              go_region_law (refine step_append_lies _ rfl (.tmp 140) (.tmp 148) 25 rfl w.heap.size 3 i3 (.int .i64 0) 1 8 Try.underlying25 hi3 hz3 hs3 hy3 rfl (by decide) vP (prVals LJ).length (prVals LJ) rfl (owns_same HR1.out.p fun g hg => (HW2.out _).block g (HR1.out.p.lt g hg).2) ⟨wc.heap.size, 0, none⟩ 1 1 [.int .i64 pp] rfl rfl (World.news_of_block (hp_new wc _ _ rfl)) (by simp [Value.oneCell']) (by omega) (by unfold maxLen; omega) (by omega) (by simp; omega) _ rfl ?_; intro gN cN wn hown hgrow _ _; have hm := HR1.out.mid_p (HW2.out _) hgrow; obtain ⟨d0, d1, d2, df0, df1, df2⟩ := cells_of hm; have HPN := Lib.hid (HR1.out.push_p (HW2.out _) hown hgrow); clear hm hown hgrow)
              all_goals
                go_wp2_with fail
                go_roundw
                case rel =>
                  have hfin := MkSt.old_all (f := f) (k := k) HP.out HR.out G2.out G3.out G4.out G5.out HPM.out (Below.refl _ _) HK0.out (Below.refl _ _) HK1.out (HW2.out _) HPN.out.2 (by rw [← HAT.out, ← HPP.out, HAB.out]; exact HPN.out.1)
                  exact ⟨i + 1, true, LJ ++ [p], by omega, by go_num, rfl, by rw [HLJ.out]; exact HPNEXT.out, hfin⟩
                case measure => simp [intOf]; omega
        · obtain rfl : i = M.length := by omega
          have HPO2 := Lib.hid HPO.out.last
          go_wp2_with fail
          go_roundw
          case rel => exact ⟨M.length + 1, true, _, by omega, by go_num, rfl, HPO2.out, HST.out⟩
          case measure => simp [intOf]
    · obtain rfl : i = M.length + 1 := by omega
      have hL := HPO.out.done
      subst hL
      obtain ⟨A, C, vA, vB, vP, hr, g2, g3, g4, g5⟩ := HST.out.own
      have HR := Lib.hid hr
      have HBW : Hid (wr.heap[b]? = some (.cells #[.slice aA M.length cA, .slice aB M.length cB, .slice aP M.length cP] 55 (0, 0))) := (HBEL.out.block b hbl).trans HB.out
      have HCS : Hid (CellsAt wr w.heap.size 0 #[vA, vB, vP]) := fun j v hv => by
        have := hr.o
        simp only [World.cell?, this, Nat.zero_add]; exact hv
      have hFIN := fun (w3 : World) (h1 : w3.heap[b]? = some (.cells #[vA, vB, vP] 55 (0, 0))) (h2 : wr.grownBy w3 (some b)) (h3 : w3.heap.size = wr.heap.size) => MkSt.done (_M := M) (_f := f) (_k := k) (_A0 := A0) (_C0 := C0) HFL.out hFb HOKM.out hr g2 g5 HBW.out h1 h2 h3
      have HFIN := Lib.hid hFIN
      have hone : (#[vA, vB, vP] : Array Value).all (·.oneCell') = true := by
        obtain ⟨_, _, e1⟩ := ownsRow_shape hr.a
        obtain ⟨_, _, e2⟩ := ownsRow_shape hr.b
        obtain ⟨_, _, e3⟩ := ownsRow_shape hr.p
        rw [e1, e2, e3]; simp [Value.oneCell']
      have HONE := Lib.hid hone
      clear hr g2 g3 g4 g5 hFIN hone
      go_wp2_with (first
        | (refine wpList_load_agg 55 (.tmp 9) rfl rfl w.heap.size 0 rfl #[vA, vB, vP] _ HCS.out Try.underlying55 rfl size55 ?_)
        | (refine wpList_store_whole rfl 55 (.tmp 153) (.tmp 152) rfl b #[vA, vB, vP] rfl rfl 55 _ HBW.out size55 rfl HONE.out ?_; intro w3 k1 k2 k3; have HF3 := Lib.hid (HFIN.out w3 k1 k2 k3); clear k1 k2 k3))
      go_ret
      exact HRES.out _ HF3.out.1 HF3.out.2
end Go.Proofs.Ytepnaalgobhcdaa
