/- The reference's Map: the walk. -/
import Derived.Test.YtepnaalgobhcdaaBnE
import Derived.Deep.RegionLaw
namespace Go.Proofs.Ytepnaalgobhcdaa
open Go.RowKit Go.Shelf Spm
attribute [local go_sem] Oper.semAt_some

theorem info100 : (Try.prog.info? 100).map (fun i => (i.zero, i.size, i.bytes)) = some (some (.agg #[.int .u64 0, .int .u64 0, .int .i64 0]), 3, 24) := by kernel_rfl
def RowsRes (w : World) (s : TSt) (e : Ending) (w' : World) : Prop :=
  ∃ v, e = .returned (.tuple #[v, .int .i64 (s.at_ : Int), .int .i64 s.err]) ∧ Below w.heap.size w w' ∧ RowsIn w' w.heap.size v s.tab
structure MrSt (w : World) (T : Tab) (v : Value) (W : World) : Prop where
  below : Below w.heap.size w W
  row : RowsIn W w.heap.size v T
theorem MrSt.keep {w W W' : World} {T : Tab} {v : Value} (h : MrSt w T v W) (hb : Below W.heap.size W W') : MrSt w T v W' := ⟨h.below.trans (below_le hb h.below.size), h.row.keep hb⟩
theorem MrSt.push {w W wt w1 : World} {T : Tab} {v v' : Value} {p : Nat × Nat × Nat} (h : MrSt w T v W) (hwt : Below W.heap.size W wt)
    (hown : w1.ownsRow w.heap.size 100 3 v' (T.length + 1) (flat3 T ++ [.int .u64 (p.1 : Int), .int .u64 (p.2.1 : Int), .int .i64 (p.2.2 : Int)])) (hg : wt.grownBy w1 v.ownBlock) : MrSt w (T ++ [p]) v' w1 := by
  refine ⟨?_, ?_⟩
  · have h1 := h.below.trans (below_le hwt h.below.size)
    exact ⟨hg.os.trans h1.os, hg.tape.trans h1.tape, hg.output.trans h1.output, Nat.le_trans h1.size hg.size, fun i hi => by
      rw [hg.block i (Nat.lt_of_lt_of_le hi h1.size) (fun e => by have := (h.row.lt i e.symm).1; omega)]
      exact h1.block i hi⟩
  · unfold RowsIn
    rw [List.length_append, List.length_singleton, flat3_snoc]; exact hown
/-- A row of pairs beside a row of rows that grows. -/
theorem row88_grown {W wt w1 : World} {B B' n m : Nat} {v u : Value} {xs ys : List Value} (h : W.ownsRow B 88 2 v n xs) (hr : W.ownsRow B' 100 3 u m ys) (hwt : Below W.heap.size W wt) (hg : wt.grownBy w1 u.ownBlock) : w1.ownsRow B 88 2 v n xs :=
  owns2_same h fun g hgg => by
    have hl := (h.lt g hgg).2
    rw [hg.block g (Nat.lt_of_lt_of_le hl hwt.size) (fun e => ?_), hwt.block g hl]
    rcases h.2 with ⟨rfl, _⟩ | ⟨g', cap, c, rfl, _, hg', _⟩
    · simp [Value.ownBlock] at hgg
    · obtain rfl : g' = g := by simpa [Value.ownBlock] using hgg
      exact row2_other hr (t := 88) (by decide) hg' e

set_option maxHeartbeats 4000000 in
set_option maxRecDepth 100000 in
theorem rtmap_any (w : World) (b : Nat) (M : List Pg) (G : Nat → Prop) (h : RfIn w b M G) (aI : Option Addr) (cI : Nat) (l : List Im) (hI : ImsP w aI l) (hl : l.length < 50) :
    Calls Try.prog 49 #[.pointer (some ⟨b, 0, none⟩), .slice aI l.length cI] w (RowsRes w (tMap M l)) := by
  have HRF := Lib.hid h
  have HI := Lib.hid hI
  clear h hI
  obtain ⟨i100, hi100, hz100, hs100, hy100⟩ := info_parts info100
  go_enter Try.func49, Try.ntmps49
  go_wp2_with fail
  go_loopw [7, 8] (fun t7 t wr => ∃ (j : Nat) (ad : Option Addr) (cp : Nat), j ≤ l.length ∧ t = .int .i64 j ∧ t7 = .slice ad (tRun M l j).tab.length cp ∧ Hid ((tRun M l j).err = 0) ∧ Hid (MrSt w (tRun M l j).tab (.slice ad (tRun M l j).tab.length cp) wr)) (fun _ t _ => l.length - (intOf t).toNat)
  case atStart => exact ⟨0, none, 0, Nat.zero_le _, rfl, rfl, rfl, Below.refl _ w, RowsIn.nil _ _⟩
  case round =>
    obtain ⟨j, ad, cp, hj, rfl, rfl, HE, HM⟩ := hrel
    by_cases hlt : j < l.length
    · obtain ⟨bI, oI, rfl, hp⟩ := HI.out.at_ hlt
      obtain ⟨cs, hcs, him⟩ := hp
      have hbl : bI < w.heap.size := hcs.lt (by rw [him.1]; omega)
      have HST : Hid (tRun M l (j + 1) = tStep M j (l.getD j (0, [])) (tRun M l j)) := rfl
      have hlen := tRun_len (M := M) (l := l) j
      generalize l.getD j (0, []) = im at *
      have HS38 : Hid (cs.size = 27) := him.1
      have HCW : Hid (CellsAt wr bI (oI + j * 27) cs) := hcs.below HM.out.below (fun _ => hbl)
      have hwz := HM.out.below.size
      have HRP := Lib.hid (rpairs_any wr b M G (HRF.out.keepB HM.out.below) cs im (him.keep HM.out.below))
      clear hcs him
      obtain ⟨T, hT⟩ : ∃ T, T = (tRun M l j).tab := ⟨_, rfl⟩
      rw [← hT] at hlen HM ⊢
      have HTT := Lib.hid hT
      clear hT
      by_cases he : (pOf M im).err = 0
      · have HST2 : Hid (tRun M l (j + 1) = ⟨tadd T j (pOf M im).out, 0, 0⟩) := by
          show _ = _
          rw [HST.out]; unfold tStep; rw [if_neg (by rw [HE.out]; simp), if_neg (by rw [he]; simp), HTT.out]
        have hbound := pFold_bound M im.1 im.2
        change (pOf M im).out.length ≤ (pOf M im).many ∧ (pOf M im).many ≤ 20000 at hbound
        rw [he] at HRP
        obtain ⟨out, hout⟩ : ∃ out, out = (pOf M im).out := ⟨_, rfl⟩
        rw [← hout] at HST2 hbound HRP
        have hol : out.length ≤ 20000 := by omega
        have hTl : T.length < 980001 := by omega
        clear hbound hout he HST HTT
        go_wp2_with (first
          | (refine wpList_load_agg 38 _ rfl rfl bI (oI + j * 27) rfl cs _ HCW.out Try.underlying38 rfl (by rw [HS38.out]; kernel_rfl) ?_)
          | (go_at_call 47; refine HRP.out.mono ?_; rintro e w2 ⟨v, rfl, hb2, _, hr2⟩; obtain ⟨va, vc, rfl⟩ := ownsRow_shape (hr2 rfl); have B2 := Lib.hid hb2; have R2 := Lib.hid (hr2 rfl); clear hb2 hr2))
        have HM2 := Lib.hid (HM.out.keep B2.out)
        have hs2 := B2.out.size
        clear HM B2 HCW HRP
        obtain ⟨wb, rfl⟩ : ∃ wb : World, wb = wr := ⟨_, rfl⟩
        go_loopw [7, 11] (fun t7 t wr => ∃ (k : Nat) (ad : Option Addr) (cp : Nat), k ≤ out.length ∧ t = .int .i64 k ∧ t7 = .slice ad (tadd T j (out.take k)).length cp ∧ Hid (MrSt w (tadd T j (out.take k)) (.slice ad (tadd T j (out.take k)).length cp) wr) ∧ Hid (wr.ownsRow wb.heap.size 88 2 (.slice va out.length vc) out.length (flat out))) (fun _ t _ => out.length - (intOf t).toNat)
        case atStart => exact ⟨0, ad, cp, Nat.zero_le _, rfl, rfl, HM2.out, R2.out⟩
        case round =>
          obtain ⟨k, ad1, cp1, hk, rfl, rfl, HMK, HRK⟩ := hrel
          by_cases hkt : k < out.length
          · obtain ⟨g, cap, hg, hgc, hgm, hcp⟩ := row_pair HRK.out hkt
            have hstep := tadd_take T j out hkt
            have hnl := tadd_len T j (out.take k)
            rw [List.length_take] at hnl
            cases hg
            obtain ⟨pp, hpp⟩ : ∃ pp, pp = out.getD k (0, 0) := ⟨_, rfl⟩
            rw [← hpp] at hstep hcp
            obtain ⟨p1, p2⟩ := pp
            simp only at hcp
            have c0 : wr.cell? ⟨g, k * 2, none⟩ = some (.int .u64 (p1 : Int)) := hcp 0 _ rfl
            have c1 : wr.cell? ⟨g, k * 2 + 1, none⟩ = some (.int .u64 (p2 : Int)) := hcp 1 _ rfl
            have HSTEP := Lib.hid hstep
            obtain ⟨TK, hTK⟩ : ∃ TK, TK = tadd T j (out.take k) := ⟨_, rfl⟩
            rw [← hTK] at HMK HSTEP hnl ⊢
            have hnc : TK.length < 1000001 := by omega
            have HF := Lib.hid (rfind_any wr w.heap.size _ TK HMK.out.row (by omega) p2)
            unfold maxLen at hgm
            clear hpp hcp hstep hnl hTK
            go_wp2_with fail
            refine HF.out.mono ?_
            rintro e _ ⟨rfl, h1⟩
            rcases h1 with ⟨h1, rfl⟩ | ⟨n, _, h1, rfl⟩
            · have HNEW : Hid (tput TK j (p1, p2) = TK ++ [(p2, p1, j)]) := by
                show tput TK j (p1, p2) = _
                unfold tput
                simp only
                rw [h1]; rfl
              have hbz := HMK.out.below.size
              have HWT : Hid (∀ o, Below wr.heap.size wr (wr.alloc o).drew) := fun o => ((Below.refl _ wr).alloc (Nat.le_refl _) o).drew
              have HM1 : Hid (TK.length + 1 ≤ maxLen) := by show TK.length + 1 ≤ maxLen; unfold maxLen; omega
              have HM2 : Hid ((TK.length + 1) * 24 ≤ 140737488355328) := by show (TK.length + 1) * 24 ≤ _; omega
              have HM3 : Hid (w.heap.size ≤ wr.heap.size + 1) := by show w.heap.size ≤ _; omega
              clear h1 HF
              go_wp2_with fail
              go_region_law (refine step_append_lies _ rfl (.tmp 47) (.tmp 60) 93 rfl w.heap.size 100 i100 (.agg #[.int .u64 0, .int .u64 0, .int .i64 0]) 3 24 Try.underlying93 hi100 hz100 hs100 hy100 rfl (by decide) (.slice ad1 TK.length cp1) TK.length (flat3 TK) rfl (owns2_same HMK.out.row fun g hg => (HWT.out _).block g (HMK.out.row.lt g hg).2) ⟨wr.heap.size, 0, none⟩ 1 1 [.int .u64 (p2 : Int), .int .u64 (p1 : Int), .int .i64 (j : Int)] rfl rfl (World.news_of_block (hp_new wr _ _ rfl)) (by simp [Value.oneCell']) (by decide) HM1.out HM2.out (by simp; exact HM3.out) _ rfl ?_; intro gN cN w2' hown' hgrow _ _; have HS2 := Lib.hid (HMK.out.push (p := (p2, p1, j)) (HWT.out _) hown' hgrow); have HR2 := Lib.hid (row88_grown HRK.out HMK.out.row (HWT.out _) hgrow); clear hown' hgrow)
              all_goals
                go_wp2_with fail
                go_roundw
                case rel => exact ⟨k + 1, _, _, by omega, by go_num, by rw [HSTEP.out, HNEW.out, List.length_append]; rfl, by show MrSt _ _ _ _; rw [HSTEP.out, HNEW.out, List.length_append]; exact HS2.out, HR2.out⟩
                case measure => simp [intOf]; omega
            · have hn0 : ¬ (n : Int) < 0 := by omega
              have HSTEP2 : Hid (tadd T j (out.take (k + 1)) = TK) := by
                show _ = _
                rw [HSTEP.out]; unfold tput; rw [if_pos (by rw [h1]; rfl)]
              clear h1 HF
              go_wp2_with fail
              go_roundw
              case rel => exact ⟨k + 1, ad1, cp1, by omega, by go_num, by rw [HSTEP2.out], by show MrSt _ _ _ _; rw [HSTEP2.out]; exact HMK.out, HRK.out⟩
              case measure => simp [intOf]; omega
          · obtain rfl : k = out.length := by omega
            rw [List.take_length] at HMK ⊢
            go_wp2_with fail
            go_roundw
            case rel => exact ⟨j + 1, ad1, cp1, by omega, by go_num, by rw [HST2.out], by show _ = _; rw [HST2.out], by show MrSt _ _ _ _; rw [HST2.out]; exact HMK.out⟩
            case measure => simp [intOf]; omega
      · have HST2 : Hid (tRun M l (j + 1) = ⟨[], j, (pOf M im).err⟩) := by
          show _ = _
          rw [HST.out]; unfold tStep; rw [if_neg (by rw [HE.out]; simp), if_pos he]
        obtain ⟨er, her⟩ : ∃ er, er = (pOf M im).err := ⟨_, rfl⟩
        rw [← her] at HST2 he HRP
        have HER := Lib.hid he
        have b1 : ((er : Int) != 0) = true := by rw [bne_iff_ne]; exact he
        clear he her HST HTT
        go_wp2_with (first
          | (refine wpList_load_agg 38 _ rfl rfl bI (oI + j * 27) rfl cs _ HCW.out Try.underlying38 rfl (by rw [HS38.out]; kernel_rfl) ?_)
          | (go_at_call 47; refine HRP.out.mono ?_; rintro e w2 ⟨v, rfl, hb2, hv2, _⟩; obtain rfl := hv2 HER.out; have B2 := Lib.hid hb2; clear hb2 hv2))
        go_ret3
        have hst : tMap M l = ⟨[], j, er⟩ := by
          unfold tMap
          rw [tRun_stuck (j := j + 1) (by rw [HST2.out]; exact HER.out) (by omega), HST2.out]
        rw [hst]
        exact ⟨_, rfl, (HM.out.keep B2.out).below, RowsIn.nil _ _⟩
    · obtain rfl : j = l.length := by omega
      have HE2 : Hid ((tMap M l).err = 0) := HE.out
      have HM2 : Hid (MrSt w (tMap M l).tab (.slice ad (tMap M l).tab.length cp) wr) := HM.out
      clear HE HM
      go_wp2_with fail
      go_ret3
      exact ⟨_, by rw [HE2.out, show (tMap M l).at_ = 0 from tRun_at HE2.out]; rfl, HM2.out.below, HM2.out.row⟩
end Go.Proofs.Ytepnaalgobhcdaa
