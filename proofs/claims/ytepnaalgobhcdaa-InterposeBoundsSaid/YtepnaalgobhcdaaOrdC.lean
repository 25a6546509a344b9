/- The closure of order.Run goes on from an image just as 'visit' does. -/
import Derived.Test.YtepnaalgobhcdaaOrdB
import Derived.Maps.AppendAt
namespace Go.Proofs.Ytepnaalgobhcdaa
open Go.RowKit Clv

set_option maxHeartbeats 400000 in
set_option maxRecDepth 100000 in
theorem on_any (w0 : World) (la : Option Addr) (lc : Nat) (l : List ImgM) (hI : Imgs w0 la lc l) (hn : l.length ≤ 1000) (f : Nat) :
    ∀ (i : Nat) (s : St) (wr : World), i < l.length → OrdSt w0 la lc l.length s wr → ¬ isB s i → left s ≤ f → s.out.length + left s ≤ l.length →
      Calls Try.prog 61 #[.int .i64 i, .pointer (some ⟨w0.heap.size + 3, 0, none⟩), .pointer (some ⟨w0.heap.size, 0, none⟩), .pointer (some ⟨w0.heap.size + 4, 0, none⟩), .pointer (some ⟨w0.heap.size + 1, 0, none⟩)] wr
        fun e w' => e = .returned (.tuple #[]) ∧ OrdSt w0 la lc l.length (visit (gOf l) f i s) w' := by
  induction f with
  | zero =>
    intro i s wr hi hs hb hl _
    have := left_mark (s := s) (i := i) (by rw [hs.len]; exact hi) hb
    omega
  | succ f ih =>
    intro i s wr hi hs hb hl hroom
    obtain ⟨b, o, hla, cs, hcs, hx⟩ := hI.2.2 i hi
    obtain ⟨da, dc, hd26, hdl, hdm, hdeps⟩ := hx.deps
    subst hla
    unfold maxLen at hdm
    have hbl : b < w0.heap.size := hcs.lt (by rw [hx.size]; omega)
    have hs1 := hs.mark i
    have hm := left_mark (s := s) (i := i) (by rw [hs.len]; exact hi) hb
    generalize hx0 : l.getD i ⟨0, [], [], []⟩ = x at *
    have e0 : edgesTo l.length x x.deps.length = gOf l i := by unfold gOf img0; rw [hx0]
    have hv := visit_succ (gOf l) f i s
    rw [← e0] at hv
    have HV := Lib.hid hv
    have HI := Lib.hid hI
    have IH := Lib.hid ih
    clear hv e0 hx0 hI ih
    generalize hw1 : wr.setCell ⟨w0.heap.size + 2, i, none⟩ (.bool true) = wr1 at *
    have c0 : wr1.cell? ⟨w0.heap.size, 0, none⟩ = some (.slice (some ⟨b, o, none⟩) l.length lc) := cell_of_one hs1.l
    have c26 : wr1.cell? ⟨b, o + i * 27 + 26, none⟩ = some (.slice da x.deps.length dc) := (hs1.below.cell (p := ⟨b, _, none⟩) hbl).trans (hcs 26 _ hd26)
    have b0 : wr.cell? ⟨w0.heap.size + 3, 0, none⟩ = some (.slice (some ⟨w0.heap.size + 2, 0, none⟩) l.length l.length) := cell_of_one hs.begunv
    have b1 : wr.cell? ⟨w0.heap.size + 2, i, none⟩ = some (.bool (s.begun.getD i false)) := by simp only [World.cell?, hs.begun]; rw [bools_get (by rw [hs.len]; exact hi)]; rfl
    have b2 : wr.frozen? ⟨w0.heap.size + 2, i, none⟩ = false := frozen_of_row _ _ _ _ _ hs.begun
    have HS := Lib.hid hs
    have HS1 := Lib.hid hs1
    have HX := Lib.hid hx
    have HD := Lib.hid hdeps
    have HC := Lib.hid hcs
    have HB := Lib.hid hb
    have HM := Lib.hid hm
    clear hs hs1 hx hdeps hcs hb hd26 hm
    go_enter Try.func61, Try.ntmps61
    go_wp2_with fail
    go_loopw [17] (fun t wr => ∃ k : Nat, k ≤ x.deps.length ∧ t = .int .i64 k ∧ Hid (OrdSt w0 (some ⟨b, o, none⟩) lc l.length ((edgesTo l.length x k).foldl (stepV (gOf l) f) ⟨s.begun.set i true, s.out⟩) wr))
      (fun t _ => x.deps.length - (intOf t).toNat)
    case atStart => exact ⟨0, Nat.zero_le _, rfl, HS1.out⟩
    case round =>
      obtain ⟨k, hk, rfl, HR⟩ := hrel
      have hr := HR.out
      have hroomk := fold_room (gOf l) l.length (gOf_lt l) f (edgesTo l.length x k) edgesTo_lt ⟨s.begun.set i true, s.out⟩ (by have := HS.out.len; simpa using this) (by have := HM.out; omega)
      generalize hsk : (edgesTo l.length x k).foldl (stepV (gOf l) f) ⟨s.begun.set i true, s.out⟩ = sk at *
      have HSK := Lib.hid hsk
      have HRK := Lib.hid hroomk
      clear hsk hroomk
      by_cases hlt : k < x.deps.length
      · obtain ⟨db, dof, hda, hdc, hd1, hd2⟩ := HD.out k hlt
        rw [hda]
        rw [Nat.mul_one] at hdc
        have hdb : db < w0.heap.size := block_lt_of_cell hdc
        have c_d := (hr.below.cell (p := ⟨db, dof + k, none⟩) hdb).trans hdc
        have c_l : wr.cell? ⟨w0.heap.size, 0, none⟩ = some (.slice (some ⟨b, o, none⟩) l.length lc) := cell_of_one hr.l
        have hcw : CellsAt wr b (o + i * 27) cs := HC.out.below hr.below (fun _ => hbl)
        have HXW := Lib.hid (HX.out.keep hr.below)
        have HCW := Lib.hid hcw
        have HS38 := Lib.hid HX.out.size
        generalize hdk : x.deps.getD k 0 = d at *
        have HDK := Lib.hid hdk
        clear hdk hcw hr hda hdc
        cases hu : upB x k with
        | true =>
          have HU : Hid (Calls Try.prog 62 #[.agg cs, .int .i64 k] wr fun e w' => e = .returned (.bool true) ∧ Below wr.heap.size wr w') := by
            have := upward_any x cs wr HXW.out k
            rw [hu] at this; exact this
          have HOK := Lib.hid (okDep_up (n := l.length) hu)
          clear hu
          go_wp2_with (first
            | (refine wpList_load_agg 38 _ rfl rfl b (o + i * 27) rfl cs _ HCW.out Try.underlying38 rfl (by rw [HS38.out]; kernel_rfl) ?_)
            | (go_at_call 62; refine HU.out.mono ?_; rintro e w1 ⟨rfl, hb1⟩))
          go_roundw
          case rel => exact ⟨k + 1, by omega, by go_num, by rw [fold_no HOK.out HSK.out]; exact HR.out.keep hb1⟩
          case measure => simp [intOf]; omega
        | false =>
          have HU : Hid (Calls Try.prog 62 #[.agg cs, .int .i64 k] wr fun e w' => e = .returned (.bool false) ∧ Below wr.heap.size wr w') := by
            have := upward_any x cs wr HXW.out k
            rw [hu] at this; exact this
          have HUP := Lib.hid hu
          clear hu
          by_cases hneg : d < 0
          · have HOK := Lib.hid (okDep_neg (n := l.length) HDK.out hneg)
            go_wp2_with (first
              | (refine wpList_load_agg 38 _ rfl rfl b (o + i * 27) rfl cs _ HCW.out Try.underlying38 rfl (by rw [HS38.out]; kernel_rfl) ?_)
              | (go_at_call 62; refine HU.out.mono ?_; rintro e w1 ⟨rfl, hb1⟩))
            go_roundw
            case rel => exact ⟨k + 1, by omega, by go_num, by rw [fold_no HOK.out HSK.out]; exact HR.out.keep hb1⟩
            case measure => simp [intOf]; omega
          · by_cases hbig : (l.length : Int) ≤ d
            · have HOK := Lib.hid (okDep_big (n := l.length) HDK.out hbig)
              go_wp2_with (first
                | (refine wpList_load_agg 38 _ rfl rfl b (o + i * 27) rfl cs _ HCW.out Try.underlying38 rfl (by rw [HS38.out]; kernel_rfl) ?_)
                | (go_at_call 62; refine HU.out.mono ?_; rintro e w1 ⟨rfl, hb1⟩; have hr1 := Lib.hid (HR.out.keep hb1); have d0 := cell_of_one hr1.out.l))
              go_roundw
              case rel => exact ⟨k + 1, by omega, by go_num, by rw [fold_no HOK.out HSK.out]; exact HR.out.keep hb1⟩
              case measure => simp [intOf]; omega
            · obtain ⟨dn, rfl⟩ := Int.eq_ofNat_of_zero_le (show 0 ≤ d by omega)
              have hdn : dn < l.length := by omega
              have HOK := Lib.hid (okDep_of (n := l.length) HUP.out HDK.out hdn)
              cases hbg : sk.begun.getD dn false with
              | true =>
                have HBG := Lib.hid hbg
                clear hbg
                go_wp2_with (first
                  | (refine wpList_load_agg 38 _ rfl rfl b (o + i * 27) rfl cs _ HCW.out Try.underlying38 rfl (by rw [HS38.out]; kernel_rfl) ?_)
                  | (go_at_call 62; refine HU.out.mono ?_; rintro e w1 ⟨rfl, hb1⟩; have hr1 := Lib.hid (HR.out.keep hb1); have d0 := cell_of_one hr1.out.l; have d1 := cell_of_one hr1.out.begunv; have d2 := begun_cell hr1.out hdn HBG.out))
                go_roundw
                case rel => exact ⟨k + 1, by omega, by go_num, by rw [fold_yes HOK.out HDK.out HSK.out, stepV_yes HBG.out]; exact HR.out.keep hb1⟩
                case measure => simp [intOf]; omega
              | false =>
                have HBG := Lib.hid hbg
                have HNB : Hid (¬ isB sk dn) := by show ¬ isB sk dn; unfold isB; rw [hbg]; simp
                clear hbg
                have HL1 : Hid (left sk ≤ f ∧ sk.out.length + left sk ≤ l.length) := by
                  have := HRK.out.2.1; have := HRK.out.2.2; have := HM.out; have e : (⟨s.begun.set i true, s.out⟩ : St).out.length = s.out.length := rfl
                  exact ⟨by omega, by omega⟩
                go_wp2_with (first
                  | (refine wpList_load_agg 38 _ rfl rfl b (o + i * 27) rfl cs _ HCW.out Try.underlying38 rfl (by rw [HS38.out]; kernel_rfl) ?_)
                  | (go_at_call 62; refine HU.out.mono ?_; rintro e w1 ⟨rfl, hb1⟩; have hr1 := Lib.hid (HR.out.keep hb1); have d0 := cell_of_one hr1.out.l; have d1 := cell_of_one hr1.out.begunv; have d2 := begun_cell hr1.out hdn HBG.out; have d3 := cell_of_one hr1.out.onv; unfold onFn at d3)
                  | (go_at_call 61; refine (IH.out dn sk _ hdn hr1.out HNB.out HL1.out.1 HL1.out.2).mono ?_; rintro e w2 ⟨rfl, hr2⟩; have HR2 := Lib.hid hr2; clear hr2))
                go_roundw
                case rel => exact ⟨k + 1, by omega, by go_num, by rw [fold_yes HOK.out HDK.out HSK.out, stepV_no HBG.out]; exact HR2.out⟩
                case measure => simp [intOf]; omega
      · obtain ⟨v, hv1, hown⟩ := hr.out
        have cv : wr.cell? ⟨w0.heap.size + 1, 0, none⟩ = some v := cell_of_one hv1
        obtain ⟨i0, hi0, hz0, hz1, hz2⟩ := info_parts Try.info3
        have hsz : w0.heap.size + 5 ≤ wr.heap.size := by have := lt_of_block hr.onv; omega
        have hlen : sk.out.length ≤ 1000 := by have := HRK.out.2.1; have := HM.out; have e : (⟨s.begun.set i true, s.out⟩ : St).out.length = s.out.length := rfl; omega
        clear hr
        go_wp2_with (first
          | (at_builtin; refine wpList_append_own _ rfl _ _ 25 rfl (w0.heap.size + 5) 3 i0 (.int .i64 0) 1 8 Try.underlying25 hi0 hz0 hz1 hz2 rfl (by decide) _ _ _ rfl (hown.alloc _) ⟨wr.heap.size, 0, none⟩ 1 1 [.int .i64 i] rfl rfl (cell_one_new _ _ _) (by simp [Value.oneCell']) (by unfold maxLen; omega) (by omega) (by simp; omega) ?_; intro v' w1 hown' hgrow _; obtain ⟨g', cap', rfl⟩ := ownsRow_succ hown'; have hq1 := var_grown hv1 (by omega) hown hgrow; have cq := cell_of_one hq1; have fq := free_of_one hq1))
        go_end0
        refine ⟨rfl, ?_⟩
        rw [HV.out]
        obtain rfl : k = x.deps.length := by omega
        rw [HSK.out]
        exact HR.out.push hv1 hown hgrow hown'
end Go.Proofs.Ytepnaalgobhcdaa
