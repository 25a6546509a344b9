/- The reference's walk over images goes just as 'visit' does, and its Run gives 'runOut'. The reference's Run gives 'runOut'; 'same' tells whether two lists of numbers are one. The reference's Reach gives 'reach'. Are there few images? The answer is yes only where there are no more than asked. The images of the statement's own rows: what 'on' makes. The statement's own rows hold: known() answers true. -/
import Derived.Test.YtepnaalgobhcdaaBnA
import Derived.BigQuiet
import Derived.Deep.QuietTactic
import Derived.WalkSmall
import Derived.Maps.AppendAt
import Derived.Test.YtepnaalgobhcdaaBnD
namespace Go.Proofs.Ytepnaalgobhcdaa
open Go.RowKit Clv

/-- The blocks of a call of the reference's Run. -/
structure RefSt (w0 : World) (la : Option Addr) (lc n : Nat) (s : St) (wr : World) : Prop where
  begun : wr.heap[w0.heap.size]? = some (.cells (bools s.begun) 4 (0, 0))
  walk : ∃ v, wr.heap[w0.heap.size + 1]? = some (.cells #[.slice la n lc, .slice (some ⟨w0.heap.size, 0, none⟩) n n, v] 133 (0, 0)) ∧ wr.ownsRow (w0.heap.size + 2) 3 1 v s.out.length (nums s.out)
  below : Below w0.heap.size w0 wr
  len : s.begun.length = n

theorem RefSt.keep {w0 : World} {la : Option Addr} {lc n : Nat} {s : St} {wr w1 : World} (h : RefSt w0 la lc n s wr) (hb : Below wr.heap.size wr w1) : RefSt w0 la lc n s w1 := by
  obtain ⟨h1, ⟨v, h5, h6⟩, h7, h8⟩ := h
  exact ⟨keep_heap hb h1, ⟨v, keep_heap hb h5, h6.kept (below_grown hb) (by
    rcases h6.2 with ⟨rfl, _⟩ | ⟨g, cap, cur, rfl, _⟩ <;> simp [Value.ownBlock])⟩, h7.trans (hb.mono h7.size), h8⟩
theorem RefSt.mark {w0 : World} {la : Option Addr} {lc n : Nat} {s : St} {wr : World} (h : RefSt w0 la lc n s wr) (i : Nat) :
    RefSt w0 la lc n ⟨s.begun.set i true, s.out⟩ (wr.setCell ⟨w0.heap.size, i, none⟩ (.bool true)) := by
  obtain ⟨h1, ⟨v, h5, h6⟩, h7, h8⟩ := h
  refine ⟨?_, ⟨v, by rw [heap_setCell_other _ _ _ _ (by simp)]; exact h5, ?_⟩, h7.setCell (by simp) _, by simpa using h8⟩
  · rw [heap_setCell_same _ _ _ _ _ _ h1, bools_set]
  · exact ownsRow_setCell_below h6 (by simp) _
theorem RefSt.push {w0 : World} {la : Option Addr} {lc n : Nat} {s : St} {wr w1 : World} {v v' : Value} {i : Nat} (h : RefSt w0 la lc n s wr)
    (hv : wr.heap[w0.heap.size + 1]? = some (.cells #[.slice la n lc, .slice (some ⟨w0.heap.size, 0, none⟩) n n, v] 133 (0, 0))) (ho : wr.ownsRow (w0.heap.size + 2) 3 1 v s.out.length (nums s.out))
    (hg : (wr.alloc (.cells #[.int .i64 i] 3)).grownBy w1 v.ownBlock) (ho' : w1.ownsRow (w0.heap.size + 2) 3 1 v' (s.out.length + 1) (nums s.out ++ [.int .i64 i])) :
    RefSt w0 la lc n ⟨s.begun, s.out ++ [i]⟩ (w1.setCell ⟨w0.heap.size + 1, 2, none⟩ v') := by
  obtain ⟨h1, _, h7, h8⟩ := h
  refine ⟨?_, ⟨v', ?_, ?_⟩, ?_, h8⟩
  · rw [heap_setCell_other _ _ _ _ (by simp)]; exact var_grown h1 (by omega) ho hg
  · rw [heap_setCell_same _ _ _ _ _ _ (var_grown hv (by omega) ho hg)]; rfl
  · have := ownsRow_setCell_below (a := ⟨w0.heap.size + 1, 2, none⟩) ho' (by simp) v'
    simpa [nums] using this
  · exact ((h7.alloc h7.size _).grown hg (by simp; have := h7.size; omega) (fun k e => by have := ho.lt k e; omega)).setCell (by simp) _
theorem RefSt.cell {w0 : World} {la : Option Addr} {lc n : Nat} {s : St} {wr : World} (h : RefSt w0 la lc n s wr) {d : Nat} (hd : d < n) {b : Bool} (hb : s.begun.getD d false = b) :
    wr.cell? ⟨w0.heap.size, d, none⟩ = some (.bool b) := by
  simp only [World.cell?, h.begun]; rw [← hb]; exact bools_get (by rw [h.len]; exact hd)
theorem cell_2 {w : World} {b : Nat} {x y v : Value} {t : TypeId} (h : w.heap[b]? = some (.cells #[x, y, v] t (0, 0))) : w.cell? ⟨b, 2, none⟩ = some v := by simp [World.cell?, h]
theorem free_2 {w : World} {b : Nat} {x y v : Value} {t : TypeId} (h : w.heap[b]? = some (.cells #[x, y, v] t (0, 0))) : w.frozen? ⟨b, 2, none⟩ = false := by simp [World.frozen?, h]
theorem RefSt.l {w0 : World} {la : Option Addr} {lc n : Nat} {s : St} {wr : World} (h : RefSt w0 la lc n s wr) : wr.cell? ⟨w0.heap.size + 1, 0, none⟩ = some (.slice la n lc) := by
  obtain ⟨_, ⟨v, h5, _⟩, _, _⟩ := h
  simp [World.cell?, h5]
theorem RefSt.begunv {w0 : World} {la : Option Addr} {lc n : Nat} {s : St} {wr : World} (h : RefSt w0 la lc n s wr) : wr.cell? ⟨w0.heap.size + 1, 1, none⟩ = some (.slice (some ⟨w0.heap.size, 0, none⟩) n n) := by
  obtain ⟨_, ⟨v, h5, _⟩, _, _⟩ := h
  simp [World.cell?, h5]

set_option maxHeartbeats 800000 in
set_option maxRecDepth 100000 in
theorem On_any (w0 : World) (la : Option Addr) (lc : Nat) (l : List ImgM) (hI : Imgs w0 la lc l) (hn : l.length ≤ 1000) (f : Nat) :
    ∀ (i : Nat) (s : St) (wr : World), i < l.length → RefSt w0 la lc l.length s wr → ¬ isB s i → left s ≤ f → s.out.length + left s ≤ l.length →
      Calls Try.prog 63 #[.pointer (some ⟨w0.heap.size + 1, 0, none⟩), .int .i64 i] wr
        fun e w' => e = .returned (.tuple #[]) ∧ RefSt w0 la lc l.length (visit (gOf l) f i s) w' := by
  induction f with
  | zero =>
    intro i s wr hi hs hb hl _
    have := left_mark (s := s) (i := i) (by rw [hs.len]; exact hi) hb
    omega
  | succ f ih =>
    intro i s wr hi hs hb hl hroom
    obtain ⟨b, o, hla, cs, hcs, hx⟩ := hI.2.2 i hi
    obtain ⟨da, dc, hd26, hdl, hdm, hdeps⟩ := hx.deps
    subst hla
    unfold maxLen at hdm
    have hbl : b < w0.heap.size := hcs.lt (by rw [hx.size]; omega)
    have hs1 := hs.mark i
    have hm := left_mark (s := s) (i := i) (by rw [hs.len]; exact hi) hb
    generalize hx0 : l.getD i ⟨0, [], [], []⟩ = x at *
    have e0 : edgesTo l.length x x.deps.length = gOf l i := by unfold gOf img0; rw [hx0]
    have hv := visit_succ (gOf l) f i s
    rw [← e0] at hv
    have HV := Lib.hid hv
    have HI := Lib.hid hI
    have IH := Lib.hid ih
    clear hv e0 hx0 hI ih
    generalize hw1 : wr.setCell ⟨w0.heap.size, i, none⟩ (.bool true) = wr1 at *
    have b0 := hs.begunv
    have b1 : wr.cell? ⟨w0.heap.size, i, none⟩ = some (.bool (s.begun.getD i false)) := hs.cell hi rfl
    have b2 : wr.frozen? ⟨w0.heap.size, i, none⟩ = false := frozen_of_row _ _ _ _ _ hs.begun
    have HS1 := Lib.hid hs1
    have HX := Lib.hid hx
    have HD := Lib.hid hdeps
    have HC := Lib.hid hcs
    have HM := Lib.hid hm
    have H26 := Lib.hid hd26
    clear hs hs1 hx hdeps hcs hb hd26 hm
    go_enter Try.func63, Try.ntmps63
    go_wp2_with fail
    go_loopw [4] (fun t wr => ∃ k : Nat, k ≤ x.deps.length ∧ t = .int .i64 k ∧ Hid (RefSt w0 (some ⟨b, o, none⟩) lc l.length ((edgesTo l.length x k).foldl (stepV (gOf l) f) ⟨s.begun.set i true, s.out⟩) wr))
      (fun t _ => x.deps.length - (intOf t).toNat)
    case atStart => exact ⟨0, Nat.zero_le _, rfl, HS1.out⟩
    case round =>
      obtain ⟨k, hk, rfl, HR⟩ := hrel
      have hr := HR.out
      have hroomk := fold_room (gOf l) l.length (gOf_lt l) f (edgesTo l.length x k) edgesTo_lt ⟨s.begun.set i true, s.out⟩ (by have := HS1.out.len; simpa using this) (by have := HM.out; omega)
      generalize hsk : (edgesTo l.length x k).foldl (stepV (gOf l) f) ⟨s.begun.set i true, s.out⟩ = sk at *
      have HSK := Lib.hid hsk
      have HRK := Lib.hid hroomk
      clear hsk hroomk b0 b1 b2
      have c_l := hr.l
      have c26 : wr.cell? ⟨b, o + i * 27 + 26, none⟩ = some (.slice da x.deps.length dc) := (hr.below.cell (p := ⟨b, _, none⟩) hbl).trans (HC.out 26 _ H26.out)
      by_cases hlt : k < x.deps.length
      · obtain ⟨db, dof, hda, hdc, hd1, hd2⟩ := HD.out k hlt
        rw [hda] at c26
        rw [Nat.mul_one] at hdc
        have hdb : db < w0.heap.size := block_lt_of_cell hdc
        have c_d := (hr.below.cell (p := ⟨db, dof + k, none⟩) hdb).trans hdc
        have hcw : CellsAt wr b (o + i * 27) cs := HC.out.below hr.below (fun _ => hbl)
        have HXW := Lib.hid (HX.out.keep hr.below)
        have HCW := Lib.hid hcw
        have HS38 := Lib.hid HX.out.size
        generalize hdk : x.deps.getD k 0 = d at *
        have HDK := Lib.hid hdk
        clear hdk hcw hr hda hdc
        by_cases hneg : d < 0
        · have HOK := Lib.hid (okDep_neg (n := l.length) HDK.out hneg)
          go_wp2_with fail
          go_roundw
          case rel => exact ⟨k + 1, by omega, by go_num, by rw [fold_no HOK.out HSK.out]; exact HR.out⟩
          case measure => simp [intOf]; omega
        · by_cases hbig : (l.length : Int) ≤ d
          · have HOK := Lib.hid (okDep_big (n := l.length) HDK.out hbig)
            go_wp2_with fail
            go_roundw
            case rel => exact ⟨k + 1, by omega, by go_num, by rw [fold_no HOK.out HSK.out]; exact HR.out⟩
            case measure => simp [intOf]; omega
          · obtain ⟨dn, rfl⟩ := Int.eq_ofNat_of_zero_le (show 0 ≤ d by omega)
            have hdn : dn < l.length := by omega
            cases hu : upB x k with
            | true =>
              have HU : Hid (Calls Try.prog 21 #[.agg cs, .int .i64 k] wr fun e w' => e = .returned (.bool true) ∧ Below wr.heap.size wr w') := by
                have := Upward_any x cs wr HXW.out k
                rw [hu] at this; exact this
              have HOK := Lib.hid (okDep_up (n := l.length) hu)
              clear hu
              go_wp2_with (first
                | (refine wpList_load_agg 38 _ rfl rfl b (o + i * 27) rfl cs _ HCW.out Try.underlying38 rfl (by rw [HS38.out]; kernel_rfl) ?_)
                | (go_at_call 21; refine HU.out.mono ?_; rintro e w1 ⟨rfl, hb1⟩))
              go_roundw
              case rel => exact ⟨k + 1, by omega, by go_num, by rw [fold_no HOK.out HSK.out]; exact HR.out.keep hb1⟩
              case measure => simp [intOf]; omega
            | false =>
              have HU : Hid (Calls Try.prog 21 #[.agg cs, .int .i64 k] wr fun e w' => e = .returned (.bool false) ∧ Below wr.heap.size wr w') := by
                have := Upward_any x cs wr HXW.out k
                rw [hu] at this; exact this
              have HOK := Lib.hid (okDep_of (n := l.length) hu HDK.out hdn)
              clear hu
              cases hbg : sk.begun.getD dn false with
              | true =>
                have HBG := Lib.hid hbg
                clear hbg
                go_wp2_with (first
                  | (refine wpList_load_agg 38 _ rfl rfl b (o + i * 27) rfl cs _ HCW.out Try.underlying38 rfl (by rw [HS38.out]; kernel_rfl) ?_)
                  | (go_at_call 21; refine HU.out.mono ?_; rintro e w1 ⟨rfl, hb1⟩; have hr1 := Lib.hid (HR.out.keep hb1); have d1 := hr1.out.begunv; have d2 := hr1.out.cell hdn HBG.out))
                go_roundw
                case rel => exact ⟨k + 1, by omega, by go_num, by rw [fold_yes HOK.out HDK.out HSK.out, stepV_yes HBG.out]; exact HR.out.keep hb1⟩
                case measure => simp [intOf]; omega
              | false =>
                have HBG := Lib.hid hbg
                have HNB : Hid (¬ isB sk dn) := by show ¬ isB sk dn; unfold isB; rw [hbg]; simp
                clear hbg
                have HL1 : Hid (left sk ≤ f ∧ sk.out.length + left sk ≤ l.length) := by
                  have := HRK.out.2.1; have := HRK.out.2.2; have := HM.out; have e : (⟨s.begun.set i true, s.out⟩ : St).out.length = s.out.length := rfl
                  exact ⟨by omega, by omega⟩
                go_wp2_with (first
                  | (refine wpList_load_agg 38 _ rfl rfl b (o + i * 27) rfl cs _ HCW.out Try.underlying38 rfl (by rw [HS38.out]; kernel_rfl) ?_)
                  | (go_at_call 21; refine HU.out.mono ?_; rintro e w1 ⟨rfl, hb1⟩; have hr1 := Lib.hid (HR.out.keep hb1); have d1 := hr1.out.begunv; have d2 := hr1.out.cell hdn HBG.out)
                  | (go_at_call 63; refine (IH.out dn sk _ hdn hr1.out HNB.out HL1.out.1 HL1.out.2).mono ?_; rintro e w2 ⟨rfl, hr2⟩; have HR2 := Lib.hid hr2; clear hr2))
                go_roundw
                case rel => exact ⟨k + 1, by omega, by go_num, by rw [fold_yes HOK.out HDK.out HSK.out, stepV_no HBG.out]; exact HR2.out⟩
                case measure => simp [intOf]; omega
      · obtain ⟨v, hv1, hown⟩ := hr.walk
        have cv : wr.cell? ⟨w0.heap.size + 1, 2, none⟩ = some v := by simp [World.cell?, hv1]
        obtain ⟨i0, hi0, hz0, hz1, hz2⟩ := info_parts Try.info3
        have hsz : w0.heap.size + 2 ≤ wr.heap.size := by have := lt_of_block hv1; omega
        have hlen : sk.out.length ≤ 1000 := by have := HRK.out.2.1; have := HM.out; have e : (⟨s.begun.set i true, s.out⟩ : St).out.length = s.out.length := rfl; omega
        clear hr
        go_wp2_with (first
          | (at_builtin; refine wpList_append_own _ rfl _ _ 25 rfl (w0.heap.size + 2) 3 i0 (.int .i64 0) 1 8 Try.underlying25 hi0 hz0 hz1 hz2 rfl (by decide) _ _ _ rfl (hown.alloc _) ⟨wr.heap.size, 0, none⟩ 1 1 [.int .i64 i] rfl rfl (cell_one_new _ _ _) (by simp [Value.oneCell']) (by unfold maxLen; omega) (by omega) (by simp; omega) ?_; intro v' w1 hown' hgrow _; obtain ⟨g', cap', rfl⟩ := ownsRow_succ hown'; have hq1 := var_grown hv1 (by omega) hown hgrow; have cq := cell_2 hq1; have fq := free_2 hq1))
        go_end0
        refine ⟨rfl, ?_⟩
        rw [HV.out]
        obtain rfl : k = x.deps.length := by omega
        rw [HSK.out]
        exact HR.out.push hv1 hown hgrow hown'
end Go.Proofs.Ytepnaalgobhcdaa
namespace Go.Proofs.Ytepnaalgobhcdaa
open Go.RowKit Clv

set_option maxHeartbeats 400000 in
set_option maxRecDepth 100000 in
theorem Run_any (w : World) (la : Option Addr) (lc : Nat) (l : List ImgM) (hI : Imgs w la lc l) (hn : l.length ≤ 1000) :
    Calls Try.prog 20 #[.slice la l.length lc] w (NumsRes w (runOut (gOf l) l.length)) := by
  have hmk := make_bools l.length (by omega)
  have HI := Lib.hid hI
  clear hI
  go_enter Try.func20, Try.ntmps20
  go_wp2_with fail
  go_loopw [4] (fun t wr => ∃ k : Nat, k ≤ l.length ∧ t = .int .i64 k ∧ Hid (RefSt w la lc l.length (runTo (gOf l) l.length k) wr)) (fun t _ => l.length - (intOf t).toNat)
  case atStart =>
    refine ⟨0, Nat.zero_le _, rfl, ⟨?_, ⟨.slice none 0 0, ?_, World.ownsRow_nil _ _ _ _⟩, ?_, by simp [runTo, startSt]⟩⟩
    case refine_3 => exact ((Below.refl _ w).alloc (Nat.le_refl _) _).alloc (by simp only [World.size_alloc]; omega) _
    all_goals (simp (disch := ((try simp only [World.size_alloc]); first | done | omega)) only [hp_old, hp_new])
    rfl
  case round =>
    obtain ⟨k, hk, rfl, HR⟩ := hrel
    by_cases hlt : k < l.length
    · have HT := Lib.hid (runTo_top (gOf_lt l) k hk)
      have c_l := HR.out.l
      have c_b := HR.out.begunv
      cases hbg : (runTo (gOf l) l.length k).begun.getD k false with
      | true =>
        have HBG := Lib.hid hbg
        clear hbg
        have c_k := HR.out.cell hlt HBG.out
        go_wp2_with fail
        go_roundw
        case rel => exact ⟨k + 1, by omega, by go_num, by rw [runTo_succ, stepV_yes HBG.out]; exact HR.out⟩
        case measure => simp [intOf]; omega
      | false =>
        have HBG := Lib.hid hbg
        clear hbg
        have c_k := HR.out.cell hlt HBG.out
        have HC := Lib.hid (On_any w la lc l HI.out hn l.length k _ wr hlt HR.out (by unfold isB; rw [HBG.out]; simp) (by have := left_le_len (runTo (gOf l) l.length k); rw [HT.out.inv.len] at this; exact this) (room_run l k hk))
        go_wp2_with (go_at_call 63; refine HC.out.mono ?_; rintro e w2 ⟨rfl, hr2⟩; have HR2 := Lib.hid hr2; clear hr2)
        go_roundw
        case rel => exact ⟨k + 1, by omega, by go_num, by rw [runTo_succ, stepV_no HBG.out]; exact HR2.out⟩
        case measure => simp [intOf]; omega
    · obtain ⟨v, hv1, hown⟩ := HR.out.walk
      obtain rfl : k = l.length := by omega
      have cv := cell_2 hv1
      go_wp2_with fail
      go_ret
      exact ⟨_, rfl, ownsRow_base hown (by omega), HR.out.below⟩

/-- Two slices of numbers lie here. -/
def NumsAt (w : World) (v : Value) (os : List Nat) : Prop := ∃ a c, v = .slice a os.length c ∧ SliceOf a os.length 1 fun j b o => w.cell? ⟨b, o, none⟩ = some (.int .i64 (os.getD j 0 : Nat))
theorem ownsRow_nums {w : World} {base : Nat} {v : Value} {os : List Nat} (h : w.ownsRow base 3 1 v os.length (nums os)) : NumsAt w v os := by
  rcases h.2 with ⟨rfl, h0⟩ | ⟨g, cap, cur, rfl, _, hg, h1, h2, h3, h4⟩
  · exact ⟨none, 0, by rw [h0], fun j hj => by omega⟩
  · refine ⟨_, _, rfl, fun j hj => ⟨g, 0, rfl, ?_⟩⟩
    have e : (cur.toList.take (os.length * 1))[j]? = (nums os)[j]? := by rw [h4]
    rw [List.getElem?_take] at e
    have hj' : j < os.length * 1 := by omega
    simp only [hj', if_true] at e
    simp only [World.cell?, hg]
    simp only [nums, List.getElem?_map, Array.getElem?_toList] at e
    simp [e, List.getElem?_eq_getElem hj]
theorem NumsAt.keep {w w' : World} {v : Value} {os : List Nat} (h : NumsAt w v os) (hb : Below w.heap.size w w') : NumsAt w' v os := by
  obtain ⟨a, c, e, hs⟩ := h
  exact ⟨a, c, e, hs.mono fun j b o _ h => cell_keep h hb⟩

set_option maxHeartbeats 400000 in
theorem same_none (w : World) (a1 a2 : Option Addr) (c1 c2 : Nat) : Calls Try.prog 19 #[.slice a1 0 c1, .slice a2 0 c2] w fun e w' => e = .returned (.bool true) ∧ Below w.heap.size w w' := by
  go_enter Try.func19, Try.ntmps19
  go_wp2_with fail
  refine wp_loop_rounds 1 ?_
  rw [rounds_succ]
  go_wp2_with fail
  go_ret
  exact ⟨rfl, Below.refl _ _⟩
set_option maxHeartbeats 400000 in
theorem same_some (w : World) (b1 o1 b2 o2 n c1 c2 : Nat) (hn : n ≤ 1000000) (Z : Nat → Int) (h1 : ∀ j, j < n → w.cell? ⟨b1, o1 + j, none⟩ = some (.int .i64 (Z j))) (h2 : ∀ j, j < n → w.cell? ⟨b2, o2 + j, none⟩ = some (.int .i64 (Z j))) :
    Calls Try.prog 19 #[.slice (some ⟨b1, o1, none⟩) n c1, .slice (some ⟨b2, o2, none⟩) n c2] w fun e w' => e = .returned (.bool true) ∧ Below w.heap.size w w' := by
  have H1 := Lib.hid h1
  have H2 := Lib.hid h2
  clear h1 h2
  go_enter Try.func19, Try.ntmps19
  go_wp2_with fail
  go_loopw [5] (fun t wr => ∃ k : Nat, k ≤ n ∧ t = .int .i64 k ∧ Hid (Below w.heap.size w wr)) (fun t _ => n - (intOf t).toNat)
  case atStart => exact ⟨0, Nat.zero_le _, rfl, Below.refl _ _⟩
  case round =>
    obtain ⟨k, hk, rfl, HB⟩ := hrel
    by_cases hlt : k < n
    · have d1 := cell_keep (H1.out k hlt) HB.out
      have d2 := cell_keep (H2.out k hlt) HB.out
      have i1 : (k : Int) < (n : Int) := by omega
      have i2 : (0 : Int) ≤ (k : Int) := by omega
      generalize Z k = z at *
      go_wp2_with fail
      go_quiet (fail)
      go_wp2_with fail
      go_roundw
      case rel => exact ⟨k + 1, by omega, by go_num, below_drewN HB.out _⟩
      case measure => simp [intOf]; omega
    · go_wp2_with fail
      go_ret
      exact ⟨rfl, HB.out⟩
theorem same_any (w : World) (v1 v2 : Value) (os : List Nat) (hn : os.length ≤ 1000000) (h1 : NumsAt w v1 os) (h2 : NumsAt w v2 os) :
    Calls Try.prog 19 #[v1, v2] w fun e w' => e = .returned (.bool true) ∧ Below w.heap.size w w' := by
  obtain ⟨a1, c1, rfl, s1⟩ := h1
  obtain ⟨a2, c2, rfl, s2⟩ := h2
  by_cases h0 : os.length = 0
  · rw [h0]; exact same_none w a1 a2 c1 c2
  · obtain ⟨b1, o1, rfl, r1⟩ := s1.get (by omega)
    obtain ⟨b2, o2, rfl, r2⟩ := s2.get (by omega)
    simp only [Nat.mul_one] at r1 r2
    exact same_some w b1 o1 b2 o2 os.length c1 c2 hn (fun j => (os.getD j 0 : Nat)) r1 r2
end Go.Proofs.Ytepnaalgobhcdaa
namespace Go.Proofs.Ytepnaalgobhcdaa
open Go.RowKit Clv

/-- The block of a call of Reach. -/
structure RchSt (w : World) (n : Nat) (o : List Bool) (wr : World) : Prop where
  row : wr.heap[w.heap.size]? = some (.cells (bools o) 4 (0, 0))
  below : Below w.heap.size w wr
  len : o.length = n
theorem RchSt.keep {w : World} {n : Nat} {o : List Bool} {wr w1 : World} (h : RchSt w n o wr) (hb : Below wr.heap.size wr w1) : RchSt w n o w1 :=
  ⟨keep_heap hb h.row, h.below.trans (hb.mono h.below.size), h.len⟩
theorem RchSt.set {w : World} {n : Nat} {o : List Bool} {wr : World} (h : RchSt w n o wr) (d : Nat) : RchSt w n (o.set d true) (wr.setCell ⟨w.heap.size, d, none⟩ (.bool true)) :=
  ⟨by rw [heap_setCell_same _ _ _ _ _ _ h.row, bools_set], h.below.setCell (by simp) _, by simpa using h.len⟩
theorem RchSt.cell {w : World} {n : Nat} {o : List Bool} {wr : World} (h : RchSt w n o wr) {d : Nat} (hd : d < n) {b : Bool} (hb : o.getD d false = b) : wr.cell? ⟨w.heap.size, d, none⟩ = some (.bool b) := by
  simp only [World.cell?, h.row]; rw [← hb]; exact bools_get (by rw [h.len]; exact hd)
theorem RchSt.free {w : World} {n : Nat} {o : List Bool} {wr : World} (h : RchSt w n o wr) (d : Nat) : wr.frozen? ⟨w.heap.size, d, none⟩ = false := frozen_of_row _ _ _ _ _ h.row

def sets (o : List Bool) (ds : List Nat) : List Bool := ds.foldl (fun o d => o.set d true) o
def sweepTo (g : Nat → List Nat) (i : Nat) (o : List Bool) (k : Nat) : List Bool := (List.range k).foldl (sweepAt g i) o
theorem sweepTo_succ (g : Nat → List Nat) (i : Nat) (o : List Bool) (k : Nat) : sweepTo g i o (k + 1) = sweepAt g i (sweepTo g i o k) k := by
  unfold sweepTo; rw [List.range_succ, List.foldl_append]; rfl
theorem sweepAt_skip {g : Nat → List Nat} {i : Nat} {o : List Bool} {k : Nat} (h1 : k ≠ i) (h2 : o.getD k false = false) : sweepAt g i o k = o := by unfold sweepAt; rw [if_pos ⟨h1, h2⟩]
theorem sweepAt_at {g : Nat → List Nat} {i : Nat} {o : List Bool} {k : Nat} (h : k = i ∨ o.getD k false = true) : sweepAt g i o k = sets o (g k) := by
  unfold sweepAt; rw [if_neg]; · rfl
  · rintro ⟨a, b⟩
    rcases h with h | h
    · exact a h
    · rw [h] at b; cases b
theorem sets_no {n : Nat} {x : ImgM} {k : Nat} {o o' : List Bool} (h : okDep n x k = false) (hs : sets o (edgesTo n x k) = o') : sets o (edgesTo n x (k + 1)) = o' := by rw [edgesTo_no h, hs]
theorem sets_yes {n : Nat} {x : ImgM} {k d : Nat} {o o' : List Bool} (h : okDep n x k = true) (hd : x.deps.getD k 0 = (d : Int)) (hs : sets o (edgesTo n x k) = o') : sets o (edgesTo n x (k + 1)) = o'.set d true := by
  rw [edgesTo_yes h, sets, List.foldl_append]; unfold sets at hs; rw [hs, hd]; rfl

set_option maxHeartbeats 1600000 in
set_option maxRecDepth 100000 in
theorem Reach_any (w : World) (la : Option Addr) (lc : Nat) (l : List ImgM) (hI : Imgs w la lc l) (hn : l.length ≤ 1000) (i : Nat) (hi : i < l.length) :
    Calls Try.prog 22 #[.slice la l.length lc, .int .i64 i] w fun e w' => e = .returned (.slice (some ⟨w.heap.size, 0, none⟩) l.length l.length) ∧ RchSt w l.length (reach (gOf l) l.length i) w' := by
  have hmk := make_bools l.length (by omega)
  obtain ⟨b, o, rfl, himg⟩ := hI.2.2.get (by omega)
  have HI := Lib.hid himg
  clear hI himg
  have hi1 : decide ((i : Int) < 0) = false := by simp
  have hi2 : decide (l.length ≤ i) = false := by simp; omega
  go_enter Try.func22, Try.ntmps22
  go_wp2_with fail
  go_loopw [6] (fun t wr => ∃ m : Nat, m ≤ l.length + 1 ∧ t = .int .i64 m ∧ Hid (RchSt w l.length (sweeps (gOf l) l.length i m) wr)) (fun t _ => l.length + 1 - (intOf t).toNat)
  case atStart => exact ⟨0, Nat.zero_le _, rfl, ⟨hp_new _ _ _ rfl, (Below.refl _ w).alloc (Nat.le_refl _) _, by simp [sweeps]⟩⟩
  case round =>
    obtain ⟨m, hm, rfl, HR⟩ := hrel
    clear hmk
    by_cases hlt : m ≤ l.length
    · obtain ⟨wo, rfl⟩ : ∃ wo : World, wo = wr := ⟨_, rfl⟩
      go_wp2_with fail
      go_loopw [7] (fun t wr => ∃ k : Nat, k ≤ l.length ∧ t = .int .i64 k ∧ Hid (RchSt w l.length (sweepTo (gOf l) i (sweeps (gOf l) l.length i m) k) wr)) (fun t _ => l.length - (intOf t).toNat)
      case atStart => exact ⟨0, Nat.zero_le _, rfl, HR.out⟩
      case round =>
        obtain ⟨k, hk, rfl, HR2⟩ := hrel
        by_cases hlt2 : k < l.length
        · obtain ⟨cs, hcs, hx⟩ := HI.out k hlt2
          obtain ⟨da, dc, hd26, hdl, hdm, hdeps⟩ := hx.deps
          unfold maxLen at hdm
          have hbl : b < w.heap.size := hcs.lt (by rw [hx.size]; omega)
          have e0 : gOf l k = edgesTo l.length (l.getD k ⟨0, [], [], []⟩) (l.getD k ⟨0, [], [], []⟩).deps.length := rfl
          generalize l.getD k ⟨0, [], [], []⟩ = x at *
          have es := sweepTo_succ (gOf l) i (sweeps (gOf l) l.length i m) k
          generalize hok : sweepTo (gOf l) i (sweeps (gOf l) l.length i m) k = ok at *
          have ES := Lib.hid es
          have E0 := Lib.hid e0
          have HX := Lib.hid hx
          have HD := Lib.hid hdeps
          have HC := Lib.hid hcs
          have H26 := Lib.hid hd26
          clear es e0 hx hdeps hcs hd26 hok
          obtain ⟨wk, rfl⟩ : ∃ wk : World, wk = wr := ⟨_, rfl⟩
          by_cases hsk : k ≠ i ∧ ok.getD k false = false
          · have hne : ((k : Int) != (i : Int)) = true := by rw [bne_iff_ne]; have := hsk.1; omega
            have ck := HR2.out.cell hlt2 hsk.2
            have HSK := Lib.hid hsk
            clear hsk
            go_wp2_with fail
            go_roundw
            case rel => exact ⟨k + 1, by omega, by go_num, by rw [ES.out, sweepAt_skip HSK.out.1 HSK.out.2]; exact HR2.out⟩
            case measure => simp [intOf]; omega
          · have hat : k = i ∨ ok.getD k false = true := by
              by_cases e : k = i
              · exact .inl e
              · right; cases hv : ok.getD k false with
                | true => rfl
                | false => exact absurd ⟨e, hv⟩ hsk
            clear hsk
            have HAT := Lib.hid (sweepAt_at (g := gOf l) hat)
            have c26 : wk.cell? ⟨b, o + k * 27 + 26, none⟩ = some (.slice da x.deps.length dc) := (HR2.out.below.cell (p := ⟨b, _, none⟩) hbl).trans (HC.out 26 _ H26.out)
            have hck : ((k : Int) != (i : Int)) = false ∨ (((k : Int) != (i : Int)) = true ∧ wk.cell? ⟨w.heap.size, k, none⟩ = some (.bool true)) := by
              by_cases e : k = i
              · left; subst e; simp
              · right; exact ⟨by rw [bne_iff_ne]; omega, HR2.out.cell hlt2 (hat.resolve_left e)⟩
            clear hat
            rcases hck with hne | ⟨hne, ck⟩
            all_goals
              go_wp2_with fail
              clear c26
              try clear ck
              go_loopw [8] (fun t wr => ∃ d : Nat, d ≤ x.deps.length ∧ t = .int .i64 d ∧ Hid (RchSt w l.length (sets ok (edgesTo l.length x d)) wr)) (fun t _ => x.deps.length - (intOf t).toNat)
              case atStart => exact ⟨0, Nat.zero_le _, rfl, HR2.out⟩
              case round =>
                obtain ⟨d, hd, rfl, HR3⟩ := hrel
                have c26 : wr.cell? ⟨b, o + k * 27 + 26, none⟩ = some (.slice da x.deps.length dc) := (HR3.out.below.cell (p := ⟨b, _, none⟩) hbl).trans (HC.out 26 _ H26.out)
                by_cases hlt3 : d < x.deps.length
                · obtain ⟨db, dof, hda, hdc, hd1, hd2⟩ := HD.out d hlt3
                  rw [hda] at c26
                  rw [Nat.mul_one] at hdc
                  have hdb : db < w.heap.size := block_lt_of_cell hdc
                  have c_d := (HR3.out.below.cell (p := ⟨db, dof + d, none⟩) hdb).trans hdc
                  have hcw : CellsAt wr b (o + k * 27) cs := HC.out.below HR3.out.below (fun _ => hbl)
                  have HXW := Lib.hid (HX.out.keep HR3.out.below)
                  have HCW := Lib.hid hcw
                  have HS38 := Lib.hid HX.out.size
                  generalize hdk : x.deps.getD d 0 = tox at *
                  generalize hs3 : sets ok (edgesTo l.length x d) = o3 at *
                  have HS3 := Lib.hid hs3
                  have HDK := Lib.hid hdk
                  clear hdk hcw hda hdc hs3
                  by_cases hneg : tox < 0
                  · have HOK := Lib.hid (okDep_neg (n := l.length) HDK.out hneg)
                    go_wp2_with fail
                    go_roundw
                    case rel => exact ⟨d + 1, by omega, by go_num, by rw [sets_no HOK.out HS3.out]; exact HR3.out⟩
                    case measure => simp [intOf]; omega
                  · by_cases hbig : (l.length : Int) ≤ tox
                    · have HOK := Lib.hid (okDep_big (n := l.length) HDK.out hbig)
                      go_wp2_with fail
                      go_roundw
                      case rel => exact ⟨d + 1, by omega, by go_num, by rw [sets_no HOK.out HS3.out]; exact HR3.out⟩
                      case measure => simp [intOf]; omega
                    · obtain ⟨dn, rfl⟩ := Int.eq_ofNat_of_zero_le (show 0 ≤ tox by omega)
                      have hdn : dn < l.length := by omega
                      cases hu : upB x d with
                      | true =>
                        have HU : Hid (Calls Try.prog 21 #[.agg cs, .int .i64 d] wr fun e w' => e = .returned (.bool true) ∧ Below wr.heap.size wr w') := by
                          have := Upward_any x cs wr HXW.out d
                          rw [hu] at this; exact this
                        have HOK := Lib.hid (okDep_up (n := l.length) hu)
                        clear hu
                        go_wp2_with (first
                          | (refine wpList_load_agg 38 _ rfl rfl b (o + k * 27) rfl cs _ HCW.out Try.underlying38 rfl (by rw [HS38.out]; kernel_rfl) ?_)
                          | (go_at_call 21; refine HU.out.mono ?_; rintro e w1 ⟨rfl, hb1⟩))
                        go_roundw
                        case rel => exact ⟨d + 1, by omega, by go_num, by rw [sets_no HOK.out HS3.out]; exact HR3.out.keep hb1⟩
                        case measure => simp [intOf]; omega
                      | false =>
                        have HU : Hid (Calls Try.prog 21 #[.agg cs, .int .i64 d] wr fun e w' => e = .returned (.bool false) ∧ Below wr.heap.size wr w') := by
                          have := Upward_any x cs wr HXW.out d
                          rw [hu] at this; exact this
                        have HOK := Lib.hid (okDep_of (n := l.length) hu HDK.out hdn)
                        clear hu
                        go_wp2_with (first
                          | (refine wpList_load_agg 38 _ rfl rfl b (o + k * 27) rfl cs _ HCW.out Try.underlying38 rfl (by rw [HS38.out]; kernel_rfl) ?_)
                          | (go_at_call 21; refine HU.out.mono ?_; rintro e w1 ⟨rfl, hb1⟩; have hr1 := Lib.hid (HR3.out.keep hb1); have d1 := hr1.out.free dn; have d2 := hr1.out.cell hdn rfl))
                        go_roundw
                        case rel => exact ⟨d + 1, by omega, by go_num, by rw [sets_yes HOK.out HDK.out HS3.out]; exact hr1.out.set dn⟩
                        case measure => simp [intOf]; omega
                · obtain rfl : d = x.deps.length := by omega
                  go_wp2_with fail
                  go_roundw
                  case rel => exact ⟨k + 1, by omega, by go_num, by rw [ES.out, HAT.out, E0.out]; exact HR3.out⟩
                  case measure => simp [intOf]; omega
        · obtain rfl : k = l.length := by omega
          go_wp2_with fail
          go_roundw
          case rel => exact ⟨m + 1, by omega, by go_num, HR2.out⟩
          case measure => simp [intOf]; omega
    · obtain rfl : m = l.length + 1 := by omega
      go_wp2_with fail
      go_ret
      exact ⟨rfl, HR.out⟩
end Go.Proofs.Ytepnaalgobhcdaa
namespace Go.Proofs.Ytepnaalgobhcdaa
open Go.RowKit Clv

def FewRes (w : World) (n : Nat) (most : Int) (e : Ending) (w' : World) : Prop := ∃ bv : Bool, e = .returned (.bool bv) ∧ (bv = true → (n : Int) ≤ most) ∧ w = w'

set_option maxHeartbeats 400000 in
set_option maxRecDepth 100000 in
theorem few_any (w : World) (la : Option Addr) (lc : Nat) (l : List ImgM) (hI : Imgs w la lc l) (most : Int) :
    Calls Try.prog 16 #[.slice la l.length lc, .int .i64 most] w (FewRes w l.length most) := by
  obtain ⟨hlc, hlm, hs⟩ := hI
  unfold maxLen at hlm
  have HI := Lib.hid hs
  clear hs
  go_enter Try.func16, Try.ntmps16
  go_wp2_with fail
  go_loop [5] (fun t => ∃ k : Nat, k ≤ l.length ∧ t = .int .i64 k) (fun t => l.length - (intOf t).toNat)
  case atStart => exact ⟨0, Nat.zero_le _, rfl⟩
  case round =>
    obtain ⟨k, hk, rfl⟩ := hrel
    by_cases hlt : k < l.length
    · obtain ⟨b, o, hla, cs, hcs, hx⟩ := HI.out k hlt
      rw [hla]
      obtain ⟨da, dc, hd26, hdl, hdm, _⟩ := hx.deps
      obtain ⟨sa, sc, hs5, hsl, hsm, hsegs⟩ := hx.segs
      unfold maxLen at hdm hsm
      have c26 := hcs 26 _ hd26
      have c5 := hcs 5 _ hs5
      generalize hxx : l.getD k ⟨0, [], [], []⟩ = x at *
      have HS := Lib.hid hsegs
      clear hx hcs hd26 hs5 hla hsegs hxx
      by_cases h1 : 100 < x.deps.length
      · go_wp2_with fail
        go_ret
        exact ⟨false, rfl, by simp, rfl⟩
      · by_cases h2 : 4 < x.segs.length
        · go_wp2_with fail
          go_ret
          exact ⟨false, rfl, by simp, rfl⟩
        · go_wp2_with fail
          go_loop [6] (fun t => ∃ j : Nat, j ≤ x.segs.length ∧ t = .int .i64 j) (fun t => x.segs.length - (intOf t).toNat)
          case atStart => exact ⟨0, Nat.zero_le _, rfl⟩
          case round =>
            obtain ⟨j, hj, rfl⟩ := hrel
            by_cases hlt2 : j < x.segs.length
            · obtain ⟨b3, o3, hsa, nm, a3, c3, _, _, _, _, hq1, hq2, hc3, _⟩ := HS.out j hlt2
              rw [hsa] at c5
              have d6 := hc3 6 _ rfl
              unfold maxLen at hq2
              generalize (x.segs.getD j ⟨0, 0, 0, 0, 0, []⟩).secs = ss at *
              clear hc3 hsa
              by_cases h3 : 5 < ss.length
              · go_wp2_with fail
                go_ret
                exact ⟨false, rfl, by simp, rfl⟩
              · go_wp2_with fail
                go_round
                case rel => exact ⟨j + 1, by omega, by go_num⟩
                case measure => simp [intOf]; omega
            · go_wp2_with fail
              go_round
              case rel => exact ⟨k + 1, by omega, by go_num⟩
              case measure => simp [intOf]; omega
    · go_wp2_with fail
      go_ret
      exact ⟨_, rfl, by simp, rfl⟩
end Go.Proofs.Ytepnaalgobhcdaa
namespace Go.Proofs.Ytepnaalgobhcdaa
open Go.RowKit Clv

/-- The cells of an image that has nothing but dependencies. -/
def onCells (ups deps : Value) : Array Value := #[.string { data := #[] }, .int .i64 0, .int .i64 0, .int .u32 0,
    .string { data := #[] }, .slice none 0 0, ups, .int .u64 0, .int .u64 0, .int .u64 0, .int .u64 0, .int .u64 0,
    .int .u64 0, .int .u64 0, .int .u64 0, .int .u64 0, .int .u64 0, .int .u64 0, .int .u64 0, .int .u64 0,
    .int .u64 0, .int .u64 0, .int .u64 0, .int .u64 0, .bool false, .int .u64 0, deps]
def onUp (n u j : Nat) : Int := if n ≤ j + u then 4 else 1
def onUps (n u : Nat) : List Int := (List.range n).map (onUp n u)
def upCells (n u k : Nat) : List Value := (List.range k).flatMap fun j => [.string { data := #[] }, .int .i64 (onUp n u j)]
theorem upCells_succ (n u k : Nat) : upCells n u (k + 1) = upCells n u k ++ [.string { data := #[] }, .int .i64 (onUp n u k)] := by
  unfold upCells; rw [List.range_succ, List.flatMap_append]; simp
theorem upCells_length (n u k : Nat) : (upCells n u k).length = k * 2 := by
  induction k with
  | zero => rfl
  | succ k ih => rw [upCells_succ, List.length_append, ih]; simp; omega
theorem upCells_get (n u k j : Nat) (h : j < k) : (upCells n u k)[j * 2 + 1]? = some (.int .i64 (onUp n u j)) := by
  induction k with
  | zero => omega
  | succ k ih =>
    rw [upCells_succ]
    have hl := upCells_length n u k
    by_cases e : j = k
    · subst e
      rw [List.getElem?_append_right (by omega), hl, show j * 2 + 1 - j * 2 = 1 by omega]
      rfl
    · rw [List.getElem?_append_left (by omega)]
      exact ih (by omega)
theorem ownsRow_ups {W : World} {base n u : Nat} {a : Option Addr} {c : Nat} (h : W.ownsRow base 136 2 (.slice a n c) n (upCells n u n)) : n ≤ c ∧ c ≤ maxLen ∧ SliceOf a n 2 fun j => DepAt W ((onUps n u).getD j 0) := by
  rcases h.2 with ⟨e, h0⟩ | ⟨g, cap, cur, e, _, hg, h1, h2, h3, h4⟩
  · cases e; exact ⟨Nat.le_refl _, Nat.zero_le _, fun j hj => by omega⟩
  · cases e
    refine ⟨h1, h2, fun j hj => ⟨g, 0, rfl, ?_⟩⟩
    have e := upCells_get n u n j hj
    rw [← h4, List.getElem?_take] at e
    have hj' : j * 2 + 1 < n * 2 := by omega
    simp only [hj', if_true, Array.getElem?_toList] at e
    unfold DepAt
    simp only [World.cell?, hg, Nat.zero_add]
    simp [e, onUps, hj]
theorem Try.info136 : (Try.prog.info? 136).map (fun i => (i.zero, i.size, i.bytes)) = some (some (.agg #[.string { data := #[] }, .int .i64 0]), 2, 24) := by kernel_rfl
theorem cell_two_new (w : World) (x y : Value) (t : TypeId) : ∀ j u, [x, y][j]? = some u → (w.alloc (.cells #[x, y] t)).cell? ((⟨w.heap.size, 0, none⟩ : Addr).add j) = some u := by
  intro j u h
  match j, h with
  | 0, h => simp at h; subst h; simp [Addr.add]
  | 1, h => simp at h; subst h; simp [Addr.add]

theorem on_cell6 {wr : World} {b : Nat} {v dv : Value} (h : wr.heap[b]? = some (.cells (onCells v dv) 38 (0, 0))) : wr.cell? ⟨b, 6, none⟩ = some v := by simp [World.cell?, h, onCells]
theorem on_free6 {wr : World} {b : Nat} {v dv : Value} (h : wr.heap[b]? = some (.cells (onCells v dv) 38 (0, 0))) : wr.frozen? ⟨b, 6, none⟩ = false := by simp [World.frozen?, h]
theorem on_at {wr : World} {b : Nat} {v dv : Value} (h : wr.heap[b]? = some (.cells (onCells v dv) 38 (0, 0))) : CellsAt wr b 0 (onCells v dv) := fun j x hx => by
  simp only [World.cell?, h, Nat.zero_add]; exact hx
structure OnSt (w : World) (dv : Value) (n u k : Nat) (wr : World) : Prop where
  res : wr.heap[w.heap.size]? = some (.cells (onCells (.slice none 0 0) (.slice none 0 0)) 38 (0, 0))
  x : ∃ v, wr.heap[w.heap.size + 1]? = some (.cells (onCells v dv) 38 (0, 0)) ∧ wr.ownsRow (w.heap.size + 2) 136 2 v k (upCells n u k)
  below : Below w.heap.size w wr

theorem OnSt.push {w wr w1 : World} {dv v v' : Value} {n u k : Nat} (h : OnSt w dv n u k wr) (hv : wr.heap[w.heap.size + 1]? = some (.cells (onCells v dv) 38 (0, 0))) (ho : wr.ownsRow (w.heap.size + 2) 136 2 v k (upCells n u k))
    {x : Obj} (hg : (wr.alloc x).grownBy w1 v.ownBlock) (ho' : w1.ownsRow (w.heap.size + 2) 136 2 v' (k + 1) (upCells n u (k + 1))) :
    OnSt w dv n u (k + 1) (w1.setCell ⟨w.heap.size + 1, 6, none⟩ v') := by
  obtain ⟨h1, _, h7⟩ := h
  refine ⟨?_, ⟨v', ?_, ?_⟩, ?_⟩
  · rw [heap_setCell_other _ _ _ _ (by simp)]; exact var_grown h1 (by omega) ho hg
  · rw [heap_setCell_same _ _ _ _ _ _ (var_grown hv (by omega) ho hg)]; rfl
  · exact ownsRow_setCell_below (a := ⟨w.heap.size + 1, 6, none⟩) ho' (by simp) v'
  · exact ((h7.alloc h7.size _).grown hg (by simp; have := h7.size; omega) (fun k e => by have := ho.lt k e; omega)).setCell (by simp) _

def OnRes (w : World) (n u : Nat) (D : List Int) (e : Ending) (w' : World) : Prop := ∃ cs, e = .returned (.agg cs) ∧ ImgCells w' ⟨0, D, onUps n u, []⟩ cs ∧ Below w.heap.size w w'

set_option maxHeartbeats 400000 in
set_option maxRecDepth 100000 in
theorem on_img (w : World) (u : Nat) (a : Option Addr) (c : Nat) (D : List Int) (hu : u ≤ D.length) (hD : D.length ≤ 10) (hc : D.length ≤ c) (hcm : c ≤ maxLen) (hs : SliceOf a D.length 1 fun j => IntAt w (D.getD j 0)) :
    Calls Try.prog 60 #[.int .i64 u, .slice a D.length c] w (OnRes w D.length u D) := by
  have HS := Lib.hid hs
  clear hs
  go_enter Try.func60, Try.ntmps60
  go_wp2_with (first
    | (refine wpList_store_whole rfl 38 (.tmp 5) (.tmp 9) rfl (w.heap.size + 1) (onCells (.slice none 0 0) (.slice a D.length c)) rfl rfl 38 (onCells (.slice none 0 0) (.slice none 0 0)) (hp_new (w.alloc _) _ _ (by simp)) size38 rfl (by kernel_rfl) ?_; intro w1 hw1 hg1 hz1))
  have hst : OnSt w (.slice a D.length c) D.length u 0 w1 := by
    refine ⟨?_, ⟨_, hw1, World.ownsRow_nil _ _ _ _⟩, ?_⟩
    · rw [hg1.block _ (by simp; omega) (by simp), hp_old _ _ _ (by simp), hp_new _ _ _ rfl]; rfl
    · exact (((Below.refl _ w).alloc (Nat.le_refl _) _).alloc (by simp) _).grown hg1 (by simp; omega) (fun k e => by cases e; omega)
  have HST := Lib.hid hst
  clear hst hw1 hg1 hz1
  go_loopw [6] (fun t wr => ∃ k : Nat, k ≤ D.length ∧ t = .int .i64 k ∧ Hid (OnSt w (.slice a D.length c) D.length u k wr)) (fun t _ => D.length - (intOf t).toNat)
  case atStart => exact ⟨0, Nat.zero_le _, rfl, HST.out⟩
  case round =>
    obtain ⟨k, hk, rfl, HR⟩ := hrel
    obtain ⟨v, hv1, hown⟩ := HR.out.x
    by_cases hlt : k < D.length
    · have cv := on_cell6 hv1
      obtain ⟨i0, hi0, hz0, hz1, hz2⟩ := info_parts Try.info136
      have hsz : w.heap.size + 2 ≤ wr.heap.size := by have := lt_of_block hv1; omega
      by_cases hge : D.length ≤ k + u
      · have HUP : Hid (onUp D.length u k = 4) := by show onUp D.length u k = 4; unfold onUp; rw [if_pos hge]
        go_wp2_with (first
          | (at_builtin; refine wpList_append_own _ rfl _ _ 31 rfl (w.heap.size + 2) 136 i0 _ 2 24 Try.underlying31 hi0 hz0 hz1 hz2 rfl (by decide) _ _ _ rfl (hown.alloc _) ⟨wr.heap.size, 0, none⟩ 1 1 [.string { data := #[] }, .int .i64 4] rfl rfl (cell_two_new _ _ _ _) (by simp [Value.oneCell']) (by unfold maxLen; omega) (by omega) (by simp; omega) ?_; intro v' w1 hown' hgrow _; obtain ⟨g', cap', rfl⟩ := ownsRow_succ hown'; have hq1 := var_grown hv1 (by omega) hown hgrow; have cq := on_cell6 hq1; have fq := on_free6 hq1))
        go_roundw
        case rel => exact ⟨k + 1, by omega, by go_num, HR.out.push hv1 hown hgrow (by rw [upCells_succ, HUP.out]; exact hown')⟩
        case measure => simp [intOf]; omega
      · have HUP : Hid (onUp D.length u k = 1) := by show onUp D.length u k = 1; unfold onUp; rw [if_neg hge]
        go_wp2_with (first
          | (at_builtin; refine wpList_append_own _ rfl _ _ 31 rfl (w.heap.size + 2) 136 i0 _ 2 24 Try.underlying31 hi0 hz0 hz1 hz2 rfl (by decide) _ _ _ rfl (hown.alloc _) ⟨wr.heap.size, 0, none⟩ 1 1 [.string { data := #[] }, .int .i64 1] rfl rfl (cell_two_new _ _ _ _) (by simp [Value.oneCell']) (by unfold maxLen; omega) (by omega) (by simp; omega) ?_; intro v' w1 hown' hgrow _; obtain ⟨g', cap', rfl⟩ := ownsRow_succ hown'; have hq1 := var_grown hv1 (by omega) hown hgrow; have cq := on_cell6 hq1; have fq := on_free6 hq1))
        go_roundw
        case rel => exact ⟨k + 1, by omega, by go_num, HR.out.push hv1 hown hgrow (by rw [upCells_succ, HUP.out]; exact hown')⟩
        case measure => simp [intOf]; omega
    · obtain rfl : k = D.length := by omega
      have hres := HR.out.res
      obtain ⟨va, vc, rfl⟩ := ownsRow_shape hown
      go_wp2_with (first
        | (refine wpList_load_agg 38 (.tmp 5) rfl rfl (w.heap.size + 1) 0 rfl (onCells (.slice va D.length vc) (.slice a D.length c)) _ (on_at hv1) Try.underlying38 rfl size38 ?_)
        | (refine wpList_store_whole rfl 38 (.tmp 4) (.tmp 31) rfl (w.heap.size) (onCells (.slice va D.length vc) (.slice a D.length c)) rfl rfl 38 (onCells (.slice none 0 0) (.slice none 0 0)) hres size38 rfl (by kernel_rfl) ?_; intro w1 hw1 hg1 hz1))
      refine bodyPost_ret (v := .agg (onCells (.slice va D.length vc) (.slice a D.length c))) (results_cell_row rfl _ _ (w.heap.size) 38 _ (0, 0) _ rfl hw1 Try.underlying38 rfl size38) rfl ?_
      have hb1 : Below w.heap.size w w1 := HR.out.below.grown hg1 HR.out.below.size (fun k e => by cases e; omega)
      obtain ⟨hn1, hn2, hn3⟩ := ownsRow_ups (hown.kept hg1 (.inr (fun e => by have := hown.lt _ e; omega)))
      have hlen : (onUps D.length u).length = D.length := by simp [onUps]
      refine ⟨_, rfl, ⟨rfl, by show (0 : Nat) < 18446744073709551616; decide, ⟨none, 0, rfl, Nat.le_refl _, Nat.zero_le _, fun j hj => absurd hj (Nat.not_lt_zero _)⟩, ⟨va, vc, by rw [hlen]; rfl, by rw [hlen]; exact hn1, hn2, by rw [hlen]; exact hn3⟩, rfl, ⟨a, c, rfl, hc, hcm, ?_⟩⟩, hb1⟩
      exact HS.out.mono fun j b o _ h => ⟨cell_keep h.1 hb1, h.2⟩
end Go.Proofs.Ytepnaalgobhcdaa
namespace Go.Proofs.Ytepnaalgobhcdaa
open Go.RowKit Clv

theorem Try.has38 : (Try.prog.info? 38).map (fun i => (i.zero.isSome, i.size)) = some (true, 27) := by kernel_rfl
theorem parts38o : ∃ i z, Try.prog.info? 38 = some i ∧ i.zero = some z ∧ i.size = 27 := by
  obtain ⟨i, hi, h⟩ := Option.map_eq_some_iff.1 Try.has38
  simp only [Prod.mk.injEq] at h
  obtain ⟨z, hz⟩ := Option.isSome_iff_exists.1 h.1
  exact ⟨i, z, hi, hz, h.2⟩

def ints (D : List Int) : Array Value := (D.map (Value.int .i64)).toArray
theorem ints_at (w : World) (D : List Int) (hD : ∀ j, j < D.length → -9223372036854775808 ≤ D.getD j 0 ∧ D.getD j 0 ≤ 9223372036854775807) : SliceOf (some ⟨w.heap.size, 0, none⟩) D.length 1 fun j => IntAt (w.alloc (.cells (ints D) 3)) (D.getD j 0) := fun j hj => by
  refine ⟨_, 0, rfl, ?_, hD j hj⟩
  rw [World.cell?_alloc_new]
  simp [ints, hj]
theorem on_new (w : World) (u : Nat) (D : List Int) (hu : u ≤ D.length) (hl : D.length ≤ 10) (hD : ∀ j, j < D.length → -9223372036854775808 ≤ D.getD j 0 ∧ D.getD j 0 ≤ 9223372036854775807) :
    Calls Try.prog 60 #[.int .i64 u, .slice (some ⟨w.heap.size, 0, none⟩) D.length D.length] (w.alloc (.cells (ints D) 3)) (OnRes (w.alloc (.cells (ints D) 3)) D.length u D) :=
  on_img _ u _ _ D hu hl (Nat.le_refl _) (by unfold maxLen; omega) (ints_at w D hD)
theorem on_21 (w : World) : Calls Try.prog 60 #[.int .i64 0, .slice (some ⟨w.heap.size, 0, none⟩) 2 2] (w.alloc (.cells #[.int .i64 1, .int .i64 2] 3)) (OnRes (w.alloc (.cells #[.int .i64 1, .int .i64 2] 3)) 2 0 [1, 2]) := on_new w 0 [1, 2] (by decide) (by decide) (by decide)
theorem on_21u (w : World) : Calls Try.prog 60 #[.int .i64 1, .slice (some ⟨w.heap.size, 0, none⟩) 2 2] (w.alloc (.cells #[.int .i64 1, .int .i64 2] 3)) (OnRes (w.alloc (.cells #[.int .i64 1, .int .i64 2] 3)) 2 1 [1, 2]) := on_new w 1 [1, 2] (by decide) (by decide) (by decide)
theorem on_2 (w : World) : Calls Try.prog 60 #[.int .i64 0, .slice (some ⟨w.heap.size, 0, none⟩) 1 1] (w.alloc (.cells #[.int .i64 2] 3)) (OnRes (w.alloc (.cells #[.int .i64 2] 3)) 1 0 [2]) := on_new w 0 [2] (by decide) (by decide) (by decide)
theorem on_1 (w : World) : Calls Try.prog 60 #[.int .i64 0, .slice (some ⟨w.heap.size, 0, none⟩) 1 1] (w.alloc (.cells #[.int .i64 1] 3)) (OnRes (w.alloc (.cells #[.int .i64 1] 3)) 1 0 [1]) := on_new w 0 [1] (by decide) (by decide) (by decide)
theorem on_0 (w : World) : Calls Try.prog 60 #[.int .i64 0, .slice (some ⟨w.heap.size, 0, none⟩) 1 1] (w.alloc (.cells #[.int .i64 0] 3)) (OnRes (w.alloc (.cells #[.int .i64 0] 3)) 1 0 [0]) := on_new w 0 [0] (by decide) (by decide) (by decide)
theorem on_none (w : World) : Calls Try.prog 60 #[.int .i64 0, .slice none 0 0] w (OnRes w 0 0 []) := on_img w 0 none 0 [] (by decide) (by decide) (by decide) (by decide) (fun j hj => absurd hj (Nat.not_lt_zero _))

/-- Images laid one behind the other in a new block. -/
theorem imgs_new {w : World} {l : List (Array Value)} {xs : List ImgM} {cells : Array Value} (hlen : xs.length = l.length) (hm : l.length ≤ 1000) (hc : ∀ i c, l[i]? = some c → ∀ j v, c[j]? = some v → cells[i * 27 + j]? = some v)
    (hx : ∀ i c, l[i]? = some c → ImgCells w (xs.getD i ⟨0, [], [], []⟩) c) : Imgs (w.alloc (.cells cells 38)) (some ⟨w.heap.size, 0, none⟩) l.length xs := by
  refine ⟨by omega, by unfold maxLen; omega, fun i hi => ?_⟩
  rw [hlen] at hi
  obtain ⟨c, hci⟩ : ∃ c, l[i]? = some c := ⟨l[i], List.getElem?_eq_getElem hi⟩
  refine ⟨_, 0, rfl, c, fun j v hj => ?_, (hx i c hci).keep ((Below.refl _ w).alloc (Nat.le_refl _) _)⟩
  rw [Nat.zero_add, World.cell?_alloc_new]
  exact hc i c hci j v hj

def la1 : List ImgM := [⟨0, [1, 2], onUps 2 0, []⟩, ⟨0, [2], onUps 1 0, []⟩, ⟨0, [], onUps 0 0, []⟩]
def lb1 : List ImgM := [⟨0, [1, 2], onUps 2 1, []⟩, ⟨0, [], onUps 0 0, []⟩, ⟨0, [1], onUps 1 0, []⟩]
def lc1 : List ImgM := [⟨0, [1], onUps 1 0, []⟩, ⟨0, [0], onUps 1 0, []⟩]
theorem run_a : runOut (gOf la1) la1.length = [2, 1, 0] := by decide
theorem run_b : runOut (gOf lb1) lb1.length = [1, 0, 2] := by decide
theorem run_c : runOut (gOf lc1) lc1.length = [1, 0] := by decide
theorem nums_new (w : World) (D : List Nat) : NumsAt (w.alloc (.cells (nums D).toArray 3)) (.slice (some ⟨w.heap.size, 0, none⟩) D.length D.length) D :=
  ⟨_, _, rfl, fun j hj => ⟨_, 0, rfl, by show World.cell? _ _ = _; rw [World.cell?_alloc_new]; simp [nums, hj]⟩⟩

set_option maxHeartbeats 800000 in
set_option maxRecDepth 100000 in
theorem known_true (w : World) : Calls Try.prog 17 #[] w fun e w' => e = .returned (.bool true) ∧ Below w.heap.size w w' := by
  obtain ⟨i0, z0, hi0, hz0, hs0⟩ := parts38o
  go_enter Try.func17, Try.ntmps17
  go_wp2_with fail
  refine (on_21 w).mono ?_
  rintro e W1 ⟨c1, rfl, x1, b1⟩
  go_wp2_with fail
  refine (on_2 _).mono ?_
  rintro e W2 ⟨c2, rfl, x2, b2⟩
  go_wp2_with fail
  refine (on_none _).mono ?_
  rintro e W3 ⟨c3, rfl, x3, b3⟩
  have y2 := x2.keep b3
  have y1 := ((x1.keep ((Below.refl _ W1).alloc (Nat.le_refl _) _)).keep b2).keep b3
  have hsz : ∀ c ∈ [c1, c2, c3], c.size = 27 := by simp [x1.size, x2.size, x3.size]
  have HSZ := Lib.hid hsz
  have HX1 := Lib.hid y1
  have HX2 := Lib.hid y2
  have HX3 := Lib.hid x3
  clear hsz y1 y2 x1 x2 x3
  go_wp2_with (refine wpList_buildSlice_aggs rfl 22 38 3 _ rfl i0 z0 Try.underlying22 hi0 hz0 27 hs0 [c1, c2, c3] rfl rfl HSZ.out (by simp) ?_; intro cells hcells; have HCS := Lib.hid hcells; clear hcells)
  have hi1 : Imgs (W3.alloc (.cells cells 38)) (some ⟨W3.heap.size, 0, none⟩) 3 la1 :=
    imgs_new (l := [c1, c2, c3]) rfl (by simp) HCS.out (fun i c hc => by
      match i, hc with
      | 0, hc => cases hc; exact HX1.out
      | 1, hc => cases hc; exact HX2.out
      | 2, hc => cases hc; exact HX3.out)
  have hr1 := run_any _ _ _ _ hi1 (by decide)
  rw [run_a] at hr1
  refine hr1.mono ?_
  clear hr1 hi1 HCS HX1 HX2 HX3 HSZ
  rintro e W4 ⟨v1, rfl, o1, b4⟩
  have N1 := Lib.hid (ownsRow_nums o1)
  have B4 : Hid (Below w.heap.size w W4) :=
    have q1 := ((Below.refl w.heap.size w).alloc (Nat.le_refl _) _).trans (b1.mono (by simp))
    have q2 := (q1.alloc q1.size _).trans (b2.mono (by simp; have := q1.size; omega))
    have q3 := q2.trans (b3.mono q2.size)
    (q3.alloc q3.size _).trans (b4.mono (by simp; have := q3.size; omega))
  clear o1 b1 b2 b3 b4
  go_wp2_with fail
  refine (on_21u _).mono ?_
  rintro e W5 ⟨c4, rfl, x4, b5⟩
  go_wp2_with fail
  refine (on_none _).mono ?_
  rintro e W6 ⟨c5, rfl, x5, b6⟩
  go_wp2_with fail
  refine (on_1 _).mono ?_
  rintro e W7 ⟨c6, rfl, x6, b7⟩
  have y5 := (x5.keep ((Below.refl _ W6).alloc (Nat.le_refl _) _)).keep b7
  have y4 := ((x4.keep b6).keep ((Below.refl _ W6).alloc (Nat.le_refl _) _)).keep b7
  have hsz : ∀ c ∈ [c4, c5, c6], c.size = 27 := by simp [x4.size, x5.size, x6.size]
  have HSZ := Lib.hid hsz
  have HX1 := Lib.hid y4
  have HX2 := Lib.hid y5
  have HX3 := Lib.hid x6
  clear hsz y4 y5 x4 x5 x6
  go_wp2_with (refine wpList_buildSlice_aggs rfl 22 38 3 _ rfl i0 z0 Try.underlying22 hi0 hz0 27 hs0 [c4, c5, c6] rfl rfl HSZ.out (by simp) ?_; intro cells2 hcells; have HCS := Lib.hid hcells; clear hcells)
  have hi2 : Imgs (W7.alloc (.cells cells2 38)) (some ⟨W7.heap.size, 0, none⟩) 3 lb1 :=
    imgs_new (l := [c4, c5, c6]) rfl (by simp) HCS.out (fun i c hc => by
      match i, hc with
      | 0, hc => cases hc; exact HX1.out
      | 1, hc => cases hc; exact HX2.out
      | 2, hc => cases hc; exact HX3.out)
  have hr2 := run_any _ _ _ _ hi2 (by decide)
  rw [run_b] at hr2
  refine hr2.mono ?_
  clear hr2 hi2 HCS HX1 HX2 HX3 HSZ
  rintro e W8 ⟨v2, rfl, o2, b8⟩
  have N2 := Lib.hid (ownsRow_nums o2)
  have B8 : Hid (Below W4.heap.size W4 W8) :=
    have q1 := ((Below.refl W4.heap.size W4).alloc (Nat.le_refl _) _).trans (b5.mono (by simp))
    have q2 := q1.trans (b6.mono q1.size)
    have q3 := (q2.alloc q2.size _).trans (b7.mono (by simp; have := q2.size; omega))
    (q3.alloc q3.size _).trans (b8.mono (by simp; have := q3.size; omega))
  clear o2 b5 b6 b7 b8
  go_wp2_with fail
  refine (on_1 _).mono ?_
  rintro e W9 ⟨c7, rfl, x7, b9⟩
  go_wp2_with fail
  refine (on_0 _).mono ?_
  rintro e W10 ⟨c8, rfl, x8, b10⟩
  have y7 := (x7.keep ((Below.refl _ W9).alloc (Nat.le_refl _) _)).keep b10
  have hsz : ∀ c ∈ [c7, c8], c.size = 27 := by simp [x7.size, x8.size]
  have HSZ := Lib.hid hsz
  have HX1 := Lib.hid y7
  have HX2 := Lib.hid x8
  clear hsz y7 x7 x8
  go_wp2_with (refine wpList_buildSlice_aggs rfl 22 38 2 _ rfl i0 z0 Try.underlying22 hi0 hz0 27 hs0 [c7, c8] rfl rfl HSZ.out (by simp) ?_; intro cells3 hcells; have HCS := Lib.hid hcells; clear hcells)
  have hi3 : Imgs (W10.alloc (.cells cells3 38)) (some ⟨W10.heap.size, 0, none⟩) 2 lc1 :=
    imgs_new (l := [c7, c8]) rfl (by simp) HCS.out (fun i c hc => by
      match i, hc with
      | 0, hc => cases hc; exact HX1.out
      | 1, hc => cases hc; exact HX2.out)
  have hr3 := run_any _ _ _ _ hi3 (by decide)
  rw [run_c] at hr3
  refine hr3.mono ?_
  clear hr3 hi3 HCS HX1 HX2 HSZ
  rintro e W11 ⟨v3, rfl, o3, b11⟩
  have N3 := Lib.hid (ownsRow_nums o3)
  have B11 : Hid (Below W8.heap.size W8 W11) :=
    have q1 := ((Below.refl W8.heap.size W8).alloc (Nat.le_refl _) _).trans (b9.mono (by simp))
    have q3 := (q1.alloc q1.size _).trans (b10.mono (by simp; have := q1.size; omega))
    (q3.alloc q3.size _).trans (b11.mono (by simp; have := q3.size; omega))
  clear o3 b9 b10 b11
  have M1 := Lib.hid ((N1.out.keep B8.out).keep B11.out)
  have M2 := Lib.hid (N2.out.keep B11.out)
  have B := Lib.hid ((B4.out.trans (B8.out.mono B4.out.size)).trans (B11.out.mono (B4.out.trans (B8.out.mono B4.out.size)).size))
  clear N1 N2 B4 B8 B11
  go_wp2_with fail
  have al := fun (o : Obj) => (Below.refl W11.heap.size W11).alloc (Nat.le_refl _) o
  refine (same_any _ v1 _ [2, 1, 0] (by decide) (M1.out.keep (al _)) (nums_new W11 [2, 1, 0])).mono ?_
  rintro e W12 ⟨rfl, b12⟩
  have q12 := (al _).trans (b12.mono (by simp))
  have M3 := Lib.hid (M2.out.keep q12)
  have M4 := Lib.hid (N3.out.keep q12)
  have B2 := Lib.hid (B.out.trans (q12.mono B.out.size))
  clear al b12 q12 B M1 M2 N3
  go_wp2_with fail
  have al := fun (o : Obj) => (Below.refl W12.heap.size W12).alloc (Nat.le_refl _) o
  refine (same_any _ v2 _ [1, 0, 2] (by decide) (M3.out.keep (al _)) (nums_new W12 [1, 0, 2])).mono ?_
  rintro e W13 ⟨rfl, b12⟩
  have q12 := (al _).trans (b12.mono (by simp))
  have M5 := Lib.hid (M4.out.keep q12)
  have B3 := Lib.hid (B2.out.trans (q12.mono B2.out.size))
  clear al b12 q12 B2 M3 M4
  go_wp2_with fail
  have al := fun (o : Obj) => (Below.refl W13.heap.size W13).alloc (Nat.le_refl _) o
  refine (same_any _ v3 _ [1, 0] (by decide) (M5.out.keep (al _)) (nums_new W13 [1, 0])).mono ?_
  rintro e W14 ⟨rfl, b12⟩
  have q12 := (al _).trans (b12.mono (by simp))
  have B5 := Lib.hid (B3.out.trans (q12.mono B3.out.size))
  clear al b12 q12 B3 M5
  go_wp2_with fail
  go_ret
  exact ⟨rfl, B5.out⟩
end Go.Proofs.Ytepnaalgobhcdaa
