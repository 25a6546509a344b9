/- The reference's Reach gives 'reach'. -/
import Derived.Test.YtepnaalgobhcdaaOrdF
namespace Go.Proofs.Ytepnaalgobhcdaa
open Go.RowKit Clv

/-- The block of a call of Reach. -/
structure RchSt (w : World) (n : Nat) (o : List Bool) (wr : World) : Prop where
  row : wr.heap[w.heap.size]? = some (.cells (bools o) 4 (0, 0))
  below : Below w.heap.size w wr
  len : o.length = n
theorem RchSt.keep {w : World} {n : Nat} {o : List Bool} {wr w1 : World} (h : RchSt w n o wr) (hb : Below wr.heap.size wr w1) : RchSt w n o w1 :=
  ⟨keep_heap hb h.row, h.below.trans (hb.mono h.below.size), h.len⟩
theorem RchSt.set {w : World} {n : Nat} {o : List Bool} {wr : World} (h : RchSt w n o wr) (d : Nat) : RchSt w n (o.set d true) (wr.setCell ⟨w.heap.size, d, none⟩ (.bool true)) :=
  ⟨by rw [heap_setCell_same _ _ _ _ _ _ h.row, bools_set], h.below.setCell (by simp) _, by simpa using h.len⟩
theorem RchSt.cell {w : World} {n : Nat} {o : List Bool} {wr : World} (h : RchSt w n o wr) {d : Nat} (hd : d < n) {b : Bool} (hb : o.getD d false = b) : wr.cell? ⟨w.heap.size, d, none⟩ = some (.bool b) := by
  simp only [World.cell?, h.row]; rw [← hb]; exact bools_get (by rw [h.len]; exact hd)
theorem RchSt.free {w : World} {n : Nat} {o : List Bool} {wr : World} (h : RchSt w n o wr) (d : Nat) : wr.frozen? ⟨w.heap.size, d, none⟩ = false := frozen_of_row _ _ _ _ _ h.row

def sets (o : List Bool) (ds : List Nat) : List Bool := ds.foldl (fun o d => o.set d true) o
def sweepTo (g : Nat → List Nat) (i : Nat) (o : List Bool) (k : Nat) : List Bool := (List.range k).foldl (sweepAt g i) o
theorem sweepTo_succ (g : Nat → List Nat) (i : Nat) (o : List Bool) (k : Nat) : sweepTo g i o (k + 1) = sweepAt g i (sweepTo g i o k) k := by
  unfold sweepTo; rw [List.range_succ, List.foldl_append]; rfl
theorem sweepAt_skip {g : Nat → List Nat} {i : Nat} {o : List Bool} {k : Nat} (h1 : k ≠ i) (h2 : o.getD k false = false) : sweepAt g i o k = o := by unfold sweepAt; rw [if_pos ⟨h1, h2⟩]
theorem sweepAt_at {g : Nat → List Nat} {i : Nat} {o : List Bool} {k : Nat} (h : k = i ∨ o.getD k false = true) : sweepAt g i o k = sets o (g k) := by
  unfold sweepAt; rw [if_neg]; · rfl
  · rintro ⟨a, b⟩
    rcases h with h | h
    · exact a h
    · rw [h] at b; cases b
theorem sets_no {n : Nat} {x : ImgM} {k : Nat} {o o' : List Bool} (h : okDep n x k = false) (hs : sets o (edgesTo n x k) = o') : sets o (edgesTo n x (k + 1)) = o' := by rw [edgesTo_no h, hs]
theorem sets_yes {n : Nat} {x : ImgM} {k d : Nat} {o o' : List Bool} (h : okDep n x k = true) (hd : x.deps.getD k 0 = (d : Int)) (hs : sets o (edgesTo n x k) = o') : sets o (edgesTo n x (k + 1)) = o'.set d true := by
  rw [edgesTo_yes h, sets, List.foldl_append]; unfold sets at hs; rw [hs, hd]; rfl

set_option maxHeartbeats 1600000 in
set_option maxRecDepth 100000 in
theorem Reach_any (w : World) (la : Option Addr) (lc : Nat) (l : List ImgM) (hI : Imgs w la lc l) (hn : l.length ≤ 1000) (i : Nat) (hi : i < l.length) :
    Calls Try.prog 22 #[.slice la l.length lc, .int .i64 i] w fun e w' => e = .returned (.slice (some ⟨w.heap.size, 0, none⟩) l.length l.length) ∧ RchSt w l.length (reach (gOf l) l.length i) w' := by
  have hmk := make_bools l.length (by omega)
  obtain ⟨b, o, rfl, himg⟩ := hI.2.2.get (by omega)
  have HI := Lib.hid himg
  clear hI himg
  have hi1 : decide ((i : Int) < 0) = false := by simp
  have hi2 : decide (l.length ≤ i) = false := by simp; omega
  go_enter Try.func22, Try.ntmps22
  go_wp2_with fail
  go_loopw [6] (fun t wr => ∃ m : Nat, m ≤ l.length + 1 ∧ t = .int .i64 m ∧ Hid (RchSt w l.length (sweeps (gOf l) l.length i m) wr)) (fun t _ => l.length + 1 - (intOf t).toNat)
  case atStart => exact ⟨0, Nat.zero_le _, rfl, ⟨hp_new _ _ _ rfl, (Below.refl _ w).alloc (Nat.le_refl _) _, by simp [sweeps]⟩⟩
  case round =>
    obtain ⟨m, hm, rfl, HR⟩ := hrel
    clear hmk
    by_cases hlt : m ≤ l.length
    · obtain ⟨wo, rfl⟩ : ∃ wo : World, wo = wr := ⟨_, rfl⟩
      go_wp2_with fail
      go_loopw [7] (fun t wr => ∃ k : Nat, k ≤ l.length ∧ t = .int .i64 k ∧ Hid (RchSt w l.length (sweepTo (gOf l) i (sweeps (gOf l) l.length i m) k) wr)) (fun t _ => l.length - (intOf t).toNat)
      case atStart => exact ⟨0, Nat.zero_le _, rfl, HR.out⟩
      case round =>
        obtain ⟨k, hk, rfl, HR2⟩ := hrel
        by_cases hlt2 : k < l.length
        · obtain ⟨cs, hcs, hx⟩ := HI.out k hlt2
          obtain ⟨da, dc, hd26, hdl, hdm, hdeps⟩ := hx.deps
          unfold maxLen at hdm
          have hbl : b < w.heap.size := hcs.lt (by rw [hx.size]; omega)
          have e0 : gOf l k = edgesTo l.length (l.getD k ⟨0, [], [], []⟩) (l.getD k ⟨0, [], [], []⟩).deps.length := rfl
          generalize l.getD k ⟨0, [], [], []⟩ = x at *
          have es := sweepTo_succ (gOf l) i (sweeps (gOf l) l.length i m) k
          generalize hok : sweepTo (gOf l) i (sweeps (gOf l) l.length i m) k = ok at *
          have ES := Lib.hid es
          have E0 := Lib.hid e0
          have HX := Lib.hid hx
          have HD := Lib.hid hdeps
          have HC := Lib.hid hcs
          have H26 := Lib.hid hd26
          clear es e0 hx hdeps hcs hd26 hok
          obtain ⟨wk, rfl⟩ : ∃ wk : World, wk = wr := ⟨_, rfl⟩
          by_cases hsk : k ≠ i ∧ ok.getD k false = false
          · have hne : ((k : Int) != (i : Int)) = true := by rw [bne_iff_ne]; have := hsk.1; omega
            have ck := HR2.out.cell hlt2 hsk.2
            have HSK := Lib.hid hsk
            clear hsk
            go_wp2_with fail
            go_roundw
            case rel => exact ⟨k + 1, by omega, by go_num, by rw [ES.out, sweepAt_skip HSK.out.1 HSK.out.2]; exact HR2.out⟩
            case measure => simp [intOf]; omega
          · have hat : k = i ∨ ok.getD k false = true := by
              by_cases e : k = i
              · exact .inl e
              · right; cases hv : ok.getD k false with
                | true => rfl
                | false => exact absurd ⟨e, hv⟩ hsk
            clear hsk
            have HAT := Lib.hid (sweepAt_at (g := gOf l) hat)
            have c26 : wk.cell? ⟨b, o + k * 27 + 26, none⟩ = some (.slice da x.deps.length dc) := (HR2.out.below.cell (p := ⟨b, _, none⟩) hbl).trans (HC.out 26 _ H26.out)
            have hck : ((k : Int) != (i : Int)) = false ∨ (((k : Int) != (i : Int)) = true ∧ wk.cell? ⟨w.heap.size, k, none⟩ = some (.bool true)) := by
              by_cases e : k = i
              · left; subst e; simp
              · right; exact ⟨by rw [bne_iff_ne]; omega, HR2.out.cell hlt2 (hat.resolve_left e)⟩
            clear hat
            rcases hck with hne | ⟨hne, ck⟩
            all_goals
              go_wp2_with fail
              clear c26
              try clear ck
              go_loopw [8] (fun t wr => ∃ d : Nat, d ≤ x.deps.length ∧ t = .int .i64 d ∧ Hid (RchSt w l.length (sets ok (edgesTo l.length x d)) wr)) (fun t _ => x.deps.length - (intOf t).toNat)
              case atStart => exact ⟨0, Nat.zero_le _, rfl, HR2.out⟩
              case round =>
                obtain ⟨d, hd, rfl, HR3⟩ := hrel
                have c26 : wr.cell? ⟨b, o + k * 27 + 26, none⟩ = some (.slice da x.deps.length dc) := (HR3.out.below.cell (p := ⟨b, _, none⟩) hbl).trans (HC.out 26 _ H26.out)
                by_cases hlt3 : d < x.deps.length
                · obtain ⟨db, dof, hda, hdc, hd1, hd2⟩ := HD.out d hlt3
                  rw [hda] at c26
                  rw [Nat.mul_one] at hdc
                  have hdb : db < w.heap.size := block_lt_of_cell hdc
                  have c_d := (HR3.out.below.cell (p := ⟨db, dof + d, none⟩) hdb).trans hdc
                  have hcw : CellsAt wr b (o + k * 27) cs := HC.out.below HR3.out.below (fun _ => hbl)
                  have HXW := Lib.hid (HX.out.keep HR3.out.below)
                  have HCW := Lib.hid hcw
                  have HS38 := Lib.hid HX.out.size
                  generalize hdk : x.deps.getD d 0 = tox at *
                  generalize hs3 : sets ok (edgesTo l.length x d) = o3 at *
                  have HS3 := Lib.hid hs3
                  have HDK := Lib.hid hdk
                  clear hdk hcw hda hdc hs3
                  by_cases hneg : tox < 0
                  · have HOK := Lib.hid (okDep_neg (n := l.length) HDK.out hneg)
                    go_wp2_with fail
                    go_roundw
                    case rel => exact ⟨d + 1, by omega, by go_num, by rw [sets_no HOK.out HS3.out]; exact HR3.out⟩
                    case measure => simp [intOf]; omega
                  · by_cases hbig : (l.length : Int) ≤ tox
                    · have HOK := Lib.hid (okDep_big (n := l.length) HDK.out hbig)
                      go_wp2_with fail
                      go_roundw
                      case rel => exact ⟨d + 1, by omega, by go_num, by rw [sets_no HOK.out HS3.out]; exact HR3.out⟩
                      case measure => simp [intOf]; omega
                    · obtain ⟨dn, rfl⟩ := Int.eq_ofNat_of_zero_le (show 0 ≤ tox by omega)
                      have hdn : dn < l.length := by omega
                      cases hu : upB x d with
                      | true =>
                        have HU : Hid (Calls Try.prog 21 #[.agg cs, .int .i64 d] wr fun e w' => e = .returned (.bool true) ∧ Below wr.heap.size wr w') := by
                          have := Upward_any x cs wr HXW.out d
                          rw [hu] at this; exact this
                        have HOK := Lib.hid (okDep_up (n := l.length) hu)
                        clear hu
                        go_wp2_with (first
                          | (refine wpList_load_agg 38 _ rfl rfl b (o + k * 27) rfl cs _ HCW.out Try.underlying38 rfl (by rw [HS38.out]; kernel_rfl) ?_)
                          | (go_at_call 21; refine HU.out.mono ?_; rintro e w1 ⟨rfl, hb1⟩))
                        go_roundw
                        case rel => exact ⟨d + 1, by omega, by go_num, by rw [sets_no HOK.out HS3.out]; exact HR3.out.keep hb1⟩
                        case measure => simp [intOf]; omega
                      | false =>
                        have HU : Hid (Calls Try.prog 21 #[.agg cs, .int .i64 d] wr fun e w' => e = .returned (.bool false) ∧ Below wr.heap.size wr w') := by
                          have := Upward_any x cs wr HXW.out d
                          rw [hu] at this; exact this
                        have HOK := Lib.hid (okDep_of (n := l.length) hu HDK.out hdn)
                        clear hu
                        go_wp2_with (first
                          | (refine wpList_load_agg 38 _ rfl rfl b (o + k * 27) rfl cs _ HCW.out Try.underlying38 rfl (by rw [HS38.out]; kernel_rfl) ?_)
                          | (go_at_call 21; refine HU.out.mono ?_; rintro e w1 ⟨rfl, hb1⟩; have hr1 := Lib.hid (HR3.out.keep hb1); have d1 := hr1.out.free dn; have d2 := hr1.out.cell hdn rfl))
                        go_roundw
                        case rel => exact ⟨d + 1, by omega, by go_num, by rw [sets_yes HOK.out HDK.out HS3.out]; exact hr1.out.set dn⟩
                        case measure => simp [intOf]; omega
                · obtain rfl : d = x.deps.length := by omega
                  go_wp2_with fail
                  go_roundw
                  case rel => exact ⟨k + 1, by omega, by go_num, by rw [ES.out, HAT.out, E0.out]; exact HR3.out⟩
                  case measure => simp [intOf]; omega
        · obtain rfl : k = l.length := by omega
          go_wp2_with fail
          go_roundw
          case rel => exact ⟨m + 1, by omega, by go_num, HR2.out⟩
          case measure => simp [intOf]; omega
    · obtain rfl : m = l.length + 1 := by omega
      go_wp2_with fail
      go_ret
      exact ⟨rfl, HR.out⟩
end Go.Proofs.Ytepnaalgobhcdaa
