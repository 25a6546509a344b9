/- The reference's Run gives 'runOut'; 'same' tells whether two lists of numbers are one. -/
import Derived.Test.YtepnaalgobhcdaaOrdE
import Derived.BigQuiet
import Derived.Deep.QuietTactic
import Derived.WalkSmall
namespace Go.Proofs.Ytepnaalgobhcdaa
open Go.RowKit Clv

set_option maxHeartbeats 400000 in
set_option maxRecDepth 100000 in
theorem Run_any (w : World) (la : Option Addr) (lc : Nat) (l : List ImgM) (hI : Imgs w la lc l) (hn : l.length ≤ 1000) :
    Calls Try.prog 20 #[.slice la l.length lc] w (NumsRes w (runOut (gOf l) l.length)) := by
  have hmk := make_bools l.length (by omega)
  have HI := Lib.hid hI
  clear hI
  go_enter Try.func20, Try.ntmps20
  go_wp2_with fail
  go_loopw [4] (fun t wr => ∃ k : Nat, k ≤ l.length ∧ t = .int .i64 k ∧ Hid (RefSt w la lc l.length (runTo (gOf l) l.length k) wr)) (fun t _ => l.length - (intOf t).toNat)
  case atStart =>
    refine ⟨0, Nat.zero_le _, rfl, ⟨?_, ⟨.slice none 0 0, ?_, World.ownsRow_nil _ _ _ _⟩, ?_, by simp [runTo, startSt]⟩⟩
    case refine_3 => exact ((Below.refl _ w).alloc (Nat.le_refl _) _).alloc (by simp only [World.size_alloc]; omega) _
    all_goals (simp (disch := ((try simp only [World.size_alloc]); first | done | omega)) only [hp_old, hp_new])
    rfl
  case round =>
    obtain ⟨k, hk, rfl, HR⟩ := hrel
    by_cases hlt : k < l.length
    · have HT := Lib.hid (runTo_top (gOf_lt l) k hk)
      have c_l := HR.out.l
      have c_b := HR.out.begunv
      cases hbg : (runTo (gOf l) l.length k).begun.getD k false with
      | true =>
        have HBG := Lib.hid hbg
        clear hbg
        have c_k := HR.out.cell hlt HBG.out
        go_wp2_with fail
        go_roundw
        case rel => exact ⟨k + 1, by omega, by go_num, by rw [runTo_succ, stepV_yes HBG.out]; exact HR.out⟩
        case measure => simp [intOf]; omega
      | false =>
        have HBG := Lib.hid hbg
        clear hbg
        have c_k := HR.out.cell hlt HBG.out
        have HC := Lib.hid (On_any w la lc l HI.out hn l.length k _ wr hlt HR.out (by unfold isB; rw [HBG.out]; simp) (by have := left_le_len (runTo (gOf l) l.length k); rw [HT.out.inv.len] at this; exact this) (room_run l k hk))
        go_wp2_with (go_at_call 63; refine HC.out.mono ?_; rintro e w2 ⟨rfl, hr2⟩; have HR2 := Lib.hid hr2; clear hr2)
        go_roundw
        case rel => exact ⟨k + 1, by omega, by go_num, by rw [runTo_succ, stepV_no HBG.out]; exact HR2.out⟩
        case measure => simp [intOf]; omega
    · obtain ⟨v, hv1, hown⟩ := HR.out.walk
      obtain rfl : k = l.length := by omega
      have cv := cell_2 hv1
      go_wp2_with fail
      go_ret
      exact ⟨_, rfl, ownsRow_base hown (by omega), HR.out.below⟩

/-- Two slices of numbers lie here. -/
def NumsAt (w : World) (v : Value) (os : List Nat) : Prop := ∃ a c, v = .slice a os.length c ∧ SliceOf a os.length 1 fun j b o => w.cell? ⟨b, o, none⟩ = some (.int .i64 (os.getD j 0 : Nat))
theorem ownsRow_nums {w : World} {base : Nat} {v : Value} {os : List Nat} (h : w.ownsRow base 3 1 v os.length (nums os)) : NumsAt w v os := by
  rcases h.2 with ⟨rfl, h0⟩ | ⟨g, cap, cur, rfl, _, hg, h1, h2, h3, h4⟩
  · exact ⟨none, 0, by rw [h0], fun j hj => by omega⟩
  · refine ⟨_, _, rfl, fun j hj => ⟨g, 0, rfl, ?_⟩⟩
    have e : (cur.toList.take (os.length * 1))[j]? = (nums os)[j]? := by rw [h4]
    rw [List.getElem?_take] at e
    have hj' : j < os.length * 1 := by omega
    simp only [hj', if_true] at e
    simp only [World.cell?, hg]
    simp only [nums, List.getElem?_map, Array.getElem?_toList] at e
    simp [e, List.getElem?_eq_getElem hj]
theorem NumsAt.keep {w w' : World} {v : Value} {os : List Nat} (h : NumsAt w v os) (hb : Below w.heap.size w w') : NumsAt w' v os := by
  obtain ⟨a, c, e, hs⟩ := h
  exact ⟨a, c, e, hs.mono fun j b o _ h => cell_keep h hb⟩

set_option maxHeartbeats 400000 in
theorem same_none (w : World) (a1 a2 : Option Addr) (c1 c2 : Nat) : Calls Try.prog 19 #[.slice a1 0 c1, .slice a2 0 c2] w fun e w' => e = .returned (.bool true) ∧ Below w.heap.size w w' := by
  go_enter Try.func19, Try.ntmps19
  go_wp2_with fail
  refine wp_loop_rounds 1 ?_
  rw [rounds_succ]
  go_wp2_with fail
  go_ret
  exact ⟨rfl, Below.refl _ _⟩
set_option maxHeartbeats 400000 in
theorem same_some (w : World) (b1 o1 b2 o2 n c1 c2 : Nat) (hn : n ≤ 1000000) (Z : Nat → Int) (h1 : ∀ j, j < n → w.cell? ⟨b1, o1 + j, none⟩ = some (.int .i64 (Z j))) (h2 : ∀ j, j < n → w.cell? ⟨b2, o2 + j, none⟩ = some (.int .i64 (Z j))) :
    Calls Try.prog 19 #[.slice (some ⟨b1, o1, none⟩) n c1, .slice (some ⟨b2, o2, none⟩) n c2] w fun e w' => e = .returned (.bool true) ∧ Below w.heap.size w w' := by
  have H1 := Lib.hid h1
  have H2 := Lib.hid h2
  clear h1 h2
  go_enter Try.func19, Try.ntmps19
  go_wp2_with fail
  go_loopw [5] (fun t wr => ∃ k : Nat, k ≤ n ∧ t = .int .i64 k ∧ Hid (Below w.heap.size w wr)) (fun t _ => n - (intOf t).toNat)
  case atStart => exact ⟨0, Nat.zero_le _, rfl, Below.refl _ _⟩
  case round =>
    obtain ⟨k, hk, rfl, HB⟩ := hrel
    by_cases hlt : k < n
    · have d1 := cell_keep (H1.out k hlt) HB.out
      have d2 := cell_keep (H2.out k hlt) HB.out
      have i1 : (k : Int) < (n : Int) := by omega
      have i2 : (0 : Int) ≤ (k : Int) := by omega
      generalize Z k = z at *
      go_wp2_with fail
      go_quiet (fail)
      go_wp2_with fail
      go_roundw
      case rel => exact ⟨k + 1, by omega, by go_num, below_drewN HB.out _⟩
      case measure => simp [intOf]; omega
    · go_wp2_with fail
      go_ret
      exact ⟨rfl, HB.out⟩
theorem same_any (w : World) (v1 v2 : Value) (os : List Nat) (hn : os.length ≤ 1000000) (h1 : NumsAt w v1 os) (h2 : NumsAt w v2 os) :
    Calls Try.prog 19 #[v1, v2] w fun e w' => e = .returned (.bool true) ∧ Below w.heap.size w w' := by
  obtain ⟨a1, c1, rfl, s1⟩ := h1
  obtain ⟨a2, c2, rfl, s2⟩ := h2
  by_cases h0 : os.length = 0
  · rw [h0]; exact same_none w a1 a2 c1 c2
  · obtain ⟨b1, o1, rfl, r1⟩ := s1.get (by omega)
    obtain ⟨b2, o2, rfl, r2⟩ := s2.get (by omega)
    simp only [Nat.mul_one] at r1 r2
    exact same_some w b1 o1 b2 o2 os.length c1 c2 hn (fun j => (os.getD j 0 : Nat)) r1 r2
end Go.Proofs.Ytepnaalgobhcdaa
