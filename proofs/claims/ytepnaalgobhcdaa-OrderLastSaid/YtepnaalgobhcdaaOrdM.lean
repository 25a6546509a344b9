/- OrderRuns and OrderLast answer true: the walks. -/
import Derived.Test.YtepnaalgobhcdaaOrdL
namespace Go.Proofs.Ytepnaalgobhcdaa
open Go.RowKit Clv

set_option maxHeartbeats 1000000 in
set_option maxRecDepth 100000 in
theorem runs_zero (w : World) (la : Option Addr) (lc : Nat) (hI : Imgs w la lc []) :
    Calls Try.prog 3 #[.slice la 0 lc] w (LawRes w) := by
  have HI := Lib.hid hI
  clear hI
  have HF : Hid (Calls Try.prog 16 #[.slice la 0 lc, .int .i64 40] w (FewRes w 0 40)) := few_any w _ lc [] HI.out 40
  go_enter Try.func3, Try.ntmps3
  go_wp2_with fail
  refine HF.out.mono ?_
  rintro e _ ⟨bv, rfl, hbv, rfl⟩
  cases bv with
  | false =>
    go_wp2_with fail
    refine (known_true _).mono ?_
    rintro e w1 ⟨rfl, hb⟩
    go_wp2_with fail
    go_ret
    exact ⟨rfl, hb⟩
  | true =>
    clear hbv HF
    have c1 : Calls Try.prog 18 #[.slice la 0 lc] w (NumsRes w []) := run_any w la lc [] HI.out (by decide)
    go_wp2_with fail
    refine c1.mono ?_
    rintro e w1 ⟨v1, rfl, o1, b1⟩
    have N1 := Lib.hid (ownsRow_nums (os := []) o1)
    have I1 := Lib.hid (HI.out.keep b1)
    have B1 := Lib.hid b1
    clear o1 b1 c1
    have c1 : Calls Try.prog 20 #[.slice la 0 lc] w1 (NumsRes w1 []) := Run_any w1 la lc [] I1.out (by decide)
    go_wp2_with fail
    refine c1.mono ?_
    rintro e w2 ⟨v2, rfl, o2, b2⟩
    have N2 := Lib.hid (ownsRow_nums (os := []) o2)
    have N3 := Lib.hid (N1.out.keep b2)
    have B2 := Lib.hid (B1.out.trans (b2.mono B1.out.size))
    clear o2 b2 N1 I1 B1 c1
    go_wp2_with fail
    refine (same_any w2 v1 v2 [] (by decide) N3.out N2.out).mono ?_
    rintro e w3 ⟨rfl, b3⟩
    have B3 := Lib.hid (B2.out.trans (b3.mono B2.out.size))
    obtain ⟨va, vc, hv1, -⟩ := N3.out
    have hv1' : v1 = .slice va 0 vc := hv1
    clear b3 N3 N2 B2 hv1
    subst hv1'
    have hmk : ∀ w : World, (Instr.makeSlice 25 (.int .i64 0) (.int .i64 0)).run Try.prog w = .ok (.slice (some ⟨w.heap.size, 0, none⟩) 0 0) (w.alloc (.cells (ints (blanks 0 0)) 3)) := make_ints 0 (by decide)
    go_wp2_with fail
    refine wp_loop_rounds 1 ?_
    rw [rounds_succ]
    go_wp2_with fail
    refine wp_loop_rounds 1 ?_
    rw [rounds_succ]
    go_wp2_with fail
    refine wp_loop_rounds 1 ?_
    rw [rounds_succ]
    go_wp2_with fail
    refine (known_true _).mono ?_
    rintro e w4 ⟨rfl, hb⟩
    go_wp2_with fail
    go_ret
    exact ⟨rfl, (B3.out.alloc B3.out.size _).trans (hb.mono (by simp; have := B3.out.size; omega))⟩
theorem runs_any (w : World) (la : Option Addr) (lc : Nat) (l : List ImgM) (hI : Imgs w la lc l) : Calls Try.prog 3 #[.slice la l.length lc] w (LawRes w) := by
  by_cases h : 0 < l.length
  · obtain ⟨b, o, rfl, _⟩ := hI.2.2.get h
    exact runs_pos w b o lc l hI h
  · obtain rfl : l = [] := List.length_eq_zero_iff.1 (by omega)
    exact runs_zero w la lc hI

/-- Of each place of the order: is it ahead of the first image's, its own, or behind it; and is it reached. -/
structure Zero (r : List Nat) (n pl : Nat) (ro : List Bool) : Prop where
  lt : pl < r.length
  at_ : r[pl]? = some 0
  ahead : ∀ k x, k < pl → r[k]? = some x → x ≠ 0 ∧ x < n ∧ ro.getD x false = true
  behind : ∀ k x, pl < k → r[k]? = some x → x ≠ 0 ∧ x < n ∧ ro.getD x false = false
theorem zero_of (l : List ImgM) (h : 0 < l.length) : ∃ pl, Zero (runOut (gOf l) l.length) l.length pl (reach (gOf l) l.length 0) := by
  obtain ⟨p, q, e, hp, hq⟩ := runOut_zero (gOf_lt l) h
  have hnd := runOut_nodup (gOf_lt l) (n := l.length)
  have hmem := runOut_mem (gOf_lt l) (n := l.length)
  have hre := fun x => reach_on (gOf_lt l) 0 h x
  refine ⟨p.length, ?_⟩
  rw [e] at hnd hmem ⊢
  have hnd' := List.nodup_append.1 hnd
  have hnq : 0 ∉ q := (List.nodup_cons.1 hnd'.2.1).1
  refine ⟨by simp, by simp, fun k x hk hx => ?_, fun k x hk hx => ?_⟩
  · rw [List.getElem?_append_left hk] at hx
    have hxp := List.mem_of_getElem? hx
    exact ⟨fun e0 => hnd'.2.2 x hxp 0 (by simp) e0, (hmem x).1 (by simp [hxp]), (hre x).2 (hp x hxp)⟩
  · rw [List.getElem?_append_right (by omega)] at hx
    have e1 : k - p.length = (k - p.length - 1) + 1 := by omega
    rw [e1, List.getElem?_cons_succ] at hx
    have hxq := List.mem_of_getElem? hx
    refine ⟨fun e0 => hnq (e0 ▸ hxq), (hmem x).1 (by simp [hxq]), ?_⟩
    cases hv : (reach (gOf l) l.length 0).getD x false with
    | false => rfl
    | true => exact absurd ((hre x).1 hv) (hq x hxq)

set_option maxHeartbeats 2000000 in
set_option maxRecDepth 100000 in
theorem last_pos (w : World) (b o lc : Nat) (l : List ImgM) (hI : Imgs w (some ⟨b, o, none⟩) lc l) (hpos : 0 < l.length) :
    Calls Try.prog 4 #[.slice (some ⟨b, o, none⟩) l.length lc] w (LawRes w) := by
  have HI := Lib.hid hI
  clear hI
  have HF := Lib.hid (few_any w _ lc l HI.out 40)
  have h0 : ((l.length : Int) == 0) = false := by simp; intro e; simp [e] at hpos
  go_enter Try.func4, Try.ntmps4
  go_wp2_with fail
  refine HF.out.mono ?_
  rintro e _ ⟨bv, rfl, hbv, rfl⟩
  cases bv with
  | false =>
    go_wp2_with fail
    refine (known_true _).mono ?_
    rintro e w1 ⟨rfl, hb⟩
    go_wp2_with fail
    go_ret
    exact ⟨rfl, hb⟩
  | true =>
    have hn : l.length ≤ 40 := by have := hbv rfl; omega
    clear hbv HF
    go_wp2_with fail
    refine (run_any w _ lc l HI.out (by omega)).mono ?_
    rintro e w1 ⟨v1, rfl, o1, b1⟩
    have N1 := Lib.hid (ownsRow_nums o1)
    have I1 := Lib.hid (HI.out.keep b1)
    have B1 := Lib.hid b1
    clear o1 b1
    have c1 : Calls Try.prog 22 #[.slice (some ⟨b, o, none⟩) l.length lc, .int .i64 0] w1 fun e w' => e = .returned (.slice (some ⟨w1.heap.size, 0, none⟩) l.length l.length) ∧ RchSt w1 l.length (reach (gOf l) l.length 0) w' := Reach_any w1 _ lc l I1.out (by omega) 0 hpos
    go_wp2_with fail
    refine c1.mono ?_
    clear c1
    rintro e w2 ⟨rfl, hr⟩
    have HR := Lib.hid hr
    have N2 := Lib.hid (N1.out.keep hr.below)
    have B2 := Lib.hid (B1.out.trans (hr.below.mono B1.out.size))
    have hlen := runOut_length (gOf_lt l)
    obtain ⟨pl, hz⟩ := zero_of l hpos
    generalize runOut (gOf l) l.length = r at *
    generalize reach (gOf l) l.length 0 = rr at *
    have HZ := Lib.hid hz
    have hpl : pl < l.length := by have := hz.lt; omega
    have HLEN := Lib.hid hlen
    clear hr N1 B1 hlen hz
    obtain ⟨va, vc, hv1, hs1⟩ := N2.out
    rw [HLEN.out] at hv1 hs1
    obtain ⟨rb, ro, rfl, hs2⟩ := hs1.get hpos
    have HS := Lib.hid hs2
    clear hs1 hs2 N2
    subst hv1
    go_wp2_with fail
    go_loop [5, 6] (fun a t => ∃ k : Nat, k ≤ l.length ∧ t = .int .i64 k ∧ a = .bool (decide (k ≤ pl))) (fun _ t => l.length - (intOf t).toNat)
    case atStart => exact ⟨0, Nat.zero_le _, rfl, by simp⟩
    case round =>
      obtain ⟨k, hk, rfl, rfl⟩ := hrel
      by_cases hlt : k < l.length
      · obtain ⟨x, hx⟩ : ∃ x, r[k]? = some x := ⟨r[k]'(by rw [HLEN.out]; exact hlt), List.getElem?_eq_getElem _⟩
        have cr : w2.cell? ⟨rb, ro + k, none⟩ = some (.int .i64 x) := by
          have := HS.out k hlt
          rw [Nat.mul_one, List.getD_eq_getElem?_getD, hx] at this
          exact this
        have HX := Lib.hid hx
        clear hx
        rcases Nat.lt_trichotomy k pl with hc | hc | hc
        · obtain ⟨z1, z2, z3⟩ := HZ.out.ahead k x hc HX.out
          have ct := HR.out.cell z2 z3
          have d1 : decide (k ≤ pl) = true := by simp; omega
          have d2 : decide (k + 1 ≤ pl) = true := by simp; omega
          have d3 : ((x : Int) == 0) = false := by simp; exact z1
          rw [d1]
          have D2 := Lib.hid d2
          clear d1 d2 z3
          go_wp2_with fail
          go_round
          case rel => exact ⟨k + 1, by omega, by go_num, by rw [D2.out]⟩
          case measure => simp [intOf]; omega
        · have d1 : decide (k ≤ pl) = true := by simp; omega
          have d2 : decide (k + 1 ≤ pl) = false := by simp; omega
          have hx0 : x = 0 := by have := HX.out; have := HZ.out.at_; subst hc; simp_all
          subst hx0
          have cr' : w2.cell? ⟨rb, ro + k, none⟩ = some (.int .i64 0) := cr
          clear cr
          rw [d1]
          have D2 := Lib.hid d2
          clear d1 d2 hc
          go_wp2_with fail
          go_round
          case rel => exact ⟨k + 1, by omega, by go_num, by rw [D2.out]⟩
          case measure => simp [intOf]; omega
        · obtain ⟨z1, z2, z3⟩ := HZ.out.behind k x hc HX.out
          have ct := HR.out.cell z2 z3
          have d1 : decide (k ≤ pl) = false := by simp; omega
          have d2 : decide (k + 1 ≤ pl) = false := by simp; omega
          have d3 : ((x : Int) == 0) = false := by simp; exact z1
          rw [d1]
          have D2 := Lib.hid d2
          clear d1 d2 z3
          go_wp2_with fail
          go_round
          case rel => exact ⟨k + 1, by omega, by go_num, by rw [D2.out]⟩
          case measure => simp [intOf]; omega
      · obtain rfl : k = l.length := by omega
        have d1 : decide (l.length ≤ pl) = false := by simp; omega
        rw [d1]
        clear d1
        go_wp2_with fail
        refine (known_true _).mono ?_
        rintro e w4 ⟨rfl, hb⟩
        go_wp2_with fail
        go_ret
        exact ⟨rfl, B2.out.trans (hb.mono B2.out.size)⟩
set_option maxHeartbeats 1000000 in
theorem last_zero (w : World) (la : Option Addr) (lc : Nat) (hI : Imgs w la lc []) :
    Calls Try.prog 4 #[.slice la 0 lc] w (LawRes w) := by
  have HF : Hid (Calls Try.prog 16 #[.slice la 0 lc, .int .i64 40] w (FewRes w 0 40)) := few_any w _ lc [] hI 40
  clear hI
  go_enter Try.func4, Try.ntmps4
  go_wp2_with fail
  refine HF.out.mono ?_
  rintro e _ ⟨bv, rfl, hbv, rfl⟩
  cases bv
  all_goals
    go_wp2_with fail
    refine (known_true _).mono ?_
    rintro e w1 ⟨rfl, hb⟩
    go_wp2_with fail
    go_ret
    exact ⟨rfl, hb⟩
theorem last_any (w : World) (la : Option Addr) (lc : Nat) (l : List ImgM) (hI : Imgs w la lc l) : Calls Try.prog 4 #[.slice la l.length lc] w (LawRes w) := by
  by_cases h : 0 < l.length
  · obtain ⟨b, o, rfl, _⟩ := hI.2.2.get h
    exact last_pos w b o lc l hI h
  · obtain rfl : l = [] := List.length_eq_zero_iff.1 (by omega)
    exact last_zero w la lc hI
end Go.Proofs.Ytepnaalgobhcdaa
