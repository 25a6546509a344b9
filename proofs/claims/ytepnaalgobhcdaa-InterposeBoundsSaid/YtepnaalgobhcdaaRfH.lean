/- The reference's Look: the walk. -/
import Derived.Test.YtepnaalgobhcdaaRfG
namespace Go.Proofs.Ytepnaalgobhcdaa
open Go.RowKit Spm

def skipB (a n k : Nat) : Bool := decide (0 < k) && decide (k + 1 < n) && decide ((a + k) % 4096 ≠ 0)
set_option maxHeartbeats 4000000 in
set_option maxRecDepth 100000 in
theorem rlook_in (w : World) (b : Nat) (M : List Pg) (F : Nat → Prop) (h : RfIn w b M F) (a n : Nat) (r : Int) (hr : r = 0 ∨ r = 1 ∨ r = 2) (h0 : 0 < n) (hin : inB a n = true) (hn : n ≤ 33554432) :
    Calls Try.prog 88 #[.pointer (some ⟨b, 0, none⟩), .int .u64 a, .int .u64 n, .int .i64 r] w fun e w' => e = .returned (.int .i64 (lookVal M (fst a) (lst a n) r)) ∧ w = w' := by
  have hab : a + n ≤ 140737488355328 := by simp [inB] at hin; omega
  have HI1 : Hid (Calls Try.prog 87 #[.int .u64 a, .int .u64 n] w fun e w' => e = .returned (.bool true) ∧ w = w') := by
    have := rin_any w a n (by omega); rw [hin] at this; exact this
  have HH : Hid (∀ c : Nat, c < 18446744073709551616 → Calls Try.prog 71 #[.pointer (some ⟨b, 0, none⟩), .int .u64 c] w fun e w' => e = .returned (.int .i64 (hasIx M c)) ∧ w = w') := fun c hc => rhas_any w b M F h c hc
  have hz : ((n : Int) == 0) = false := by simp; omega
  have hfew := h.ok.few
  obtain ⟨hok, ⟨aA, cA, aB, cB, aP, cP, A, C, hb, hp⟩, _, _⟩ := h
  have cb2 : w.cell? ⟨b, 2, none⟩ = some (.slice aP M.length cP) := by simp [World.cell?, hb, rfCells]
  have hcap := hp.prs.cap
  have HROW := Lib.hid hp.prs
  have HOK := Lib.hid hok
  have hle : fst a ≤ lst a n := by unfold fst lst; omega
  have HLST := Lib.hid (upTo_lst (a := a) h0)
  obtain ⟨ff, hff⟩ : ∃ ff, ff = fst a := ⟨_, rfl⟩
  rw [← hff] at hle
  rw [← hff]
  have HFF : Hid (ff = a / 4096) := hff
  have HRR := Lib.hid hr
  clear hb hp hok hin hff hr hle
  go_enter Try.func88, Try.ntmps88
  go_wp2_with (go_at_call 87; refine HI1.out.mono ?_; rintro e _ ⟨rfl, rfl⟩)
  clear hz HI1
  go_loop [9, 10] (fun ev t => ∃ k : Nat, k ≤ n ∧ t = .int .u64 k ∧ ev = .int .i64 (lackVal M ff (upTo a k) r) ∧ Hid (missing M ff (upTo a k) = false)) (fun _ t => n - (intOf t).toNat)
  case atStart =>
    have e : upTo a 0 = ff := by rw [HFF.out]; rfl
    exact ⟨0, Nat.zero_le _, rfl, by rw [e]; unfold lackVal; rw [lacks_zero]; rfl, by show missing M ff (upTo a 0) = false; rw [e]; exact missing_zero M ff⟩
  case round =>
    obtain ⟨k, hk, rfl, rfl, HM⟩ := hrel
    by_cases hlt : k < n
    · obtain ⟨sk, hsk⟩ : ∃ sk, sk = skipB a n k := ⟨_, rfl⟩
      have HSK := Lib.hid hsk
      clear hsk
      go_upto_region 9 with fail
      go_cut [42] (fun s42 wx => s42 = .bool sk ∧ w = wx)
      case first =>
        by_cases c1 : 0 < k
        · by_cases c2 : k + 1 < n
          · by_cases c3 : (a + k) % 4096 = 0
            · have e : sk = false := by rw [HSK.out]; simp [skipB, c3]
              have i1 : (0 : Int) < (k : Int) := by omega
              have i2 : (k : Int) + 1 < (n : Int) := by omega
              have i3 : (((a : Int) + (k : Int)) % 4096 != 0) = false := by rw [bne_eq_false_iff_eq]; omega
              have E := Lib.hid e
              clear e c1 c2 c3
              go_wp2_with fail
              go_meet
              exact ⟨by rw [E.out], rfl⟩
            · have e : sk = true := by rw [HSK.out]; simp [skipB, c1, c2, c3]
              have i1 : (0 : Int) < (k : Int) := by omega
              have i2 : (k : Int) + 1 < (n : Int) := by omega
              have i3 : (((a : Int) + (k : Int)) % 4096 != 0) = true := by rw [bne_iff_ne]; omega
              have E := Lib.hid e
              clear e c1 c2 c3
              go_wp2_with fail
              go_meet
              exact ⟨by rw [E.out], rfl⟩
          · have e : sk = false := by rw [HSK.out]; simp [skipB, c2]
            have i1 : (0 : Int) < (k : Int) := by omega
            have i2 : ¬ (k : Int) + 1 < (n : Int) := by omega
            have E := Lib.hid e
            clear e c1 c2
            go_wp2_with fail
            go_meet
            exact ⟨by rw [E.out], rfl⟩
        · have e : sk = false := by rw [HSK.out]; simp [skipB, c1]
          obtain rfl : k = 0 := by omega
          have E := Lib.hid e
          clear e c1
          go_wp2_with fail
          go_meet
          exact ⟨by rw [E.out], rfl⟩
      case rest =>
        obtain ⟨rfl, rfl⟩ := hcut
        cases sk with
        | true =>
          have hs := HSK.out.symm
          simp only [skipB, Bool.and_eq_true, decide_eq_true_eq] at hs
          have e := upTo_skip hs.1.1 hs.2
          have HNX : Hid (upTo a (k + 1) = upTo a k) := e
          clear hs e
          go_wp2_with fail
          go_round
          case rel => exact ⟨k + 1, by omega, by go_num, by rw [HNX.out], by show missing M ff (upTo a (k + 1)) = false; rw [HNX.out]; exact HM.out⟩
          case measure => simp [intOf]; omega
        | false =>
          have HC : Hid (Calls Try.prog 71 #[.pointer (some ⟨b, 0, none⟩), .int .u64 ((a : Int) + (k : Int))] w fun e w' => e = .returned (.int .i64 (hasIx M (a + k))) ∧ w = w') := by
            have := HH.out (a + k) (by omega)
            rwa [show ((a + k : Nat) : Int) = (a : Int) + (k : Int) by omega] at this
          have hfq : ff ≤ (a + k) / 4096 := by rw [HFF.out]; omega
          cases hpg : pg M ((a + k) / 4096) with
          | none =>
            have hix := hasIx_none hpg
            rw [hix] at HC
            have hmt : missing M ff (lst a n) = true := missing_true hfq (by unfold lst; omega) hpg
            have HRES : Hid (lookVal M ff (lst a n) r = 4) := by show lookVal _ _ _ _ = 4; unfold lookVal; rw [if_pos hmt]
            clear hix hmt hpg hfq
            go_wp2_with (go_at_call 71; refine HC.out.mono ?_; rintro e _ ⟨rfl, rfl⟩)
            go_ret
            exact ⟨by rw [HRES.out]; rfl, rfl⟩
          | some p =>
            obtain ⟨i, hix, hpi⟩ := hasIx_some hpg
            rw [hix] at HC
            have hil := (List.getElem?_eq_some_iff.1 hpi).1
            have hpp := HOK.out.pages p (List.mem_of_getElem? hpi)
            obtain ⟨g, rfl, _, hcell⟩ := HROW.out.get (by omega)
            have hc := hcell i (.int .i64 p.prot) (by unfold prVals; rw [List.getElem?_map, hpi]; rfl)
            obtain ⟨v1, v2⟩ := visit_has (r := r) upTo_visit hfq HM.out hpg
            rw [← upTo_step] at v1 v2
            have V1 := Lib.hid v1
            have V2 := Lib.hid v2
            obtain ⟨e1, e2⟩ := bit1 ⟨hpp.2.1, hpp.2.2.1⟩
            have hp1 := hpp.2.1
            have hp7 := hpp.2.2.1
            generalize p.prot = pr at *
            clear hix hpi hpg hcell v1 v2 hfq hpp
            have hz0 := @hasP_zero pr
            obtain ⟨lv, hlv⟩ : ∃ lv, lv = lackVal M ff (upTo a k) r := ⟨_, rfl⟩
            rw [← hlv] at V2
            rw [← hlv]
            clear hlv
            rcases HRR.out with rfl | rfl | rfl
            · rw [hz0] at V2
              clear e1 e2
              go_wp2_with (go_at_call 71; refine HC.out.mono ?_; rintro e _ ⟨rfl, rfl⟩)
              refine wp_loop_rounds 4 ?_
              rw [rounds_succ]
              go_wp2_with fail
              rw [rounds_succ]
              go_wp2_with fail
              rw [rounds_succ]
              go_wp2_with fail
              rw [rounds_succ]
              go_wp2_with fail
              exact ⟨⟨k + 1, by omega, by go_num, by rw [V2.out]; rfl, V1.out⟩, by simp [intOf]; omega⟩
            · clear e2 hz0
              cases hh : hasP pr 1 with
              | true =>
                rw [hh] at V2 e1
                have e1' : (pr / 1 % 2 == 0) = false := by rw [Int.ediv_one]; exact e1
                clear hh
                go_wp2_with (go_at_call 71; refine HC.out.mono ?_; rintro e _ ⟨rfl, rfl⟩)
                refine wp_loop_rounds 4 ?_
                rw [rounds_succ]
                go_wp2_with fail
                rw [rounds_succ]
                go_wp2_with fail
                rw [rounds_succ]
                go_wp2_with fail
                rw [rounds_succ]
                go_wp2_with fail
                exact ⟨⟨k + 1, by omega, by go_num, by rw [V2.out]; rfl, V1.out⟩, by simp [intOf]; omega⟩
              | false =>
                rw [hh] at V2 e1
                have e1' : (pr / 1 % 2 == 0) = true := by rw [Int.ediv_one]; exact e1
                clear hh
                go_wp2_with (go_at_call 71; refine HC.out.mono ?_; rintro e _ ⟨rfl, rfl⟩)
                refine wp_loop_rounds 4 ?_
                rw [rounds_succ]
                go_wp2_with fail
                rw [rounds_succ]
                go_wp2_with fail
                rw [rounds_succ]
                go_wp2_with fail
                rw [rounds_succ]
                go_wp2_with fail
                exact ⟨⟨k + 1, by omega, by go_num, by rw [V2.out]; rfl, V1.out⟩, by simp [intOf]; omega⟩
            · clear e1 hz0
              cases hh : hasP pr 2 with
              | true =>
                rw [hh] at V2 e2
                clear hh
                go_wp2_with (go_at_call 71; refine HC.out.mono ?_; rintro e _ ⟨rfl, rfl⟩)
                refine wp_loop_rounds 4 ?_
                rw [rounds_succ]
                go_wp2_with fail
                rw [rounds_succ]
                go_wp2_with fail
                rw [rounds_succ]
                go_wp2_with fail
                rw [rounds_succ]
                go_wp2_with fail
                exact ⟨⟨k + 1, by omega, by go_num, by rw [V2.out]; rfl, V1.out⟩, by simp [intOf]; omega⟩
              | false =>
                rw [hh] at V2 e2
                clear hh
                go_wp2_with (go_at_call 71; refine HC.out.mono ?_; rintro e _ ⟨rfl, rfl⟩)
                refine wp_loop_rounds 4 ?_
                rw [rounds_succ]
                go_wp2_with fail
                rw [rounds_succ]
                go_wp2_with fail
                rw [rounds_succ]
                go_wp2_with fail
                rw [rounds_succ]
                go_wp2_with fail
                exact ⟨⟨k + 1, by omega, by go_num, by rw [V2.out]; rfl, V1.out⟩, by simp [intOf]; omega⟩
    · obtain rfl : k = n := by omega
      have HRES : Hid (lackVal M ff (upTo a k) r = lookVal M ff (lst a k) r) := by
        show lackVal M ff (upTo a k) r = _
        have := HM.out
        unfold lookVal lackVal
        rw [HLST.out] at this ⊢
        rw [this]; rfl
      go_wp2_with fail
      go_ret
      exact ⟨by rw [HRES.out]; rfl, rfl⟩
set_option maxHeartbeats 1000000 in
set_option maxRecDepth 100000 in
theorem rlook_any (w : World) (b : Nat) (M : List Pg) (F : Nat → Prop) (h : RfIn w b M F) (a n : Nat) (ha : a < 18446744073709551616) (r : Int) (hr : r = 0 ∨ r = 1 ∨ r = 2) :
    Calls Try.prog 88 #[.pointer (some ⟨b, 0, none⟩), .int .u64 a, .int .u64 n, .int .i64 r] w fun e w' => e = .returned (.int .i64 (lookErr M a n r)) ∧ w = w' := by
  by_cases h0 : n = 0
  · have e : lookErr M a n r = 0 := by simp [lookErr, h0]
    rw [e]
    subst h0
    clear h e hr
    go_enter Try.func88, Try.ntmps88
    go_wp2_with fail
    go_ret
    exact ⟨rfl, rfl⟩
  · have hz : ((n : Int) == 0) = false := by simp; omega
    cases hin : inB a n with
    | false =>
      have HI1 : Hid (Calls Try.prog 87 #[.int .u64 a, .int .u64 n] w fun e w' => e = .returned (.bool false) ∧ w = w') := by
        have := rin_any w a n ha; rw [hin] at this; exact this
      have e : lookErr M a n r = 4 := by simp [lookErr, h0, hin]
      rw [e]
      clear h e hin hr
      go_enter Try.func88, Try.ntmps88
      go_wp2_with (go_at_call 87; refine HI1.out.mono ?_; rintro e _ ⟨rfl, rfl⟩)
      go_ret
      exact ⟨rfl, rfl⟩
    | true =>
      by_cases hbig : n ≤ 33554432
      · have e0 : lookErr M a n r = lookVal M (fst a) (lst a n) r := by unfold lookErr lookVal; rw [if_neg h0, if_neg (by simp [hin])]
        rw [e0]
        exact rlook_in w b M F h a n r hr (by omega) hin hbig
      · have HI1 : Hid (Calls Try.prog 87 #[.int .u64 a, .int .u64 n] w fun e w' => e = .returned (.bool true) ∧ w = w') := by
          have := rin_any w a n ha; rw [hin] at this; exact this
        rw [look_big h.ok (by omega)]
        have i1 : (33554432 : Int) < (n : Int) := by omega
        clear h hin hr hbig
        go_enter Try.func88, Try.ntmps88
        go_wp2_with (go_at_call 87; refine HI1.out.mono ?_; rintro e _ ⟨rfl, rfl⟩)
        go_ret
        exact ⟨rfl, rfl⟩
end Go.Proofs.Ytepnaalgobhcdaa
