/- The reference's Map: every answer. -/
import Derived.Test.YtepnaalgobhcdaaRfE
namespace Go.Proofs.Ytepnaalgobhcdaa
open Go.RowKit Spm

theorem RfIn.grown {w w' : World} {b : Nat} {M : List Pg} {F : Nat → Prop} (h : RfIn w b M F) (hb : Below w.heap.size w w') : RfIn w' b M (grow F w w') := by
  obtain ⟨h1, ⟨aA, cA, aB, cB, aP, cP, A, C, h2, h3⟩, h4, h5⟩ := h.keepB hb
  exact ⟨h1, ⟨aA, cA, aB, cB, aP, cP, A, C, h2, h3.ats.mono fun _ h => .inl h, h3.bys.mono fun _ h => .inl h, h3.prs.mono fun _ h => .inl h, fun p hp => (h3.page p hp).mono fun _ h => .inl h, h3.apart⟩, .inl h4, fun k hk => by
    rcases hk with hk | hk
    · exact h5 k hk
    · exact hk.2⟩
theorem RMapRes.no {w : World} {b : Nat} {M : List Pg} {F : Nat → Prop} {a n : Nat} {prot : Int} {er : Int} (h : RfIn w b M F) (he : mapErr M a n prot = er) (h0 : er ≠ 0) : RMapRes w b M F a n prot (.returned (.int .i64 er)) w := by
  refine ⟨by rw [he], ?_, Chg.refl _ _⟩
  unfold mapM
  rw [if_neg (by rw [he]; exact h0)]
  exact h.grown (Below.refl _ w)

set_option maxHeartbeats 1000000 in
set_option maxRecDepth 100000 in
theorem rmap_bad (w : World) (b : Nat) (M : List Pg) (F : Nat → Prop) (h : RfIn w b M F) (a n : Nat) (prot : Int) (hbad : badArg a n prot = true) :
    Calls Try.prog 66 #[.pointer (some ⟨b, 0, none⟩), .int .u64 a, .int .u64 n, .int .i64 prot] w (RMapRes w b M F a n prot) := by
  have HR := Lib.hid (RMapRes.no h (show mapErr M a n prot = 2 by unfold mapErr; rw [if_pos hbad]) (by decide))
  clear h
  by_cases h1 : a % 4096 = 0
  · have b1 : ((a : Int) % 4096 != 0) = false := by rw [bne_eq_false_iff_eq]; omega
    by_cases h2 : n % 4096 = 0
    · have b2 : ((n : Int) % 4096 != 0) = false := by rw [bne_eq_false_iff_eq]; omega
      by_cases h3 : n = 0
      · have b3 : ((n : Int) == 0) = true := by simp; exact h3
        clear hbad h1 h2 h3
        go_enter Try.func66, Try.ntmps66
        go_wp2_with fail
        go_ret
        exact HR.out
      · have b3 : ((n : Int) == 0) = false := by simp; exact h3
        by_cases h4 : prot < 1
        · clear hbad h1 h2 h3
          go_enter Try.func66, Try.ntmps66
          go_wp2_with fail
          go_ret
          exact HR.out
        · have h5 : 7 < prot := by simp [badArg, h1, h2, h3, h4] at hbad; exact hbad
          clear hbad h1 h2 h3
          go_enter Try.func66, Try.ntmps66
          go_wp2_with fail
          go_ret
          exact HR.out
    · have b2 : ((n : Int) % 4096 != 0) = true := by rw [bne_iff_ne]; omega
      clear hbad h1 h2
      go_enter Try.func66, Try.ntmps66
      go_wp2_with fail
      go_ret
      exact HR.out
  · have b1 : ((a : Int) % 4096 != 0) = true := by rw [bne_iff_ne]; omega
    clear hbad h1
    go_enter Try.func66, Try.ntmps66
    go_wp2_with fail
    go_ret
    exact HR.out

set_option maxHeartbeats 1000000 in
set_option maxRecDepth 100000 in
theorem rmap_any (w : World) (b : Nat) (M : List Pg) (F : Nat → Prop) (h : RfIn w b M F) (a n : Nat) (ha : a < 18446744073709551616) (prot : Int) :
    Calls Try.prog 66 #[.pointer (some ⟨b, 0, none⟩), .int .u64 a, .int .u64 n, .int .i64 prot] w (RMapRes w b M F a n prot) := by
  cases hbad : badArg a n prot with
  | true => exact rmap_bad w b M F h a n prot hbad
  | false =>
    have hb2 := hbad
    simp only [badArg, Bool.or_eq_false_iff, bne_eq_false_iff_eq, beq_eq_false_iff_ne, decide_eq_false_iff_not] at hb2
    obtain ⟨⟨⟨⟨h1, h2⟩, h3⟩, h4⟩, h5⟩ := hb2
    have b1 : ((a : Int) % 4096 != 0) = false := by rw [bne_eq_false_iff_eq]; omega
    have b2 : ((n : Int) % 4096 != 0) = false := by rw [bne_eq_false_iff_eq]; omega
    have b3 : ((n : Int) == 0) = false := by simp; omega
    have e0 : mapErr M a n prot = if inB a n = false then 4 else if freeB M a n = false then 21 else if 8192 - M.length < n / 4096 then 11 else 0 := by unfold mapErr; rw [if_neg (by simp [hbad])]
    cases hin : inB a n with
    | false =>
      have HI1 : Hid (Calls Try.prog 87 #[.int .u64 a, .int .u64 n] w fun e w' => e = .returned (.bool false) ∧ w = w') := by
        have := rin_any w a n ha; rw [hin] at this; exact this
      have HR := Lib.hid (RMapRes.no h (show mapErr M a n prot = 4 by rw [e0, if_pos hin]) (by decide))
      clear h e0 hin hbad h1 h2 h3
      go_enter Try.func66, Try.ntmps66
      go_wp2_with (go_at_call 87; refine HI1.out.mono ?_; rintro e _ ⟨rfl, rfl⟩)
      go_ret
      exact HR.out
    | true =>
      have HI1 : Hid (Calls Try.prog 87 #[.int .u64 a, .int .u64 n] w fun e w' => e = .returned (.bool true) ∧ w = w') := by
        have := rin_any w a n ha; rw [hin] at this; exact this
      cases hfr : freeB M a n with
      | false =>
        have HFR : Hid (Calls Try.prog 72 #[.pointer (some ⟨b, 0, none⟩), .int .u64 a, .int .u64 n] w fun e w' => e = .returned (.bool false) ∧ w = w') := by
          have := rfree_any w b M F h a n ha; rw [hfr] at this; exact this
        have HR := Lib.hid (RMapRes.no h (show mapErr M a n prot = 21 by rw [e0, if_neg (by simp [hin]), if_pos hfr]) (by decide))
        clear h e0 hin hbad h1 h2 h3 hfr
        go_enter Try.func66, Try.ntmps66
        go_wp2_with (first
          | (go_at_call 87; refine HI1.out.mono ?_; rintro e _ ⟨rfl, rfl⟩)
          | (go_at_call 72; refine HFR.out.mono ?_; rintro e _ ⟨rfl, rfl⟩))
        go_ret
        exact HR.out
      | true =>
        by_cases hmany : 8192 - M.length < n / 4096
        · have HFR : Hid (Calls Try.prog 72 #[.pointer (some ⟨b, 0, none⟩), .int .u64 a, .int .u64 n] w fun e w' => e = .returned (.bool true) ∧ w = w') := by
            have := rfree_any w b M F h a n ha; rw [hfr] at this; exact this
          have HR := Lib.hid (RMapRes.no h (show mapErr M a n prot = 11 by rw [e0, if_neg (by simp [hin]), if_neg (by simp [hfr]), if_pos hmany]) (by decide))
          have hlen := h.ok.few
          have hnl : (n : Int) ≤ 140737488355328 := by simp [inB] at hin; omega
          obtain ⟨aA, cA, aB, cB, aP, cP, A0, C0, hb, hp⟩ := h.own
          have cb0 : w.cell? ⟨b, 0, none⟩ = some (.slice aA M.length cA) := by simp [World.cell?, hb, rfCells]
          have hcapA := hp.ats.cap
          have i1 : (8192 : Int) - (M.length : Int) < (n : Int) / 4096 := by omega
          clear h e0 hin hbad h1 h2 h3 hfr hmany hb hp
          go_enter Try.func66, Try.ntmps66
          go_wp2_with (first
            | (go_at_call 87; refine HI1.out.mono ?_; rintro e _ ⟨rfl, rfl⟩)
            | (go_at_call 72; refine HFR.out.mono ?_; rintro e _ ⟨rfl, rfl⟩))
          go_ret
          exact HR.out
        · have e1 : mapErr M a n prot = 0 := by rw [e0, if_neg (by simp [hin]), if_neg (by simp [hfr]), if_neg hmany]
          obtain ⟨f, rfl⟩ : ∃ f, a = f * 4096 := ⟨a / 4096, by omega⟩
          obtain ⟨k, rfl⟩ : ∃ k, n = k * 4096 := ⟨n / 4096, by omega⟩
          have := rmap_good w b M F h f k prot e1
          rw [show ((f * 4096 : Nat) : Int) = (f : Int) * 4096 by omega, show ((k * 4096 : Nat) : Int) = (k : Int) * 4096 by omega]
          exact this
end Go.Proofs.Ytepnaalgobhcdaa
