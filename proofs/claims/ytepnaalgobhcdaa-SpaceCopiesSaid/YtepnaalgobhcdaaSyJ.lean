/- SpaceCopies, walked. -/
import Derived.Test.YtepnaalgobhcdaaSyI
import Derived.Deep.Cut
namespace Go.Proofs.Ytepnaalgobhcdaa
open Go.RowKit Spm

theorem TellsB.tt {w w' : World} {C : Prop} {e : Ending} (h : TellsB w C e w') (hc : C) : e = .returned (.bool true) ∧ Below w.heap.size w w' := by
  obtain ⟨b, rfl, hb, h2⟩ := h
  rw [hb.2 hc]
  exact ⟨rfl, h2⟩
theorem act_get {w W : World} {a : Option Addr} {c : Nat} {l : List ActM} (h : Acts w a c l) (hf : fewB l l.length) (hB : Below w.heap.size w W) {i : Nat} (hi : i < l.length) :
    ∃ (b o : Nat) (u : Value) (x : ActM), a = some ⟨b, o, none⟩ ∧ CellsAt W b (o + i * 5) (actArr x u) ∧ ActIn w x u := by
  obtain ⟨b, o, rfl, u, hc, h1, h2, hu, hnil⟩ := h.2.2 i hi
  exact ⟨b, o, u, _, rfl, hc.keep hB, h1, h2, hu, hf i hi, hnil⟩
set_option maxHeartbeats 8000000 in
set_option maxRecDepth 100000 in
theorem copies_any (w : World) (a0 : Option Addr) (c0 : Nat) (l0 : List ActM) (h0 : Acts w a0 c0 l0) (a1 : Option Addr) (c1 : Nat) (l1 : List ActM) (h1 : Acts w a1 c1 l1) (a2 : Option Addr) (c2 : Nat) (l2 : List ActM) (h2 : Acts w a2 c2 l2) :
    Calls Try.prog 6 #[.slice a0 l0.length c0, .slice a1 l1.length c1, .slice a2 l2.length c2] w fun e w' => e = .returned (.bool true) ∧ Below w.heap.size w w' := by
  have HF0 : Hid (Calls Try.prog 27 #[.slice a0 l0.length c0, .int .i64 20, .int .u64 30] w (SomeBool w l0 20)) := few07_any w a0 c0 l0 h0 20 30 (by decide) (by decide)
  have HF1 : Hid (Calls Try.prog 27 #[.slice a1 l1.length c1, .int .i64 20, .int .u64 30] w (SomeBool w l1 20)) := few07_any w a1 c1 l1 h1 20 30 (by decide) (by decide)
  have HF2 : Hid (Calls Try.prog 27 #[.slice a2 l2.length c2, .int .i64 20, .int .u64 30] w (SomeBool w l2 20)) := few07_any w a2 c2 l2 h2 20 30 (by decide) (by decide)
  have HKN : Hid (∀ w1 : World, Calls Try.prog 23 #[] w1 fun e w' => e = .returned (.bool true) ∧ Below w1.heap.size w1 w') := known_any
  have HN : Hid (∀ W : World, Calls Try.prog 24 #[] W fun e w' => e = .returned (.pointer (some ⟨W.heap.size + 1, 0, none⟩)) ∧ SpIn w' (W.heap.size + 1) [] (newF W) ∧ Below W.heap.size W w' ∧ w'.heap.size = W.heap.size + 2) := new_any
  have e0 := h0.1
  have e1 := h1.1
  have e2 := h2.1
  have m0 := h0.2.1
  have m1 := h1.2.1
  have m2 := h2.2.1
  have HL0 := Lib.hid h0
  have HL1 := Lib.hid h1
  have HL2 := Lib.hid h2
  have hi59 : (Try.prog.info? 59).map (·.size) = some 5 := by kernel_rfl
  have HI59 := Lib.hid hi59
  clear h0 h1 h2 hi59
  go_enter Try.func6, Try.ntmps6
  go_upto_region 1 with fail
  go_wp2_with (first
    | (go_at_call 27; refine HF0.out.mono ?_; rintro e w' ⟨⟨b, rfl, hb⟩, rfl⟩; have HB0 := Lib.hid hb; clear hb HF0; cases b)
    | (go_at_call 27; refine HF1.out.mono ?_; rintro e w' ⟨⟨b, rfl, hb⟩, rfl⟩; have HB1 := Lib.hid hb; clear hb HF1; cases b)
    | (go_at_call 27; refine HF2.out.mono ?_; rintro e w' ⟨⟨b, rfl, hb⟩, rfl⟩; have HB2 := Lib.hid hb; clear hb HF2; cases b)
    | (go_at_call 23; refine (HKN.out _).mono ?_; rintro e w' ⟨rfl, hb⟩; have HB5 := Lib.hid hb; clear hb)
    | (go_at_call 24; refine (HN.out _).mono ?_; rintro e w1 ⟨rfl, g1, g2, g3⟩; have HT0 : Hid (Two w (w.heap.size + 1) w1.heap.size [] [] (w1.alloc (.cells #[.slice none 0 0, .slice none 0 0, .slice none 0 0] 55))) := two_new g1 g2; clear g1 g2 g3))
  · go_ret; exact ⟨rfl, HB5.out⟩
  · go_ret; exact ⟨rfl, HB5.out⟩
  · go_ret; exact ⟨rfl, HB5.out⟩
  have HFB0 := Lib.hid (HB0.out (by simp)).2
  have HFB1 := Lib.hid (HB1.out (by simp)).2
  have HFB2 := Lib.hid (HB2.out (by simp)).2
  clear HN HB0 HB1 HB2
  obtain ⟨s, hs⟩ : ∃ s, s = w.heap.size + 1 := ⟨_, rfl⟩
  obtain ⟨r, hr⟩ : ∃ r, r = w1.heap.size := ⟨_, rfl⟩
  rw [← hs, ← hr] at HT0
  rw [← hs, ← hr]
  clear hs hr
  go_loopw [9] (fun t wr => ∃ (i : Nat) (M : List Pg), i ≤ l0.length ∧ t = .int .i64 i ∧ Hid (Two w s r M M wr)) (fun t _ => l0.length - (intOf t).toNat)
  case atStart => exact ⟨0, [], Nat.zero_le _, rfl, HT0.out⟩
  case round =>
    clear HT0
    obtain ⟨i, M, hi, rfl, HT⟩ := hrel
    by_cases hlt : i < l0.length
    · obtain ⟨b, o, u, x, rfl, hc, ha⟩ := act_get HL0.out HFB0.out HT.out.below hlt
      have HC := Lib.hid hc
      have HDO := Lib.hid (do_any HT.out x u ha)
      have j1 : (0 : Int) ≤ (i : Int) := by omega
      have j2 : (i : Int) < (l0.length : Int) := by omega
      clear hc ha
      go_wp2_with (first
        | (refine wpList_load_agg 59 (.tmp 42) rfl rfl b (o + i * 5) rfl _ _ HC.out Try.underlying59 rfl HI59.out ?_)
        | (go_at_call 28; refine HDO.out.mono ?_; rintro e w2 ⟨rfl, g2⟩; have HT2 := Lib.hid g2; clear g2))
      go_round
      case rel => exact ⟨i + 1, _, by omega, by go_num, HT2.out⟩
      case measure => simp [intOf]; omega
    · clear HL0 HFB0
      obtain ⟨wz, rfl⟩ : ∃ wz : World, wz = wr := ⟨_, rfl⟩
      have HCP : Hid (Calls Try.prog 29 #[.pointer (some ⟨s, 0, none⟩)] wz (CopyRes wz M)) := by
        obtain ⟨F, G, h1, _⟩ := HT.out.own
        exact copy_any wz s M F h1
      have HRC : Hid (∀ {w2}, Two w s r M M w2 → Calls Try.prog 30 #[.pointer (some ⟨r, 0, none⟩)] w2 (RCopyRes w2 M)) := fun {w2} h2 => by
        obtain ⟨F, G, _, h1, _⟩ := h2.own
        exact rcopy_any w2 r M G h1
      go_wp2_with (first
        | (go_at_call 29; refine HCP.out.mono ?_; rintro e w2 ⟨o, rfl, q1, q2⟩; have HQ1 := Lib.hid q1; have HQ2 := Lib.hid q2; have HT2 := Lib.hid (HT.out.keep q2); clear q1 q2)
        | (go_at_call 30; refine (HRC.out HT2.out).mono ?_; rintro e w3 ⟨v, rfl, q3, q4⟩; have HM := Lib.hid (Four.made HT.out HQ1.out HQ2.out q3 q4); clear q3 q4)
        | (go_at_call 31; refine (four_same HM4.out.swap).mono ?_; rintro e w5 ht; obtain ⟨rfl, hb5⟩ := ht.tt rfl; have HSTART := Lib.hid (HM4.out.keep hb5); clear hb5 ht)
        | (go_at_call 31; refine (four_same HM.out).mono ?_; rintro e w4 ht; obtain ⟨rfl, hb4⟩ := ht.tt rfl; have HM4 := Lib.hid (HM.out.keep hb4); clear hb4 ht))
      clear HCP HRC HT HT2 HQ1 HQ2 HM HM4
      go_loopw [12] (fun t wr => ∃ (i : Nat) (M N : List Pg), i ≤ l1.length ∧ t = .int .i64 i ∧ Hid (Four w s r o v M N wr)) (fun t _ => l1.length - (intOf t).toNat)
      case atStart => exact ⟨0, _, _, Nat.zero_le _, rfl, HSTART.out⟩
      case round =>
        clear HSTART
        obtain ⟨i, M, N, hi, rfl, HX⟩ := hrel
        by_cases hlt : i < l1.length
        · obtain ⟨b, oo, u, x, rfl, hc, ha⟩ := act_get HL1.out HFB1.out HX.out.below hlt
          have HC := Lib.hid hc
          have HDO := Lib.hid (four_do HX.out x u ha)
          have j1 : (0 : Int) ≤ (i : Int) := by omega
          have j2 : (i : Int) < (l1.length : Int) := by omega
          clear hc ha
          go_wp2_with (first
            | (refine wpList_load_agg 59 (.tmp 70) rfl rfl b (oo + i * 5) rfl _ _ HC.out Try.underlying59 rfl HI59.out ?_)
            | (go_at_call 28; refine HDO.out.mono ?_; rintro e w2 ⟨rfl, g2⟩; have HX2 := Lib.hid g2; clear g2))
          go_round
          case rel => exact ⟨i + 1, _, N, by omega, by go_num, HX2.out⟩
          case measure => simp [intOf]; omega
        · clear HL1 HFB1
          have HSTART := HX
          clear HX
          obtain ⟨wy, rfl⟩ : ∃ wy : World, wy = wr := ⟨_, rfl⟩
          go_wp2_with fail
          go_loopw [13] (fun t wr => ∃ (i : Nat) (M N : List Pg), i ≤ l2.length ∧ t = .int .i64 i ∧ Hid (Four w s r o v M N wr)) (fun t _ => l2.length - (intOf t).toNat)
          case atStart => exact ⟨0, _, _, Nat.zero_le _, rfl, HSTART.out⟩
          case round =>
            clear HSTART
            obtain ⟨i, M, N, hi, rfl, HX⟩ := hrel
            by_cases hlt : i < l2.length
            · obtain ⟨b, oo, u, x, rfl, hc, ha⟩ := act_get HL2.out HFB2.out HX.out.below hlt
              have HC := Lib.hid hc
              have HDO := Lib.hid (four_do HX.out.swap x u ha)
              have j1 : (0 : Int) ≤ (i : Int) := by omega
              have j2 : (i : Int) < (l2.length : Int) := by omega
              clear hc ha
              go_wp2_with (first
                | (refine wpList_load_agg 59 (.tmp 84) rfl rfl b (oo + i * 5) rfl _ _ HC.out Try.underlying59 rfl HI59.out ?_)
                | (go_at_call 28; refine HDO.out.mono ?_; rintro e w2 ⟨rfl, g2⟩; have HX2 := Lib.hid g2; clear g2))
              go_round
              case rel => exact ⟨i + 1, M, _, by omega, by go_num, HX2.out.swap⟩
              case measure => simp [intOf]; omega
            · clear HL2 HFB2
              obtain ⟨wx, rfl⟩ : ∃ wx : World, wx = wr := ⟨_, rfl⟩
              have HDR : Hid (∀ {W : World}, Four w s r o v M N W → Calls Try.prog 33 #[.pointer (some ⟨r, 0, none⟩)] W (LsRes W M)) := fun h => four_rdump h
              have HDV : Hid (∀ {W : World}, Four w s r o v M N W → Calls Try.prog 33 #[.pointer (some ⟨v, 0, none⟩)] W (LsRes W N)) := fun h => four_rdump h.swap
              have HDS : Hid (∀ {W : World}, Four w s r o v M N W → Calls Try.prog 34 #[.pointer (some ⟨s, 0, none⟩)] W (LsRes W M)) := fun h => four_dump h
              have HDO : Hid (∀ {W : World}, Four w s r o v M N W → Calls Try.prog 34 #[.pointer (some ⟨o, 0, none⟩)] W (LsRes W N)) := fun h => four_dump h.swap
              have H0 := HX
              have HAL : Hid (∀ {W : World} {p1 p2 : Option Addr} {k1 k2 : Nat}, PcsR W p1 (runsM M) → PcsR W p2 (runsM N) → Calls Try.prog 32 #[.slice p1 (runsM M).length k1, .slice p2 (runsM N).length k2] W (TellsB W (M = N))) := fun q1 q2 => four_alike H0.out q1 q2
              have HSM : Hid (∀ {W : World} {p1 p2 : Option Addr} {k1 k2 : Nat}, PcsR W p1 (runsM M) → PcsR W p2 (runsM M) → Calls Try.prog 32 #[.slice p1 (runsM M).length k1, .slice p2 (runsM M).length k2] W fun e w' => e = .returned (.bool true) ∧ Below W.heap.size W w') := fun {W p1 p2 k1 k2} q1 q2 => by
                have hf := (four_few H0.out).1
                refine (rsame_any W p1 p2 k1 k2 _ _ q1 q2 (by omega) (by omega)).mono ?_
                rintro e w' ⟨rfl, hb⟩
                exact ⟨by rw [eqRns_refl], hb⟩
              have HSN : Hid (∀ {W : World} {p1 p2 : Option Addr} {k1 k2 : Nat}, PcsR W p1 (runsM N) → PcsR W p2 (runsM N) → Calls Try.prog 32 #[.slice p1 (runsM N).length k1, .slice p2 (runsM N).length k2] W fun e w' => e = .returned (.bool true) ∧ Below W.heap.size W w') := fun {W p1 p2 k1 k2} q1 q2 => by
                have hf := (four_few H0.out.swap).1
                refine (rsame_any W p1 p2 k1 k2 _ _ q1 q2 (by omega) (by omega)).mono ?_
                rintro e w' ⟨rfl, hb⟩
                exact ⟨by rw [eqRns_refl], hb⟩
              clear H0
              go_upto_region 23 with (first
                | (go_at_call 32; refine (HAL.out P1'.out P2.out).mono ?_; rintro e u3 ⟨al, rfl, hal, b3⟩; have X3 := Lib.hid (X2.out.keep b3); have HALI := Lib.hid hal; clear hal b3)
                | (go_at_call 33; refine (HDV.out X1.out).mono ?_; rintro e u2 ⟨p2, k2, rfl, _, _, q2, b2⟩; have X2 := Lib.hid (X1.out.keep b2); have P2 := Lib.hid q2; have P1' := Lib.hid (P1.out.keep b2); clear q2 b2)
                | (go_at_call 33; refine (HDR.out HX.out).mono ?_; rintro e u1 ⟨p1, k1, rfl, _, _, q1, b1⟩; have X1 := Lib.hid (HX.out.keep b1); have P1 := Lib.hid q1; clear q1 b1))
              have HS1 : Hid (∀ {W : World}, Four w s r o v M N W → Calls Try.prog 31 #[.pointer (some ⟨s, 0, none⟩), .pointer (some ⟨o, 0, none⟩)] W fun e w' => e = .returned (.bool al) ∧ Below W.heap.size W w') := fun {W} h => (four_same h).mono fun e w' ⟨t, h1, h2, h3⟩ => by
                have : t = al := by rw [Bool.eq_iff_iff, h2, HALI.out]
                subst this; exact ⟨h1, h3⟩
              have HS2 : Hid (∀ {W : World}, Four w s r o v M N W → Calls Try.prog 31 #[.pointer (some ⟨o, 0, none⟩), .pointer (some ⟨s, 0, none⟩)] W fun e w' => e = .returned (.bool al) ∧ Below W.heap.size W w') := fun {W} h => (four_same h.swap).mono fun e w' ⟨t, h1, h2, h3⟩ => by
                have : t = al := by rw [Bool.eq_iff_iff, h2, HALI.out]; exact ⟨fun h => h.symm, fun h => h.symm⟩
                subst this; exact ⟨h1, h3⟩
              clear HALI HAL HX X1 X2 P1 P2 P1'
              cases al
              all_goals
                go_wp2_with (first
                  | (go_at_call 34; refine (HDO.out X6.out).mono ?_; rintro e u7 ⟨p7, k7, rfl, _, _, q7, b7⟩; have X7 := Lib.hid (X6.out.keep b7); have P7 := Lib.hid q7; clear q7 b7)
                  | (go_at_call 34; refine (HDS.out X3.out).mono ?_; rintro e u4 ⟨p4, k4, rfl, _, _, q4, b4⟩; have X4 := Lib.hid (X3.out.keep b4); have P4 := Lib.hid q4; clear q4 b4)
                  | (go_at_call 33; refine (HDV.out X7.out).mono ?_; rintro e u8 ⟨p8, k8, rfl, _, _, q8, b8⟩; have X8 := Lib.hid (X7.out.keep b8); have P8 := Lib.hid q8; have P7' := Lib.hid (P7.out.keep b8); clear q8 b8)
                  | (go_at_call 33; refine (HDR.out X4.out).mono ?_; rintro e u5 ⟨p5, k5, rfl, _, _, q5, b5⟩; have X5 := Lib.hid (X4.out.keep b5); have P5 := Lib.hid q5; have P4' := Lib.hid (P4.out.keep b5); clear q5 b5)
                  | (go_at_call 32; refine (HSN.out P7'.out P8.out).mono ?_; rintro e u9 ⟨rfl, b9⟩; have X9 := Lib.hid (X8.out.keep b9); clear b9)
                  | (go_at_call 32; refine (HSM.out P4'.out P5.out).mono ?_; rintro e u6 ⟨rfl, b6⟩; have X6 := Lib.hid (X5.out.keep b6); clear b6)
                  | (go_at_call 31; refine (HS2.out X10.out).mono ?_; rintro e u11 ⟨rfl, b11⟩; have X11 := Lib.hid (X10.out.keep b11); clear b11)
                  | (go_at_call 31; refine (HS1.out X9.out).mono ?_; rintro e u10 ⟨rfl, b10⟩; have X10 := Lib.hid (X9.out.keep b10); clear b10)
                  | (go_at_call 23; refine (HKN.out _).mono ?_; rintro e u12 ⟨rfl, b12⟩; have X12 := Lib.hid (X11.out.keep b12); clear b12))
                go_ret
                exact ⟨rfl, X12.out.below⟩
end Go.Proofs.Ytepnaalgobhcdaa
