/- SpacePlays, walked. -/
import Derived.Test.YtepnaalgobhcdaaBnN
import Derived.Deep.RegionWith
import Derived.Deep.Cut
namespace Go.Proofs.Ytepnaalgobhcdaa
open Go.RowKit Spm

set_option maxHeartbeats 8000000 in
set_option maxRecDepth 100000 in
theorem plays_any (w : World) (a : Option Addr) (c : Nat) (l : List ActM) (h : Acts w a c l) (leave : Int) :
    Calls Try.prog 15 #[.slice a l.length c, .int .i64 leave] w fun e w' => e = .returned (.bool true) ∧ Below w.heap.size w w' := by
  have HFEW : Hid (Calls Try.prog 27 #[.slice a l.length c, .int .i64 40, .int .u64 40] w (SomeBool w l 40)) := few07_any w a c l h 40 40 (by decide) (by decide)
  have HKN : Hid (∀ w1 : World, Calls Try.prog 23 #[] w1 fun e w' => e = .returned (.bool true) ∧ Below w1.heap.size w1 w') := known_any
  have HN : Hid (∀ W : World, Calls Try.prog 24 #[] W fun e w' => e = .returned (.pointer (some ⟨W.heap.size + 1, 0, none⟩)) ∧ SpIn w' (W.heap.size + 1) [] (newF W) ∧ Below W.heap.size W w' ∧ w'.heap.size = W.heap.size + 2) := new_any
  have hlc := h.1
  have hcm := h.2.1
  have HL := Lib.hid h
  clear h
  go_enter Try.func15, Try.ntmps15
  go_upto_region 1 with fail
  go_wp2_with (first
    | (go_at_call 27; refine HFEW.out.mono ?_; rintro e w' ⟨⟨b, rfl, hb⟩, rfl⟩; have HB := Lib.hid hb; clear hb; cases b)
    | (go_at_call 23; refine (HKN.out _).mono ?_; rintro e w' ⟨rfl, hb⟩; have HB5 := Lib.hid hb; clear hb)
    | (go_at_call 24; refine (HN.out _).mono ?_; rintro e w1 ⟨rfl, h1, h2, h3⟩; have HT0 : Hid (Two w (w.heap.size + 1) w1.heap.size [] [] (w1.alloc (.cells #[.slice none 0 0, .slice none 0 0, .slice none 0 0] 55))) := two_new h1 h2; clear h1 h2 h3))
  · go_ret
    exact ⟨rfl, HB5.out⟩
  have HFB := Lib.hid (HB.out (by simp))
  clear HN HFEW HB
  go_loopw [7] (fun t wr => ∃ (i : Nat) (M : List Pg), i ≤ l.length ∧ t = .int .i64 i ∧ Hid (Two w (w.heap.size + 1) w1.heap.size M M wr)) (fun t _ => l.length - (intOf t).toNat)
  case atStart => exact ⟨0, [], Nat.zero_le _, rfl, HT0.out⟩
  case round =>
    clear HT0
    obtain ⟨i, M, hi, rfl, HT⟩ := hrel
    by_cases hlt : i < l.length
    · obtain ⟨b, o, rfl, u, hc, h1, h2, hu, hnil⟩ := HL.out.2.2 i hlt
      obtain ⟨x, hx⟩ : ∃ x, x = l.getD i ⟨0, 0, 0, 0, []⟩ := ⟨_, rfl⟩
      have hfx := HFB.out.2 i hlt
      rw [← hx] at hc h1 h2 hu hfx
      have HA : Hid (ActIn w x u) := ⟨h1, h2, hu, hfx, hnil⟩
      have HDO : Hid (Calls Try.prog 28 #[.pointer (some ⟨w.heap.size + 1, 0, none⟩), .pointer (some ⟨w1.heap.size, 0, none⟩), .agg (actArr x u)] wr.drew (DoRes (fun _ => False) w w (w.heap.size + 1) w1.heap.size M x)) := do_any (HT.out.keep (Below.refl _ wr).drew) x u HA.out
      have HBB : Hid (∀ {w2}, Below w.heap.size w w2 → CellsAt w2 b (o + i * 5) (actArr x u)) := fun hb => hc.keep hb
      have hbc : Hid (CellsAt wr b (o + i * 5) (actArr x u)) := hc.keep HT.out.below
      clear hc h1 h2 hu hnil hx hfx HA
      go_wp2_with fail
      have i1 : (0 : Int) ≤ (i : Int) := by omega
      have i2 : (i : Int) < (l.length : Int) := by omega
      have hS0 : CellsAt wr.drew b (o + i * 5) (actArr x u) := hbc.out.keep (Below.refl _ wr).drew
      refine wp_region_held (S := fun W' => CellsAt W' b (o + i * 5) (actArr x u)) (by kernel_rfl) ?_
      change wpAnyH _ _ _ _ _ _ _ _ wr.drew
      refine takeH (i := 0) (v := .pointer (some ⟨w.heap.size + 1, 0, none⟩)) rfl rfl (by kernel_rfl) (by kernel_rfl) (by kernel_rfl) (fun _ _ _ h => h) (.inl ⟨by rfl, fun W' hS => ?y0⟩) hS0 ?_
      case y0 => go_simp
      simp only [List.setIfInBounds_toArray, List.set_cons_zero, List.set_cons_succ]
      refine takeH (i := 1) (v := .pointer (some ⟨w1.heap.size, 0, none⟩)) rfl rfl (by kernel_rfl) (by kernel_rfl) (by kernel_rfl) (fun _ _ _ h => h) (.inl ⟨by rfl, fun W' hS => ?y1⟩) hS0 ?_
      case y1 => go_simp
      simp only [List.setIfInBounds_toArray, List.set_cons_zero, List.set_cons_succ]
      refine takeH (i := 2) (v := .slice (some ⟨b, o, none⟩) l.length c) rfl rfl (by kernel_rfl) (by kernel_rfl) (by kernel_rfl) (fun _ _ _ h => h) (.inl ⟨by rfl, fun W' hS => ?y2⟩) hS0 ?_
      case y2 => go_simp
      simp only [List.setIfInBounds_toArray, List.set_cons_zero, List.set_cons_succ]
      refine takeH (i := 3) (v := .int .i64 (i : Int)) rfl rfl (by kernel_rfl) (by kernel_rfl) (by kernel_rfl) (fun _ _ _ h => h) (.inl ⟨by rfl, fun W' hS => ?y3⟩) hS0 ?_
      case y3 => go_simp
      simp only [List.setIfInBounds_toArray, List.set_cons_zero, List.set_cons_succ]
      refine takeH (i := 4) (v := .pointer (some ⟨b, o + i * 5, none⟩)) rfl rfl (by kernel_rfl) (by kernel_rfl) (by kernel_rfl) (fun _ _ _ h => h) (.inl ⟨by rfl, fun W' hS => ?y4⟩) hS0 ?_
      case y4 => go_simp
      simp only [List.setIfInBounds_toArray, List.set_cons_zero, List.set_cons_succ]
      refine takeH (i := 5) (v := .agg (actArr x u)) rfl rfl (by kernel_rfl) (by kernel_rfl) (by kernel_rfl) (fun _ _ _ h => h) (.inl ⟨by rfl, fun W' hS => ?y5⟩) hS0 ?_
      case y5 => exact run_load_agg3 rfl b (o + i * 5) rfl _ _ hS Try.underlying59 rfl (by kernel_rfl)
      simp only [List.setIfInBounds_toArray, List.set_cons_zero, List.set_cons_succ]
      have hen := enters_of (P := Try.prog) Try.func28 (by kernel_rfl) rfl
      have hen2 := enters_of (P := Try.prog) Try.func26 (by kernel_rfl) rfl
      refine wpAnyH_one (i := 6) (by kernel_rfl) ?_
      refine wpOp_calls (i := 6) rfl (by rfl) ?enter HDO.out rfl ?_
      case enter => go_simp
      rintro e w2 ⟨rfl, g2⟩
      have HT2 := Lib.hid g2
      obtain ⟨aA, cA, cat⟩ := two_at g2
      have hS2 : CellsAt w2 b (o + i * 5) (actArr x u) := HBB.out g2.below
      obtain ⟨M', hM'⟩ : ∃ M', M' = actM M x := ⟨_, rfl⟩
      rw [← hM'] at HT2 cat
      clear g2 hM'
      refine ⟨.bool true, rfl, hS2, ?_⟩
      simp only [List.setIfInBounds_toArray, List.set_cons_zero, List.set_cons_succ]
      refine takeH (i := 7) (v := .bool false) rfl rfl (by kernel_rfl) (by kernel_rfl) (by kernel_rfl) (fun _ _ _ h => h) (.inl ⟨by rfl, fun W' hS => ?y7⟩) hS2 ?_
      case y7 => go_simp
      simp only [List.setIfInBounds_toArray, List.set_cons_zero, List.set_cons_succ]
      refine takeH (i := 8) (v := .bool false) rfl rfl (by kernel_rfl) (by kernel_rfl) (by kernel_rfl) (fun _ _ _ h => h) (.inl ⟨by rfl, fun W' hS => ?y8⟩) hS2 ?_
      case y8 => go_simp
      simp only [List.setIfInBounds_toArray, List.set_cons_zero, List.set_cons_succ]
      refine takeH (i := 9) (v := .pointer (some ⟨w.heap.size + 1, 0, none⟩)) rfl rfl (by kernel_rfl) (by kernel_rfl) (by kernel_rfl) (fun _ _ _ h => h) (.inl ⟨by rfl, fun W' hS => ?y9⟩) hS2 ?_
      case y9 => go_simp
      simp only [List.setIfInBounds_toArray, List.set_cons_zero, List.set_cons_succ]
      refine takeH (i := 11) (v := .pointer (some ⟨w1.heap.size, 0, none⟩)) rfl rfl (by kernel_rfl) (by kernel_rfl) (by kernel_rfl) (fun _ _ _ h => h) (.inl ⟨by rfl, fun W' hS => ?y11⟩) hS2 ?_
      case y11 => go_simp
      simp only [List.setIfInBounds_toArray, List.set_cons_zero, List.set_cons_succ]
      refine takeH (i := 12) (v := .pointer (some ⟨w1.heap.size, 0, none⟩)) rfl rfl (by kernel_rfl) (by kernel_rfl) (by kernel_rfl) (fun _ _ _ h => h) (.inl ⟨by rfl, fun W' hS => ?y12⟩) hS2 ?_
      case y12 => go_simp
      simp only [List.setIfInBounds_toArray, List.set_cons_zero, List.set_cons_succ]
      refine takeH (i := 13) (v := .pointer (some ⟨w1.heap.size, 0, none⟩)) rfl rfl (by kernel_rfl) (by kernel_rfl) (by kernel_rfl) (fun _ _ _ h => h) (.inl ⟨by rfl, fun W' hS => ?y13⟩) hS2 ?_
      case y13 => go_simp
      simp only [List.setIfInBounds_toArray, List.set_cons_zero, List.set_cons_succ]
      refine wpAnyH_all (rs := [10, 14]) (by kernel_rfl) (by simp) ?_
      intro jj hjj
      rcases List.mem_cons.1 hjj with rfl | hjj
      · refine wpOp_calls (i := 10) rfl (by rfl) ?enter2 (two_pages HT2.out) rfl ?_
        case enter2 => go_simp
        rintro e w3 ⟨rfl, rfl⟩
        refine ⟨.int .i64 (M'.length : Int), rfl, hS2, ?_⟩
        simp only [List.setIfInBounds_toArray, List.set_cons_zero, List.set_cons_succ]
        refine wpAnyH_one (i := 14) (by kernel_rfl) ?_
        refine wpOp_runsD (i := 14) (v := .slice aA M'.length cA) rfl (by rfl) ?ld14 rfl ⟨hS2, ?_⟩
        case ld14 => go_simp
        simp only [List.setIfInBounds_toArray, List.set_cons_zero, List.set_cons_succ]
        refine takeH (i := 15) (v := .int .i64 (M'.length : Int)) rfl rfl (by kernel_rfl) (by kernel_rfl) (by kernel_rfl) (fun _ _ _ h => h) (.inl ⟨by rfl, fun W' hS => ?y15⟩) hS2 ?_
        case y15 => go_simp
        simp only [List.setIfInBounds_toArray, List.set_cons_zero, List.set_cons_succ]
        refine takeH (i := 16) (v := .bool false) rfl rfl (by kernel_rfl) (by kernel_rfl) (by kernel_rfl) (fun _ _ _ h => h) (.inl ⟨by rfl, fun W' hS => ?y16⟩) hS2 ?_
        case y16 => go_simp
        simp only [List.setIfInBounds_toArray, List.set_cons_zero, List.set_cons_succ]
        refine takeH (i := 17) (v := .bool false) rfl rfl (by kernel_rfl) (by kernel_rfl) (by kernel_rfl) (fun _ _ _ h => h) (.inl ⟨by rfl, fun W' hS => ?y17⟩) hS2 ?_
        case y17 => go_simp
        simp only [List.setIfInBounds_toArray, List.set_cons_zero, List.set_cons_succ]
        refine wpAnyH_done (by kernel_rfl) ?_ _
        clear hS0 hS2 hen hen2 cat
        go_wp2_with fail
        go_round
        case rel => exact ⟨i + 1, M', by omega, by go_num, HT2.out⟩
        case measure => simp [intOf]; omega
      · obtain rfl := List.mem_singleton.1 hjj
        refine wpOp_runsD (i := 14) (v := .slice aA M'.length cA) rfl (by rfl) ?ld14 rfl ⟨hS2, ?_⟩
        case ld14 => go_simp
        simp only [List.setIfInBounds_toArray, List.set_cons_zero, List.set_cons_succ]
        refine takeH (i := 15) (v := .int .i64 (M'.length : Int)) rfl rfl (by kernel_rfl) (by kernel_rfl) (by kernel_rfl) (fun _ _ _ h => h) (.inl ⟨by rfl, fun W' hS => ?y15⟩) hS2 ?_
        case y15 => go_simp
        simp only [List.setIfInBounds_toArray, List.set_cons_zero, List.set_cons_succ]
        refine wpAnyH_one (i := 10) (by kernel_rfl) ?_
        refine wpOp_calls (i := 10) rfl (by rfl) ?enter2 (two_pages HT2.out) rfl ?_
        case enter2 => go_simp
        rintro e w3 ⟨rfl, rfl⟩
        refine ⟨.int .i64 (M'.length : Int), rfl, hS2, ?_⟩
        simp only [List.setIfInBounds_toArray, List.set_cons_zero, List.set_cons_succ]
        refine takeH (i := 16) (v := .bool false) rfl rfl (by kernel_rfl) (by kernel_rfl) (by kernel_rfl) (fun _ _ _ h => h) (.inl ⟨by rfl, fun W' hS => ?y16⟩) hS2 ?_
        case y16 => go_simp
        simp only [List.setIfInBounds_toArray, List.set_cons_zero, List.set_cons_succ]
        refine takeH (i := 17) (v := .bool false) rfl rfl (by kernel_rfl) (by kernel_rfl) (by kernel_rfl) (fun _ _ _ h => h) (.inl ⟨by rfl, fun W' hS => ?y17⟩) hS2 ?_
        case y17 => go_simp
        simp only [List.setIfInBounds_toArray, List.set_cons_zero, List.set_cons_succ]
        refine wpAnyH_done (by kernel_rfl) ?_ _
        clear hS0 hS2 hen hen2 cat
        go_wp2_with fail
        go_round
        case rel => exact ⟨i + 1, M', by omega, by go_num, HT2.out⟩
        case measure => simp [intOf]; omega
    · clear HFB HL
      have HD : Hid (Calls Try.prog 34 #[.pointer (some ⟨w.heap.size + 1, 0, none⟩)] wr (DumpRes wr M)) := two_dump HT.out
      have HRD : Hid (∀ {w2}, Two w (w.heap.size + 1) w1.heap.size M M w2 → Calls Try.prog 33 #[.pointer (some ⟨w1.heap.size, 0, none⟩)] w2 (LsRes w2 M)) := fun h2 => two_rdump h2
      have HPI : Hid (∀ {w2 : World} {a2 : Option Addr} {c2 : Nat} (m : Int), Two w (w.heap.size + 1) w1.heap.size M M w2 → PcsR w2 a2 (runsM M) → (runsM M).length ≤ c2 → c2 ≤ 9223372036854775807 → Calls Try.prog 59 #[.pointer (some ⟨w.heap.size + 1, 0, none⟩), .slice a2 (runsM M).length c2, .int .i64 m] w2 fun e w' => e = .returned (.bool true) ∧ Below w2.heap.size w2 w') := fun m h2 h3 h4 h5 => two_pieces h2 h3 h4 h5 m
      have HSA : Hid (∀ {w2 : World} {a1 a2 : Option Addr} {c1 c2 : Nat}, PcsR w2 a1 (runsM M) → PcsR w2 a2 (runsM M) → Calls Try.prog 32 #[.slice a1 (runsM M).length c1, .slice a2 (runsM M).length c2] w2 fun e w' => e = .returned (.bool true) ∧ Below w2.heap.size w2 w') := fun {w2 a1 a2 c1 c2} h1 h2 => by
        have hf := runs_few HT.out
        refine (rsame_any w2 a1 a2 c1 c2 _ _ h1 h2 (by omega) (by omega)).mono ?_
        rintro e w' ⟨rfl, hb⟩
        exact ⟨by rw [eqRns_refl], hb⟩
      have HPOS : Hid (∀ xs : List (Rn × Value), xs.map Prod.fst = runsM M → ∀ x ∈ xs, 0 < x.1.bytes.length) := fun xs hx => runs_pos HT.out.ok1 hx
      obtain ⟨n, hn⟩ : ∃ n, n = (runsM M).length := ⟨_, rfl⟩
      have hn1 : n ≤ 8192 := by rw [hn]; exact runs_few HT.out
      have HN2 := Lib.hid hn
      rw [← hn] at HPI HSA
      clear hn
      go_wp2_with (first
        | (go_at_call 34; refine HD.out.mono ?_; rintro e w2 ⟨v, xs, rfl, hx, hp, hb⟩; obtain ⟨a2, c2, hv, hc2, hcm2, hpr⟩ := hp.read; subst hv; have hxl : xs.length = n := by rw [HN2.out, ← hx, List.length_map]
           rw [hx, ← HN2.out] at hp ⊢; rw [hx] at hpr
           have HP := Lib.hid hp; have HB2 := Lib.hid hb; have HT2 := Lib.hid (HT.out.keep hb); have HPR := Lib.hid hpr; have HXL := Lib.hid hxl; have HX := Lib.hid hx; clear hx hp hb hpr hxl)
        | (go_at_call 33; refine (HRD.out HT2.out).mono ?_; rintro e w3 ⟨a3, c3, rfl, k1, k2, k3, k4⟩; rw [← HN2.out] at k1 ⊢; have HP3 := Lib.hid k3; have HB3 := Lib.hid k4; clear k1 k2 k3 k4)
        | (go_at_call 32; refine (HSA.out (HPR.out.keep HB3.out) HP3.out).mono ?_; rintro e w4 ⟨rfl, hb⟩; have HB4 := Lib.hid hb; clear hb))
      have HB24 : Hid (Below w2.heap.size w2 w4) := HB3.out.trans (below_le HB4.out HB3.out.size)
      have HDS := Lib.hid (DSt.start HT.out (HP.out.keep HB24.out) (HB2.out.trans (below_le HB24.out HB2.out.size)))
      obtain ⟨wb, rfl⟩ : ∃ wb : World, wb = wr := ⟨_, rfl⟩
      obtain ⟨BB, hBB⟩ : ∃ BB, BB = wb.heap.size := ⟨_, rfl⟩
      obtain ⟨TP, hTP⟩ : ∃ TP, TP = w4.heap.size := ⟨_, rfl⟩
      rw [← hBB, ← hTP] at HDS
      clear hBB hTP
      go_loopw [9] (fun t wr => ∃ j : Nat, j ≤ n ∧ t = .int .i64 j ∧ Hid (DSt w (w.heap.size + 1) w1.heap.size M BB TP (.slice a2 n c2) xs wr)) (fun t _ => n - (intOf t).toNat)
      case atStart => exact ⟨0, Nat.zero_le _, rfl, HDS.out⟩
      case round =>
        obtain ⟨j, hj, rfl, HQ⟩ := hrel
        by_cases hjl : j < n
        · obtain ⟨g, gb, cap, L, y, e, k1, k2, k3, k4, k5, k6⟩ := HQ.out.get HXL.out.symm hjl (HPOS.out xs HX.out)
          subst e
          have HST := Lib.hid k6
          have HY := Lib.hid (byte_inc y)
          obtain ⟨yn, hyn⟩ : ∃ yn, yn = y.toNat := ⟨_, rfl⟩
          rw [← hyn] at k4
          have hy8 : yn < 256 := by rw [hyn]; exact y.toNat_lt
          rw [← hyn] at HY
          have i1 : (0 : Int) ≤ (j : Int) := by omega
          have i2 : (j : Int) < (n : Int) := by omega
          have i3 : (0 : Int) < (L : Int) := by omega
          clear k6 hyn
          go_wp2_with fail
          go_round
          case rel => exact ⟨j + 1, by omega, by go_num, by rw [HY.out]; exact HST.out _⟩
          case measure => simp [intOf]; omega
        · have HT5 : Hid (Two w (w.heap.size + 1) w1.heap.size M M wr) := HQ.out.two.drop
          clear HD HSA HPOS HP HPR HB2 HB3 HB4 HB24 HDS HP3 HT2 HXL HX HQ
          obtain ⟨w5, rfl⟩ : ∃ w5 : World, w5 = wr := ⟨_, rfl⟩
          go_wp2_with (first
            | (go_at_call 33; refine (HRD.out HT7.out).mono ?_; rintro e w8 ⟨a8, c8, rfl, k1, k2, k3, k4⟩; rw [← HN2.out] at k1 ⊢; have HP8 := Lib.hid k3; have HT8 := Lib.hid (HT7.out.keep k4); have HC8 := Lib.hid k1; have HM8 := Lib.hid k2; clear k1 k2 k3 k4)
            | (go_at_call 59; refine (HPI.out leave HT8.out HP8.out HC8.out HM8.out).mono ?_; rintro e w9 ⟨rfl, hb⟩; have HT9 := Lib.hid (HT8.out.keep hb); clear hb)
            | (go_at_call 33; refine (HRD.out HT5.out).mono ?_; rintro e w6 ⟨a6, c6, rfl, k1, k2, k3, k4⟩; rw [← HN2.out] at k1 ⊢; have HP6 := Lib.hid k3; have HT6 := Lib.hid (HT5.out.keep k4); have HC6 := Lib.hid k1; have HM6 := Lib.hid k2; clear k1 k2 k3 k4)
            | (go_at_call 59; refine (HPI.out 0 HT6.out HP6.out HC6.out HM6.out).mono ?_; rintro e w7 ⟨rfl, hb⟩; have HT7 := Lib.hid (HT6.out.keep hb); clear hb)
            | (go_at_call 23; refine (HKN.out _).mono ?_; rintro e w10 ⟨rfl, hb⟩; have HT10 := Lib.hid (HT9.out.keep hb); clear hb))
          go_ret
          exact ⟨rfl, HT10.out.below⟩
end Go.Proofs.Ytepnaalgobhcdaa
