/- InterposeFirst: the walk. -/
import Derived.Test.YtepnaalgobhcdaaIpP
import Derived.Test.YtepnaalgobhcdaaIpO
namespace Go.Proofs.Ytepnaalgobhcdaa
open Go.RowKit Go.Shelf Spm

/-- The space at block z holds M, and block g some cells of its own. -/
def GSt (W : World) (z : Nat) (M : List Pg) (g : Nat) (cs : Array Value) (t : TypeId) (w1 : World) : Prop :=
  ∃ F : Nat → Prop, SpIn w1 z M F ∧ (∀ k, F k → W.heap.size ≤ k) ∧ Below W.heap.size W w1 ∧ ¬ F g ∧ w1.heap[g]? = some (.cells cs t (0, 0))
theorem GSt.z {W w1 : World} {z g : Nat} {M : List Pg} {cs : Array Value} {t : TypeId} (h : GSt W z M g cs t w1) : ZSt W z M w1 := by
  obtain ⟨F, h1, h2, h3, _⟩ := h; exact ⟨F, h1, h2, h3⟩
theorem ZSt.new {W w1 : World} {z : Nat} {M : List Pg} (h : ZSt W z M w1) (cs : Array Value) (t : TypeId) : GSt W z M w1.heap.size cs t (w1.alloc (.cells cs t)) := by
  obtain ⟨F, h1, h2, h3⟩ := h
  exact ⟨F, h1.keepB ((Below.refl _ w1).alloc (Nat.le_refl _) _), h2, h3.alloc h3.size _, fun hF => absurd (h1.lt _ hF) (Nat.lt_irrefl _), hp_new _ _ _ rfl⟩
theorem g_setword {W w1 : World} {z g : Nat} {M : List Pg} {cs : Array Value} {t : TypeId} (h : GSt W z M g cs t w1) (a v : Nat) (ha : a < 18446744073709551616) (hv : v < 18446744073709551616) (he : lookErr M a 8 2 = 0) :
    Calls Try.prog 39 #[.pointer (some ⟨z, 0, none⟩), .int .u64 a, .int .u64 v] w1 fun e w' => e = .returned (.int .i64 0) ∧ GSt W z (wrAll M a (bytesOf v)) g cs t w' := by
  obtain ⟨F, h1, h2, h3, h4, h5⟩ := h
  refine (setword_any w1 z M F h1 a ha v hv).mono ?_
  rintro e w' ⟨rfl, g1, g2⟩
  rw [bytesOf_length, he]
  unfold writeM at g1
  rw [bytesOf_length, if_pos he] at g1
  exact ⟨rfl, F, g1, h2, z_chg h2 h3 g2, h4, g2.heap h5 h4⟩
theorem fle (ws : List Nat) (k : Nat) (a : Nat) (h : lookErr kM a 8 2 = 0) : lookErr (wM ws k) a 8 2 = 0 := by rw [Spm.lookErr_alike (wM_alike ws k)]; exact h
theorem kle : ∀ k, k < 6 → lookErr kM (4096 + 8 * k) 8 2 = 0 := by
  rw [kM_eq]
  intro k hk
  match k, hk with
  | 0, _ => decide +kernel
  | 1, _ => decide +kernel
  | 2, _ => decide +kernel
  | 3, _ => decide +kernel
  | 4, _ => decide +kernel
  | 5, _ => decide +kernel

set_option maxHeartbeats 4000000 in
set_option maxRecDepth 100000 in
theorem first_known (w : World) (x0 x1 x2 x3 : Nat) (h : (((x0 : Int) == 0) || ((x1 : Int) == 0) || ((x2 : Int) == 0) || ((x3 : Int) == 0) || ((x2 : Int) == (x3 : Int))) = true) :
    Calls Try.prog 11 #[.int .u64 x0, .int .u64 x1, .int .u64 x2, .int .u64 x3] w (GivesB w (.bool true)) := by
  have HK : Hid (∀ W, Calls Try.prog 44 #[] W (GivesB W (.bool true))) := known21_any
  cases c0 : ((x0 : Int) == 0) with
  | true =>
    clear h
    go_enter Try.func11, Try.ntmps11
    go_wp2_with fail
    refine (HK.out _).mono ?_
    rintro e w1 ⟨rfl, hb⟩
    have HB := Lib.hid hb
    clear hb
    go_wp2_with fail
    go_ret
    exact ⟨rfl, HB.out⟩
  | false =>
  cases c1 : ((x1 : Int) == 0) with
  | true =>
    clear h
    go_enter Try.func11, Try.ntmps11
    go_wp2_with fail
    refine (HK.out _).mono ?_
    rintro e w1 ⟨rfl, hb⟩
    have HB := Lib.hid hb
    clear hb
    go_wp2_with fail
    go_ret
    exact ⟨rfl, HB.out⟩
  | false =>
  cases c2 : ((x2 : Int) == 0) with
  | true =>
    clear h
    go_enter Try.func11, Try.ntmps11
    go_wp2_with fail
    refine (HK.out _).mono ?_
    rintro e w1 ⟨rfl, hb⟩
    have HB := Lib.hid hb
    clear hb
    go_wp2_with fail
    go_ret
    exact ⟨rfl, HB.out⟩
  | false =>
  cases c3 : ((x3 : Int) == 0) with
  | true =>
    clear h
    go_enter Try.func11, Try.ntmps11
    go_wp2_with fail
    refine (HK.out _).mono ?_
    rintro e w1 ⟨rfl, hb⟩
    have HB := Lib.hid hb
    clear hb
    go_wp2_with fail
    go_ret
    exact ⟨rfl, HB.out⟩
  | false =>
    have c4 : ((x2 : Int) == (x3 : Int)) = true := by simpa [c0, c1, c2, c3] using h
    clear h
    go_enter Try.func11, Try.ntmps11
    go_wp2_with fail
    refine (HK.out _).mono ?_
    rintro e w1 ⟨rfl, hb⟩
    have HB := Lib.hid hb
    clear hb
    go_wp2_with fail
    go_ret
    exact ⟨rfl, HB.out⟩

theorem word_cell {x0 x1 x2 x3 k : Nat} (hk : k < 6) {W : World} {g : Nat} (h : W.heap[g]? = some (.cells #[.int .u64 (x0 : Int), .int .u64 (x2 : Int), .int .u64 (x1 : Int), .int .u64 (x2 : Int), .int .u64 (x0 : Int), .int .u64 (x3 : Int)] 32 (0, 0))) : W.cell? ⟨g, k, none⟩ = some (.int .u64 (((fW x0 x1 x2 x3).getD k 0 : Nat) : Int)) := by
  match k, hk with
  | 0, _ => simp [World.cell?, h, fW]
  | 1, _ => simp [World.cell?, h, fW]
  | 2, _ => simp [World.cell?, h, fW]
  | 3, _ => simp [World.cell?, h, fW]
  | 4, _ => simp [World.cell?, h, fW]
  | 5, _ => simp [World.cell?, h, fW]
theorem fW_lt {x0 x1 x2 x3 k : Nat} (h0 : x0 < 18446744073709551616) (h1 : x1 < 18446744073709551616) (h2 : x2 < 18446744073709551616) (h3 : x3 < 18446744073709551616) (hk : k < 6) : (fW x0 x1 x2 x3).getD k 0 < 18446744073709551616 := by
  match k, hk with
  | 0, _ => exact h0
  | 1, _ => exact h2
  | 2, _ => exact h1
  | 3, _ => exact h2
  | 4, _ => exact h0
  | 5, _ => exact h3

set_option maxHeartbeats 4000000 in
set_option maxRecDepth 100000 in
theorem first_go (w : World) (x0 x1 x2 x3 : Nat) (h0 : x0 < 18446744073709551616) (h1 : x1 < 18446744073709551616) (h2 : x2 < 18446744073709551616) (h3 : x3 < 18446744073709551616)
    (c0 : ((x0 : Int) == 0) = false) (c1 : ((x1 : Int) == 0) = false) (c2 : ((x2 : Int) == 0) = false) (c3 : ((x3 : Int) == 0) = false) (c4 : ((x2 : Int) == (x3 : Int)) = false) :
    Calls Try.prog 11 #[.int .u64 x0, .int .u64 x1, .int .u64 x2, .int .u64 x3] w (GivesB w (.bool true)) := by
  have n0 : x0 ≠ 0 := by simpa using c0
  have n1 : x1 ≠ 0 := by simpa using c1
  have n2 : x2 ≠ 0 := by simpa using c2
  have n3 : x3 ≠ 0 := by simpa using c3
  have n23 : x2 ≠ x3 := by
    have := beq_eq_false_iff_ne.1 c4
    omega
  obtain ⟨i0, hi0, hz0, hs0⟩ := parts38
  have HT1 := Lib.hid (fT1 h0 h1 h2 h3 n0 n1 n2 n3 n23)
  have HT2 := Lib.hid (fT2 h0 h1 h2 h3 n0 n1 n2 n3 n23)
  have HLT : Hid (∀ k, k < 6 → (fW x0 x1 x2 x3).getD k 0 < 18446744073709551616) := fun k hk => fW_lt h0 h1 h2 h3 hk
  have g10 : Hid (tget [(x2, x0, 0), (x3, x0, 3)] x2 = some (x0, 0)) := by simp [Hid, tget]
  have g13 : Hid (tget [(x2, x0, 0), (x3, x0, 3)] x3 = some (x0, 3)) := by simp [Hid, tget, n23]
  have g20 : Hid (tget [(x2, x1, 0), (x3, x0, 1)] x2 = some (x1, 0)) := by simp [Hid, tget]
  have g21 : Hid (tget [(x2, x1, 0), (x3, x0, 1)] x3 = some (x0, 1)) := by simp [Hid, tget, n23]
  have s10 : Hid (tSwap [(x2, x0, 0), (x3, x0, 3)] 0 x2 = x2) := by show _ = _; unfold tSwap; rw [g10.out]; rfl
  have s11 : Hid (tSwap [(x2, x0, 0), (x3, x0, 3)] 1 x2 = x0) := by show _ = _; unfold tSwap; rw [g10.out]; rfl
  clear n0 n1 n2 n3 n23
  go_enter Try.func11, Try.ntmps11
  go_wp2_with fail
  refine (new_any w).mono ?_
  rintro e w1 ⟨rfl, q1, q2, q3⟩
  clear q3
  have Z1 : Hid (ZSt w (w.heap.size + 1) [] w1) := ⟨_, q1, fun k hk => hk.1, q2⟩
  clear q1 q2
  go_wp2_with fail
  refine (z_map Z1.out 4096 8192 (by decide) 3 k1 rfl).mono ?_
  rintro e w2 ⟨rfl, q1⟩
  have Z2 : Hid (ZSt w (w.heap.size + 1) kM w2) := q1
  clear q1 Z1
  go_wp2_with fail
  have HG : Hid (GSt w (w.heap.size + 1) (wM (fW x0 x1 x2 x3) 0) w2.heap.size #[.int .u64 (x0 : Int), .int .u64 (x2 : Int), .int .u64 (x1 : Int), .int .u64 (x2 : Int), .int .u64 (x0 : Int), .int .u64 (x3 : Int)] 32 _) := Z2.out.new _ 32
  go_loopw [11] (fun t wr => ∃ i : Nat, i ≤ 6 ∧ t = .int .i64 i ∧ Hid (GSt w (w.heap.size + 1) (wM (fW x0 x1 x2 x3) i) w2.heap.size #[.int .u64 (x0 : Int), .int .u64 (x2 : Int), .int .u64 (x1 : Int), .int .u64 (x2 : Int), .int .u64 (x0 : Int), .int .u64 (x3 : Int)] 32 wr)) (fun t _ => 6 - (intOf t).toNat)
  case atStart => exact ⟨0, by omega, rfl, HG.out⟩
  case round =>
    clear HG Z2
    obtain ⟨i, hi, rfl, HGI⟩ := hrel
    by_cases hlt : i < 6
    · have hcell := word_cell hlt (by obtain ⟨F, _, _, _, _, h5⟩ := HGI.out; exact h5)
      have hv := HLT.out i hlt
      have HSW := Lib.hid (g_setword HGI.out (4096 + 8 * i) ((fW x0 x1 x2 x3).getD i 0) (by omega) hv (fle _ _ _ (kle i hlt)))
      have hwM : wM (fW x0 x1 x2 x3) (i + 1) = wrAll (wM (fW x0 x1 x2 x3) i) (4096 + 8 * i) (bytesOf ((fW x0 x1 x2 x3).getD i 0)) := rfl
      rw [← hwM] at HSW
      generalize (fW x0 x1 x2 x3).getD i 0 = vi at *
      rw [show ((4096 + 8 * i : Nat) : Int) = 4096 + 8 * (i : Int) by omega] at HSW
      clear hwM HT1 HT2 g10 g13 g20 g21 s10 s11 HGI HLT
      go_wp2_with fail
      refine HSW.out.mono ?_
      rintro e w3 ⟨rfl, k3⟩
      have H3 := Lib.hid k3
      clear k3 HSW
      go_wp2_with fail
      go_roundw
      case rel => exact ⟨i + 1, by omega, by go_num, H3.out⟩
      case measure => simp [intOf]; omega
    · obtain rfl : i = 6 := by omega
      have Z6 : Hid (ZSt w (w.heap.size + 1) (fM x0 x1 x2 x3) wr) := HGI.out.z
      clear HGI HLT hlt hi
      obtain ⟨MM, hMM⟩ : ∃ MM, MM = fM x0 x1 x2 x3 := ⟨_, rfl⟩
      rw [← hMM] at Z6 HT1 HT2
      clear hMM
      go_wp2_with fail
      refine (z_one Z6.out 4096 16 0 (by decide) (by decide)).mono ?_
      rintro e w7 ⟨o1, rfl, kb, k1, k2⟩
      have Z7 := Lib.hid k1
      have I1 := Lib.hid k2
      clear kb k1 k2 Z6
      go_wp2_with fail
      refine (z_one Z7.out 0 16 4112 (by decide) (by decide)).mono ?_
      rintro e w8 ⟨o2, rfl, kb, k1, k2⟩
      have Z8 := Lib.hid k1
      have I1' := Lib.hid (I1.out.keep kb)
      have I2 := Lib.hid k2
      clear kb k1 k2 Z7 I1
      go_wp2_with fail
      refine (z_one Z8.out 8192 16 0 (by decide) (by decide)).mono ?_
      rintro e w9 ⟨o3, rfl, kb, k1, k2⟩
      have Z9 := Lib.hid k1
      have J1 := Lib.hid (I1'.out.keep kb)
      have J2 := Lib.hid (I2.out.keep kb)
      have J3 := Lib.hid k2
      clear kb k1 k2 Z8 I1' I2
      go_wp2_with fail
      refine (z_one Z9.out 4128 16 0 (by decide) (by decide)).mono ?_
      rintro e w10 ⟨o4, rfl, kb, k1, k2⟩
      have Z10 := Lib.hid k1
      have K1 := Lib.hid (J1.out.keep kb)
      have K2 := Lib.hid (J2.out.keep kb)
      have K3 := Lib.hid (J3.out.keep kb)
      have K4 := Lib.hid k2
      have HS4 : Hid (∀ c ∈ [o1, o2, o3, o4], c.size = 27) := by
        have a1 := K1.out.1
        have a2 := K2.out.1
        have a3 := K3.out.1
        have a4 := k2.1
        show ∀ c ∈ [o1, o2, o3, o4], c.size = 27
        simp [a1, a2, a3, a4]
      clear kb k1 k2 Z9 J1 J2 J3
      go_wp2_with (refine wpList_buildSlice_aggs rfl 22 38 4 _ rfl i0 (.agg zIm) Try.underlying22 hi0 hz0 27 hs0 [o1, o2, o3, o4] rfl rfl HS4.out (by simp) ?_; intro cells hcells; have HCS := Lib.hid hcells; clear hcells)
      have hims := ims_built (w := w10) (css := [o1, o2, o3, o4]) (l := fI1) rfl (fun j cs hj => by
        match j, hj with
        | 0, hj => cases hj; exact K1.out
        | 1, hj => cases hj; exact K2.out
        | 2, hj => cases hj; exact K3.out
        | 3, hj => cases hj; exact K4.out) HCS.out
      refine (z_tmap (Z10.out.alloc _) hims (by decide) HT1.out rfl (Nat.le_refl _)).mono ?_
      rintro e w11 ⟨v1, rfl, k1, k2⟩
      have Z11 := Lib.hid k1
      have V11 := Lib.hid k2
      clear k1 k2 hims HCS Z10 K1 K2 K3 K4 HS4 cells
      go_wp2_with fail
      refine (z_one Z11.out 4112 16 0 (by decide) (by decide)).mono ?_
      rintro e w12 ⟨o5, rfl, kb, k1, k2⟩
      have Z12 := Lib.hid k1
      have I5 := Lib.hid k2
      have V12 := Lib.hid (V11.out.keepB kb)
      clear kb k1 k2 Z11 V11
      go_wp2_with fail
      refine (z_one Z12.out 4096 48 0 (by decide) (by decide)).mono ?_
      rintro e w13 ⟨o6, rfl, kb, k1, k2⟩
      have Z13 := Lib.hid k1
      have I5' := Lib.hid (I5.out.keep kb)
      have I6 := Lib.hid k2
      have V13 := Lib.hid (V12.out.keepB kb)
      have HS2 : Hid (∀ c ∈ [o5, o6], c.size = 27) := by
        have a1 := I5'.out.1
        have a2 := k2.1
        show ∀ c ∈ [o5, o6], c.size = 27
        simp [a1, a2]
      clear kb k1 k2 Z12 I5 V12
      go_wp2_with (refine wpList_buildSlice_aggs rfl 22 38 2 _ rfl i0 (.agg zIm) Try.underlying22 hi0 hz0 27 hs0 [o5, o6] rfl rfl HS2.out (by simp) ?_; intro cells hcells; have HCS := Lib.hid hcells; clear hcells)
      have hims := ims_built (w := w13) (css := [o5, o6]) (l := fI2) rfl (fun j cs hj => by
        match j, hj with
        | 0, hj => cases hj; exact I5'.out
        | 1, hj => cases hj; exact I6.out) HCS.out
      have HBA := (Below.refl _ w13).alloc (Nat.le_refl _) (.cells cells 38)
      obtain ⟨Fz, zk1, zk2, zk3⟩ := Z13.out
      have htm := tmap_any _ (w.heap.size + 1) MM Fz (zk1.keepB HBA) (some ⟨w13.heap.size, 0, none⟩) 2 fI2 hims (by decide) (Nat.le_refl _)
      rw [HT2.out] at htm
      refine htm.mono ?_
      rintro e w14 ⟨v2, rfl, k1, k2⟩
      have B14 := Lib.hid (zk3.trans (below_le (HBA.trans (below_le k1 HBA.size)) zk3.size))
      have V14 := Lib.hid (V13.out.keepB (HBA.trans (below_le k1 HBA.size)))
      have U14 := Lib.hid k2
      clear k1 k2 hims HCS Z13 I5' I6 HS2 V13 HBA zk1 zk2 zk3 htm
      have e1 : ∀ W, (binOp .eql 97 (.agg #[.int .u64 (x0 : Int), .int .i64 0]) (.agg #[.int .u64 (x0 : Int), .int .i64 0])).run Try.prog W = .ok (.bool true) W := eq97_same x0 0 h0 (by decide)
      have e2 : ∀ W, (binOp .eql 97 (.agg #[.int .u64 (x0 : Int), .int .i64 3]) (.agg #[.int .u64 (x0 : Int), .int .i64 3])).run Try.prog W = .ok (.bool true) W := eq97_same x0 3 h0 (by decide)
      have e3 : ∀ W, (binOp .eql 97 (.agg #[.int .u64 (x1 : Int), .int .i64 0]) (.agg #[.int .u64 (x1 : Int), .int .i64 0])).run Try.prog W = .ok (.bool true) W := eq97_same x1 0 h1 (by decide)
      have e4 : ∀ W, (binOp .eql 97 (.agg #[.int .u64 (x0 : Int), .int .i64 1]) (.agg #[.int .u64 (x0 : Int), .int .i64 1])).run Try.prog W = .ok (.bool true) W := eq97_same x0 1 h0 (by decide)
      have HS0 : Hid (∀ W, Below w14.heap.size w14 W → Calls Try.prog 50 #[v1, .int .i64 0, .int .u64 (x2 : Int)] W fun e w' => e = .returned (.int .u64 (x2 : Int)) ∧ Below W.heap.size W w') := fun W hW => by
        have := swapped_any W v1 _ (V14.out.keepB hW) 0 (by decide) 0 x2 rfl h2
        rwa [s10.out] at this
      have HS1 : Hid (∀ W, Below w14.heap.size w14 W → Calls Try.prog 50 #[v1, .int .i64 1, .int .u64 (x2 : Int)] W fun e w' => e = .returned (.int .u64 (x0 : Int)) ∧ Below W.heap.size W w') := fun W hW => by
        have := swapped_any W v1 _ (V14.out.keepB hW) 1 (by decide) 1 x2 rfl h2
        rwa [s11.out] at this
      have b2 : ((x2 : Int) == (x2 : Int)) = true := by simp
      have b0 : ((x0 : Int) == (x0 : Int)) = true := by simp
      go_wp2_with (first
        | (refine wpList_sw_lenI rfl (.tmp 93) rfl V14.out rfl 2 rfl ?_)
        | (refine wpList_sw_lenI rfl (.tmp 98) rfl U14.out rfl 2 rfl ?_)
        | (refine wpList_sw_get rfl (.tmp 102) (.tmp 103) rfl V14.out rfl (x2 : Int) rfl x2 rfl h2 g10.out (x0 : Int) 0 rfl rfl ?_)
        | (refine wpList_sw_get rfl (.tmp 109) (.tmp 110) rfl V14.out rfl (x3 : Int) rfl x3 rfl h3 g13.out (x0 : Int) 3 rfl rfl ?_)
        | (refine wpList_sw_get rfl (.tmp 117) (.tmp 118) rfl U14.out rfl (x2 : Int) rfl x2 rfl h2 g20.out (x1 : Int) 0 rfl rfl ?_)
        | (refine wpList_sw_get rfl (.tmp 125) (.tmp 126) rfl U14.out rfl (x3 : Int) rfl x3 rfl h3 g21.out (x0 : Int) 1 rfl rfl ?_))
      refine (HS0.out _ (Below.refl _ _)).mono ?_
      rintro e w15 ⟨rfl, k1⟩
      have B15 := Lib.hid k1
      clear k1 HS0
      go_wp2_with fail
      refine (HS1.out _ B15.out).mono ?_
      rintro e w16 ⟨rfl, k1⟩
      have B16 := Lib.hid (B15.out.step k1)
      clear k1 HS1
      go_wp2_with fail
      refine (known21_any _).mono ?_
      rintro e w17 ⟨rfl, k1⟩
      have B17 := Lib.hid (B16.out.step k1)
      clear k1
      go_wp2_with fail
      go_ret
      exact ⟨rfl, B14.out.trans (below_le B17.out B14.out.size)⟩
theorem first_any (w : World) (x0 x1 x2 x3 : Nat) (h0 : x0 < 18446744073709551616) (h1 : x1 < 18446744073709551616) (h2 : x2 < 18446744073709551616) (h3 : x3 < 18446744073709551616) :
    Calls Try.prog 11 #[.int .u64 x0, .int .u64 x1, .int .u64 x2, .int .u64 x3] w (GivesB w (.bool true)) := by
  cases c : (((x0 : Int) == 0) || ((x1 : Int) == 0) || ((x2 : Int) == 0) || ((x3 : Int) == 0) || ((x2 : Int) == (x3 : Int))) with
  | true => exact first_known w x0 x1 x2 x3 c
  | false =>
    simp only [Bool.or_eq_false_iff] at c
    obtain ⟨⟨⟨⟨c0, c1⟩, c2⟩, c3⟩, c4⟩ := c
    exact first_go w x0 x1 x2 x3 h0 h1 h2 h3 c0 c1 c2 c3 c4
end Go.Proofs.Ytepnaalgobhcdaa
