/- OrderKinds: the walk. -/
import Derived.Test.YtepnaalgobhcdaaOkC
import Derived.Test.YtepnaalgobhcdaaOkB
namespace Go.Proofs.Ytepnaalgobhcdaa
open Go.RowKit Go.Shelf Spm Clv

theorem z_setword {W w1 : World} {z : Nat} {M : List Pg} (h : ZSt W z M w1) (a v : Nat) (ha : a < 18446744073709551616) (hv : v < 18446744073709551616) (he : lookErr M a 8 2 = 0) :
    Calls Try.prog 39 #[.pointer (some ⟨z, 0, none⟩), .int .u64 a, .int .u64 v] w1 fun e w' => e = .returned (.int .i64 0) ∧ ZSt W z (wrAll M a (bytesOf v)) w' := by
  obtain ⟨F, h1, h2, h3⟩ := h
  refine (setword_any w1 z M F h1 a ha v hv).mono ?_
  rintro e w' ⟨rfl, g1, g2⟩
  rw [bytesOf_length, he]
  unfold writeM at g1
  rw [bytesOf_length, if_pos he] at g1
  exact ⟨rfl, F, g1, h2, z_chg h2 h3 g2⟩
theorem z_of {W w1 : World} {z : Nat} {M : List Pg} (h : ZSt W z M w1) {cs : Array Value} {o : OIm} (hI : OImP w1 cs o) {out : List Nat} (he : oOf M o = ⟨out, 0⟩) (h0 : 0 < out.length) :
    Calls Try.prog 53 #[.pointer (some ⟨z, 0, none⟩), .agg cs] w1 fun e w' => ∃ g cap, e = .returned (.tuple #[.slice (some ⟨g, 0, none⟩) out.length cap, .int .i64 0]) ∧ (∀ k, k < out.length → w'.cell? ⟨g, k, none⟩ = some (.int .u64 ((out.getD k 0 : Nat) : Int))) ∧ Below w1.heap.size w1 w' ∧ ZSt W z M w' := by
  obtain ⟨F, h1, h2, h3⟩ := h
  refine (of_any w1 z M F h1 cs o hI).mono ?_
  rw [he]
  rintro e w' ⟨v, rfl, hb, _, hv⟩
  have hr := hv rfl
  obtain ⟨g, cap, rfl, _⟩ := u64_at hr h0
  refine ⟨g, cap, rfl, fun k hk => ?_, hb, F, h1.keepB hb, h2, h3.step hb⟩
  obtain ⟨g', cap', e', _, _, hc⟩ := u64_at hr hk
  cases e'
  exact hc

set_option maxHeartbeats 4000000 in
set_option maxRecDepth 100000 in
theorem okinds_else (w : World) (p f : Nat) (h : 1073741824 ≤ p ∨ 4096 ≤ f) : Calls Try.prog 12 #[.int .u64 p, .int .u32 f] w (GivesB w (.bool true)) := by
  by_cases c : (1073741824 : Int) ≤ (p : Int)
  · clear h
    go_enter Try.func12, Try.ntmps12
    go_wp2_with fail
    refine (known_true _).mono ?_
    rintro e w1 ⟨rfl, hb⟩
    have HB := Lib.hid hb
    clear hb
    go_wp2_with fail
    go_ret
    exact ⟨rfl, HB.out⟩
  · have c2 : (4096 : Int) ≤ (f : Int) := by omega
    clear h
    go_enter Try.func12, Try.ntmps12
    go_wp2_with fail
    refine (known_true _).mono ?_
    rintro e w1 ⟨rfl, hb⟩
    have HB := Lib.hid hb
    clear hb
    go_wp2_with fail
    go_ret
    exact ⟨rfl, HB.out⟩

set_option maxHeartbeats 8000000 in
set_option maxRecDepth 100000 in
theorem okinds_in (w : World) (p f : Nat) (hp : p < 1073741824) (hf : f < 4096) : Calls Try.prog 12 #[.int .u64 p, .int .u32 f] w (GivesB w (.bool true)) := by
  have i1 : ¬ (1073741824 : Int) ≤ (p : Int) := by omega
  have i2 : ¬ (4096 : Int) ≤ (f : Int) := by omega
  have i3 : (0 : Int) ≤ (p : Int) := by omega
  have HM1 : Hid (∀ W z, ZSt w z [] W → Calls Try.prog 25 #[.pointer (some ⟨z, 0, none⟩), .int .u64 (4096 + 4096 * (p : Int)), .int .u64 4096, .int .i64 5] W fun e w' => e = .returned (.int .i64 0) ∧ ZSt w z (kA p) w') := fun W z h => by
    have := z_map h (4096 + 4096 * p) 4096 (by omega) 5 (kA_err hp) (kA_eq hp)
    rwa [show ((4096 + 4096 * p : Nat) : Int) = 4096 + 4096 * (p : Int) by omega] at this
  have HM2 : Hid (∀ W z, ZSt w z (kA p) W → Calls Try.prog 25 #[.pointer (some ⟨z, 0, none⟩), .int .u64 (8192 + 4096 * (p : Int)), .int .u64 4096, .int .i64 3] W fun e w' => e = .returned (.int .i64 0) ∧ ZSt w z (kC p) w') := fun W z h => by
    have := z_map h (8192 + 4096 * p) 4096 (by omega) 3 (kC_err hp) (kC_eq hp)
    rwa [show ((8192 + 4096 * p : Nat) : Int) = 8192 + 4096 * (p : Int) by omega] at this
  have HS1 : Hid (∀ W z, ZSt w z (kC p) W → Calls Try.prog 39 #[.pointer (some ⟨z, 0, none⟩), .int .u64 (8192 + 4096 * (p : Int)), .int .u64 (4096 + 4096 * (p : Int) + (f : Int))] W fun e w' => e = .returned (.int .i64 0) ∧ ZSt w z (kW p f) w') := fun W z h => by
    have := z_setword h (8192 + 4096 * p) (4096 + 4096 * p + f) (by omega) (by omega) (kC_look p _ 8 2 (by decide) hp (by omega) (by omega) (by omega))
    rwa [show ((8192 + 4096 * p : Nat) : Int) = 8192 + 4096 * (p : Int) by omega, show ((4096 + 4096 * p + f : Nat) : Int) = 4096 + 4096 * (p : Int) + (f : Int) by omega] at this
  have HS2 : Hid (∀ W z, ZSt w z (kW p f) W → Calls Try.prog 39 #[.pointer (some ⟨z, 0, none⟩), .int .u64 (8192 + 4096 * (p : Int) + 8), .int .u64 (f : Int)] W fun e w' => e = .returned (.int .i64 0) ∧ ZSt w z (kX p f) w') := fun W z h => by
    have := z_setword h (8200 + 4096 * p) f (by omega) (by omega) (by rw [Spm.lookErr_alike (kW_alike p f)]; exact kC_look p _ 8 2 (by decide) hp (by omega) (by omega) (by omega))
    rwa [show ((8200 + 4096 * p : Nat) : Int) = 8192 + 4096 * (p : Int) + 8 by omega] at this
  have HO : Hid (∀ W z M (kind : Int) (a n : Nat) (ha : a < 18446744073709551616) (hn : n < 18446744073709551616), (Lit.int .i64 kind).wf = true → ZSt w z M W → Calls Try.prog 54 #[.int .i64 kind, .int .u64 a, .int .u64 n, .int .u64 (4096 * (p : Int))] W fun e w' => ∃ cs, e = .returned (.agg cs) ∧ ZSt w z M w' ∧ BothI w' cs (oneO kind a n (4096 * p) ha hn) (oneI kind a n (4096 * p)) ∧ Below W.heap.size W w') := fun W z M kind a n ha hn hk h => by
    have := z_one23 h kind a n (4096 * p) ha hn (by omega) hk
    rw [show ((4096 * p : Nat) : Int) = 4096 * (p : Int) by omega] at this
    refine this.mono ?_
    rintro e w' ⟨cs, rfl, k0, k1, k2⟩
    exact ⟨cs, rfl, k1, k2, k0⟩
  have HA : Hid (oOf (kX p f) (oneO 9 8192 8 (4096 * p) (by decide) (by decide)) = ⟨[4096 + 4096 * p + f], 0⟩) := ko_a hp hf
  have HB : Hid (oOf (kX p f) (oneO 22 8200 4 (4096 * p) (by decide) (by decide)) = ⟨[4096 + 4096 * p + f], 0⟩) := ko_b hp hf
  have HC : Hid (oOf (kX p f) (oneO 22 8200 8 (4096 * p) (by decide) (by decide)) = ⟨[4096 + 4096 * p + f, 4096 + 4096 * p], 0⟩) := ko_c hp hf
  have e1 : ((4096 + 4096 * p + f : Nat) : Int) = 4096 + 4096 * (p : Int) + (f : Int) := by omega
  have e2 : ((4096 + 4096 * p : Nat) : Int) = 4096 + 4096 * (p : Int) := by omega
  have E1 := Lib.hid e1
  have E2 := Lib.hid e2
  clear e1 e2
  go_enter Try.func12, Try.ntmps12
  go_wp2_with fail
  refine (new_any w).mono ?_
  rintro e w1 ⟨rfl, k1, k2, _⟩
  have Z1 : Hid (ZSt w (w.heap.size + 1) [] w1) := ⟨_, k1, fun k hk => hk.1, k2⟩
  clear k1 k2
  go_wp2_with fail
  refine (HM1.out _ _ Z1.out).mono ?_
  rintro e w2 ⟨rfl, k1⟩
  have Z2 := Lib.hid k1
  clear k1 Z1
  go_wp2_with fail
  refine (HM2.out _ _ Z2.out).mono ?_
  rintro e w3 ⟨rfl, k1⟩
  have Z3 := Lib.hid k1
  clear k1 Z2
  go_wp2_with fail
  refine (HS1.out _ _ Z3.out).mono ?_
  rintro e w4 ⟨rfl, k1⟩
  have Z4 := Lib.hid k1
  clear k1 Z3
  go_wp2_with fail
  refine (HS2.out _ _ Z4.out).mono ?_
  rintro e w5 ⟨rfl, k1⟩
  have Z5 := Lib.hid k1
  clear k1 Z4 HM1 HM2 HS1 HS2
  go_wp2_with fail
  refine (HO.out _ _ _ 9 8192 8 (by decide) (by decide) (by decide) Z5.out).mono ?_
  rintro e w6 ⟨o6, rfl, k1, k2, _⟩
  have Z6 := Lib.hid k1
  have I6 := Lib.hid k2
  clear k1 k2 Z5
  go_wp2_with fail
  refine (z_of Z6.out I6.out.1 HA.out (by simp)).mono ?_
  rintro e w7 ⟨g7, c7, rfl, k1, k2, k3⟩
  have a7 := k1 0 (by simp)
  have Z7 := Lib.hid k3
  simp only [List.getD_cons_zero, E1.out] at a7
  have A7 := Lib.hid a7
  clear k1 k2 k3 Z6 I6 a7
  go_wp2_with fail
  refine (HO.out _ _ _ 22 8200 4 (by decide) (by decide) (by decide) Z7.out).mono ?_
  rintro e w8 ⟨o8, rfl, k1, k2, k4⟩
  have Z8 := Lib.hid k1
  have I8 := Lib.hid k2
  have A8 := Lib.hid (cell_keep A7.out k4)
  clear k1 k2 k4 Z7 A7
  go_wp2_with fail
  refine (z_of Z8.out I8.out.1 HB.out (by simp)).mono ?_
  rintro e w9 ⟨g9, c9, rfl, k1, k2, k3⟩
  have a9 := k1 0 (by simp)
  have Z9 := Lib.hid k3
  simp only [List.getD_cons_zero, E1.out] at a9
  have B9 := Lib.hid a9
  have A9 := Lib.hid (cell_keep A8.out k2)
  clear k1 k2 k3 Z8 I8 a9 A8
  go_wp2_with fail
  refine (HO.out _ _ _ 22 8200 8 (by decide) (by decide) (by decide) Z9.out).mono ?_
  rintro e w10 ⟨o10, rfl, k1, k2, k4⟩
  have Z10 := Lib.hid k1
  have I10 := Lib.hid k2
  have A10 := Lib.hid (cell_keep A9.out k4)
  have B10 := Lib.hid (cell_keep B9.out k4)
  clear k1 k2 k4 Z9 A9 B9
  go_wp2_with fail
  refine (z_of Z10.out I10.out.1 HC.out (by simp)).mono ?_
  rintro e w11 ⟨g11, c11, rfl, k1, k2, k3⟩
  have x0 := k1 0 (by simp)
  have x1 := k1 1 (by simp)
  simp only [List.getD_cons_zero, List.getD_cons_succ, E1.out, E2.out] at x0 x1
  have Z11 := Lib.hid k3
  have xa := cell_keep A10.out k2
  have xb := cell_keep B10.out k2
  clear k1 k2 k3 Z10 I10 A10 B10 HO HA HB HC
  go_wp2_with fail
  refine (known_true _).mono ?_
  rintro e w12 ⟨rfl, k1⟩
  have Z12 := Lib.hid (Z11.out.keep k1)
  clear k1 Z11
  go_wp2_with fail
  go_ret
  exact ⟨rfl, Z12.out.below⟩
theorem okinds_any (w : World) (p f : Nat) : Calls Try.prog 12 #[.int .u64 p, .int .u32 f] w (GivesB w (.bool true)) := by
  by_cases h : 1073741824 ≤ p ∨ 4096 ≤ f
  · exact okinds_else w p f h
  · exact okinds_in w p f (by omega) (by omega)
end Go.Proofs.Ytepnaalgobhcdaa
