/- What a space answers that is not there; a zero one. -/
import Derived.Test.YtepnaalgobhcdaaSpO
namespace Go.Proofs.Ytepnaalgobhcdaa
open Go.RowKit Spm

def GivesB (w : World) (v : Value) (e : Ending) (w' : World) : Prop := e = .returned v ∧ Below w.heap.size w w'

set_option maxRecDepth 100000 in
theorem look_nil (w : World) (a n : Nat) (r : Int) : Calls Try.prog 75 #[.pointer none, .int .u64 a, .int .u64 n, .int .i64 r] w (GivesB w (.int .i64 1)) := by
  go_enter Try.func75, Try.ntmps75
  go_wp2_with fail
  go_ret
  exact ⟨rfl, Below.refl _ _⟩
set_option maxRecDepth 100000 in
theorem read_nil (w : World) (a n : Nat) : Calls Try.prog 35 #[.pointer none, .int .u64 a, .int .u64 n] w (GivesB w (.tuple #[.slice none 0 0, .int .i64 1])) := by
  have HL := Lib.hid (fun W => look_nil W a n 1)
  go_enter Try.func35, Try.ntmps35
  go_wp2_with (go_at_call 75; refine (HL.out _).mono ?_; rintro e w1 ⟨rfl, hb1⟩; have B1 := Lib.hid hb1; clear hb1)
  go_ret2
  exact ⟨rfl, B1.out⟩
set_option maxRecDepth 100000 in
theorem word_nil (w : World) (a : Nat) : Calls Try.prog 36 #[.pointer none, .int .u64 a] w (GivesB w (.tuple #[.int .u64 0, .int .i64 1])) := by
  have HL : Hid (∀ W, Calls Try.prog 35 #[.pointer none, .int .u64 a, .int .u64 8] W (GivesB W (.tuple #[.slice none 0 0, .int .i64 1]))) := fun W => read_nil W a 8
  go_enter Try.func36, Try.ntmps36
  go_wp2_with (go_at_call 35; refine (HL.out _).mono ?_; rintro e w1 ⟨rfl, hb1⟩; have B1 := Lib.hid hb1; clear hb1)
  refine wp_loop_rounds 1 ?_
  rw [rounds_succ]
  go_wp2_with fail
  go_ret2
  exact ⟨rfl, B1.out⟩
set_option maxRecDepth 100000 in
theorem map_nil (w : World) (a n : Nat) (r : Int) : Calls Try.prog 25 #[.pointer none, .int .u64 a, .int .u64 n, .int .i64 r] w (GivesB w (.int .i64 1)) := by
  go_enter Try.func25, Try.ntmps25
  go_wp2_with fail
  go_ret
  exact ⟨rfl, Below.refl _ _⟩
set_option maxRecDepth 100000 in
theorem fill_nil (w : World) (a : Nat) (ad : Option Addr) (n c : Nat) (hn : n < 9223372036854775808) : Calls Try.prog 37 #[.pointer none, .int .u64 a, .slice ad n c] w (GivesB w (.int .i64 1)) := by
  have HL : Hid (∀ W, Calls Try.prog 75 #[.pointer none, .int .u64 a, .int .u64 n, .int .i64 0] W (GivesB W (.int .i64 1))) := fun W => look_nil W a n 0
  go_enter Try.func37, Try.ntmps37
  go_wp2_with (go_at_call 75; refine (HL.out _).mono ?_; rintro e w1 ⟨rfl, hb1⟩; have B1 := Lib.hid hb1; clear hb1)
  go_ret
  exact ⟨rfl, B1.out⟩
set_option maxRecDepth 100000 in
theorem write_nil (w : World) (a : Nat) (ad : Option Addr) (n c : Nat) (hn : n < 9223372036854775808) : Calls Try.prog 38 #[.pointer none, .int .u64 a, .slice ad n c] w (GivesB w (.int .i64 1)) := by
  have HL : Hid (∀ W, Calls Try.prog 75 #[.pointer none, .int .u64 a, .int .u64 n, .int .i64 2] W (GivesB W (.int .i64 1))) := fun W => look_nil W a n 2
  go_enter Try.func38, Try.ntmps38
  go_wp2_with (go_at_call 75; refine (HL.out _).mono ?_; rintro e w1 ⟨rfl, hb1⟩; have B1 := Lib.hid hb1; clear hb1)
  go_ret
  exact ⟨rfl, B1.out⟩
set_option maxHeartbeats 1000000 in
set_option maxRecDepth 100000 in
theorem setword_nil (w : World) (a : Nat) (v : Nat) (_hv : v < 18446744073709551616) :
    Calls Try.prog 39 #[.pointer none, .int .u64 a, .int .u64 v] w (GivesB w (.int .i64 1)) := by
  have hwr : ∀ wr, SetSt w v 8 wr → Calls Try.prog 38 #[.pointer none, .int .u64 a, .slice (some ⟨w.heap.size, 0, none⟩) 8 8] wr (GivesB w (.int .i64 1)) := fun wr hs => by
    refine (write_nil wr a _ 8 8 (by decide)).mono ?_
    rintro e w' ⟨rfl, h1⟩
    exact ⟨rfl, hs.below.trans (below_le h1 hs.below.size)⟩
  have HWR := Lib.hid hwr
  have hz := zero152
  clear hwr
  go_enter Try.func39, Try.ntmps39
  go_wp2_with fail
  go_loopw [9] (fun t wr => ∃ i : Nat, i ≤ 8 ∧ t = .int .i64 i ∧ Hid (SetSt w v i wr)) (fun t _ => 8 - (intOf t).toNat)
  case atStart =>
    refine ⟨0, by omega, rfl, ⟨⟨List.replicate 8 0, rfl, rfl, ?_⟩, (Below.refl _ w).alloc (Nat.le_refl _) _, by simp⟩⟩
    exact hp_new _ _ _ rfl
  case round =>
    obtain ⟨i, hi, rfl, HS⟩ := hrel
    by_cases hlt : i < 8
    · obtain ⟨⟨x, hx⟩, hfr⟩ := HS.out.cell hlt
      have HST := Lib.hid (HS.out.step hlt)
      have hsh := shr_byte (v := v) (i := i)
      generalize UInt8.ofNat (v / 256 ^ i) = y at *
      have hy : y.toNat < 256 := y.toNat_lt
      go_wp2_with fail
      exact ⟨⟨i + 1, by omega, by go_num, HST.out⟩, by simp [intOf]; omega⟩
    · obtain rfl : i = 8 := by omega
      go_wp2_with (go_at_call 38; refine (HWR.out _ HS.out).mono ?_; rintro e w2 ⟨rfl, h1⟩; have H1 := Lib.hid h1; clear h1)
      go_ret
      exact ⟨rfl, H1.out⟩
set_option maxRecDepth 100000 in
theorem prot_nil (w : World) (a : Nat) : Calls Try.prog 40 #[.pointer none, .int .u64 a] w (GivesB w (.int .i64 0)) := by
  go_enter Try.func40, Try.ntmps40
  go_wp2_with fail
  go_ret
  exact ⟨rfl, Below.refl _ _⟩
set_option maxRecDepth 100000 in
theorem free_nil (w : World) : Calls Try.prog 41 #[.pointer none, .int .u64 0, .int .u64 4096] w (GivesB w (.bool true)) := by
  have HI1 : Hid (∀ W, Calls Try.prog 64 #[.int .u64 0, .int .u64 4096] W fun e w' => e = .returned (.bool true) ∧ W = w') := fun W => by
    have := in_any W 0 4096 (by decide); exact this
  go_enter Try.func41, Try.ntmps41
  go_wp2_with (go_at_call 64; refine (HI1.out _).mono ?_; rintro e _ ⟨rfl, rfl⟩)
  go_ret
  exact ⟨rfl, Below.refl _ _⟩
set_option maxRecDepth 100000 in
theorem pages_nil (w : World) : Calls Try.prog 26 #[.pointer none] w (GivesB w (.int .i64 0)) := by
  go_enter Try.func26, Try.ntmps26
  go_wp2_with fail
  go_ret
  exact ⟨rfl, Below.refl _ _⟩
set_option maxRecDepth 100000 in
theorem copy_nil (w : World) : Calls Try.prog 29 #[.pointer none] w (GivesB w (.pointer none)) := by
  go_enter Try.func29, Try.ntmps29
  go_wp2_with fail
  go_ret
  exact ⟨rfl, Below.refl _ _⟩
set_option maxRecDepth 100000 in
theorem same_nil (w : World) : Calls Try.prog 31 #[.pointer none, .pointer none] w (GivesB w (.bool true)) := by
  go_enter Try.func31, Try.ntmps31
  go_wp2_with fail
  go_ret
  exact ⟨rfl, Below.refl _ _⟩
set_option maxRecDepth 100000 in
theorem same_nil_l (w : World) (b : Addr) : Calls Try.prog 31 #[.pointer none, .pointer (some b)] w (GivesB w (.bool false)) := by
  go_enter Try.func31, Try.ntmps31
  go_wp2_with fail
  go_ret
  exact ⟨rfl, Below.refl _ _⟩
set_option maxRecDepth 100000 in
theorem same_nil_r (w : World) (b : Addr) : Calls Try.prog 31 #[.pointer (some b), .pointer none] w (GivesB w (.bool false)) := by
  go_enter Try.func31, Try.ntmps31
  go_wp2_with fail
  go_ret
  exact ⟨rfl, Below.refl _ _⟩
set_option maxRecDepth 100000 in
theorem all_any (w : World) (p : Option Addr) : Calls Try.prog 42 #[.pointer p] w fun e w' => e = .returned (.func (.func 77) #[] #[.pointer (some ⟨w.heap.size, 0, none⟩)]) ∧ w' = w.alloc (.cells #[.pointer p] 43) := by
  go_enter Try.func42, Try.ntmps42
  go_wp2_with fail
  go_ret
  exact ⟨rfl, rfl⟩
end Go.Proofs.Ytepnaalgobhcdaa
