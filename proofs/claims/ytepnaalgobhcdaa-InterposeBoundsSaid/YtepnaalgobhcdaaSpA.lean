/- The bounds of memory: what 'in' and 'numbers' answer. -/
import Derived.Test.YtepnaalgobhcdaaBase
import Derived.Test.YtepnaalgobhcdaaSpM
namespace Go.Proofs.Ytepnaalgobhcdaa
open Go.RowKit Spm

set_option maxRecDepth 100000 in
theorem in_any (w : World) (a n : Nat) (ha : a < 18446744073709551616) :
    Calls Try.prog 64 #[.int .u64 a, .int .u64 n] w fun e w' => e = .returned (.bool (inB a n)) ∧ w = w' := by
  by_cases h1 : a ≤ 140737488355328
  · have e : inB a n = decide ((n : Int) ≤ 140737488355328 - (a : Int)) := by
      unfold inB; rw [Bool.eq_iff_iff]; simp; omega
    have E := Lib.hid e
    clear e
    have h2 : (a : Int) ≤ 140737488355328 := by omega
    go_enter Try.func64, Try.ntmps64
    go_wp2_with fail
    go_ret
    exact ⟨by rw [E.out]; rfl, rfl⟩
  · have e : inB a n = false := by unfold inB; simp; omega
    have E := Lib.hid e
    have h2 : ¬ (a : Int) ≤ 140737488355328 := by omega
    clear e h1
    go_enter Try.func64, Try.ntmps64
    go_wp2_with fail
    go_ret
    exact ⟨by rw [E.out]; rfl, rfl⟩

set_option maxRecDepth 100000 in
theorem numbers_any (w : World) (a n : Nat) (h0 : 0 < n) (h : inB a n = true) :
    Calls Try.prog 65 #[.int .u64 a, .int .u64 n] w fun e w' => e = .returned (.tuple #[.int .u64 (a / 4096 : Nat), .int .u64 ((a + n - 1) / 4096 + 1 : Nat)]) ∧ w = w' := by
  have hb : a + n ≤ 140737488355328 := by unfold inB at h; simp at h; exact h.2
  have hz : ((n : Int) == 0) = false := by simp; omega
  clear h
  go_enter Try.func65, Try.ntmps65
  go_wp2_with fail
  go_ret2
  have e1 : ((a / 4096 : Nat) : Int) = (a : Int) / 4096 := by omega
  have e2 : (((a + n - 1) / 4096 + 1 : Nat) : Int) = ((a : Int) + n - 1) / 4096 + 1 := by omega
  exact ⟨by rw [e1, e2]; rfl, rfl⟩
end Go.Proofs.Ytepnaalgobhcdaa
