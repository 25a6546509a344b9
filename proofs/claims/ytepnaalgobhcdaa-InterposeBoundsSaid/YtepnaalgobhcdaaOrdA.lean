/- An image's dependency that is upward: what both texts answer. -/
import Derived.Test.YtepnaalgobhcdaaBase
namespace Go.Proofs.Ytepnaalgobhcdaa
open Go.RowKit

/-- Is the k-th dependency one upward? -/
def upB (x : ImgM) (k : Nat) : Bool := decide (k < x.ups.length) && (x.ups.getD k 0 == 4)

theorem upB_no {x : ImgM} {k : Nat} (h : x.ups.length ≤ k) : upB x k = false := by simp [upB]; omega
theorem upB_yes {x : ImgM} {k : Nat} (h : k < x.ups.length) : upB x k = (x.ups.getD k 0 == 4) := by simp [upB, h]

theorem upward_no (cs : Array Value) (k : Nat) (a : Option Addr) (n c : Nat) (hcs : cs[6]? = some (.slice a n c)) (w : World) (hk : n ≤ k) :
    Calls Try.prog 62 #[.agg cs, .int .i64 k] w fun e w' => e = .returned (.bool false) ∧ Below w.heap.size w w' := by
  have h1 : decide ((k : Int) < (n : Int)) = false := by simp; omega
  go_enter Try.func62, Try.ntmps62
  go_wp2_with fail
  go_ret
  exact ⟨rfl, (Below.refl _ _).alloc (Nat.le_refl _) _⟩
theorem upward_yes (cs : Array Value) (k : Nat) (b off : Nat) (n c : Nat) (hcs : cs[6]? = some (.slice (some ⟨b, off, none⟩) n c)) (w : World) (z : Int) (hk : k < n)
    (hz : w.cell? ⟨b, off + k * 2 + 1, none⟩ = some (.int .i64 z)) :
    Calls Try.prog 62 #[.agg cs, .int .i64 k] w fun e w' => e = .returned (.bool (z == 4)) ∧ Below w.heap.size w w' := by
  have h1 : decide ((k : Int) < (n : Int)) = true := by simp; omega
  have hb : b < w.heap.size := block_lt_of_cell hz
  go_enter Try.func62, Try.ntmps62
  go_wp2_with fail
  go_ret
  exact ⟨rfl, (Below.refl _ _).alloc (Nat.le_refl _) _⟩
theorem Upward_no (cs : Array Value) (k : Nat) (a : Option Addr) (n c : Nat) (hcs : cs[6]? = some (.slice a n c)) (w : World) (hk : n ≤ k) :
    Calls Try.prog 21 #[.agg cs, .int .i64 k] w fun e w' => e = .returned (.bool false) ∧ Below w.heap.size w w' := by
  have h1 : decide ((k : Int) < (n : Int)) = false := by simp; omega
  go_enter Try.func21, Try.ntmps21
  go_wp2_with fail
  go_ret
  exact ⟨rfl, (Below.refl _ _).alloc (Nat.le_refl _) _⟩
theorem Upward_yes (cs : Array Value) (k : Nat) (b off : Nat) (n c : Nat) (hcs : cs[6]? = some (.slice (some ⟨b, off, none⟩) n c)) (w : World) (z : Int) (hk : k < n)
    (hz : w.cell? ⟨b, off + k * 2 + 1, none⟩ = some (.int .i64 z)) :
    Calls Try.prog 21 #[.agg cs, .int .i64 k] w fun e w' => e = .returned (.bool (z == 4)) ∧ Below w.heap.size w w' := by
  have h1 : decide ((k : Int) < (n : Int)) = true := by simp; omega
  have hb : b < w.heap.size := block_lt_of_cell hz
  go_enter Try.func21, Try.ntmps21
  go_wp2_with fail
  go_ret
  exact ⟨rfl, (Below.refl _ _).alloc (Nat.le_refl _) _⟩
theorem upward_any (x : ImgM) (cs : Array Value) (w : World) (h : ImgCells w x cs) (k : Nat) :
    Calls Try.prog 62 #[.agg cs, .int .i64 k] w fun e w' => e = .returned (.bool (upB x k)) ∧ Below w.heap.size w w' := by
  obtain ⟨a, c, hcs, _, _, hs⟩ := h.ups
  by_cases hk : k < x.ups.length
  · obtain ⟨b, o, rfl, hz⟩ := hs k hk
    rw [upB_yes hk]
    exact upward_yes cs k b o _ c hcs w _ hk hz
  · rw [upB_no (by omega)]
    exact upward_no cs k a _ c hcs w (by omega)
theorem Upward_any (x : ImgM) (cs : Array Value) (w : World) (h : ImgCells w x cs) (k : Nat) :
    Calls Try.prog 21 #[.agg cs, .int .i64 k] w fun e w' => e = .returned (.bool (upB x k)) ∧ Below w.heap.size w w' := by
  obtain ⟨a, c, hcs, _, _, hs⟩ := h.ups
  by_cases hk : k < x.ups.length
  · obtain ⟨b, o, rfl, hz⟩ := hs k hk
    rw [upB_yes hk]
    exact Upward_yes cs k b o _ c hcs w _ hk hz
  · rw [upB_no (by omega)]
    exact Upward_no cs k a _ c hcs w (by omega)
end Go.Proofs.Ytepnaalgobhcdaa
