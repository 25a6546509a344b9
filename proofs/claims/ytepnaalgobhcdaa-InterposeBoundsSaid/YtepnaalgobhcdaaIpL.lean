/- clevislaw21.pair; Pairs at nil. -/
import Derived.Test.YtepnaalgobhcdaaIpK
namespace Go.Proofs.Ytepnaalgobhcdaa
open Go.RowKit Go.Shelf Spm
attribute [local go_sem] Oper.semAt_some

set_option maxRecDepth 100000 in
theorem pairs_nil (w : World) (cs : Array Value) : Calls Try.prog 46 #[.pointer none, .agg cs] w (PairsRes w 1 []) := by
  refine (callsIn_wide (n := 6)).1 ?_
  refine callsIn_of_wp_marks Try.func46 rfl trivial ?_ rfl
  simp only [Try.ntmps46, List.size_toArray, List.length_cons, List.length_nil, Nat.reduceAdd, Nat.reduceSub, Array.replicate_succ, Array.replicate_zero, List.push_toArray, List.append_toArray, List.nil_append, List.cons_append]
  gi_wp2_with fail
  refine ⟨_, results_cell2 rfl _ _ _ ⟨w.heap.size + 1 + 1, 0, none⟩ ⟨w.heap.size + 1 + 1 + 1, 0, none⟩ (.slice none 0 0) (.int .i64 1) (by rfl) (by rfl) (loadVar_one agg82 (cell_of_one ((hp_old _ _ _ (by simp)).trans (hp_new _ _ _ (by simp))))) (loadVar_one agg45 (cell_of_one (hp_new _ _ _ (by simp)))), _, rfl, ?_, fun _ => rfl, fun h => absurd h (by decide)⟩
  exact ((((Below.refl _ w).alloc (Nat.le_refl _) _).alloc (by simp) _).alloc (by simp <;> omega) _).alloc (by simp <;> omega) _
def zero16 : Array Value := #[.int .u8 0, .int .u8 0, .int .u8 0, .int .u8 0, .int .u8 0, .int .u8 0, .int .u8 0, .int .u8 0, .int .u8 0, .int .u8 0, .int .u8 0, .int .u8 0, .int .u8 0, .int .u8 0, .int .u8 0, .int .u8 0]
theorem make_16 (W : World) : (Instr.makeSlice 57 (.int .i64 16) (.int .i64 16)).run Try.prog W = .ok (.slice (some ⟨W.heap.size, 0, none⟩) 16 16) (W.alloc (.cells zero16 5)) := by
  obtain ⟨i0, hi0, hz0, hz1, hz2⟩ := info_parts infoU8
  have := run_makeSlice (P := Try.prog) W 57 5 i0 (.int .u8 0) Try.underlying57 hi0 hz0 .i64 .i64 16 16 (by decide) (by decide) (by rw [hz1]; decide) (by rw [hz2]; decide) (by decide)
  rw [hz1, show madeCells (Value.int .u8 0).cells (Int.toNat 16 * 1) = zero16 from by kernel_rfl] at this
  exact this
def pairCells (x y : Int) : Array Value := #[.int .u8 0, .int .u8 x, .int .u8 0, .int .u8 0, .int .u8 0, .int .u8 0, .int .u8 0, .int .u8 0, .int .u8 0, .int .u8 y, .int .u8 0, .int .u8 0, .int .u8 0, .int .u8 0, .int .u8 0, .int .u8 0]
set_option maxRecDepth 100000 in
theorem pair_any (w : World) (x y : Int) : Calls Try.prog 79 #[.int .u8 x, .int .u8 y] w fun e w' => e = .returned (.slice (some ⟨w.heap.size, 0, none⟩) 16 16) ∧ w' = w.alloc (.cells (pairCells x y) 5) := by
  have hmk := make_16
  unfold zero16 at hmk
  go_enter Try.func79, Try.ntmps79
  go_wp2_with fail
  go_ret
  exact ⟨rfl, rfl⟩
end Go.Proofs.Ytepnaalgobhcdaa
