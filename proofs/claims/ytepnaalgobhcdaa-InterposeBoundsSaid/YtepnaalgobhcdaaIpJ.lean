/- interpose.Swapped; an image of one section of pairs; pairs at nil. -/
import Derived.Test.YtepnaalgobhcdaaIpI
namespace Go.Proofs.Ytepnaalgobhcdaa
open Go.RowKit Go.Shelf Spm
attribute [local go_sem] Oper.semAt_some

set_option maxRecDepth 100000 in
theorem swapped_any (w : World) (v : Value) (T : Tab) (h : SwVal w v T) (i : Int) (hi : -9223372036854775808 ≤ i ∧ i ≤ 9223372036854775807) (n a : Nat) (hn : i = (n : Int)) (ha : a < 18446744073709551616) :
    Calls Try.prog 50 #[v, .int .i64 i, .int .u64 a] w fun e w' => e = .returned (.int .u64 (tSwap T n a : Int)) ∧ Below w.heap.size w w' := by
  subst hn
  have HSV := Lib.hid h
  clear h
  unfold tSwap
  cases hf : tget T a with
  | none =>
    have HFN := Lib.hid hf
    clear hf
    go_enter Try.func50, Try.ntmps50
    go_wp2_with (first
      | (refine wpList_sw_miss rfl (.tmp 10) (.tmp 11) rfl HSV.out rfl a ha rfl HFN.out ?_))
    go_ret
    exact ⟨rfl, (Below.refl _ _).alloc (Nat.le_refl _) _⟩
  | some q =>
    obtain ⟨r1, r2⟩ := q
    have HFN := Lib.hid hf
    clear hf
    by_cases e : r2 = n
    · have b1 : ((r2 : Int) != (n : Int)) = false := by rw [bne_eq_false_iff_eq]; omega
      simp only [if_pos e]
      clear e
      go_enter Try.func50, Try.ntmps50
      go_wp2_with (first
        | (refine wpList_sw_hit rfl (.tmp 10) (.tmp 11) rfl HSV.out rfl a ha rfl HFN.out ?_))
      go_ret
      exact ⟨rfl, (Below.refl _ _).alloc (Nat.le_refl _) _⟩
    · have b1 : ((r2 : Int) != (n : Int)) = true := by rw [bne_iff_ne]; omega
      simp only [if_neg e]
      clear e
      go_enter Try.func50, Try.ntmps50
      go_wp2_with (first
        | (refine wpList_sw_hit rfl (.tmp 10) (.tmp 11) rfl HSV.out rfl a ha rfl HFN.out ?_))
      go_ret
      exact ⟨rfl, (Below.refl _ _).alloc (Nat.le_refl _) _⟩
/-- The cells of an image of segments v and slide s. -/
def oneCells (v : Value) (s : Int) : Array Value := #[.string { data := #[] }, .int .i64 0, .int .i64 0, .int .u32 0, .string { data := #[] }, v, .slice none 0 0, .int .u64 0, .int .u64 0, .int .u64 0, .int .u64 0, .int .u64 0, .int .u64 0, .int .u64 0, .int .u64 0, .int .u64 0, .int .u64 0, .int .u64 0, .int .u64 0, .int .u64 0, .int .u64 0, .int .u64 0, .int .u64 0, .int .u64 0, .bool false, .int .u64 s, .slice none 0 0]
theorem one_one (v : Value) (h : v.oneCell' = true) (s : Int) : (oneCells v s).all (·.oneCell') = true := by
  have : (oneCells v s).all (·.oneCell') = v.oneCell' := by simp [oneCells, Value.oneCell']
  rw [this, h]
theorem zero_im (w : World) : ImP w (oneCells (.slice none 0 0) 0) (0, []) := ⟨rfl, one_one _ rfl _, rfl, [], none, 0, fun j hj => absurd hj (Nat.not_lt_zero j), rfl, ⟨Nat.le_refl _, Nat.zero_le _⟩, rfl⟩
theorem one_im {w : World} {b1 b2 a n s : Nat} (ha : a < 18446744073709551616) (hn : n < 18446744073709551616)
    (h1 : w.heap[b1]? = some (.cells #[.string { data := #[] }, .string { data := #[] }, .int .u64 (a : Int), .int .u64 (n : Int), .int .u64 0, .int .i64 13] 164 (0, 0)))
    (h2 : w.heap[b2]? = some (.cells #[.string { data := #[] }, .int .u64 0, .int .u64 0, .int .u64 0, .int .u64 0, .int .i64 0, .slice (some ⟨b1, 0, none⟩) 1 1] 128 (0, 0))) : ImP w (oneCells (.slice (some ⟨b2, 0, none⟩) 1 1) (s : Int)) (s, [(a, n)]) := by
  refine ⟨rfl, one_one _ rfl _, rfl, [[⟨{ data := #[] }, { data := #[] }, 0, ⟨a, n, 13⟩, ha, hn⟩]], some ⟨b2, 0, none⟩, 1, fun j hj => ?_, rfl, ⟨Nat.le_refl _, by unfold maxLen; simp⟩, rfl⟩
  obtain rfl : j = 0 := by simpa using hj
  refine ⟨b2, 0, rfl, _, _, _, _, _, _, some ⟨b1, 0, none⟩, 1, cells_whole h2, Nat.le_refl _, by unfold maxLen; omega, fun j hj => ?_⟩
  obtain rfl : j = 0 := by simpa using hj
  exact ⟨b1, 0, rfl, cells_whole h1⟩
set_option maxRecDepth 100000 in
theorem one_any (w : World) (a n s : Nat) (ha : a < 18446744073709551616) (hn : n < 18446744073709551616) :
    Calls Try.prog 52 #[.int .u64 a, .int .u64 n, .int .u64 s] w fun e w' => ∃ cs, e = .returned (.agg cs) ∧ Below w.heap.size w w' ∧ ImP w' cs (s, [(a, n)]) := by
  go_enter Try.func52, Try.ntmps52
  go_wp2_with (first
    | (refine wpList_store_whole rfl 38 (.tmp 6) (.tmp 15) rfl w.heap.size (oneCells (.slice (some ⟨w.heap.size + 1 + 1, 0, none⟩) 1 1) (s : Int)) rfl rfl 38 (oneCells (.slice none 0 0) 0) ((hp_old _ _ _ (by simp <;> omega)).trans ((hp_old _ _ _ (by simp)).trans (hp_new w _ _ rfl))) size38 rfl (one_one _ rfl _) ?_; intro w1 hw1 hg1 hz1))
  refine bodyPost_ret (v := .agg (oneCells (.slice (some ⟨w.heap.size + 1 + 1, 0, none⟩) 1 1) (s : Int))) (results_cell_row rfl _ _ (w.heap.size) 38 _ (0, 0) _ rfl hw1 Try.underlying38 rfl size38) rfl ?_
  refine ⟨_, rfl, ?_, one_im (b1 := w.heap.size + 1) ha hn ?_ ?_⟩
  · exact ((((Below.refl _ w).alloc (Nat.le_refl _) _).alloc (by simp) _).alloc (by simp <;> omega) _).grown hg1 (by simp <;> omega) (fun k e => by cases e; omega)
  · rw [hg1.block _ (by simp <;> omega) (by simp), hp_old _ _ _ (by simp <;> omega), hp_new _ _ _ (by simp)]
  · rw [hg1.block _ (by simp <;> omega) (by simp <;> omega), hp_new _ _ _ (by simp)]
end Go.Proofs.Ytepnaalgobhcdaa
