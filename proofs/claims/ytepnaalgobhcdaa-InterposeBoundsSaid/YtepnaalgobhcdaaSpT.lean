/- A zero Space: its map is nil. -/
import Derived.Test.YtepnaalgobhcdaaSpQ
import Derived.Laws.IdiomRangeMap
import Derived.Deep.RegionWith
import Derived.WalkSmall
namespace Go.Proofs.Ytepnaalgobhcdaa
open Go.RowKit Spm

set_option maxHeartbeats 1000000 in
set_option maxRecDepth 100000 in
theorem look_zero (w : World) (b : Nat) (hb : w.heap[b]? = some (.cells #[.map none] 78 (0, 0))) :
    Calls Try.prog 75 #[.pointer (some ⟨b, 0, none⟩), .int .u64 0, .int .u64 1, .int .i64 1] w (GivesB w (.int .i64 4)) := by
  have cb := cell_of_one hb
  have HI1 : Hid (∀ W, Calls Try.prog 64 #[.int .u64 0, .int .u64 1] W fun e w' => e = .returned (.bool true) ∧ W = w') := fun W => in_any W 0 1 (by decide)
  have HN : Hid (∀ W, Calls Try.prog 65 #[.int .u64 0, .int .u64 1] W fun e w' => e = .returned (.tuple #[.int .u64 0, .int .u64 1]) ∧ W = w') := fun W => numbers_any W 0 1 (by decide) (by decide)
  clear hb
  go_enter Try.func75, Try.ntmps75
  go_wp2_with (first
    | (go_at_call 64; refine (HI1.out _).mono ?_; rintro e _ ⟨rfl, rfl⟩)
    | (go_at_call 65; refine (HN.out _).mono ?_; rintro e _ ⟨rfl, rfl⟩))
  go_ret
  exact ⟨rfl, Below.refl _ _⟩
set_option maxRecDepth 100000 in
theorem read_zero (w : World) (b : Nat) (hb : w.heap[b]? = some (.cells #[.map none] 78 (0, 0))) :
    Calls Try.prog 35 #[.pointer (some ⟨b, 0, none⟩), .int .u64 0, .int .u64 1] w (GivesB w (.tuple #[.slice none 0 0, .int .i64 4])) := by
  have HL := Lib.hid (look_zero w b hb)
  clear hb
  go_enter Try.func35, Try.ntmps35
  go_wp2_with (go_at_call 75; refine HL.out.mono ?_; rintro e w1 ⟨rfl, hb1⟩; have B1 := Lib.hid hb1; clear hb1)
  go_ret2
  exact ⟨rfl, B1.out⟩
set_option maxHeartbeats 1000000 in
set_option maxRecDepth 100000 in
theorem free_zero (w : World) (b : Nat) (hb : w.heap[b]? = some (.cells #[.map none] 78 (0, 0))) :
    Calls Try.prog 41 #[.pointer (some ⟨b, 0, none⟩), .int .u64 140737488351232, .int .u64 4096] w (GivesB w (.bool true)) := by
  have cb := cell_of_one hb
  have HI1 : Hid (∀ W, Calls Try.prog 64 #[.int .u64 140737488351232, .int .u64 4096] W fun e w' => e = .returned (.bool true) ∧ W = w') := fun W => in_any W 140737488351232 4096 (by decide)
  have HN : Hid (∀ W, Calls Try.prog 65 #[.int .u64 140737488351232, .int .u64 4096] W fun e w' => e = .returned (.tuple #[.int .u64 34359738367, .int .u64 34359738368]) ∧ W = w') := fun W => numbers_any W 140737488351232 4096 (by decide) (by decide)
  have hrn := fun W : World => run_range_nilMap (P := Try.prog) W 76 32 142 Try.underlying76
  have hnn := fun (W : World) ty a c s => run_next_nilMap (P := Try.prog) W ty a c s
  clear hb
  go_enter Try.func41, Try.ntmps41
  go_wp2_with (first
    | (go_at_call 64; refine (HI1.out _).mono ?_; rintro e _ ⟨rfl, rfl⟩)
    | (go_at_call 65; refine (HN.out _).mono ?_; rintro e _ ⟨rfl, rfl⟩))
  refine wp_loop_rounds 1 ?_
  rw [rounds_succ]
  go_wp2_with fail
  go_ret
  exact ⟨rfl, (Below.refl _ w).alloc (Nat.le_refl _) _⟩
set_option maxHeartbeats 1000000 in
set_option maxRecDepth 100000 in
theorem equal_zero (w : World) (mb : Nat) (h : PgMap w mb (fun _ => none) 0) : Calls Try.prog 73 #[.map none, .map (some mb), .func (.func 74) #[] #[]] w (GivesB w (.bool true)) := by
  have H := Lib.hid h
  have hrn := fun W : World => run_range_nilMap (P := Try.prog) W 76 32 142 Try.underlying76
  have hnn := fun (W : World) ty a c s => run_next_nilMap (P := Try.prog) W ty a c s
  clear h
  go_enter Try.func73, Try.ntmps73
  go_wp2_with (refine wpList_pages_len rfl (.tmp 13) rfl mb H.out rfl ?_)
  refine wp_loop_rounds 1 ?_
  rw [rounds_succ]
  go_wp2_with fail
  go_ret
  exact ⟨rfl, (Below.refl _ w).alloc (Nat.le_refl _) _⟩
set_option maxHeartbeats 1000000 in
set_option maxRecDepth 100000 in
theorem same_zero (w : World) (b c mb : Nat) (hb : w.heap[b]? = some (.cells #[.map none] 78 (0, 0))) (hc : w.heap[c]? = some (.cells #[.map (some mb)] 78 (0, 0))) (h : PgMap w mb (fun _ => none) 0) :
    Calls Try.prog 31 #[.pointer (some ⟨b, 0, none⟩), .pointer (some ⟨c, 0, none⟩)] w (GivesB w (.bool true)) := by
  have HE : Hid (∀ W : World, PgMap W mb (fun _ => none) 0 → Calls Try.prog 73 #[.map none, .map (some mb), .func (.func 74) #[] #[]] W (GivesB W (.bool true))) := fun W hW => equal_zero W mb hW
  have H := Lib.hid h
  have cb := cell_of_one hb
  have cc := cell_of_one hc
  clear h hb hc
  go_enter Try.func31, Try.ntmps31
  go_wp2_with fail
  go_region_with (go_at_call 73; refine (HE.out _ (by exact H.out.kept rfl)).mono ?_; rintro e w9 ⟨rfl, hb9⟩; have B9 := Lib.hid hb9; clear hb9)
  all_goals
    go_wp2_with fail
    go_ret
    exact ⟨rfl, Below.trans (by first | exact (Below.refl _ w).drew | exact (Below.refl _ w).drew.drew) B9.out⟩
end Go.Proofs.Ytepnaalgobhcdaa
