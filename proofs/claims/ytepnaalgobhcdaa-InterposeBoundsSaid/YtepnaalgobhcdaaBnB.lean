/- What a space answers that is not there; a zero one. *Space.All, Dump of a space that is not there. *Space.Dump of a space that is not there. A zero Space: its map is nil. *Space.Map upon a zero Space. clevislaw07.SpaceNil: the walk. -/
import Derived.Test.YtepnaalgobhcdaaBnA
import Derived.RangeFuncNested
import Derived.RangeFuncBound
import Derived.RangeFuncCalls
import Derived.RangeFuncLeaves
import Derived.Shelf.Abstract
import Derived.Shelf.RegionOpen
import Derived.WalkKit
import Derived.OwnWalkIn
import Derived.TacticsInMore
import Derived.LoopNIn
import Derived.LoopIn
import Derived.Laws.IdiomRangeMap
import Derived.Deep.RegionWith
import Derived.WalkSmall
namespace Go.Proofs.Ytepnaalgobhcdaa
open Go.RowKit Spm

def GivesB (w : World) (v : Value) (e : Ending) (w' : World) : Prop := e = .returned v ∧ Below w.heap.size w w'

set_option maxRecDepth 100000 in
theorem look_nil (w : World) (a n : Nat) (r : Int) : Calls Try.prog 75 #[.pointer none, .int .u64 a, .int .u64 n, .int .i64 r] w (GivesB w (.int .i64 1)) := by
  go_enter Try.func75, Try.ntmps75
  go_wp2_with fail
  go_ret
  exact ⟨rfl, Below.refl _ _⟩
set_option maxRecDepth 100000 in
theorem read_nil (w : World) (a n : Nat) : Calls Try.prog 35 #[.pointer none, .int .u64 a, .int .u64 n] w (GivesB w (.tuple #[.slice none 0 0, .int .i64 1])) := by
  have HL := Lib.hid (fun W => look_nil W a n 1)
  go_enter Try.func35, Try.ntmps35
  go_wp2_with (go_at_call 75; refine (HL.out _).mono ?_; rintro e w1 ⟨rfl, hb1⟩; have B1 := Lib.hid hb1; clear hb1)
  go_ret2
  exact ⟨rfl, B1.out⟩
set_option maxRecDepth 100000 in
theorem word_nil (w : World) (a : Nat) : Calls Try.prog 36 #[.pointer none, .int .u64 a] w (GivesB w (.tuple #[.int .u64 0, .int .i64 1])) := by
  have HL : Hid (∀ W, Calls Try.prog 35 #[.pointer none, .int .u64 a, .int .u64 8] W (GivesB W (.tuple #[.slice none 0 0, .int .i64 1]))) := fun W => read_nil W a 8
  go_enter Try.func36, Try.ntmps36
  go_wp2_with (go_at_call 35; refine (HL.out _).mono ?_; rintro e w1 ⟨rfl, hb1⟩; have B1 := Lib.hid hb1; clear hb1)
  refine wp_loop_rounds 1 ?_
  rw [rounds_succ]
  go_wp2_with fail
  go_ret2
  exact ⟨rfl, B1.out⟩
set_option maxRecDepth 100000 in
theorem map_nil (w : World) (a n : Nat) (r : Int) : Calls Try.prog 25 #[.pointer none, .int .u64 a, .int .u64 n, .int .i64 r] w (GivesB w (.int .i64 1)) := by
  go_enter Try.func25, Try.ntmps25
  go_wp2_with fail
  go_ret
  exact ⟨rfl, Below.refl _ _⟩
set_option maxRecDepth 100000 in
theorem fill_nil (w : World) (a : Nat) (ad : Option Addr) (n c : Nat) (hn : n < 9223372036854775808) : Calls Try.prog 37 #[.pointer none, .int .u64 a, .slice ad n c] w (GivesB w (.int .i64 1)) := by
  have HL : Hid (∀ W, Calls Try.prog 75 #[.pointer none, .int .u64 a, .int .u64 n, .int .i64 0] W (GivesB W (.int .i64 1))) := fun W => look_nil W a n 0
  go_enter Try.func37, Try.ntmps37
  go_wp2_with (go_at_call 75; refine (HL.out _).mono ?_; rintro e w1 ⟨rfl, hb1⟩; have B1 := Lib.hid hb1; clear hb1)
  go_ret
  exact ⟨rfl, B1.out⟩
set_option maxRecDepth 100000 in
theorem write_nil (w : World) (a : Nat) (ad : Option Addr) (n c : Nat) (hn : n < 9223372036854775808) : Calls Try.prog 38 #[.pointer none, .int .u64 a, .slice ad n c] w (GivesB w (.int .i64 1)) := by
  have HL : Hid (∀ W, Calls Try.prog 75 #[.pointer none, .int .u64 a, .int .u64 n, .int .i64 2] W (GivesB W (.int .i64 1))) := fun W => look_nil W a n 2
  go_enter Try.func38, Try.ntmps38
  go_wp2_with (go_at_call 75; refine (HL.out _).mono ?_; rintro e w1 ⟨rfl, hb1⟩; have B1 := Lib.hid hb1; clear hb1)
  go_ret
  exact ⟨rfl, B1.out⟩
set_option maxHeartbeats 1000000 in
set_option maxRecDepth 100000 in
theorem setword_nil (w : World) (a : Nat) (v : Nat) (_hv : v < 18446744073709551616) :
    Calls Try.prog 39 #[.pointer none, .int .u64 a, .int .u64 v] w (GivesB w (.int .i64 1)) := by
  have hwr : ∀ wr, SetSt w v 8 wr → Calls Try.prog 38 #[.pointer none, .int .u64 a, .slice (some ⟨w.heap.size, 0, none⟩) 8 8] wr (GivesB w (.int .i64 1)) := fun wr hs => by
    refine (write_nil wr a _ 8 8 (by decide)).mono ?_
    rintro e w' ⟨rfl, h1⟩
    exact ⟨rfl, hs.below.trans (below_le h1 hs.below.size)⟩
  have HWR := Lib.hid hwr
  have hz := zero152
  clear hwr
  go_enter Try.func39, Try.ntmps39
  go_wp2_with fail
  go_loopw [9] (fun t wr => ∃ i : Nat, i ≤ 8 ∧ t = .int .i64 i ∧ Hid (SetSt w v i wr)) (fun t _ => 8 - (intOf t).toNat)
  case atStart =>
    refine ⟨0, by omega, rfl, ⟨⟨List.replicate 8 0, rfl, rfl, ?_⟩, (Below.refl _ w).alloc (Nat.le_refl _) _, by simp⟩⟩
    exact hp_new _ _ _ rfl
  case round =>
    obtain ⟨i, hi, rfl, HS⟩ := hrel
    by_cases hlt : i < 8
    · obtain ⟨⟨x, hx⟩, hfr⟩ := HS.out.cell hlt
      have HST := Lib.hid (HS.out.step hlt)
      have hsh := shr_byte (v := v) (i := i)
      generalize UInt8.ofNat (v / 256 ^ i) = y at *
      have hy : y.toNat < 256 := y.toNat_lt
      go_wp2_with fail
      exact ⟨⟨i + 1, by omega, by go_num, HST.out⟩, by simp [intOf]; omega⟩
    · obtain rfl : i = 8 := by omega
      go_wp2_with (go_at_call 38; refine (HWR.out _ HS.out).mono ?_; rintro e w2 ⟨rfl, h1⟩; have H1 := Lib.hid h1; clear h1)
      go_ret
      exact ⟨rfl, H1.out⟩
set_option maxRecDepth 100000 in
theorem prot_nil (w : World) (a : Nat) : Calls Try.prog 40 #[.pointer none, .int .u64 a] w (GivesB w (.int .i64 0)) := by
  go_enter Try.func40, Try.ntmps40
  go_wp2_with fail
  go_ret
  exact ⟨rfl, Below.refl _ _⟩
set_option maxRecDepth 100000 in
theorem free_nil (w : World) : Calls Try.prog 41 #[.pointer none, .int .u64 0, .int .u64 4096] w (GivesB w (.bool true)) := by
  have HI1 : Hid (∀ W, Calls Try.prog 64 #[.int .u64 0, .int .u64 4096] W fun e w' => e = .returned (.bool true) ∧ W = w') := fun W => by
    have := in_any W 0 4096 (by decide); exact this
  go_enter Try.func41, Try.ntmps41
  go_wp2_with (go_at_call 64; refine (HI1.out _).mono ?_; rintro e _ ⟨rfl, rfl⟩)
  go_ret
  exact ⟨rfl, Below.refl _ _⟩
set_option maxRecDepth 100000 in
theorem pages_nil (w : World) : Calls Try.prog 26 #[.pointer none] w (GivesB w (.int .i64 0)) := by
  go_enter Try.func26, Try.ntmps26
  go_wp2_with fail
  go_ret
  exact ⟨rfl, Below.refl _ _⟩
set_option maxRecDepth 100000 in
theorem copy_nil (w : World) : Calls Try.prog 29 #[.pointer none] w (GivesB w (.pointer none)) := by
  go_enter Try.func29, Try.ntmps29
  go_wp2_with fail
  go_ret
  exact ⟨rfl, Below.refl _ _⟩
set_option maxRecDepth 100000 in
theorem same_nil (w : World) : Calls Try.prog 31 #[.pointer none, .pointer none] w (GivesB w (.bool true)) := by
  go_enter Try.func31, Try.ntmps31
  go_wp2_with fail
  go_ret
  exact ⟨rfl, Below.refl _ _⟩
set_option maxRecDepth 100000 in
theorem same_nil_l (w : World) (b : Addr) : Calls Try.prog 31 #[.pointer none, .pointer (some b)] w (GivesB w (.bool false)) := by
  go_enter Try.func31, Try.ntmps31
  go_wp2_with fail
  go_ret
  exact ⟨rfl, Below.refl _ _⟩
set_option maxRecDepth 100000 in
theorem same_nil_r (w : World) (b : Addr) : Calls Try.prog 31 #[.pointer (some b), .pointer none] w (GivesB w (.bool false)) := by
  go_enter Try.func31, Try.ntmps31
  go_wp2_with fail
  go_ret
  exact ⟨rfl, Below.refl _ _⟩
set_option maxRecDepth 100000 in
theorem all_any (w : World) (p : Option Addr) : Calls Try.prog 42 #[.pointer p] w fun e w' => e = .returned (.func (.func 77) #[] #[.pointer (some ⟨w.heap.size, 0, none⟩)]) ∧ w' = w.alloc (.cells #[.pointer p] 43) := by
  go_enter Try.func42, Try.ntmps42
  go_wp2_with fail
  go_ret
  exact ⟨rfl, rfl⟩
end Go.Proofs.Ytepnaalgobhcdaa
namespace Go.Proofs.Ytepnaalgobhcdaa
open Go.RowKit Go.Shelf Spm
attribute [local go_sem] Oper.semAt_some

set_option maxRecDepth 100000 in
theorem all1_nil (F : Fence) (n : Nat) (h77 : F.fn 77) (hro : F.round = none) (l bx : Nat) (W : World) (hb : W.cell? ⟨bx, 0, none⟩ = some (.pointer none)) :
    CallsIn F n Try.prog 77 #[.func (.yield l) #[] #[], .pointer (some ⟨bx, 0, none⟩)] W fun e W' => (∃ v, e = .returned v) ∧ W = W' := by
  refine callsIn_of_wp Try.func77 rfl h77 ?_ hro
  simp only [Try.ntmps77, List.size_toArray, List.length_cons, List.length_nil, Nat.reduceAdd, Nat.reduceSub, Array.replicate_succ, Array.replicate_zero, List.push_toArray, List.append_toArray, List.nil_append, List.cons_append]
  gi_wp2
  refine bodyPost_ret (results_none rfl _ _ _) rfl ?_
  exact ⟨⟨_, rfl⟩, rfl⟩

theorem all_nil_stops (F : Fence) (n : Nat) (h77 : F.fn 77) (hro : F.round = none) (bx : Nat) (w : World) (hbl : bx < w.heap.size) (hb : w.cell? ⟨bx, 0, none⟩ = some (.pointer none)) (Kp : World → World → Prop) {α : Type} (encs : α → Array Value) :
    SeqStopsK F n Try.prog 77 #[.pointer (some ⟨bx, 0, none⟩)] encs Kp (fun xs => xs = []) (fun _ => False) 0 w := by
  intro l J Jx W hW hJ hJx hY h0
  refine (all1_nil F n h77 hro l bx W ?_).mono ?_
  · unfold World.cell? at hb ⊢
    simp only [hW.block bx hbl]
    exact hb
  · rintro e W' ⟨hv, rfl⟩
    exact ⟨hv, .inl ⟨[], rfl, h0⟩⟩
end Go.Proofs.Ytepnaalgobhcdaa
namespace Go.Proofs.Ytepnaalgobhcdaa
open Go.RowKit Go.Shelf Spm
attribute [local go_sem] Oper.semAt_some

set_option maxHeartbeats 1000000 in
set_option maxRecDepth 100000 in
theorem dump_nil (w : World) : Calls Try.prog 34 #[.pointer none] w (GivesB w (.slice none 0 0)) := by
  refine (callsIn_wide (n := 3)).1 ?_
  refine callsIn_of_wp_marks Try.func34 rfl trivial ?_ rfl
  simp only [Try.ntmps34, List.size_toArray, List.length_cons, List.length_nil, Nat.reduceAdd, Nat.reduceSub, Array.replicate_succ, Array.replicate_zero, List.push_toArray, List.append_toArray, List.nil_append, List.cons_append]
  gi_wp2_with (refine ⟨trivial, ?_⟩; gi_at_call 42; refine (callsIn_wide.2 (all_any _ _)).mono ?_; rintro e w' ⟨rfl, rfl⟩)
  obtain ⟨w1, hw1⟩ : ∃ w1, (w.alloc (.cells #[.slice none 0 0] 63)).alloc (.cells #[.pointer none] 43) = w1 := ⟨_, rfl⟩
  have hsz : w1.heap.size = w.heap.size + 2 := by rw [← hw1]; simp
  have hB : Below w.heap.size w w1 := by rw [← hw1]; exact ((Below.refl _ w).alloc (Nat.le_refl _) _).alloc (by simp) _
  have hc : w1.cell? ⟨w.heap.size, 0, none⟩ = some (.slice none 0 0) := by
    rw [← hw1]; exact cell_of_one (hp_old _ _ _ (by simp) |>.trans (hp_new _ _ _ rfl))
  have hn : w1.cell? ⟨w.heap.size + 1, 0, none⟩ = some (.pointer none) := by
    rw [← hw1]; exact cell_of_one (hp_new _ _ _ (by simp))
  rw [hw1]
  clear hw1
  refine wpIn_rangeFunc_ownG (α := Empty) rfl (by decide) (gf := 77) (lb := #[.pointer (some ⟨w.heap.size + 1, 0, none⟩)]) rfl trivial (enters_of Try.func77 (by kernel_rfl) rfl)
    (all_nil_stops Fence.wide _ trivial rfl (w.heap.size + 1) w1 (by omega) hn (fun _ _ => True) (fun x : Empty => x.elim)) (fun _ _ => trivial) (fun _ _ _ _ _ _ _ _ => trivial) (Below.refl _ _) (fun x => x.elim)
    (fun _ W => W.cell? ⟨w.heap.size, 0, none⟩ = some (.slice none 0 0) ∧ Below w.heap.size w W) (fun _ _ _ => False)
    (OwnFrom.and (Own.from (fun s A B row hs hg hr => cell_kept hs hg hr) _) (ownFrom_below (Nat.le_refl _) (by omega)))
    (fun _ _ _ _ _ hs _ _ => hs) ⟨hc, hB⟩ (fun x => x.elim) (fun _ x => x.elim) (fun _ _ x => x.elim) ?done ?stop
  case done =>
    rintro D ys W hD rfl ⟨hc, hb⟩ hK
    gi_wp2
    refine ⟨by simp, .inl ⟨_, _, rfl, run_takeDeferred hK, ?_⟩⟩
    exact ⟨_, results_tmp rfl _ _ _, rfl, hb.trans (belowK_b (w := w) (Nat.le_refl _) W D _ _ (by omega) hK rfl rfl)⟩
  case stop =>
    rintro D c pre W _ h _
    exact h.elim
end Go.Proofs.Ytepnaalgobhcdaa
namespace Go.Proofs.Ytepnaalgobhcdaa
open Go.RowKit Spm

set_option maxHeartbeats 1000000 in
set_option maxRecDepth 100000 in
theorem look_zero (w : World) (b : Nat) (hb : w.heap[b]? = some (.cells #[.map none] 78 (0, 0))) :
    Calls Try.prog 75 #[.pointer (some ⟨b, 0, none⟩), .int .u64 0, .int .u64 1, .int .i64 1] w (GivesB w (.int .i64 4)) := by
  have cb := cell_of_one hb
  have HI1 : Hid (∀ W, Calls Try.prog 64 #[.int .u64 0, .int .u64 1] W fun e w' => e = .returned (.bool true) ∧ W = w') := fun W => in_any W 0 1 (by decide)
  have HN : Hid (∀ W, Calls Try.prog 65 #[.int .u64 0, .int .u64 1] W fun e w' => e = .returned (.tuple #[.int .u64 0, .int .u64 1]) ∧ W = w') := fun W => numbers_any W 0 1 (by decide) (by decide)
  clear hb
  go_enter Try.func75, Try.ntmps75
  go_wp2_with (first
    | (go_at_call 64; refine (HI1.out _).mono ?_; rintro e _ ⟨rfl, rfl⟩)
    | (go_at_call 65; refine (HN.out _).mono ?_; rintro e _ ⟨rfl, rfl⟩))
  go_ret
  exact ⟨rfl, Below.refl _ _⟩
set_option maxRecDepth 100000 in
theorem read_zero (w : World) (b : Nat) (hb : w.heap[b]? = some (.cells #[.map none] 78 (0, 0))) :
    Calls Try.prog 35 #[.pointer (some ⟨b, 0, none⟩), .int .u64 0, .int .u64 1] w (GivesB w (.tuple #[.slice none 0 0, .int .i64 4])) := by
  have HL := Lib.hid (look_zero w b hb)
  clear hb
  go_enter Try.func35, Try.ntmps35
  go_wp2_with (go_at_call 75; refine HL.out.mono ?_; rintro e w1 ⟨rfl, hb1⟩; have B1 := Lib.hid hb1; clear hb1)
  go_ret2
  exact ⟨rfl, B1.out⟩
set_option maxHeartbeats 1000000 in
set_option maxRecDepth 100000 in
theorem free_zero (w : World) (b : Nat) (hb : w.heap[b]? = some (.cells #[.map none] 78 (0, 0))) :
    Calls Try.prog 41 #[.pointer (some ⟨b, 0, none⟩), .int .u64 140737488351232, .int .u64 4096] w (GivesB w (.bool true)) := by
  have cb := cell_of_one hb
  have HI1 : Hid (∀ W, Calls Try.prog 64 #[.int .u64 140737488351232, .int .u64 4096] W fun e w' => e = .returned (.bool true) ∧ W = w') := fun W => in_any W 140737488351232 4096 (by decide)
  have HN : Hid (∀ W, Calls Try.prog 65 #[.int .u64 140737488351232, .int .u64 4096] W fun e w' => e = .returned (.tuple #[.int .u64 34359738367, .int .u64 34359738368]) ∧ W = w') := fun W => numbers_any W 140737488351232 4096 (by decide) (by decide)
  have hrn := fun W : World => run_range_nilMap (P := Try.prog) W 76 32 142 Try.underlying76
  have hnn := fun (W : World) ty a c s => run_next_nilMap (P := Try.prog) W ty a c s
  clear hb
  go_enter Try.func41, Try.ntmps41
  go_wp2_with (first
    | (go_at_call 64; refine (HI1.out _).mono ?_; rintro e _ ⟨rfl, rfl⟩)
    | (go_at_call 65; refine (HN.out _).mono ?_; rintro e _ ⟨rfl, rfl⟩))
  refine wp_loop_rounds 1 ?_
  rw [rounds_succ]
  go_wp2_with fail
  go_ret
  exact ⟨rfl, (Below.refl _ w).alloc (Nat.le_refl _) _⟩
set_option maxHeartbeats 1000000 in
set_option maxRecDepth 100000 in
theorem equal_zero (w : World) (mb : Nat) (h : PgMap w mb (fun _ => none) 0) : Calls Try.prog 73 #[.map none, .map (some mb), .func (.func 74) #[] #[]] w (GivesB w (.bool true)) := by
  have H := Lib.hid h
  have hrn := fun W : World => run_range_nilMap (P := Try.prog) W 76 32 142 Try.underlying76
  have hnn := fun (W : World) ty a c s => run_next_nilMap (P := Try.prog) W ty a c s
  clear h
  go_enter Try.func73, Try.ntmps73
  go_wp2_with (refine wpList_pages_len rfl (.tmp 13) rfl mb H.out rfl ?_)
  refine wp_loop_rounds 1 ?_
  rw [rounds_succ]
  go_wp2_with fail
  go_ret
  exact ⟨rfl, (Below.refl _ w).alloc (Nat.le_refl _) _⟩
set_option maxHeartbeats 1000000 in
set_option maxRecDepth 100000 in
theorem same_zero (w : World) (b c mb : Nat) (hb : w.heap[b]? = some (.cells #[.map none] 78 (0, 0))) (hc : w.heap[c]? = some (.cells #[.map (some mb)] 78 (0, 0))) (h : PgMap w mb (fun _ => none) 0) :
    Calls Try.prog 31 #[.pointer (some ⟨b, 0, none⟩), .pointer (some ⟨c, 0, none⟩)] w (GivesB w (.bool true)) := by
  have HE : Hid (∀ W : World, PgMap W mb (fun _ => none) 0 → Calls Try.prog 73 #[.map none, .map (some mb), .func (.func 74) #[] #[]] W (GivesB W (.bool true))) := fun W hW => equal_zero W mb hW
  have H := Lib.hid h
  have cb := cell_of_one hb
  have cc := cell_of_one hc
  clear h hb hc
  go_enter Try.func31, Try.ntmps31
  go_wp2_with fail
  go_region_with (go_at_call 73; refine (HE.out _ (by exact H.out.kept rfl)).mono ?_; rintro e w9 ⟨rfl, hb9⟩; have B9 := Lib.hid hb9; clear hb9)
  all_goals
    go_wp2_with fail
    go_ret
    exact ⟨rfl, Below.trans (by first | exact (Below.refl _ w).drew | exact (Below.refl _ w).drew.drew) B9.out⟩
end Go.Proofs.Ytepnaalgobhcdaa
namespace Go.Proofs.Ytepnaalgobhcdaa
open Go.RowKit Spm

def zF (b k0 : Nat) (k : Nat) : Prop := k = b ∨ k = k0
theorem zero_made {w : World} {b : Nat} (hb : w.heap[b]? = some (.cells #[.map none] 78 (0, 0))) :
    SpIn ((w.setCell ⟨b, 0, none⟩ (.map (some w.heap.size))).alloc (.map #[] 0)) b [] (zF b w.heap.size) := by
  have hl := lt_of_block hb
  have hm := PgMap.made (w.setCell ⟨b, 0, none⟩ (.map (some w.heap.size)))
  have hs : (w.setCell ⟨b, 0, none⟩ (.map (some w.heap.size))).heap.size = w.heap.size := by simp
  rw [hs] at hm
  refine ⟨ok_nil, ⟨w.heap.size, fun _ => 0, ?_, ⟨hm, .inr rfl, fun _ h => absurd h List.not_mem_nil, fun _ h => absurd h List.not_mem_nil⟩⟩, .inl rfl, fun k hk => ?_⟩
  · exact (hp_old _ _ _ (by rw [hs]; exact hl)).trans (one_setCell hb)
  · rcases hk with rfl | rfl
    · simp; omega
    · simp
def zM : List Pg := mapIn [] 34359738367 1 7
def ZeroRes (w : World) (b : Nat) (e : Ending) (w' : World) : Prop :=
  e = .returned (.int .i64 0) ∧ ∃ F, SpIn w' b zM F ∧ Chg (fun k => k = b) w w' ∧ ∀ k, F k → k = b ∨ w.heap.size ≤ k

set_option maxHeartbeats 2000000 in
set_option maxRecDepth 100000 in
theorem map_zero (w : World) (b : Nat) (hb : w.heap[b]? = some (.cells #[.map none] 78 (0, 0))) :
    Calls Try.prog 25 #[.pointer (some ⟨b, 0, none⟩), .int .u64 140737488351232, .int .u64 4096, .int .i64 7] w (ZeroRes w b) := by
  have cb := cell_of_one hb
  have HI1 : Hid (∀ W, Calls Try.prog 64 #[.int .u64 140737488351232, .int .u64 4096] W fun e w' => e = .returned (.bool true) ∧ W = w') := fun W => in_any W 140737488351232 4096 (by decide)
  have HN : Hid (∀ W, Calls Try.prog 65 #[.int .u64 140737488351232, .int .u64 4096] W fun e w' => e = .returned (.tuple #[.int .u64 34359738367, .int .u64 34359738368]) ∧ W = w') := fun W => numbers_any W 140737488351232 4096 (by decide) (by decide)
  have HFR := Lib.hid (free_zero w b hb)
  have HB := Lib.hid hb
  have hmm := @run_makeMap Try.prog
  have hnilm := fun (W : World) (r : Option Nat) => run_eql_map_nil (P := Try.prog) W 76 32 142 r Try.underlying76
  clear hb
  go_enter Try.func25, Try.ntmps25
  go_wp2_with (first
    | (go_at_call 64; refine (HI1.out _).mono ?_; rintro e _ ⟨rfl, rfl⟩)
    | (go_at_call 41; refine HFR.out.mono ?_; rintro e w1 ⟨rfl, hb1⟩; have B1 := Lib.hid hb1; have HB1 := Lib.hid (hb1.block b (lt_of_block HB.out) |>.trans HB.out); have cb1 := cell_of_one HB1.out; have fb1 := free_of_one HB1.out; have hbl1 := lt_of_block HB1.out; clear hb1 cb)
    | (go_at_call 65; refine (HN.out _).mono ?_; rintro e _ ⟨rfl, rfl⟩))
  have HSP := Lib.hid (MapSt.start (zero_made HB1.out) 34359738367 7)
  have HZ := Lib.hid (zero_made HB1.out)
  have HC2 : Hid (Chg (fun k => k = b) w ((w1.setCell ⟨b, 0, none⟩ (.map (some w1.heap.size))).alloc (.map #[] 0))) := by
    have h1 := B1.out
    refine ⟨h1.os, h1.tape, h1.output, by simpa using Nat.le_succ_of_le h1.size, fun k hk hn => ?_⟩
    rw [hp_old _ _ _ (by simp; have := h1.size; omega), heap_setCell_other _ _ _ _ hn]
    exact h1.block k hk
  have HS2 : Hid (((w1.setCell ⟨b, 0, none⟩ (.map (some w1.heap.size))).alloc (.map #[] 0)).heap.size = w1.heap.size + 1) := by show _ = _; simp
  generalize (w1.setCell ⟨b, 0, none⟩ (.map (some w1.heap.size))).alloc (.map #[] 0) = w2 at *
  clear cb1 fb1 hmm hnilm hbl1
  obtain ⟨hchg, mb2, A2, hb2, hp2, hfm2, hA2⟩ := HSP.out
  have e0 : mapIn [] 34359738367 0 7 = [] := mapIn_zero ok_nil _ _
  have cb2 := cell_of_one hb2
  have hbl2 := lt_of_block hb2
  have hnone : pgFn (mapIn [] 34359738367 0 7) A2 34359738367 = none := by rw [e0]; rfl
  have HNONE := Lib.hid hnone
  have HP2 := Lib.hid hp2
  have HA2 := Lib.hid hA2
  have HB2 := Lib.hid hb2
  have HM2 := Lib.hid (hp2.map.kept (hp_old w2 (.cells (bytesArr noughts) 140) mb2 hp2.map.lt))
  have hl2 : (mapIn [] 34359738367 0 7).length ≤ 8192 := by rw [e0]; decide
  have HFM2 := Lib.hid hfm2
  clear hchg hnone hp2 hA2 hb2 hfm2 e0
  refine wp_loop_rounds 2 ?_
  rw [rounds_succ]
  go_wp2_with (first
    | (refine wpList_newpage rfl rfl ?_)
    | (refine wpList_page_put rfl (.tmp 82) (.tmp 83) (.tmp 86) rfl mb2 HM2.out rfl (by omega) 34359738367 (by omega) rfl HNONE.out (w2.heap.size, 7) rfl ?_; intro w3 hm3 hg3; have HMM := Lib.hid hm3; have HGG := Lib.hid hg3; clear hm3 hg3))
  rw [rounds_succ]
  go_wp2_with fail
  go_ret
  have hcl : Clear [] 34359738367 1 := fun p hp => absurd hp List.not_mem_nil
  have hst := HSP.out.step hcl (by decide) HB2.out HP2.out HFM2.out HA2.out HMM.out HGG.out
  have hok : Ok (mapIn [] 34359738367 (0 + 1) 7) := mapIn_ok ok_nil hcl (by decide) (by decide) (by decide)
  have hd := hst.done HZ.out hok
  have s1 := B1.out.size
  have s2 := HS2.out
  refine ⟨rfl, _, hd, ?_, fun k hk => ?_⟩
  · refine HC2.out.trans (hst.chg.mono fun k hk hF => ?_)
    rcases hF with rfl | rfl
    · exact .inl rfl
    · exact .inr ⟨s1, by omega⟩
  · rcases hk with (rfl | rfl) | hk
    · exact .inl rfl
    · exact .inr s1
    · exact .inr (by omega)
end Go.Proofs.Ytepnaalgobhcdaa
namespace Go.Proofs.Ytepnaalgobhcdaa
open Go.RowKit Go.Shelf Spm
attribute [local go_sem] Oper.semAt_some

theorem _root_.Go.RowKit.Below.step {a b c : World} (h : Below a.heap.size a b) (k : Below b.heap.size b c) : Below a.heap.size a c := h.trans (below_le k h.size)
/-- The space at block z holds M; all that has turned since W is new. -/
def ZSt (W : World) (z : Nat) (M : List Pg) (w1 : World) : Prop := ∃ F : Nat → Prop, SpIn w1 z M F ∧ (∀ k, F k → W.heap.size ≤ k) ∧ Below W.heap.size W w1
theorem ZSt.below {W w1 : World} {z : Nat} {M : List Pg} (h : ZSt W z M w1) : Below W.heap.size W w1 := by obtain ⟨F, _, _, h⟩ := h; exact h
theorem ZSt.keep {W w1 w2 : World} {z : Nat} {M : List Pg} (h : ZSt W z M w1) (hb : Below w1.heap.size w1 w2) : ZSt W z M w2 := by
  obtain ⟨F, h1, h2, h3⟩ := h
  exact ⟨F, h1.keepB hb, h2, h3.step hb⟩
theorem ZSt.alloc {W w1 : World} {z : Nat} {M : List Pg} (h : ZSt W z M w1) (o : Obj) : ZSt W z M (w1.alloc o) := h.keep ((Below.refl _ w1).alloc (Nat.le_refl _) _)
theorem z_chg {W w1 w2 : World} {F : Nat → Prop} (h2 : ∀ k, F k → W.heap.size ≤ k) (h3 : Below W.heap.size W w1) (hc : Chg F w1 w2) : Below W.heap.size W w2 := h3.trans (hc.below h2 h3.size)
theorem z_map {W w1 : World} {z : Nat} {M : List Pg} (h : ZSt W z M w1) (a n : Nat) (ha : a < 18446744073709551616) (r : Int) {er : Int} {M' : List Pg} (he : mapErr M a n r = er) (hM : mapM M a n r = M') :
    Calls Try.prog 25 #[.pointer (some ⟨z, 0, none⟩), .int .u64 a, .int .u64 n, .int .i64 r] w1 fun e w' => e = .returned (.int .i64 er) ∧ ZSt W z M' w' := by
  obtain ⟨F, h1, h2, h3⟩ := h
  refine (map_any w1 z M F h1 a n ha r).mono ?_
  rintro e w' ⟨rfl, g1, g2⟩
  rw [hM] at g1
  exact ⟨by rw [he], _, g1, grow_below h2 h3.size, z_chg h2 h3 g2⟩
theorem z_fill {W w1 : World} {z : Nat} {M : List Pg} (h : ZSt W z M w1) (a : Nat) (ha : a < 18446744073709551616) (bs : List UInt8) {er : Int} {M' : List Pg} (he : lookErr M a bs.length 0 = er) (hM : writeM M a bs 0 = M') (hl : bs.length ≤ 9223372036854775807) :
    Calls Try.prog 37 #[.pointer (some ⟨z, 0, none⟩), .int .u64 a, .slice (some ⟨w1.heap.size, 0, none⟩) bs.length bs.length] (w1.alloc (.cells (bs.map byteVal).toArray 5)) fun e w' => e = .returned (.int .i64 er) ∧ ZSt W z M' w' := by
  have h3 := (h.alloc (.cells (bs.map byteVal).toArray 5)).below
  obtain ⟨F0, g1, g2, g3⟩ := h
  have g1' := g1.keepB ((Below.refl _ w1).alloc (Nat.le_refl _) (.cells (bs.map byteVal).toArray 5))
  refine (fill_any _ z M F0 g1' a ha bs (some ⟨w1.heap.size, 0, none⟩) bs.length (fun _ => ⟨_, 0, rfl, fun j hj => ?_, fun hF => absurd (g1.lt _ hF) (Nat.lt_irrefl _), by simp⟩) (Nat.le_refl _) hl).mono ?_
  · have hn := hp_new w1 (.cells (bs.map byteVal).toArray 5) _ rfl
    unfold World.cell?
    simp only [hn]
    simp [List.getElem?_eq_getElem hj, List.getD_eq_getElem?_getD]
  · rintro e w' ⟨rfl, k1, k2⟩
    rw [hM] at k1
    exact ⟨by rw [he], F0, k1, g2, z_chg g2 h3 k2⟩
theorem z_prot {W w1 : World} {z : Nat} {M : List Pg} (h : ZSt W z M w1) (a : Nat) (ha : a < 18446744073709551616) {p : Int} (hp : protM M a = p) :
    Calls Try.prog 40 #[.pointer (some ⟨z, 0, none⟩), .int .u64 a] w1 fun e w' => e = .returned (.int .i64 p) ∧ ZSt W z M w' := by
  have h' := h
  obtain ⟨F, h1, h2, h3⟩ := h'
  refine (prot_any w1 z M F h1 a ha).mono ?_
  rintro e w' ⟨rfl, rfl⟩
  exact ⟨by rw [hp], h⟩
theorem z_free {W w1 : World} {z : Nat} {M : List Pg} (h : ZSt W z M w1) (a n : Nat) (ha : a < 18446744073709551616) {p : Bool} (hp : freeB M a n = p) :
    Calls Try.prog 41 #[.pointer (some ⟨z, 0, none⟩), .int .u64 a, .int .u64 n] w1 fun e w' => e = .returned (.bool p) ∧ ZSt W z M w' := by
  have h' := h
  obtain ⟨F, h1, h2, h3⟩ := h'
  refine (free_any w1 z M F h1 a n ha).mono ?_
  rintro e w' ⟨rfl, hb⟩
  exact ⟨by rw [hp], h.keep hb⟩
theorem results_cell1 {fn : Func} {p : Tmp} {ty : TypeId} (h : fn.results = #[.cell p ty]) (tmps : Array Value) (P : Program) (w : World) (b : Addr) (v : Value) (ht : tmps.getD p undef = .pointer (some b)) (hl : (loadVar ty b).run P w = .ok v w) : (results fn tmps).run P w = .ok v w := by
  have ha : (asAddr (tmps[p]?.getD undef)).run P w = .ok b w := by
    rw [← Array.getD_eq_getD_getElem?, ht]; rfl
  simp only [results, h]
  simp [Sem.run_bind, Result.andThen, ha, hl]
theorem loadVar_bool {w : World} {b : Nat} {v : Value} (hc : w.cell? ⟨b, 0, none⟩ = some v) : (loadVar 4 ⟨b, 0, none⟩).run Try.prog w = .ok v w := by
  have hagg : (isAgg 4).run Try.prog w = .ok false w := by kernel_rfl
  simp [loadVar, Sem.run_bind, hagg, go_sem, hc]
def zM3 : List Pg := writeM zM 140737488355327 [9] 0
theorem zm1 : mapErr zM 140737488355328 4096 7 = 4 ∧ mapM zM 140737488355328 4096 7 = zM := by
  have e : mapErr zM 140737488355328 4096 7 = 4 := by decide +kernel
  exact ⟨e, by unfold mapM; rw [if_neg (by rw [e]; decide)]⟩
theorem zm2 : mapErr zM 9223372036854775808 9223372036854775808 7 = 4 ∧ mapM zM 9223372036854775808 9223372036854775808 7 = zM := by
  have e : mapErr zM 9223372036854775808 9223372036854775808 7 = 4 := by decide +kernel
  exact ⟨e, by unfold mapM; rw [if_neg (by rw [e]; decide)]⟩
theorem zm3 : protM zM 140737488355327 = 7 := by decide +kernel
theorem zm4 : lookErr zM 140737488355327 2 0 = 4 := by decide +kernel
theorem zm4w (bs : List UInt8) (h : bs.length = 2) : writeM zM 140737488355327 bs 0 = zM := by unfold writeM; rw [h, zm4]; rfl
theorem zm5 : lookErr zM 140737488355327 1 0 = 0 := by decide +kernel
theorem zm6 : freeB zM3 140737488355327 1 = false := by decide +kernel
theorem zm7 : freeB zM3 18446744073709551615 0 = true := by decide +kernel
theorem z_made {W w1 : World} {b : Nat} (hb : w1.heap[b]? = some (.cells #[.map none] 78 (0, 0))) (h1 : W.heap.size ≤ b) (h2 : Below W.heap.size W w1) :
    Calls Try.prog 25 #[.pointer (some ⟨b, 0, none⟩), .int .u64 140737488351232, .int .u64 4096, .int .i64 7] w1 fun e w' => e = .returned (.int .i64 0) ∧ ZSt W b zM w' := by
  refine (map_zero w1 b hb).mono ?_
  rintro e w' ⟨rfl, F, g1, g2, g3⟩
  refine ⟨rfl, F, g1, fun k hk => ?_, h2.trans (g2.below (fun k hk => by rw [hk]; exact h1) h2.size)⟩
  rcases g3 k hk with rfl | h
  · exact h1
  · exact Nat.le_trans h2.size h
/-- The zero space, and all that is turned since W is new. -/
structure NSt (W : World) (b : Nat) (w1 : World) : Prop where
  own : w1.heap[b]? = some (.cells #[.map none] 78 (0, 0))
  ge : W.heap.size ≤ b
  below : Below W.heap.size W w1
theorem NSt.keep {W w1 w2 : World} {b : Nat} (h : NSt W b w1) (hb : Below w1.heap.size w1 w2) : NSt W b w2 := ⟨(hb.block b (lt_of_block h.own)).trans h.own, h.ge, h.below.step hb⟩
/-- A new space beside it. -/
def NewSt (W : World) (b c : Nat) (w1 : World) : Prop := NSt W b w1 ∧ ∃ mb, w1.heap[c]? = some (.cells #[.map (some mb)] 78 (0, 0)) ∧ PgMap w1 mb (fun _ => none) 0
theorem n_new {W w1 : World} {b : Nat} (h : NSt W b w1) : Calls Try.prog 24 #[] w1 fun e w' => e = .returned (.pointer (some ⟨w1.heap.size + 1, 0, none⟩)) ∧ NewSt W b (w1.heap.size + 1) w' := by
  refine (new_any w1).mono ?_
  rintro e w' ⟨rfl, g1, g2, g3⟩
  refine ⟨rfl, h.keep g2, ?_⟩
  obtain ⟨mb, A, k1, k2⟩ := g1.own
  exact ⟨mb, k1, k2.map⟩
theorem n_same {W w1 : World} {b c : Nat} (h : NewSt W b c w1) : Calls Try.prog 31 #[.pointer (some ⟨b, 0, none⟩), .pointer (some ⟨c, 0, none⟩)] w1 fun e w' => e = .returned (.bool true) ∧ NSt W b w' := by
  obtain ⟨h1, mb, h2, h3⟩ := h
  refine (same_zero w1 b c mb h1.own h2 h3).mono ?_
  rintro e w' ⟨rfl, g⟩
  exact ⟨rfl, h1.keep g⟩
theorem n_read {W w1 : World} {b : Nat} (h : NSt W b w1) : Calls Try.prog 35 #[.pointer (some ⟨b, 0, none⟩), .int .u64 0, .int .u64 1] w1 fun e w' => e = .returned (.tuple #[.slice none 0 0, .int .i64 4]) ∧ NSt W b w' := by
  refine (read_zero w1 b h.own).mono ?_
  rintro e w' ⟨rfl, g⟩
  exact ⟨rfl, h.keep g⟩

theorem func_nil (W : World) (n : Nat) : (binOp .eql 74 (.func (.func 77) #[] #[.pointer (some ⟨n, 0, none⟩)]) .nilFunc).run Try.prog W = .ok (.bool false) W := by kernel_rfl

set_option maxHeartbeats 2000000 in
set_option maxRecDepth 100000 in
theorem nil_any (w : World) : Calls Try.prog 7 #[] w (GivesB w (.bool true)) := by
  have HRead : Hid (∀ W, Calls Try.prog 35 #[.pointer none, .int .u64 0, .int .u64 8] W (GivesB W (.tuple #[.slice none 0 0, .int .i64 1]))) := fun W => read_nil W 0 8
  have HWord : Hid (∀ W, Calls Try.prog 36 #[.pointer none, .int .u64 0] W (GivesB W (.tuple #[.int .u64 0, .int .i64 1]))) := fun W => word_nil W 0
  have HMap : Hid (∀ W, Calls Try.prog 25 #[.pointer none, .int .u64 0, .int .u64 4096, .int .i64 1] W (GivesB W (.int .i64 1))) := fun W => map_nil W 0 4096 1
  have HFill : Hid (∀ W, Calls Try.prog 37 #[.pointer none, .int .u64 0, .slice none 0 0] W (GivesB W (.int .i64 1))) := fun W => fill_nil W 0 none 0 0 (by decide)
  have HWrite : Hid (∀ W, Calls Try.prog 38 #[.pointer none, .int .u64 0, .slice none 0 0] W (GivesB W (.int .i64 1))) := fun W => write_nil W 0 none 0 0 (by decide)
  have HSet : Hid (∀ W, Calls Try.prog 39 #[.pointer none, .int .u64 0, .int .u64 1] W (GivesB W (.int .i64 1))) := fun W => setword_nil W 0 1 (by decide)
  have HProt : Hid (∀ W, Calls Try.prog 40 #[.pointer none, .int .u64 0] W (GivesB W (.int .i64 0))) := fun W => prot_nil W 0
  have HFree : Hid (∀ W, Calls Try.prog 41 #[.pointer none, .int .u64 0, .int .u64 4096] W (GivesB W (.bool true))) := fun W => free_nil W
  have HPages : Hid (∀ W, Calls Try.prog 26 #[.pointer none] W (GivesB W (.int .i64 0))) := fun W => pages_nil W
  have HDump : Hid (∀ W, Calls Try.prog 34 #[.pointer none] W (GivesB W (.slice none 0 0))) := fun W => dump_nil W
  have HCopy : Hid (∀ W, Calls Try.prog 29 #[.pointer none] W (GivesB W (.pointer none))) := fun W => copy_nil W
  have HSame : Hid (∀ W, Calls Try.prog 31 #[.pointer none, .pointer none] W (GivesB W (.bool true))) := fun W => same_nil W
  have HNewA : Hid (∀ W, Calls Try.prog 24 #[] W (GivesB W (.pointer (some ⟨W.heap.size + 1, 0, none⟩)))) := fun W => (new_any W).mono fun e w' h => ⟨h.1, h.2.2.1⟩
  have HNewB := HNewA
  have HSameL : Hid (∀ (W : World) (n : Nat), Calls Try.prog 31 #[.pointer none, .pointer (some ⟨n, 0, none⟩)] W (GivesB W (.bool false))) := fun W n => same_nil_l W _
  have HSameR : Hid (∀ (W : World) (n : Nat), Calls Try.prog 31 #[.pointer (some ⟨n, 0, none⟩), .pointer none] W (GivesB W (.bool false))) := fun W n => same_nil_r W _
  have HAllA : Hid (∀ W : World, Calls Try.prog 42 #[.pointer none] W fun e w' => e = .returned (.func (.func 77) #[] #[.pointer (some ⟨W.heap.size, 0, none⟩)]) ∧ w' = W.alloc (.cells #[.pointer none] 43)) := fun W => all_any W none
  have HAllB := HAllA
  have hfn := func_nil
  refine (callsIn_wide (n := 3)).1 ?_
  refine callsIn_of_wp_marks Try.func7 rfl trivial ?_ rfl
  simp only [Try.ntmps7, List.size_toArray, List.length_nil, Nat.reduceSub, Array.replicate_succ, Array.replicate_zero, List.push_toArray, List.append_toArray, List.nil_append, List.cons_append]
  gi_wp2_with (first
    | (refine ⟨trivial, ?_⟩; gi_at_call 35; refine (callsIn_wide.2 (HRead.out _)).mono ?_; rintro e w1 ⟨rfl, b1⟩; have B1 := Lib.hid b1; clear b1)
    | (refine ⟨trivial, ?_⟩; gi_at_call 36; refine (callsIn_wide.2 (HWord.out _)).mono ?_; rintro e w2 ⟨rfl, b1⟩; have B2 := Lib.hid b1; clear b1)
    | (refine ⟨trivial, ?_⟩; gi_at_call 25; refine (callsIn_wide.2 (HMap.out _)).mono ?_; rintro e w3 ⟨rfl, b1⟩; have B3 := Lib.hid b1; clear b1)
    | (refine ⟨trivial, ?_⟩; gi_at_call 37; refine (callsIn_wide.2 (HFill.out _)).mono ?_; rintro e w4 ⟨rfl, b1⟩; have B4 := Lib.hid b1; clear b1)
    | (refine ⟨trivial, ?_⟩; gi_at_call 38; refine (callsIn_wide.2 (HWrite.out _)).mono ?_; rintro e w5 ⟨rfl, b1⟩; have B5 := Lib.hid b1; clear b1)
    | (refine ⟨trivial, ?_⟩; gi_at_call 39; refine (callsIn_wide.2 (HSet.out _)).mono ?_; rintro e w6 ⟨rfl, b1⟩; have B6 := Lib.hid b1; clear b1)
    | (refine ⟨trivial, ?_⟩; gi_at_call 40; refine (callsIn_wide.2 (HProt.out _)).mono ?_; rintro e w7 ⟨rfl, b1⟩; have B7 := Lib.hid b1; clear b1 HProt)
    | (refine ⟨trivial, ?_⟩; gi_at_call 41; refine (callsIn_wide.2 (HFree.out _)).mono ?_; rintro e w8 ⟨rfl, b1⟩; have B8 := Lib.hid b1; clear b1 HFree)
    | (refine ⟨trivial, ?_⟩; gi_at_call 26; refine (callsIn_wide.2 (HPages.out _)).mono ?_; rintro e w9 ⟨rfl, b1⟩; have B9 := Lib.hid b1; clear b1 HPages)
    | (refine ⟨trivial, ?_⟩; gi_at_call 34; refine (callsIn_wide.2 (HDump.out _)).mono ?_; rintro e w10 ⟨rfl, b1⟩; have B10 := Lib.hid b1; clear b1 HDump)
    | (refine ⟨trivial, ?_⟩; gi_at_call 29; refine (callsIn_wide.2 (HCopy.out _)).mono ?_; rintro e w11 ⟨rfl, b1⟩; have B11 := Lib.hid b1; clear b1 HCopy)
    | (refine ⟨trivial, ?_⟩; gi_at_call 31; refine (callsIn_wide.2 (HSame.out _)).mono ?_; rintro e w12 ⟨rfl, b1⟩; have B12 := Lib.hid b1; clear b1 HSame)
    | (refine ⟨trivial, ?_⟩; gi_at_call 24; refine (callsIn_wide.2 (HNewA.out _)).mono ?_; rintro e w13 ⟨rfl, b1⟩; have B13 := Lib.hid b1; clear b1 HNewA)
    | (refine ⟨trivial, ?_⟩; gi_at_call 31; refine (callsIn_wide.2 (HSameL.out _ _)).mono ?_; rintro e w14 ⟨rfl, b1⟩; have B14 := Lib.hid b1; clear b1 HSameL)
    | (refine ⟨trivial, ?_⟩; gi_at_call 24; refine (callsIn_wide.2 (HNewB.out _)).mono ?_; rintro e w15 ⟨rfl, b1⟩; have B15 := Lib.hid b1; clear b1 HNewB)
    | (refine ⟨trivial, ?_⟩; gi_at_call 31; refine (callsIn_wide.2 (HSameR.out _ _)).mono ?_; rintro e w16 ⟨rfl, b1⟩; have B16 := Lib.hid b1; clear b1 HSameR)
    | (refine ⟨trivial, ?_⟩; gi_at_call 42; refine (callsIn_wide.2 (HAllA.out _)).mono ?_; rintro e w17 ⟨rfl, h1⟩; have E17 := Lib.hid h1; clear h1 HAllA)
    | (refine ⟨trivial, ?_⟩; gi_at_call 42; refine (callsIn_wide.2 (HAllB.out _)).mono ?_; rintro e w18 ⟨rfl, h1⟩; have E18 := Lib.hid h1; clear h1 HAllB))
  have c1 := B1.out
  have c2 := c1.step B2.out
  have c3 := c2.step B3.out
  have c4 := c3.step B4.out
  have c5 := c4.step B5.out
  have c6 := c5.step B6.out
  have c7 := c6.step B7.out
  have c8 := c7.step B8.out
  have c9 := c8.step B9.out
  have c10 := c9.step B10.out
  have c11 := c10.step B11.out
  have c12 := c11.step B12.out
  have c13 := c12.step B13.out
  have c14 := c13.step B14.out
  have c15 := c14.step B15.out
  have c16 := c15.step B16.out
  have c17 := c16.step (c := w17) (by rw [E17.out]; exact (Below.refl _ w16).alloc (Nat.le_refl _) _)
  have c18 := c17.step (c := w18) (by rw [E18.out]; exact (Below.refl _ w17).alloc (Nat.le_refl _) _)
  have hB : Below w.heap.size w w18 := ((Below.refl _ w).alloc (Nat.le_refl _) (.cells #[.bool false] 4)).trans (below_le c18 (by simp))
  have hR : w18.heap[w.heap.size]? = some (.cells #[.bool false] 4 (0, 0)) := by rw [c18.block _ (by simp), hp_new _ _ _ rfl]
  have hc := cell_of_one hR
  have hf := free_of_one hR
  have hn : w18.cell? ⟨w17.heap.size, 0, none⟩ = some (.pointer none) := by rw [E18.out]; exact cell_of_one (hp_new _ _ _ rfl)
  have hl : w17.heap.size < w18.heap.size := by rw [E18.out]; simp
  clear c1 c2 c3 c4 c5 c6 c7 c8 c9 c10 c11 c12 c13 c14 c15 c16 c17 c18 B1 B2 B3 B4 B5 B6 B7 B8 B9 B10 B11 B12 B13 B14 B15 B16 E17 E18 HRead HWord HFill HWrite HSet hfn
  refine wpIn_rangeFunc_ownG (α := Empty) rfl (by decide) (gf := 77) (lb := #[.pointer (some ⟨w17.heap.size, 0, none⟩)]) rfl trivial (enters_of Try.func77 (by kernel_rfl) rfl)
    (all_nil_stops Fence.wide _ trivial rfl w17.heap.size w18 hl hn (fun _ _ => True) (fun x : Empty => x.elim)) (fun _ _ => trivial) (fun _ _ _ _ _ _ _ _ => trivial) (Below.refl _ _) (fun x => x.elim)
    (fun _ W => (W.cell? ⟨w.heap.size, 0, none⟩ = some (.bool false) ∧ W.frozen? ⟨w.heap.size, 0, none⟩ = false) ∧ Below w.heap.size w W) (fun _ _ _ => False)
    (OwnFrom.and (Own.from (fun s A B row hs hg hr => ⟨cell_kept hs.1 hg hr, (frozen_kept hs.1 hg hr).trans hs.2⟩) _) (ownFrom_below (Nat.le_refl _) (by have := hB.size; omega)))
    (fun _ _ _ _ _ hs _ _ => hs) ⟨⟨hc, hf⟩, hB⟩ (fun x => x.elim) (fun _ x => x.elim) (fun _ _ x => x.elim) ?done ?stop
  case done =>
    rintro D ys W hD rfl ⟨⟨hc, hf⟩, hb⟩ hK
    have hDl := lt_of_block hK
    clear hn hl hR
    have HN0 : Hid (NSt W W.heap.size (W.alloc (.cells #[.map none] 78))) := ⟨hp_new _ _ _ rfl, Nat.le_refl _, (Below.refl _ W).alloc (Nat.le_refl _) _⟩
    have HRead : Hid (∀ w1 b, NSt W b w1 → Calls Try.prog 35 #[.pointer (some ⟨b, 0, none⟩), .int .u64 0, .int .u64 1] w1 fun e w' => e = .returned (.tuple #[.slice none 0 0, .int .i64 4]) ∧ NSt W b w') := fun w1 b h => n_read h
    have HNew : Hid (∀ w1 b, NSt W b w1 → Calls Try.prog 24 #[] w1 fun e w' => e = .returned (.pointer (some ⟨w1.heap.size + 1, 0, none⟩)) ∧ NewSt W b (w1.heap.size + 1) w') := fun w1 b h => n_new h
    have HSame : Hid (∀ w1 b c, NewSt W b c w1 → Calls Try.prog 31 #[.pointer (some ⟨b, 0, none⟩), .pointer (some ⟨c, 0, none⟩)] w1 fun e w' => e = .returned (.bool true) ∧ NSt W b w') := fun w1 b c h => n_same h
    have HMap1 : Hid (∀ w1 b, NSt W b w1 → Calls Try.prog 25 #[.pointer (some ⟨b, 0, none⟩), .int .u64 140737488351232, .int .u64 4096, .int .i64 7] w1 fun e w' => e = .returned (.int .i64 0) ∧ ZSt W b zM w') := fun w1 b h => z_made h.own h.ge h.below
    have HMap2 : Hid (∀ w1 b, ZSt W b zM w1 → Calls Try.prog 25 #[.pointer (some ⟨b, 0, none⟩), .int .u64 140737488355328, .int .u64 4096, .int .i64 7] w1 fun e w' => e = .returned (.int .i64 4) ∧ ZSt W b zM w') := fun w1 b h => z_map h 140737488355328 4096 (by decide) 7 zm1.1 zm1.2
    have HMap3 : Hid (∀ w1 b, ZSt W b zM w1 → Calls Try.prog 25 #[.pointer (some ⟨b, 0, none⟩), .int .u64 9223372036854775808, .int .u64 9223372036854775808, .int .i64 7] w1 fun e w' => e = .returned (.int .i64 4) ∧ ZSt W b zM w') := fun w1 b h => z_map h 9223372036854775808 9223372036854775808 (by decide) 7 zm2.1 zm2.2
    have HProt : Hid (∀ w1 b, ZSt W b zM w1 → Calls Try.prog 40 #[.pointer (some ⟨b, 0, none⟩), .int .u64 140737488355327] w1 fun e w' => e = .returned (.int .i64 7) ∧ ZSt W b zM w') := fun w1 b h => z_prot h 140737488355327 (by decide) zm3
    have HFill1 : Hid (∀ w1 b, ZSt W b zM w1 → Calls Try.prog 37 #[.pointer (some ⟨b, 0, none⟩), .int .u64 140737488355327, .slice (some ⟨w1.heap.size, 0, none⟩) 2 2] (w1.alloc (.cells #[.int .u8 1, .int .u8 2] 5)) fun e w' => e = .returned (.int .i64 4) ∧ ZSt W b zM w') := fun w1 b h => z_fill h 140737488355327 (by decide) [1, 2] zm4 (zm4w _ rfl) (by decide)
    have HFill2 : Hid (∀ w1 b, ZSt W b zM w1 → Calls Try.prog 37 #[.pointer (some ⟨b, 0, none⟩), .int .u64 140737488355327, .slice (some ⟨w1.heap.size, 0, none⟩) 1 1] (w1.alloc (.cells #[.int .u8 9] 5)) fun e w' => e = .returned (.int .i64 0) ∧ ZSt W b zM3 w') := fun w1 b h => z_fill h 140737488355327 (by decide) [9] zm5 rfl (by decide)
    have HFree1 : Hid (∀ w1 b, ZSt W b zM3 w1 → Calls Try.prog 41 #[.pointer (some ⟨b, 0, none⟩), .int .u64 140737488355327, .int .u64 1] w1 fun e w' => e = .returned (.bool false) ∧ ZSt W b zM3 w') := fun w1 b h => z_free h 140737488355327 1 (by decide) zm6
    have HFree2 : Hid (∀ w1 b, ZSt W b zM3 w1 → Calls Try.prog 41 #[.pointer (some ⟨b, 0, none⟩), .int .u64 18446744073709551615, .int .u64 0] w1 fun e w' => e = .returned (.bool true) ∧ ZSt W b zM3 w') := fun w1 b h => z_free h 18446744073709551615 0 (by decide) zm7
    have HKnown : Hid (∀ w1 b, ZSt W b zM3 w1 → Calls Try.prog 23 #[] w1 fun e w' => e = .returned (.bool true) ∧ ZSt W b zM3 w') := fun w1 b h => (known_any w1).mono fun e w' g => ⟨g.1, h.keep g.2⟩
    have HC := Lib.hid hc
    have HF := Lib.hid hf
    have HBB := Lib.hid hb
    have HKK := Lib.hid hK
    clear hc hf hb hK
    gi_wp2_with (first
      | (refine ⟨trivial, ?_⟩; gi_at_call 35; refine (callsIn_wide.2 (HRead.out _ _ HN0.out)).mono ?_; rintro e u1 ⟨rfl, b1⟩; have B1 := Lib.hid b1; clear b1 HRead)
      | (refine ⟨trivial, ?_⟩; gi_at_call 24; refine (callsIn_wide.2 (HNew.out _ _ B1.out)).mono ?_; rintro e u2 ⟨rfl, b1⟩; have B2 := Lib.hid b1; clear b1 HNew)
      | (refine ⟨trivial, ?_⟩; gi_at_call 31; refine (callsIn_wide.2 (HSame.out _ _ _ B2.out)).mono ?_; rintro e u3 ⟨rfl, b1⟩; have B3 := Lib.hid b1; clear b1 HSame)
      | (refine ⟨trivial, ?_⟩; gi_at_call 25; refine (callsIn_wide.2 (HMap1.out _ _ B3.out)).mono ?_; rintro e u4 ⟨rfl, b1⟩; have B4 := Lib.hid b1; clear b1 HMap1)
      | (refine ⟨trivial, ?_⟩; gi_at_call 25; refine (callsIn_wide.2 (HMap2.out _ _ B4.out)).mono ?_; rintro e u5 ⟨rfl, b1⟩; have B5 := Lib.hid b1; clear b1 HMap2)
      | (refine ⟨trivial, ?_⟩; gi_at_call 25; refine (callsIn_wide.2 (HMap3.out _ _ B5.out)).mono ?_; rintro e u6 ⟨rfl, b1⟩; have B6 := Lib.hid b1; clear b1 HMap3)
      | (refine ⟨trivial, ?_⟩; gi_at_call 40; refine (callsIn_wide.2 (HProt.out _ _ B6.out)).mono ?_; rintro e u7 ⟨rfl, b1⟩; have B7 := Lib.hid b1; clear b1 HProt)
      | (refine ⟨trivial, ?_⟩; gi_at_call 37; refine (callsIn_wide.2 (HFill1.out _ _ B7.out)).mono ?_; rintro e u8 ⟨rfl, b1⟩; have B8 := Lib.hid b1; clear b1 HFill1)
      | (refine ⟨trivial, ?_⟩; gi_at_call 37; refine (callsIn_wide.2 (HFill2.out _ _ B8.out)).mono ?_; rintro e u9 ⟨rfl, b1⟩; have B9 := Lib.hid b1; clear b1 HFill2)
      | (refine ⟨trivial, ?_⟩; gi_at_call 41; refine (callsIn_wide.2 (HFree1.out _ _ B9.out)).mono ?_; rintro e u10 ⟨rfl, b1⟩; have B10 := Lib.hid b1; clear b1 HFree1)
      | (refine ⟨trivial, ?_⟩; gi_at_call 41; refine (callsIn_wide.2 (HFree2.out _ _ B10.out)).mono ?_; rintro e u11 ⟨rfl, b1⟩; have B11 := Lib.hid b1; clear b1 HFree2)
      | (refine ⟨trivial, ?_⟩; gi_at_call 23; refine (callsIn_wide.2 (HKnown.out _ _ B11.out)).mono ?_; rintro e u12 ⟨rfl, b1⟩; have bb := b1.below; have cr := (bb.cell (p := ⟨w.heap.size, 0, none⟩) (block_lt_of_cell HC.out)).trans HC.out; have fr := (bb.frozen (p := ⟨w.heap.size, 0, none⟩) (block_lt_of_cell HC.out)).trans HF.out; have BB := Lib.hid bb; clear b1 bb HKnown))
    have hlt : w.heap.size < w18.heap.size := block_lt_of_cell hc
    have hne : D ≠ w.heap.size := by omega
    have hK2 : (u12.setCell ⟨w.heap.size, 0, none⟩ (.bool true)).heap[D]? = some (.deferred (some [])) := by
      rw [heap_setCell_other _ _ _ _ hne]; exact (BB.out.block D hDl).trans HKK.out
    have hc2 : (u12.setCell ⟨w.heap.size, 0, none⟩ (.bool true)).cell? ⟨w.heap.size, 0, none⟩ = some (.bool true) := by
      exact World.cell?_setCell_same _ _ _ cr
    have hb2 : Below w.heap.size w (u12.setCell ⟨w.heap.size, 0, none⟩ (.bool true)) := (HBB.out.trans (below_le BB.out HBB.out.size)).setCell (by simp) _
    generalize u12.setCell ⟨w.heap.size, 0, none⟩ (.bool true) = wf at *
    refine ⟨by simp, .inl ⟨_, _, rfl, run_takeDeferred hK2, ?_⟩⟩
    refine ⟨_, results_cell1 rfl _ _ _ ⟨w.heap.size, 0, none⟩ (.bool true) rfl (loadVar_bool ?_), rfl, hb2.trans (belowK_b (w := w) (Nat.le_refl _) wf D _ _ (by omega) hK2 rfl rfl)⟩
    have : ∀ o', (wf.putObj D o').cell? ⟨w.heap.size, 0, none⟩ = wf.cell? ⟨w.heap.size, 0, none⟩ := fun o' => by
      unfold World.cell?
      simp only [World.putObj_heap_other (Ne.symm hne)]
    rw [this]; exact hc2
  case stop =>
    rintro D c pre W _ h _
    exact h.elim
end Go.Proofs.Ytepnaalgobhcdaa
