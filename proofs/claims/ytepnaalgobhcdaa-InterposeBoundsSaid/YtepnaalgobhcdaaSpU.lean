/- *Space.Map upon a zero Space. -/
import Derived.Test.YtepnaalgobhcdaaSpT
namespace Go.Proofs.Ytepnaalgobhcdaa
open Go.RowKit Spm

def zF (b k0 : Nat) (k : Nat) : Prop := k = b ∨ k = k0
theorem zero_made {w : World} {b : Nat} (hb : w.heap[b]? = some (.cells #[.map none] 78 (0, 0))) :
    SpIn ((w.setCell ⟨b, 0, none⟩ (.map (some w.heap.size))).alloc (.map #[] 0)) b [] (zF b w.heap.size) := by
  have hl := lt_of_block hb
  have hm := PgMap.made (w.setCell ⟨b, 0, none⟩ (.map (some w.heap.size)))
  have hs : (w.setCell ⟨b, 0, none⟩ (.map (some w.heap.size))).heap.size = w.heap.size := by simp
  rw [hs] at hm
  refine ⟨ok_nil, ⟨w.heap.size, fun _ => 0, ?_, ⟨hm, .inr rfl, fun _ h => absurd h List.not_mem_nil, fun _ h => absurd h List.not_mem_nil⟩⟩, .inl rfl, fun k hk => ?_⟩
  · exact (hp_old _ _ _ (by rw [hs]; exact hl)).trans (one_setCell hb)
  · rcases hk with rfl | rfl
    · simp; omega
    · simp
def zM : List Pg := mapIn [] 34359738367 1 7
def ZeroRes (w : World) (b : Nat) (e : Ending) (w' : World) : Prop :=
  e = .returned (.int .i64 0) ∧ ∃ F, SpIn w' b zM F ∧ Chg (fun k => k = b) w w' ∧ ∀ k, F k → k = b ∨ w.heap.size ≤ k

set_option maxHeartbeats 2000000 in
set_option maxRecDepth 100000 in
theorem map_zero (w : World) (b : Nat) (hb : w.heap[b]? = some (.cells #[.map none] 78 (0, 0))) :
    Calls Try.prog 25 #[.pointer (some ⟨b, 0, none⟩), .int .u64 140737488351232, .int .u64 4096, .int .i64 7] w (ZeroRes w b) := by
  have cb := cell_of_one hb
  have HI1 : Hid (∀ W, Calls Try.prog 64 #[.int .u64 140737488351232, .int .u64 4096] W fun e w' => e = .returned (.bool true) ∧ W = w') := fun W => in_any W 140737488351232 4096 (by decide)
  have HN : Hid (∀ W, Calls Try.prog 65 #[.int .u64 140737488351232, .int .u64 4096] W fun e w' => e = .returned (.tuple #[.int .u64 34359738367, .int .u64 34359738368]) ∧ W = w') := fun W => numbers_any W 140737488351232 4096 (by decide) (by decide)
  have HFR := Lib.hid (free_zero w b hb)
  have HB := Lib.hid hb
  have hmm := @run_makeMap Try.prog
  have hnilm := fun (W : World) (r : Option Nat) => run_eql_map_nil (P := Try.prog) W 76 32 142 r Try.underlying76
  clear hb
  go_enter Try.func25, Try.ntmps25
  go_wp2_with (first
    | (go_at_call 64; refine (HI1.out _).mono ?_; rintro e _ ⟨rfl, rfl⟩)
    | (go_at_call 41; refine HFR.out.mono ?_; rintro e w1 ⟨rfl, hb1⟩; have B1 := Lib.hid hb1; have HB1 := Lib.hid (hb1.block b (lt_of_block HB.out) |>.trans HB.out); have cb1 := cell_of_one HB1.out; have fb1 := free_of_one HB1.out; have hbl1 := lt_of_block HB1.out; clear hb1 cb)
    | (go_at_call 65; refine (HN.out _).mono ?_; rintro e _ ⟨rfl, rfl⟩))
  have HSP := Lib.hid (MapSt.start (zero_made HB1.out) 34359738367 7)
  have HZ := Lib.hid (zero_made HB1.out)
  have HC2 : Hid (Chg (fun k => k = b) w ((w1.setCell ⟨b, 0, none⟩ (.map (some w1.heap.size))).alloc (.map #[] 0))) := by
    have h1 := B1.out
    refine ⟨h1.os, h1.tape, h1.output, by simpa using Nat.le_succ_of_le h1.size, fun k hk hn => ?_⟩
    rw [hp_old _ _ _ (by simp; have := h1.size; omega), heap_setCell_other _ _ _ _ hn]
    exact h1.block k hk
  have HS2 : Hid (((w1.setCell ⟨b, 0, none⟩ (.map (some w1.heap.size))).alloc (.map #[] 0)).heap.size = w1.heap.size + 1) := by show _ = _; simp
  generalize (w1.setCell ⟨b, 0, none⟩ (.map (some w1.heap.size))).alloc (.map #[] 0) = w2 at *
  clear cb1 fb1 hmm hnilm hbl1
  obtain ⟨hchg, mb2, A2, hb2, hp2, hfm2, hA2⟩ := HSP.out
  have e0 : mapIn [] 34359738367 0 7 = [] := mapIn_zero ok_nil _ _
  have cb2 := cell_of_one hb2
  have hbl2 := lt_of_block hb2
  have hnone : pgFn (mapIn [] 34359738367 0 7) A2 34359738367 = none := by rw [e0]; rfl
  have HNONE := Lib.hid hnone
  have HP2 := Lib.hid hp2
  have HA2 := Lib.hid hA2
  have HB2 := Lib.hid hb2
  have HM2 := Lib.hid (hp2.map.kept (hp_old w2 (.cells (bytesArr noughts) 140) mb2 hp2.map.lt))
  have hl2 : (mapIn [] 34359738367 0 7).length ≤ 8192 := by rw [e0]; decide
  have HFM2 := Lib.hid hfm2
  clear hchg hnone hp2 hA2 hb2 hfm2 e0
  refine wp_loop_rounds 2 ?_
  rw [rounds_succ]
  go_wp2_with (first
    | (refine wpList_newpage rfl rfl ?_)
    | (refine wpList_page_put rfl (.tmp 82) (.tmp 83) (.tmp 86) rfl mb2 HM2.out rfl (by omega) 34359738367 (by omega) rfl HNONE.out (w2.heap.size, 7) rfl ?_; intro w3 hm3 hg3; have HMM := Lib.hid hm3; have HGG := Lib.hid hg3; clear hm3 hg3))
  rw [rounds_succ]
  go_wp2_with fail
  go_ret
  have hcl : Clear [] 34359738367 1 := fun p hp => absurd hp List.not_mem_nil
  have hst := HSP.out.step hcl (by decide) HB2.out HP2.out HFM2.out HA2.out HMM.out HGG.out
  have hok : Ok (mapIn [] 34359738367 (0 + 1) 7) := mapIn_ok ok_nil hcl (by decide) (by decide) (by decide)
  have hd := hst.done HZ.out hok
  have s1 := B1.out.size
  have s2 := HS2.out
  refine ⟨rfl, _, hd, ?_, fun k hk => ?_⟩
  · refine HC2.out.trans (hst.chg.mono fun k hk hF => ?_)
    rcases hF with rfl | rfl
    · exact .inl rfl
    · exact .inr ⟨s1, by omega⟩
  · rcases hk with (rfl | rfl) | hk
    · exact .inl rfl
    · exact .inr s1
    · exact .inr (by omega)
end Go.Proofs.Ytepnaalgobhcdaa
