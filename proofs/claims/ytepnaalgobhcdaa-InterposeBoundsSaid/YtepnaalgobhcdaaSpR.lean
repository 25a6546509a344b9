/- *Space.All, Dump of a space that is not there. -/
import Derived.RangeFuncNested
import Derived.RangeFuncBound
import Derived.RangeFuncCalls
import Derived.RangeFuncLeaves
import Derived.Shelf.Abstract
import Derived.Shelf.RegionOpen
import Derived.WalkKit
import Derived.OwnWalkIn
import Derived.TacticsInMore
import Derived.LoopNIn
import Derived.LoopIn
import Derived.Test.YtepnaalgobhcdaaSpQ
namespace Go.Proofs.Ytepnaalgobhcdaa
open Go.RowKit Go.Shelf Spm
attribute [local go_sem] Oper.semAt_some

set_option maxRecDepth 100000 in
theorem all1_nil (F : Fence) (n : Nat) (h77 : F.fn 77) (hro : F.round = none) (l bx : Nat) (W : World) (hb : W.cell? ⟨bx, 0, none⟩ = some (.pointer none)) :
    CallsIn F n Try.prog 77 #[.func (.yield l) #[] #[], .pointer (some ⟨bx, 0, none⟩)] W fun e W' => (∃ v, e = .returned v) ∧ W = W' := by
  refine callsIn_of_wp Try.func77 rfl h77 ?_ hro
  simp only [Try.ntmps77, List.size_toArray, List.length_cons, List.length_nil, Nat.reduceAdd, Nat.reduceSub, Array.replicate_succ, Array.replicate_zero, List.push_toArray, List.append_toArray, List.nil_append, List.cons_append]
  gi_wp2
  refine bodyPost_ret (results_none rfl _ _ _) rfl ?_
  exact ⟨⟨_, rfl⟩, rfl⟩

theorem all_nil_stops (F : Fence) (n : Nat) (h77 : F.fn 77) (hro : F.round = none) (bx : Nat) (w : World) (hbl : bx < w.heap.size) (hb : w.cell? ⟨bx, 0, none⟩ = some (.pointer none)) (Kp : World → World → Prop) {α : Type} (encs : α → Array Value) :
    SeqStopsK F n Try.prog 77 #[.pointer (some ⟨bx, 0, none⟩)] encs Kp (fun xs => xs = []) (fun _ => False) 0 w := by
  intro l J Jx W hW hJ hJx hY h0
  refine (all1_nil F n h77 hro l bx W ?_).mono ?_
  · unfold World.cell? at hb ⊢
    simp only [hW.block bx hbl]
    exact hb
  · rintro e W' ⟨hv, rfl⟩
    exact ⟨hv, .inl ⟨[], rfl, h0⟩⟩
end Go.Proofs.Ytepnaalgobhcdaa
