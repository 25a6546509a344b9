/- The sections of an image as values; the iterator over those of pairs. -/
import Derived.RangeFuncNested
import Derived.RangeFuncBound
import Derived.RangeFuncCalls
import Derived.RangeFuncLeaves
import Derived.Shelf.Abstract
import Derived.Shelf.RegionOpen
import Derived.WalkKit
import Derived.OwnWalkIn
import Derived.TacticsInMore
import Derived.LoopNIn
import Derived.LoopIn
import Derived.Test.YtepnaalgobhcdaaBase
namespace Go.Proofs.Ytepnaalgobhcdaa
open Go.RowKit Go.Shelf
attribute [local go_sem] Oper.semAt_some

/-- A section with all that its six cells hold. -/
structure SecC where
  nm : ByteArray
  sg : ByteArray
  off : Int
  x : SecM
  ha : x.addr < 18446744073709551616
  hs : x.size < 18446744073709551616
def SecC.cells (c : SecC) : Array Value := #[.string c.nm, .string c.sg, .int .u64 c.x.addr, .int .u64 c.x.size, .int .u64 c.off, .int .i64 c.x.kind]
def SecC.none : SecC := ⟨.empty, .empty, 0, ⟨0, 0, 0⟩, by decide, by decide⟩
def SecsC (w : World) (a : Option Addr) (l : List SecC) : Prop := SliceOf a l.length 6 fun j b o => CellsAt w b o (l.getD j .none).cells
def SegsC (w : World) (a : Option Addr) (L : List (List SecC)) : Prop :=
  SliceOf a L.length 7 fun j b o => ∃ (v0 : ByteArray) (v1 v2 v3 v4 v5 : Int) (a' : Option Addr) (c' : Nat), CellsAt w b o #[.string v0, .int .u64 v1, .int .u64 v2, .int .u64 v3, .int .u64 v4, .int .i64 v5, .slice a' (L.getD j []).length c'] ∧ (L.getD j []).length ≤ c' ∧ c' ≤ maxLen ∧ SecsC w a' (L.getD j [])
theorem SecsC.keep {w w' : World} {a : Option Addr} {l : List SecC} (h : SecsC w a l) (hb : Below w.heap.size w w') : SecsC w' a l := h.mono fun _ _ _ _ h => h.keep hb
theorem SegsC.keep {w w' : World} {a : Option Addr} {L : List (List SecC)} (h : SegsC w a L) (hb : Below w.heap.size w w') : SegsC w' a L := h.mono fun _ _ _ _ h => by
  obtain ⟨v0, v1, v2, v3, v4, v5, a', c', h1, h2, h3, h4⟩ := h
  exact ⟨v0, v1, v2, v3, v4, v5, a', c', h1.keep hb, h2, h3, h4.keep hb⟩
theorem list_choose {α β : Type} (f : α → β) (l : List β) (P : Nat → α → Prop) (h : ∀ j, ∀ (hj : j < l.length), ∃ c, f c = l[j] ∧ P j c) : ∃ L : List α, L.map f = l ∧ ∀ j, ∀ (hj : j < L.length), P j L[j] := by
  refine ⟨List.ofFn fun j : Fin l.length => Classical.choose (h j.1 j.2), ?_, fun j hj => ?_⟩
  · apply List.ext_getElem
    · simp
    · intro j h1 h2
      simp only [List.getElem_map, List.getElem_ofFn]
      exact (Classical.choose_spec (h j h2)).1
  · have h2 : j < l.length := by simpa using hj
    simp only [List.getElem_ofFn]
    exact (Classical.choose_spec (h j h2)).2
theorem secs_choose {w : World} {a : Option Addr} {l : List SecM} (h : SliceOf a l.length 6 fun j => SecAt w (l.getD j ⟨0, 0, 0⟩)) : ∃ L : List SecC, L.map (·.x) = l ∧ SecsC w a L := by
  obtain ⟨L, h1, h2⟩ := list_choose (fun c : SecC => c.x) l (fun j c => ∃ b o, a = some ⟨b, o, none⟩ ∧ CellsAt w b (o + j * 6) c.cells) fun j hj => by
    obtain ⟨b, o, e, n, s, of, k1, k2, k3⟩ := h j hj
    rw [List.getD_eq_getElem?_getD, List.getElem?_eq_getElem hj] at k1 k2 k3
    exact ⟨⟨n, s, of, l[j], k1, k2⟩, rfl, b, o, e, k3⟩
  refine ⟨L, h1, fun j hj => ?_⟩
  obtain ⟨b, o, e, k⟩ := h2 j hj
  refine ⟨b, o, e, ?_⟩
  show CellsAt w b (o + j * 6) (L.getD j .none).cells
  rw [List.getD_eq_getElem?_getD, List.getElem?_eq_getElem hj]; exact k
theorem segs_choose {w : World} {a : Option Addr} {l : List SegM} (h : SliceOf a l.length 7 fun j => SegAt w (l.getD j ⟨0, 0, 0, 0, 0, []⟩)) : ∃ L : List (List SecC), L.map (·.map (·.x)) = l.map (·.secs) ∧ SegsC w a L := by
  obtain ⟨L, h1, h2⟩ := list_choose (fun c : List SecC => c.map (·.x)) (l.map (·.secs)) (fun j c => ∃ b o, a = some ⟨b, o, none⟩ ∧ ∃ (v0 : ByteArray) (v1 v2 v3 v4 v5 : Int) (a' : Option Addr) (c' : Nat), CellsAt w b (o + j * 7) #[.string v0, .int .u64 v1, .int .u64 v2, .int .u64 v3, .int .u64 v4, .int .i64 v5, .slice a' c.length c'] ∧ c.length ≤ c' ∧ c' ≤ maxLen ∧ SecsC w a' c) fun j hj => by
    have hj' : j < l.length := by simpa using hj
    obtain ⟨b, o, e, n, a', c', k1, k2, k3, k4, k5, k6, k7, k8⟩ := h j hj'
    rw [List.getD_eq_getElem?_getD, List.getElem?_eq_getElem hj'] at k5 k7 k8
    simp only [Option.getD_some] at k5 k7 k8
    obtain ⟨L, e1, e2⟩ := secs_choose k8
    have el : l[j].secs.length = L.length := by rw [← e1, List.length_map]
    rw [el] at k5 k7
    exact ⟨L, by simp [e1], b, o, e, _, _, _, _, _, _, a', c', k7, k5, k6, e2⟩
  refine ⟨L, h1, fun j hj => ?_⟩
  obtain ⟨b, o, e, v0, v1, v2, v3, v4, v5, a', c', k⟩ := h2 j hj
  refine ⟨b, o, e, v0, v1, v2, v3, v4, v5, a', c', ?_⟩
  have e2 : L.getD j [] = L[j] := by rw [List.getD_eq_getElem?_getD, List.getElem?_eq_getElem hj]; rfl
  rw [e2]; exact k

section
variable {F : Fence} {n : Nat} {P : Program} {ops : Array Oper} {rest : List Oper} {o : Oper} {a : Act} {w : World} {Q : Exit → Act → World → Prop}
/-- A whole struct or array read out of the middle of a block. -/
theorem wpListIn_load_agg (hg : o.guard = none) (ty : TypeId) (x : Operand) (ho : o.op = .load ty x) (b off : Nat) (hx : a.eval x = .pointer (some ⟨b, off, none⟩)) (cs : Array Value) (d : TypeDesc) (hc : CellsAt w b off cs)
    (hu : P.underlying ty = some d) (hd : (match d with | .struct _ | .array _ _ => true | _ => false) = true) (hi : (P.info? ty).map (·.size) = some cs.size)
    (h : wpListIn F n P ops Q rest (a.put o.dst (.agg cs)) w) : wpListIn F n P ops Q (o :: rest) a w := by
  refine wpListIn_plain hg fun K hK => ?_
  unfold Oper.wpIn
  refine ⟨?_, ?_⟩
  · simp [Oper.about, ho]
  · rw [Oper.semAt_plain F _ _ (by rw [ho]; intro c hc'; cases hc')]
    have : (execOp a.eval o).run P w = .ok (.value (.agg cs)) w := by
      unfold execOp
      simp only [ho, hx, Instr.loadAt, Instr.sureAddr, Sem.run_bind, Sem.run_pure, Result.andThen_ok, run_loadVar_cells b off ty cs d hc hu hd hi]
    rw [this]
    exact hK _ _ h
end
/-! ### A region that draws its order, within a round: as outside -/
section
variable {F : Fence} {n : Nat} {P : Program} {md : Region.Mode} {ops : Array Oper} {Q : Exit → Act → World → Prop}
theorem wpOpIn_round (hro : F.round = none) (l : Nat) (hnd : ∀ (i : Nat) (o : Oper) c, ops[i]? = some o → o.op ≠ .defer c) {i : Nat} {K : Act → World → Prop} {a : Act} {w : World} (h : wpOpIn F n P ops Q i K a w) : wpOpIn (F.inRound l) n P ops Q i K a w := by
  unfold wpOpIn at *
  cases ho : ops[i]? with
  | none => simpa [ho] using h
  | some o =>
    simp only [ho] at h ⊢
    split
    · rename_i hw
      simp only [hw, if_true] at h
      refine ⟨h.1, ?_⟩
      have h2 := h.2
      rw [hro, Oper.semAt_none] at h2
      rw [Oper.semAt_plain (F.inRound l) _ _ (fun c => hnd i o c ho)]
      generalize (execOp a.eval o).run P w = r at *
      cases r with
      | ok x w' => cases x <;> exact h2
      | halt x w' => cases x <;> exact h2
    · rename_i hw
      simp only [hw] at h
      exact h
theorem wpAnyIn_round (hro : F.round = none) (l : Nat) (hnd : ∀ (i : Nat) (o : Oper) c, ops[i]? = some o → o.op ≠ .defer c) : ∀ (fuel : Nat) (listed : Array Bool) (a : Act) (w : World), wpAnyIn F n P md ops Q fuel listed a w → wpAnyIn (F.inRound l) n P md ops Q fuel listed a w := by
  intro fuel
  induction fuel with
  | zero => intro listed a w h; exact h
  | succ fuel ih =>
    intro listed a w h
    exact ⟨h.1, fun i hi => wpOpIn_mono (fun a w h => ih _ a w h) (wpOpIn_round hro l hnd (h.2 i hi))⟩
end
def noDefer (ops : Array Oper) : Bool := ops.toList.all fun o => match o.op with | .defer _ => false | _ => true
theorem noDefer_spec {ops : Array Oper} (h : noDefer ops = true) (i : Nat) (o : Oper) (c : Call) (ho : ops[i]? = some o) : o.op ≠ .defer c := fun e => by
  have hm : o ∈ ops.toList := by
    obtain ⟨hl, hg⟩ := Array.getElem?_eq_some_iff.1 ho
    rw [← hg]; exact Array.getElem_mem_toList hl
  have := List.all_eq_true.1 h o hm
  rw [e] at this
  cases this
def isPairs (c : SecC) : Bool := c.x.kind == 13
def want (l : List SecC) : List SecC := l.filter isPairs
theorem want_append (l m : List SecC) : want (l ++ m) = want l ++ want m := List.filter_append ..
theorem size128 : (Try.prog.info? 128).map (·.size) = some 7 := by kernel_rfl
theorem size164 : (Try.prog.info? 164).map (·.size) = some 6 := by kernel_rfl
end Go.Proofs.Ytepnaalgobhcdaa
