/- A region that draws its order, within a round, its loads taken first. clevislaw07.pieces: goes over a space's pieces. What the two spaces answer at the end: Pages, Dump, pieces. -/
import Derived.Test.YtepnaalgobhcdaaBnD
import Derived.OrdersHeld
import Derived.Test.YtepnaalgobhcdaaBnL
import Derived.Test.YtepnaalgobhcdaaBnM
import Derived.Test.YtepnaalgobhcdaaBnB
namespace Go.Proofs.Ytepnaalgobhcdaa
open Go.RowKit

section
variable {n : Nat} {P : Program} {md : Region.Mode} {ops : Array Oper} {Q : Exit → Act → World → Prop} {S : World → Prop}
theorem rowsIn_wide {row : String} {args : Array Value} {w : World} {R : Value → World → Prop} (h : Rows P row args w R) : RowsIn Fence.wide n P row args w R := fun c cs _ =>
  let ⟨v, w', r, s⟩ := h c cs; ⟨v, w', r, stepsIn_wide.2 s⟩
theorem oper_wide {o : Oper} {a : Act} {w : World} {K : Act → World → Prop} (h : o.wp P a w K Q) : o.wpIn Fence.wide n P a w K Q := by
  refine ⟨fun _ _ => trivial, ?_⟩
  show o.uponIn Fence.wide n P a K Q ((execOp a.eval o).run P w)
  unfold Oper.wp at h
  generalize (execOp a.eval o).run P w = r at *
  cases r with
  | ok x w' =>
    cases x <;> simp only [Oper.upon, Oper.uponIn] at h ⊢ <;> first
      | exact h
      | exact ⟨fun hd => by simp [Fence.wide] at hd, callsIn_wide.2 h⟩
      | exact ⟨fun hd => by simp [Fence.wide] at hd, rowsIn_wide h⟩
  | halt x w' => cases x <;> first | exact h | exact h.elim
theorem wpOp_wide (hQ : ¬ LetsOut Q) {i : Nat} {K : Act → World → Prop} {a : Act} {w : World} (h : wpOp P ops Q i K a w) : wpOpIn Fence.wide n P ops Q i K a w := by
  unfold wpOp at h
  unfold wpOpIn
  cases ho : ops[i]? with
  | none => simpa [ho] using h
  | some o =>
    simp only [ho] at h ⊢
    split
    · rename_i hw
      simp only [hw, if_true] at h
      rcases h with h | h
      · exact oper_wide h
      · exact absurd h.2 hQ
    · rename_i hw
      simp only [hw] at h
      exact ⟨fun _ _ => trivial, h⟩
theorem wpAny_wide (hQ : ¬ LetsOut Q) : ∀ (fuel : Nat) (listed : Array Bool) (a : Act) (w : World), wpAny P md ops Q fuel listed a w → wpAnyIn Fence.wide n P md ops Q fuel listed a w := by
  intro fuel
  induction fuel with
  | zero => intro listed a w h; exact h
  | succ fuel ih =>
    intro listed a w h
    exact ⟨h.1, fun i hi => wpOpIn_mono (fun a w h => ih _ a w h) (wpOp_wide hQ (h.2 i hi))⟩
theorem wpIn_region_held_round {id l : Nat} {a : Act} {w : World} (hm : P.follows .mixedOrders = true) (hnd : noDefer ops = true) (hQ : ¬ LetsOut Q)
    (h : wpAnyH P .any ops Q S ops.size (Array.replicate ops.size false) a w.drew) : (Code.region id ops true).wpIn (Fence.wide.inRound l) n P Q a w :=
  wpIn_region_any hm (wpAnyIn_round rfl l (noDefer_spec hnd) _ _ _ _ (wpAny_wide hQ _ _ _ _ (wpAny_of_held _ _ _ _ h)))
/-- It comes up alone. -/
theorem wpAnyH_one {i : Nat} {fuel : Nat} {listed : Array Bool} {a : Act} {w : World} (hr : Region.ready md ops listed = [i])
    (h : wpOp P ops Q i (fun a' w' => S w' ∧ wpAnyH P md ops Q S fuel (listed.setIfInBounds i true) a' w') a w) : wpAnyH P md ops Q S (fuel + 1) listed a w :=
  wpAnyH_all hr (by simp) fun j hj => by rw [List.mem_singleton.1 hj]; exact h
theorem lets_then {K : Act → World → Prop} (h : ¬ LetsOut Q) : ¬ LetsOut (Exit.then K Q) := fun ⟨a, w, h'⟩ => h ⟨a, w, h'⟩
end
end Go.Proofs.Ytepnaalgobhcdaa
namespace Go.Proofs.Ytepnaalgobhcdaa
open Go.RowKit Go.Shelf Spm
attribute [local go_sem] Oper.semAt_some

/-- The variables of pieces. -/
structure PiSt (w : World) (a : Option Addr) (c L : Nat) (most : Int) (k : Nat) (W : World) : Prop where
  l : W.heap[w.heap.size]? = some (.cells #[.slice a L c] 63 (0, 0))
  most : W.heap[w.heap.size + 1]? = some (.cells #[.int .i64 most] 3 (0, 0))
  res : ∃ v, W.heap[w.heap.size + 2]? = some (.cells #[v] 4 (0, 0))
  n : W.heap[w.heap.size + 3]? = some (.cells #[.int .i64 (k : Int)] 3 (0, 0))
  below : Below w.heap.size w W

section
variable {P : Program} {ops : Array Oper} {Q : Exit → Act → World → Prop} {K : Act → World → Prop} {o : Oper} {a : Act} {w : World} {i : Nat}
theorem wpOp_runs {v : Value} {w' : World} (hi : ops[i]? = some o) (hw : Region.wanted o (yielded ops a.tmps) = true) (hr : (execOp a.eval o).run P w = .ok (.value v) w') (h : K (a.put o.dst v) w') : wpOp P ops Q i K a w := by
  unfold wpOp
  simp only [hi, hw, if_true]
  refine .inl ?_
  unfold Oper.wp
  rw [hr]
  exact h
theorem wpOp_calls {f : FuncId} {args : Array Value} {w' : World} {R : Ending → World → Prop} (hi : ops[i]? = some o) (hw : Region.wanted o (yielded ops a.tmps) = true) (hr : (execOp a.eval o).run P w = .ok (.enter f args) w') (hc : Calls P f args w' R) {d : Nat} (hd : o.dst = some d)
    (h : ∀ e w'', R e w'' → ∃ v, e = .returned v ∧ K { a with tmps := a.tmps.setIfInBounds d v } w'') : wpOp P ops Q i K a w := by
  unfold wpOp
  simp only [hi, hw, if_true]
  refine .inl ?_
  unfold Oper.wp
  rw [hr]
  refine Calls.mono hc fun e w'' he => ?_
  obtain ⟨v, rfl, hk⟩ := h e w'' he
  show K (a.put o.dst v) w''
  rw [hd]; exact hk
theorem run_load_agg3 {ty : TypeId} {x : Operand} (ho : o.op = .load ty x) (b off : Nat) (hx : a.eval x = .pointer (some ⟨b, off, none⟩)) (cs : Array Value) (d : TypeDesc) (hc : CellsAt w b off cs)
    (hu : P.underlying ty = some d) (hd : (match d with | .struct _ | .array _ _ => true | _ => false) = true) (hi : (P.info? ty).map (·.size) = some cs.size) : (execOp a.eval o).run P w = .ok (.value (.agg cs)) w := by
  unfold execOp
  simp only [ho, hx, Instr.loadAt, Instr.sureAddr, Sem.run_bind, Sem.run_pure, Result.andThen_ok, run_loadVar_cells b off ty cs d hc hu hd hi]
theorem run_build1 {t e : TypeId} {x : Operand} (ho : o.op = .buildSlice t 1 #[(0, x)]) {cs : Array Value} (hx : a.eval x = .agg cs) {i : TypeInfo} {z : Value} (ht : P.underlying t = some (.slice e)) (hi : P.info? e = some i) (hz : i.zero = some z) (hs : i.size = cs.size) (hb : cs.size ≤ 100) :
    ∃ cells : Array Value, (∀ (j : Nat) (v : Value), cs[j]? = some v → cells[j]? = some v) ∧ (execOp a.eval o).run P w = .ok (.value (.slice (some ⟨w.heap.size, 0, none⟩) 1 1)) (w.alloc (.cells cells e)) := by
  obtain ⟨cells, h1, h2⟩ := run_buildSlice_aggs (P := P) (w := w) t e i z ht hi hz cs.size hs [cs] (by simp) (by simp; omega)
  refine ⟨cells, fun j v hv => by have := h2 0 cs rfl j v hv; simpa using this, ?_⟩
  unfold execOp
  simp only [ho]
  have e1 : ((#[((0 : Nat), x)] : Array (Nat × Operand)).map fun (i, x) => (i, a.eval x)) = (([cs].zipIdx.map fun p => (p.2, Value.agg p.1)).toArray) := by simp [hx]
  simp only [e1, Sem.run_bind]
  have h1' : (Instr.buildSlice t 1 (([cs].zipIdx.map fun p => (p.2, Value.agg p.1)).toArray)).run P w = _ := h1
  simp only [h1', Result.andThen_ok, Sem.run_pure]
  rfl
theorem wpOp_build1 {t e : TypeId} {x : Operand} (hi' : ops[i]? = some o) (hw : Region.wanted o (yielded ops a.tmps) = true) (ho : o.op = .buildSlice t 1 #[(0, x)]) {cs : Array Value} (hx : a.eval x = .agg cs) {ti : TypeInfo} {z : Value} (ht : P.underlying t = some (.slice e)) (hi : P.info? e = some ti) (hz : ti.zero = some z) (hs : ti.size = cs.size) (hb : cs.size ≤ 100) {d : Nat} (hd : o.dst = some d)
    (h : ∀ cells : Array Value, (∀ (j : Nat) (v : Value), cs[j]? = some v → cells[j]? = some v) → K { a with tmps := a.tmps.setIfInBounds d (.slice (some ⟨w.heap.size, 0, none⟩) 1 1) } (w.alloc (.cells cells e))) : wpOp P ops Q i K a w := by
  obtain ⟨cells, h1, h2⟩ := run_build1 (w := w) ho hx ht hi hz hs hb
  exact wpOp_runs hi' hw h2 (by rw [hd]; exact h cells h1)
theorem wpOp_runsD {v : Value} {w' : World} {d : Nat} (hi : ops[i]? = some o) (hw : Region.wanted o (yielded ops a.tmps) = true) (hr : (execOp a.eval o).run P w = .ok (.value v) w') (hd : o.dst = some d) (h : K { a with tmps := a.tmps.setIfInBounds d v } w') : wpOp P ops Q i K a w :=
  wpOp_runs hi hw hr (by rw [hd]; exact h)
theorem takeH {md : Region.Mode} {S : World → Prop} {oi : Oper} {v : Value} {d : Nat} {fuel : Nat} {listed : Array Bool} (hi : ops[i]? = some oi) (hd : oi.dst = some d)
    (hs : Region.noSelect ops = true) (hf : Region.free md ops listed i = true) (hr : (Region.ready md ops listed).contains i = true)
    (hQ : ∀ c a w, Q (.panic c) (a.put oi.dst v) w → Q (.panic c) a w) (hy : YieldsIf P ops S oi v a) (hS : S w)
    (h : wpAnyH P md ops Q S fuel (listed.setIfInBounds i true) { a with tmps := a.tmps.setIfInBounds d v } w) : wpAnyH P md ops Q S (fuel + 1) listed a w :=
  wpAnyH_take hi hs hf hr hQ hy hS (by rw [hd]; exact h)
end
theorem PiSt.own (w : World) (a : Option Addr) (c L : Nat) (most : Int) (B : Nat) (hB : w.heap.size ≤ B) : OwnFrom B (fun (pre : List (Rn × Value)) W => PiSt w a c L most pre.length W) := fun s X Y row hs hg hr => by
  obtain ⟨h1, h2, ⟨v, h3⟩, h4, h5⟩ := hs
  refine ⟨block_own hg (fun r e => (hr r e).2) h1, block_own hg (fun r e => (hr r e).2) h2, ⟨v, block_own hg (fun r e => (hr r e).2) h3⟩, block_own hg (fun r e => (hr r e).2) h4, hg.os.trans h5.os, hg.tape.trans h5.tape, hg.output.trans h5.output, Nat.le_trans h5.size hg.size, fun k hk => ?_⟩
  rw [hg.block k (Nat.lt_of_lt_of_le hk h5.size) (fun e => by have := (hr k e.symm).1; omega)]
  exact h5.block k hk
/-- It has come back from within the round, with true. -/
def PiRet (w : World) (c : Code) (W : World) : Prop := c = .ret ∧ W.heap[w.heap.size + 2]? = some (.cells #[.bool true] 4 (0, 0)) ∧ Below w.heap.size w W
theorem PiRet.own (w : World) (c : Code) (B : Nat) (hB : w.heap.size ≤ B) : OwnFrom B (fun (_ : List (Rn × Value)) W => PiRet w c W) := fun s X Y row hs hg hr => by
  obtain ⟨h1, h2, h5⟩ := hs
  refine ⟨h1, block_own hg (fun r e => (hr r e).2) h2, hg.os.trans h5.os, hg.tape.trans h5.tape, hg.output.trans h5.output, Nat.le_trans h5.size hg.size, fun k hk => ?_⟩
  rw [hg.block k (Nat.lt_of_lt_of_le hk h5.size) (fun e => by have := (hr k e.symm).1; omega)]
  exact h5.block k hk
theorem PiSt.cw {w W W' : World} {a : Option Addr} {c L : Nat} {most : Int} {k : Nat} (h : PiSt w a c L most k W) (hc : Cw [5] W W') (hb : Below w.heap.size w W') : PiSt w a c L most k W' := by
  obtain ⟨h1, h2, ⟨v, h3⟩, h4, h5⟩ := h
  exact ⟨hc.cells _ _ _ _ (by simp) h1, hc.cells _ _ _ _ (by simp) h2, ⟨v, hc.cells _ _ _ _ (by simp) h3⟩, hc.cells _ _ _ _ (by simp) h4, hb⟩
theorem PiSt.keep {w W W' : World} {a : Option Addr} {c L : Nat} {most : Int} {k : Nat} (h : PiSt w a c L most k W) (hb : Below W.heap.size W W') : PiSt w a c L most k W' := h.cw (Cw.of_below hb) (h.below.trans (below_le hb h.below.size))
/-- Within the round: the piece's own bytes are turned. -/
structure RdSt (w W : World) (a : Option Addr) (c L : Nat) (most : Int) (k Bx : Nat) (r : Rn) (u : Value) (wr : World) : Prop where
  box : wr.heap[Bx]? = some (.cells (pcArr r u) 123 (0, 0))
  row : ∃ ys : List UInt8, ys.length = r.bytes.length ∧ wr.ownsRow w.heap.size 5 1 u r.bytes.length (bvs ys)
  pi : PiSt w a c L most k wr
  cw : Cw [5] W wr
theorem RdSt.get {w W wr : World} {a : Option Addr} {c L : Nat} {most : Int} {k Bx i : Nat} {r : Rn} {u : Value} (h : RdSt w W a c L most k Bx r u wr) (hi : i < r.bytes.length) :
    ∃ (g cap : Nat) (x : UInt8), u = .slice (some ⟨g, 0, none⟩) r.bytes.length cap ∧ r.bytes.length ≤ cap ∧ wr.cell? ⟨g, i, none⟩ = some (.int .u8 (x.toNat : Int)) ∧ wr.frozen? ⟨g, i, none⟩ = false ∧
      ∀ y : UInt8, RdSt w W a c L most k Bx r u (wr.setCell ⟨g, i, none⟩ (byteVal y)) := by
  obtain ⟨h1, ⟨ys, hy, hr⟩, h3, h4⟩ := h
  obtain ⟨g, cap, rfl, hc, hm, hg1, hg2⟩ := ro_form hr (by omega)
  have hl : i < (bvs ys).length := by unfold bvs; rw [List.length_map]; omega
  refine ⟨g, cap, ys.getD i 0, rfl, hc, ?_, ro_free hr i, fun y => ?_⟩
  · rw [hr.cellAt i (by omega)]
    unfold bvs
    rw [List.getElem?_map, List.getElem?_eq_getElem (by omega)]
    simp [List.getD_eq_getElem?_getD, List.getElem?_eq_getElem (show i < ys.length by omega), byteVal]
  · obtain ⟨cur, fr, hgg⟩ : ∃ cur fr, wr.heap[g]? = some (.cells cur 5 fr) := by
      rcases hr.2 with ⟨e, _⟩ | ⟨g', cap', cur, e, _, hgg, _⟩
      · cases e
      · cases e; exact ⟨_, _, hgg⟩
    have hcw : Cw [5] wr (wr.setCell ⟨g, i, none⟩ (byteVal y)) := Cw.setCell hgg (by simp) i _
    refine ⟨hcw.cells _ _ _ _ (by simp) h1, ⟨ys.set i y, by rw [List.length_set]; exact hy, ?_⟩, h3.cw hcw (h3.below.setCell hg1 _), h4.trans hcw⟩
    have := ro_set hr hl (byteVal y)
    unfold bvs at this ⊢
    rw [List.map_set]
    exact this

theorem Cw.mono {ts ts' : List Nat} {W W' : World} (h : Cw ts W W') (hs : ∀ t, t ∈ ts → t ∈ ts') : Cw ts' W W' := ⟨h.size, h.other, fun k c t f ht hk => h.cells k c t f (fun h' => ht (hs t h')) hk⟩
theorem PiSt.step {w W : World} {a : Option Addr} {c L : Nat} {most : Int} {k : Nat} (h : PiSt w a c L most k W) : PiSt w a c L most (k + 1) (W.setCell ⟨w.heap.size + 3, 0, none⟩ (.int .i64 ((k : Int) + 1))) := by
  obtain ⟨h1, h2, ⟨v, h3⟩, h4, h5⟩ := h
  have ho : ∀ j, j ≠ w.heap.size + 3 → (W.setCell ⟨w.heap.size + 3, 0, none⟩ (.int .i64 ((k : Int) + 1))).heap[j]? = W.heap[j]? := fun j hj => heap_setCell_other _ _ _ _ hj
  exact ⟨(ho _ (by omega)).trans h1, (ho _ (by omega)).trans h2, ⟨v, (ho _ (by omega)).trans h3⟩, one_setCell h4, h5.setCell (by simp) _⟩
/-- The round's last steps. -/
theorem PiSt.tail {w W wr : World} {a : Option Addr} {c L : Nat} {most : Int} {k : Nat} (h : PiSt w a c L most k wr) (hc : Cw [5] W wr) :
    (KeepsFrom (w.heap.size + 5) W (wr.setCell ⟨w.heap.size + 3, 0, none⟩ (.int .i64 ((k : Int) + 1))) ∧ Kq W (wr.setCell ⟨w.heap.size + 3, 0, none⟩ (.int .i64 ((k : Int) + 1))) ∧ PiSt w a c L most (k + 1) (wr.setCell ⟨w.heap.size + 3, 0, none⟩ (.int .i64 ((k : Int) + 1)))) ∧
      (KeepsFrom (w.heap.size + 5) W ((wr.setCell ⟨w.heap.size + 3, 0, none⟩ (.int .i64 ((k : Int) + 1))).setCell ⟨w.heap.size + 2, 0, none⟩ (.bool true)) ∧ PiRet w .ret ((wr.setCell ⟨w.heap.size + 3, 0, none⟩ (.int .i64 ((k : Int) + 1))).setCell ⟨w.heap.size + 2, 0, none⟩ (.bool true))) := by
  have h1 := h.step
  obtain ⟨v, h3⟩ := h1.res
  have c1 : Cw [5, 3, 4] W (wr.setCell ⟨w.heap.size + 3, 0, none⟩ (.int .i64 ((k : Int) + 1))) := (hc.mono (by simp)).trans (Cw.setCell h.n (by simp) 0 _)
  have c2 := c1.trans (Cw.setCell h3 (by simp) 0 (.bool true))
  exact ⟨⟨c1.keeps _, c1.kq, h1⟩, c2.keeps _, rfl, one_setCell h3, h1.below.setCell (by simp) _⟩

theorem pieces_end {w W : World} {D : Nat} (h : PiRet w .ret W) (hne : D ≠ w.heap.size + 2) (hD : w.heap.size ≤ D) (hK : W.heap[D]? = some (.deferred (some []))) {tmps : Array Value} (ht : tmps.getD 6 undef = .pointer (some ⟨w.heap.size + 2, 0, none⟩)) :
    ∃ v, (results Try.f59 tmps).run Try.prog (W.putObj D (.deferred none)) = .ok v (W.putObj D (.deferred none)) ∧ Ending.returned v = .returned (.bool true) ∧ Below w.heap.size w (W.putObj D (.deferred none)) := by
  obtain ⟨_, h2, h3⟩ := h
  refine ⟨_, results_cell1 rfl _ _ _ ⟨w.heap.size + 2, 0, none⟩ (.bool true) ht (loadVar_bool ?_), rfl, h3.trans (belowK_b (w := w) (Nat.le_refl _) W D _ _ hD hK rfl rfl)⟩
  have e : (W.putObj D (.deferred none)).heap[w.heap.size + 2]? = W.heap[w.heap.size + 2]? := World.putObj_heap_other (Ne.symm hne)
  rw [cell_of_heap e]
  exact cell_of_one h2

set_option maxHeartbeats 4000000 in
set_option maxRecDepth 100000 in
theorem pieces_any (w : World) (b : Nat) (M : List Pg) (F : Nat → Prop) (h : SpIn w b M F) (a : Option Addr) (c : Nat) (hr : PcsR w a (runsM M)) (hc : (runsM M).length ≤ c) (hcm : c ≤ 9223372036854775807) (most : Int) :
    Calls Try.prog 59 #[.pointer (some ⟨b, 0, none⟩), .slice a (runsM M).length c, .int .i64 most] w fun e w' => e = .returned (.bool true) ∧ Below w.heap.size w w' := by
  have hfew := h.ok.few
  obtain ⟨hrok, hrl⟩ := runsM_ok h.ok
  refine (callsIn_wide (n := 5)).1 ?_
  refine callsIn_of_wp_marks Try.func59 rfl trivial ?_ rfl
  simp only [Try.ntmps59, List.size_toArray, List.length_cons, List.length_nil, Nat.reduceAdd, Nat.reduceSub, Array.replicate_succ, Array.replicate_zero, List.push_toArray, List.append_toArray, List.nil_append, List.cons_append]
  have HH := Lib.hid h
  have HR := Lib.hid hr
  have HROK := Lib.hid hrok
  obtain ⟨L, hL⟩ : ∃ L, L = (runsM M).length := ⟨_, rfl⟩
  rw [← hL] at hc hrl ⊢
  have HL := Lib.hid hL
  have hfn := func_nil
  clear h hr hrok hL
  gi_wp2_with (refine ⟨trivial, ?_⟩; gi_at_call 42; refine (callsIn_wide.2 (all_any _ _)).mono ?_; rintro e w' ⟨rfl, rfl⟩)
  obtain ⟨w1, hw1⟩ : ∃ w1, ((((w.alloc (.cells #[.slice a L c] 63)).alloc (.cells #[.int .i64 most] 3)).alloc (.cells #[.bool false] 4)).alloc (.cells #[.int .i64 0] 3)).alloc (.cells #[.pointer (some ⟨b, 0, none⟩)] 43) = w1 := ⟨_, rfl⟩
  simp only [Nat.add_assoc, Nat.reduceAdd]
  have hsz : w1.heap.size = w.heap.size + 5 := by rw [← hw1]; simp
  have hB : Below w.heap.size w w1 := by rw [← hw1]; exact (((((Below.refl _ w).alloc (Nat.le_refl _) _).alloc (by simp) _).alloc (by simp; omega) _).alloc (by simp; omega) _).alloc (by simp; omega) _
  have hI0 : PiSt w a c L most 0 w1 := by
    refine ⟨?_, ?_, ⟨.bool false, ?_⟩, ?_, hB⟩ <;> rw [← hw1]
    · exact (hp_old _ _ _ (by simp <;> omega)).trans ((hp_old _ _ _ (by simp <;> omega)).trans ((hp_old _ _ _ (by simp <;> omega)).trans ((hp_old _ _ _ (by simp <;> omega)).trans (hp_new _ _ _ rfl))))
    · exact (hp_old _ _ _ (by simp <;> omega)).trans ((hp_old _ _ _ (by simp <;> omega)).trans ((hp_old _ _ _ (by simp <;> omega)).trans (hp_new _ _ _ (by simp <;> omega))))
    · exact (hp_old _ _ _ (by simp <;> omega)).trans ((hp_old _ _ _ (by simp <;> omega)).trans (hp_new _ _ _ (by simp <;> omega)))
    · exact (hp_old _ _ _ (by simp <;> omega)).trans (hp_new _ _ _ (by simp <;> omega))
  have hbx : w1.heap[w.heap.size + 4]? = some (.cells #[.pointer (some ⟨b, 0, none⟩)] 43 (0, 0)) := by rw [← hw1]; exact hp_new _ _ _ (by simp)
  have hsp1 := HH.out.keepB hB
  rw [hw1]
  clear hw1
  generalize hA : Act.mk _ _ = a0
  refine rangeFunc_mem (α := Rn × Value) rfl (by decide) (gf := 77) (lb := #[.pointer (some ⟨w.heap.size + 4, 0, none⟩)]) (by rw [← hA]; rfl) trivial (enters_of Try.func77 (by kernel_rfl) rfl)
    (all1_stops 4 (by decide) w1 (w.heap.size + 4) b M F hsp1 hbx) (fun h k => h.trans k) (fun W l o o' hl ho h1 h2 => Kq.putObj o' ho h1 h2) (Below.refl _ _) (fun _ => rfl)
    (fun pre W => PiSt w a c L most pre.length W) (fun c _ W => PiRet w c W)
    (PiSt.own w a c L most _ (by omega)) (fun cd => PiRet.own w cd _ (by omega)) hI0
    (fun pre x a' W => ∃ Bx, W.heap[Bx]? = some (.cells (pcArr x.1 x.2) 123 (0, 0)) ∧ w.heap.size ≤ Bx ∧ PcMem w.heap.size x W ∧ (runsM M)[pre.length]? = some x.1 ∧ a' = { tmps := (a0.tmps.setIfInBounds 16 (.agg (pcArr x.1 x.2))).setIfInBounds 9 (.pointer (some ⟨Bx, 0, none⟩)), defers := [] })
    (fun pre x a' _ X Y row hs hg hr => by
      obtain ⟨Bx, k1, k0, k2, k3, k4⟩ := hs
      exact ⟨Bx, block_own hg (fun r e => (hr r e).2) k1, k0, ro_own hg (fun r e => (hr r e).2) k2, k3, k4⟩)
    ?assign ?body ?done ?stop
  case assign =>
    rintro l pre ⟨r, u⟩ W K hI ⟨hR, hN⟩ hK
    obtain ⟨ua, uc, rfl, _, _⟩ := ro_shape (show W.ownsRow w1.heap.size 5 1 u r.bytes.length (bvs r.bytes) from hR)
    have hwz := hI.below.size
    have HI := Lib.hid hI
    have HR1 := Lib.hid hR
    have HN := Lib.hid hN
    have HK := Lib.hid hK
    have hnew := Lib.hid (hp_new W (.cells (pcArr r (.slice ua r.bytes.length uc)) 123) _ rfl)
    unfold pcArr at hnew
    clear hI hR hN hK hbx hsp1 hI0 hB
    rw [← hA]
    unfold encPc pcArr
    gi_wp2_with fail
    have hbl : Below W.heap.size W (W.alloc (.cells (pcArr r (.slice ua r.bytes.length uc)) 123)) := (Below.refl _ W).alloc (Nat.le_refl _) _
    refine HK.out _ _ ((KeepsOthers.alloc _ _).from _) (Kq.of_below hbl) (HI.out.keep hbl) ⟨W.heap.size, ?_, hwz, ro_le (ro_keep HR1.out hbl) (by omega), HN.out, ?_⟩
    · exact hnew.out
    · rw [← hA]; rfl
  case body =>
    rintro l pre ⟨r, u⟩ a' W hl ⟨rr, hrr⟩ hI ⟨Bx, k1, k0, k2, kn, rfl⟩ hlt
    obtain ⟨ua, uc, rfl, huc, huc2⟩ := ro_shape (show W.ownsRow w.heap.size 5 1 u r.bytes.length (bvs r.bytes) from k2)
    obtain ⟨k, hk⟩ : ∃ k, k = pre.length := ⟨_, rfl⟩
    have HKL : Hid ((pre ++ [(r, Value.slice ua r.bytes.length uc)]).length = k + 1) := by show _ = _; rw [hk]; simp
    rw [← HL.out, ← hk] at hlt
    rw [← hk] at hI kn
    obtain ⟨gb, go, ha, hpc⟩ := HR.out k (by rw [← HL.out]; exact hlt)
    subst ha
    rw [show (runsM M).getD k ⟨0, 0, 0, []⟩ = r by rw [List.getD_eq_getElem?_getD, kn]; rfl] at hpc
    have hwz := hI.below.size
    have hCX : CellsAt W Bx 0 (pcArr r (.slice ua r.bytes.length uc)) := fun jj v hv => by simp only [World.cell?, k1, Nat.zero_add]; exact hv
    have HC32 : Hid (∀ cells : Array Value, (∀ (j : Nat) (v : Value), (pcArr r (.slice ua r.bytes.length uc))[j]? = some v → cells[j]? = some v) → Calls Try.prog 32 #[.slice (some ⟨W.drew.heap.size, 0, none⟩) 1 1, .slice (some ⟨gb, go + k * 3, none⟩) 1 (c - k)] (W.drew.alloc (.cells cells 123)) fun e w' => e = .returned (.bool true) ∧ Below W.heap.size W w') := fun cells hcells => by
      have hbd : Below W.heap.size W (W.drew.alloc (.cells cells 123)) := ((Below.refl _ W).drew).alloc (Nat.le_refl _) _
      have q1 : PcsR (W.drew.alloc (.cells cells 123)) (some ⟨W.drew.heap.size, 0, none⟩) [r] := fun j hj => by
        obtain rfl : j = 0 := by simpa using hj
        refine ⟨_, _, rfl, _, fun jj v hv => ?_, (bytesOf_row (ro_keep k2 hbd) rfl)⟩
        have := hcells jj v hv
        simp only [World.cell?, hp_new W.drew (.cells cells 123) _ rfl, Nat.zero_add, Nat.zero_mul]
        exact this
      have q2 : PcsR (W.drew.alloc (.cells cells 123)) (some ⟨gb, go + k * 3, none⟩) [r] := fun j hj => by
        obtain rfl : j = 0 := by simpa using hj
        refine ⟨_, _, rfl, ?_⟩
        rw [Nat.zero_mul, Nat.add_zero]
        exact PcAt.keep hpc (hI.below.trans (below_le hbd hwz))
      refine (rsame_any _ _ _ 1 (c - k) [r] [r] q1 q2 (by simp) (by simp)).mono ?_
      rintro e w' ⟨rfl, hb⟩
      exact ⟨by rw [eqRns_refl], hbd.trans (below_le hb hbd.size)⟩
    have HRD : Hid (∀ {w'}, Below W.heap.size W w' → RdSt w W (some ⟨gb, go, none⟩) c L most k Bx r (.slice ua r.bytes.length uc) w') := fun {w'} hb => ⟨(hb.block Bx (lt_of_block k1)).trans k1, ⟨r.bytes, rfl, ro_keep k2 hb⟩, hI.keep hb, Cw.of_below hb⟩
    have cD0 := cell_of_one hI.l
    have cD3 := cell_of_one hI.n
    obtain ⟨i123, hi123, hz123, hs123, hy123⟩ := info_parts info123
    have HS : Hid (∀ {w' : World}, Below W.heap.size W w' → w'.cell? ⟨w.heap.size, 0, none⟩ = some (.slice (some ⟨gb, go, none⟩) L c) ∧ w'.cell? ⟨w.heap.size + 3, 0, none⟩ = some (.int .i64 (k : Int)) ∧ CellsAt w' Bx 0 (pcArr r (.slice ua r.bytes.length uc))) := fun {w'} hb => ⟨(cell_of_heap (hb.block _ (lt_of_block hI.l))).trans cD0, (cell_of_heap (hb.block _ (lt_of_block hI.n))).trans cD3, hCX.keep hb⟩
    have i1 : (k : Int) < (L : Int) := by omega
    have i2 : IntKind.i64.wrap ((k : Int) + 1) = (k : Int) + 1 := by rw [IntKind.wrap_i64]; omega
    have i3 : (k : Int) + 1 ≤ (c : Int) := by omega
    have i4 : ¬ c = k := by omega
    clear hbx hsp1 hI0 hB hpc kn k2 hfn hk
    rw [← hA]
    simp only [List.setIfInBounds_toArray, List.set_cons_zero, List.set_cons_succ]
    gi_wp2_with fail
    have hS0 : (fun W' : World => W'.cell? ⟨w.heap.size, 0, none⟩ = some (.slice (some ⟨gb, go, none⟩) L c) ∧ W'.cell? ⟨w.heap.size + 3, 0, none⟩ = some (.int .i64 (k : Int)) ∧ CellsAt W' Bx 0 (pcArr r (.slice ua r.bytes.length uc))) W.drew := ⟨cD0, cD3, hCX⟩
    refine wpIn_region_held_round (S := fun W' : World => W'.cell? ⟨w.heap.size, 0, none⟩ = some (.slice (some ⟨gb, go, none⟩) L c) ∧ W'.cell? ⟨w.heap.size + 3, 0, none⟩ = some (.int .i64 (k : Int)) ∧ CellsAt W' Bx 0 (pcArr r (.slice ua r.bytes.length uc))) (by kernel_rfl) (by kernel_rfl) (fun ⟨_, _, h⟩ => h) ?_
    refine takeH (i := 0) (v := .int .i64 (k : Int)) rfl rfl (by kernel_rfl) (by kernel_rfl) (by kernel_rfl) (fun _ _ _ h => h) (.inl ⟨by rfl, fun W' hS => ?y0⟩) hS0 ?_
    case y0 => obtain ⟨s1, s2, s3⟩ := hS; go_simp
    simp only [List.setIfInBounds_toArray, List.set_cons_zero, List.set_cons_succ]
    refine takeH (i := 1) (v := .slice (some ⟨gb, go, none⟩) L c) rfl rfl (by kernel_rfl) (by kernel_rfl) (by kernel_rfl) (fun _ _ _ h => h) (.inl ⟨by rfl, fun W' hS => ?y1⟩) hS0 ?_
    case y1 => obtain ⟨s1, s2, s3⟩ := hS; go_simp
    simp only [List.setIfInBounds_toArray, List.set_cons_zero, List.set_cons_succ]
    refine takeH (i := 2) (v := .int .i64 (L : Int)) rfl rfl (by kernel_rfl) (by kernel_rfl) (by kernel_rfl) (fun _ _ _ h => h) (.inl ⟨by rfl, fun W' hS => ?y2⟩) hS0 ?_
    case y2 => obtain ⟨s1, s2, s3⟩ := hS; go_simp
    simp only [List.setIfInBounds_toArray, List.set_cons_zero, List.set_cons_succ]
    refine takeH (i := 3) (v := .bool false) rfl rfl (by kernel_rfl) (by kernel_rfl) (by kernel_rfl) (fun _ _ _ h => h) (.inl ⟨by rfl, fun W' hS => ?y3⟩) hS0 ?_
    case y3 => obtain ⟨s1, s2, s3⟩ := hS; go_simp
    simp only [List.setIfInBounds_toArray, List.set_cons_zero, List.set_cons_succ]
    refine takeH (i := 4) (v := .bool false) rfl rfl (by kernel_rfl) (by kernel_rfl) (by kernel_rfl) (fun _ _ _ h => h) (.inl ⟨by rfl, fun W' hS => ?y4⟩) hS0 ?_
    case y4 => obtain ⟨s1, s2, s3⟩ := hS; go_simp
    simp only [List.setIfInBounds_toArray, List.set_cons_zero, List.set_cons_succ]
    refine takeH (i := 5) (v := .agg (pcArr r (.slice ua r.bytes.length uc))) rfl rfl (by kernel_rfl) (by kernel_rfl) (by kernel_rfl) (fun _ _ _ h => h) (.inl ⟨by rfl, fun W' hS => ?y5⟩) hS0 ?_
    case y5 => exact run_load_agg3 rfl Bx 0 rfl _ _ hS.2.2 Try.underlying123 rfl (by kernel_rfl)
    simp only [List.setIfInBounds_toArray, List.set_cons_zero, List.set_cons_succ]
    refine takeH (i := 7) (v := .slice (some ⟨gb, go, none⟩) L c) rfl rfl (by kernel_rfl) (by kernel_rfl) (by kernel_rfl) (fun _ _ _ h => h) (.inl ⟨by rfl, fun W' hS => ?y7⟩) hS0 ?_
    case y7 => obtain ⟨s1, s2, s3⟩ := hS; go_simp
    simp only [List.setIfInBounds_toArray, List.set_cons_zero, List.set_cons_succ]
    refine takeH (i := 8) (v := .int .i64 (k : Int)) rfl rfl (by kernel_rfl) (by kernel_rfl) (by kernel_rfl) (fun _ _ _ h => h) (.inl ⟨by rfl, fun W' hS => ?y8⟩) hS0 ?_
    case y8 => obtain ⟨s1, s2, s3⟩ := hS; go_simp
    simp only [List.setIfInBounds_toArray, List.set_cons_zero, List.set_cons_succ]
    refine takeH (i := 9) (v := .int .i64 (k : Int)) rfl rfl (by kernel_rfl) (by kernel_rfl) (by kernel_rfl) (fun _ _ _ h => h) (.inl ⟨by rfl, fun W' hS => ?y9⟩) hS0 ?_
    case y9 => obtain ⟨s1, s2, s3⟩ := hS; go_simp
    simp only [List.setIfInBounds_toArray, List.set_cons_zero, List.set_cons_succ]
    refine takeH (i := 10) (v := .int .i64 ((k : Int) + 1)) rfl rfl (by kernel_rfl) (by kernel_rfl) (by kernel_rfl) (fun _ _ _ h => h) (.inl ⟨by rfl, fun W' hS => ?y10⟩) hS0 ?_
    case y10 => obtain ⟨s1, s2, s3⟩ := hS; go_simp
    simp only [List.setIfInBounds_toArray, List.set_cons_zero, List.set_cons_succ]
    refine takeH (i := 11) (v := .slice (some ⟨gb, go + k * 3, none⟩) 1 (c - k)) rfl rfl (by kernel_rfl) (by kernel_rfl) (by kernel_rfl) (fun _ _ _ h => h) (.inl ⟨by rfl, fun W' hS => ?y11⟩) hS0 ?_
    case y11 => obtain ⟨s1, s2, s3⟩ := hS; go_simp; intro h; omega
    simp only [List.setIfInBounds_toArray, List.set_cons_zero, List.set_cons_succ]
    refine wpAnyH_one (i := 6) (by kernel_rfl) ?_
    refine wpOp_build1 (i := 6) rfl (by rfl) rfl (cs := pcArr r (.slice ua r.bytes.length uc)) (by rfl) Try.underlying63 hi123 hz123 hs123 (by show 3 ≤ 100; omega) rfl fun cells hcells => ⟨HS.out (((Below.refl _ W).drew).alloc (Nat.le_refl _) _), ?_⟩
    simp only [List.setIfInBounds_toArray, List.set_cons_zero, List.set_cons_succ]
    refine wpAnyH_one (i := 12) (by kernel_rfl) ?_
    have hen := enters_of (P := Try.prog) Try.func32 (by kernel_rfl) rfl
    refine wpOp_calls (i := 12) rfl (by rfl) ?enter (HC32.out cells hcells) rfl ?_
    case enter => go_simp
    rintro e w5 ⟨rfl, hb5⟩
    refine ⟨.bool true, rfl, HS.out hb5, ?_⟩
    simp only [List.setIfInBounds_toArray, List.set_cons_zero, List.set_cons_succ]
    refine takeH (i := 13) (v := .bool false) rfl rfl (by kernel_rfl) (by kernel_rfl) (by kernel_rfl) (fun _ _ _ h => h) (.inl ⟨by rfl, fun W' hS => ?y13⟩) (HS.out hb5) ?_
    case y13 => go_simp
    simp only [List.setIfInBounds_toArray, List.set_cons_zero, List.set_cons_succ]
    refine takeH (i := 14) (v := .bool false) rfl rfl (by kernel_rfl) (by kernel_rfl) (by kernel_rfl) (fun _ _ _ h => h) (.inl ⟨by rfl, fun W' hS => ?y14⟩) (HS.out hb5) ?_
    case y14 => go_simp
    simp only [List.setIfInBounds_toArray, List.set_cons_zero, List.set_cons_succ]
    refine wpAnyH_done (by kernel_rfl) ?_ _
    have HRD5 := Lib.hid (HRD.out hb5)
    clear hS0 HC32 HRD HS hb5 hcells hCX
    gi_wp2_with fail
    gi_loopw [10] (fun t wr => ∃ i : Nat, i ≤ r.bytes.length ∧ t = .int .i64 i ∧ Hid (RdSt w W (some ⟨gb, go, none⟩) c L most k Bx r (.slice ua r.bytes.length uc) wr)) (fun t _ => r.bytes.length - (intOf t).toNat)
    case atStart => exact ⟨0, Nat.zero_le _, rfl, HRD5.out⟩
    case round =>
      obtain ⟨i, hi, rfl, HP⟩ := hrel
      have hbx5 := HP.out.box
      have cb2 : wr.cell? ⟨Bx, 2, none⟩ = some (.slice ua r.bytes.length uc) := by simp [World.cell?, hbx5, pcArr]
      clear hbx5
      by_cases hlt : i < r.bytes.length
      · obtain ⟨g, cap, y, e, _, hcell, hfr, hst⟩ := HP.out.get hlt
        cases e
        have HST := Lib.hid hst
        have HY := Lib.hid (byte_inc y)
        obtain ⟨yn, hyn⟩ : ∃ yn, yn = y.toNat := ⟨_, rfl⟩
        rw [← hyn] at hcell
        have hy8 : yn < 256 := by rw [hyn]; exact y.toNat_lt
        rw [← hyn] at HY
        have j1 : (0 : Int) ≤ (i : Int) := by omega
        have j2 : (i : Int) < (r.bytes.length : Int) := by omega
        clear hst hyn
        gi_wp2_with fail
        refine ⟨⟨i + 1, by omega, by go_num, by rw [HY.out]; exact HST.out _⟩, ?_⟩
        simp [intOf]; omega
      · have hie : i = r.bytes.length := by omega
        have cn := cell_of_one HP.out.pi.n
        have fn' := free_of_one HP.out.pi.n
        have cm := cell_of_one HP.out.pi.most
        have cm' : (wr.setCell ⟨w.heap.size + 3, 0, none⟩ (.int .i64 ((k : Int) + 1))).cell? ⟨w.heap.size + 1, 0, none⟩ = some (.int .i64 most) := cell_of_one HP.out.pi.step.most
        obtain ⟨rv, hrv⟩ := HP.out.pi.step.res
        have cr := cell_of_one hrv
        have fr := free_of_one hrv
        have HT := Lib.hid (HP.out.pi.tail HP.out.cw)
        clear hrv
        by_cases hm : (k : Int) + 1 = most
        · have hm' : ((k : Int) + 1 == most) = true := by simpa using hm
          clear hm
          gi_wp2_with fail
          exact ⟨hsz ▸ HT.out.2.1, HT.out.2.2⟩
        · have hm' : ((k : Int) + 1 == most) = false := by simpa using hm
          clear hm
          gi_wp2_with fail
          exact ⟨hsz ▸ HT.out.1.1, HT.out.1.2.1, by show PiSt _ _ _ _ _ (List.length _) _; rw [HKL.out]; exact HT.out.1.2.2⟩
  case done =>
    rintro D xs W hD hS hI hK
    have hxl : xs.length = L := by rw [HL.out, ← hS, List.length_map]
    rw [hxl] at hI
    have cD0 := cell_of_one hI.l
    have cD3 := cell_of_one hI.n
    obtain ⟨rv, hrv⟩ := hI.res
    have cr := cell_of_one hrv
    have fr := free_of_one hrv
    have HRET : Hid (PiRet w .ret (W.setCell ⟨w.heap.size + 2, 0, none⟩ (.bool true))) := ⟨rfl, one_setCell hrv, hI.below.setCell (by simp) _⟩
    have hK2 : (W.setCell ⟨w.heap.size + 2, 0, none⟩ (.bool true)).heap[D]? = some (.deferred (some [])) := by
      rw [heap_setCell_other _ _ _ _ (by show D ≠ w.heap.size + 2; omega)]; exact hK
    have HK2 := Lib.hid hK2
    have hne : D ≠ w.heap.size + 2 := by omega
    clear hI hrv hS hxl hK hK2 hbx hsp1 hI0 hB
    rw [← hA]
    gi_wp2_with fail
    refine ⟨by simp, .inl ⟨_, _, rfl, run_takeDeferred HK2.out, ?_⟩⟩
    exact pieces_end HRET.out hne (by omega) HK2.out rfl
  case stop =>
    rintro D cd pre W hD _ hI hK
    obtain ⟨rfl, _⟩ := id hI
    have HRET := Lib.hid hI
    have HK2 := Lib.hid hK
    have hne : D ≠ w.heap.size + 2 := by omega
    clear hI hK hbx hsp1 hI0 hB
    rw [← hA]
    gi_wp2_with fail
    refine ⟨by simp, .inl ⟨_, _, rfl, run_takeDeferred HK2.out, ?_⟩⟩
    exact pieces_end HRET.out hne (by omega) HK2.out rfl
end Go.Proofs.Ytepnaalgobhcdaa
namespace Go.Proofs.Ytepnaalgobhcdaa
open Go.RowKit Spm

section
variable {X : Nat → Prop} {w0 w w1 : World} {s r : Nat} {M : List Pg}
theorem two_pages (h : TwoX X w0 w s r M M w1) : Calls Try.prog 26 #[.pointer (some ⟨s, 0, none⟩)] w1 fun e w' => e = .returned (.int .i64 M.length) ∧ w1 = w' := by
  obtain ⟨F, G, h1, _⟩ := h.own
  exact pages_any w1 s M F h1
theorem two_at (h : TwoX X w0 w s r M M w1) : ∃ a c, w1.cell? ⟨r, 0, none⟩ = some (.slice a M.length c) := by
  obtain ⟨F, G, _, ⟨_, ⟨aA, cA, aB, cB, aP, cP, A, C, hb, _⟩, _⟩, _⟩ := h.own
  exact ⟨aA, cA, by simp [World.cell?, hb, rfCells]⟩
/-- A list of pieces that is handed back. -/
def LsRes (w : World) (M : List Pg) (e : Ending) (w' : World) : Prop := ∃ (a : Option Addr) (c : Nat), e = .returned (.slice a (runsM M).length c) ∧ (runsM M).length ≤ c ∧ c ≤ 9223372036854775807 ∧ PcsR w' a (runsM M) ∧ Below w.heap.size w w'
theorem DumpRes.ls {w w' : World} {M : List Pg} {e : Ending} (h : DumpRes w M e w') : LsRes w M e w' := by
  obtain ⟨v, xs, rfl, hx, hp, hb⟩ := h
  obtain ⟨a, c, rfl, h1, h2, h3⟩ := hp.read
  rw [hx] at h3 ⊢
  exact ⟨a, c, rfl, by rw [← hx, List.length_map]; exact h1, h2, h3, hb⟩
theorem two_rdump (h : TwoX X w0 w s r M M w1) : Calls Try.prog 33 #[.pointer (some ⟨r, 0, none⟩)] w1 (LsRes w1 M) := by
  obtain ⟨F, G, _, h1, _⟩ := h.own
  exact (rdump_any w1 r M G h1).mono fun _ _ h => h.ls
theorem two_dump (h : TwoX X w0 w s r M M w1) : Calls Try.prog 34 #[.pointer (some ⟨s, 0, none⟩)] w1 (DumpRes w1 M) := by
  obtain ⟨F, G, h1, _⟩ := h.own
  exact dump_any w1 s M F h1
theorem two_pieces (h : TwoX X w0 w s r M M w1) {a : Option Addr} {c : Nat} (hr : PcsR w1 a (runsM M)) (hc : (runsM M).length ≤ c) (hcm : c ≤ 9223372036854775807) (most : Int) :
    Calls Try.prog 59 #[.pointer (some ⟨s, 0, none⟩), .slice a (runsM M).length c, .int .i64 most] w1 fun e w' => e = .returned (.bool true) ∧ Below w1.heap.size w1 w' := by
  obtain ⟨F, G, h1, _⟩ := h.own
  exact pieces_any w1 s M F h1 a c hr hc hcm most
theorem runs_few (h : TwoX X w0 w s r M M w1) : (runsM M).length ≤ 8192 := by
  have h1 := (runsM_ok h.ok1).2
  have h2 := h.ok1.few
  omega
end
/-- Bytes of one's own. -/
def BRow (w : World) (B : Nat) (v : Value) (n : Nat) : Prop := ∃ ys : List UInt8, ys.length = n ∧ w.ownsRow B 5 1 v n (bvs ys)
theorem BRow.set {w : World} {B n g : Nat} {v : Value} (h : BRow w B v n) (h0 : 0 < n) (y : UInt8) : BRow (w.setCell ⟨g, 0, none⟩ (byteVal y)) B v n := by
  obtain ⟨ys, hy, hr⟩ := h
  obtain ⟨g', cap, rfl, _⟩ := ro_form hr h0
  by_cases hg : g' = g
  · subst hg
    have hl : 0 < (bvs ys).length := by unfold bvs; rw [List.length_map]; omega
    refine ⟨ys.set 0 y, by rw [List.length_set]; exact hy, ?_⟩
    have := ro_set hr hl (byteVal y)
    unfold bvs at this ⊢
    rw [List.map_set]
    exact this
  · refine ⟨ys, hy, ro_same hr fun k hk => ?_⟩
    have e : k = g' := by simpa [Value.ownBlock] using hk.symm
    subst e
    exact heap_setCell_other _ _ _ _ hg
/-- While the first bytes of what Dump gave are turned. -/
structure DSt (W : World) (s r : Nat) (M : List Pg) (B top : Nat) (v : Value) (xs : List (Rn × Value)) (wr : World) : Prop where
  row : wr.ownsRow B 123 3 v xs.length (flatX xs)
  each : ∀ x ∈ xs, BRow wr B x.2 x.1.bytes.length
  two : TwoX (fun k => B ≤ k ∧ k < top) wr W s r M M wr
  size : wr.heap.size = top
  base : W.heap.size ≤ B
theorem DSt.start {W w1 w2 : World} {s r : Nat} {M : List Pg} {v : Value} {xs : List (Rn × Value)} (h : Two W s r M M w1) (hp : Pcs w2 w1.heap.size v xs) (hb : Below w1.heap.size w1 w2) : DSt W s r M w1.heap.size w2.heap.size v xs w2 :=
  ⟨hp.row, fun x hx => ⟨x.1.bytes, rfl, hp.each x hx⟩, (h.hold (Y := fun k => w1.heap.size ≤ k ∧ k < w2.heap.size) hb fun _ hk => hk), rfl, h.below.size⟩
theorem DSt.get {W wr : World} {s r : Nat} {M : List Pg} {B top i : Nat} {a : Option Addr} {c n : Nat} {xs : List (Rn × Value)} (h : DSt W s r M B top (.slice a n c) xs wr) (hn : n = xs.length) (hi : i < n) (hb : ∀ x ∈ xs, 0 < x.1.bytes.length) :
    ∃ (g gb cap L : Nat) (y : UInt8), a = some ⟨g, 0, none⟩ ∧ wr.cell? ⟨g, i * 3 + 2, none⟩ = some (.slice (some ⟨gb, 0, none⟩) L cap) ∧ 0 < L ∧ L ≤ cap ∧ wr.cell? ⟨gb, 0, none⟩ = some (.int .u8 (y.toNat : Int)) ∧ wr.frozen? ⟨gb, 0, none⟩ = false ∧
      ∀ z : UInt8, DSt W s r M B top (.slice a n c) xs (wr.setCell ⟨gb, 0, none⟩ (byteVal z)) := by
  subst hn
  obtain ⟨h1, h2, h3, h4, h5⟩ := h
  obtain ⟨g, cap', e, _⟩ := ro_form h1 (by omega)
  cases e
  have hx : xs[i]? = some xs[i] := List.getElem?_eq_getElem hi
  have hg := flatX_get xs hx
  have hl := flatX_length xs
  have hmem : xs[i] ∈ xs := List.getElem_mem hi
  obtain ⟨ys, hy, hr⟩ := h2 _ hmem
  have h0 := hb _ hmem
  obtain ⟨gb, cap, e2, hc, hm, hq1, hq2⟩ := ro_form hr h0
  have hcell : wr.cell? ⟨g, i * 3 + 2, none⟩ = some (.slice (some ⟨gb, 0, none⟩) xs[i].1.bytes.length cap) := by rw [h1.cellAt _ (by omega), hg.2.2, e2]
  rw [e2] at hr
  obtain ⟨cur, fr, hgg⟩ : ∃ cur fr, wr.heap[gb]? = some (.cells cur 5 fr) := by
    rcases hr.2 with ⟨e, _⟩ | ⟨g', cap', cur, e, _, hgg, _⟩
    · cases e
    · cases e; exact ⟨_, _, hgg⟩
  have hlb : 0 < (bvs ys).length := by unfold bvs; rw [List.length_map]; omega
  refine ⟨g, gb, cap, _, ys.getD 0 0, rfl, hcell, h0, hc, ?_, ro_free hr 0, fun z => ?_⟩
  · rw [hr.cellAt 0 (by omega)]
    unfold bvs
    rw [List.getElem?_map, List.getElem?_eq_getElem (by omega)]
    simp [List.getD_eq_getElem?_getD, List.getElem?_eq_getElem (show 0 < ys.length by omega), byteVal]
  · have hcw : Cw [5] wr (wr.setCell ⟨gb, 0, none⟩ (byteVal z)) := Cw.setCell hgg (by simp) 0 _
    exact ⟨hcw.row h1 (by simp), fun x hx => (h2 x hx).set (hb x hx) z, h3.setZ (by omega) ⟨hq1, by omega⟩, by rw [← h4]; simp [World.setCell], h5⟩
theorem runs_pos {M : List Pg} (hM : Ok M) {xs : List (Rn × Value)} (hx : xs.map Prod.fst = runsM M) : ∀ x ∈ xs, 0 < x.1.bytes.length := fun x hxm => by
  have hm : x.1 ∈ runsM M := by rw [← hx]; exact List.mem_map_of_mem hxm
  have h1 := (runsM_ok hM).1 _ hm
  have h2 := h1.pos
  have h3 := h1.length hM
  omega
end Go.Proofs.Ytepnaalgobhcdaa
