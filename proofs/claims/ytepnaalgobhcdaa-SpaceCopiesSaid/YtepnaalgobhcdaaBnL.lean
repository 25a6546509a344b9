/- Pieces in memory; what a round that writes cells of some types alone leaves. *Space.Dump: the pieces. The reference's Dump: what lies in memory while the pieces are put together. The reference's Dump: the walk. The reference's Same: are two lists of pieces the same? The reference's Same: the walk. Acts in memory; clevislaw07.few answers. -/
import Derived.Test.YtepnaalgobhcdaaBnK
import Derived.Test.YtepnaalgobhcdaaBnB
import Derived.Test.YtepnaalgobhcdaaBnC
import Derived.Deep.CutRange
import Derived.Laws.IdiomStrings
import Derived.BigQuiet
namespace Go.Proofs.Ytepnaalgobhcdaa
open Go.RowKit Spm

/-- W' is W but for new blocks and cells of these types. -/
structure Cw (ts : List Nat) (W W' : World) : Prop where
  size : W.heap.size ≤ W'.heap.size
  other : ∀ (k : Nat) (o : Obj), W.heap[k]? = some o → o.isCells = false → W'.heap[k]? = some o
  cells : ∀ (k : Nat) (cur : Array Value) (t : TypeId) (fr : Nat × Nat), t ∉ ts → W.heap[k]? = some (.cells cur t fr) → W'.heap[k]? = some (.cells cur t fr)
theorem Cw.refl (ts : List Nat) (W : World) : Cw ts W W := ⟨Nat.le_refl _, fun _ _ h _ => h, fun _ _ _ _ _ h => h⟩
theorem Cw.trans {ts : List Nat} {A B C : World} (h : Cw ts A B) (k : Cw ts B C) : Cw ts A C :=
  ⟨Nat.le_trans h.size k.size, fun i o hi ho => k.other i o (h.other i o hi ho) ho, fun i c t f ht hi => k.cells i c t f ht (h.cells i c t f ht hi)⟩
theorem Cw.of_below {ts : List Nat} {W W' : World} (h : Below W.heap.size W W') : Cw ts W W' := ⟨h.size, fun k _ hk _ => (h.block k (lt_of_block hk)).trans hk, fun k _ _ _ _ hk => (h.block k (lt_of_block hk)).trans hk⟩
theorem Cw.of_grown {ts : List Nat} {W W' : World} {B n s : Nat} {e : TypeId} {v : Value} {xs : List Value} (hr : W.ownsRow B e s v n xs) (he : e ∈ ts) (hg : W.grownBy W' v.ownBlock) : Cw ts W W' := by
  have key : ∀ (k : Nat) (o : Obj), W.heap[k]? = some o → (∀ cur fr, o ≠ .cells cur e fr) → W'.heap[k]? = some o := fun k o hk ho => by
    refine (hg.block k (lt_of_block hk) ?_).trans hk
    rcases hr.2 with ⟨rfl, _⟩ | ⟨g, cap, c, rfl, _, hgg, _⟩
    · simp [Value.ownBlock]
    · intro e'
      obtain rfl : k = g := by simpa [Value.ownBlock] using e'
      rw [hk] at hgg
      exact ho _ _ (Option.some.inj hgg)
  refine ⟨hg.size, fun k o hk ho => key k o hk (fun cur fr e' => by subst e'; cases ho), fun k cur t fr ht hk => key k _ hk (fun cur' fr' e' => ?_)⟩
  injection e' with _ e2 _
  exact ht (e2 ▸ he)
theorem Cw.setCell {ts : List Nat} {W : World} {b : Nat} {cur : Array Value} {t : TypeId} {fr : Nat × Nat} (hb : W.heap[b]? = some (.cells cur t fr)) (ht : t ∈ ts) (o : Nat) (u : Value) : Cw ts W (W.setCell ⟨b, o, none⟩ u) := by
  refine ⟨by simp [World.setCell], fun k x hk hx => ?_, fun k c t' f ht' hk => ?_⟩
  · rw [heap_setCell_other _ _ _ _ (fun e => by
      have e' : k = b := e
      subst e'; rw [hb] at hk; cases hk; cases hx)]; exact hk
  · rw [heap_setCell_other _ _ _ _ (fun e => by
      have e' : k = b := e
      subst e'; rw [hb] at hk
      have := Option.some.inj hk
      injection this with _ e2 _
      exact ht' (e2 ▸ ht))]; exact hk
theorem Cw.keeps {ts : List Nat} {W W' : World} (h : Cw ts W W') (B : Nat) : KeepsFrom B W W' := ⟨h.size, fun k o _ hk ho => h.other k o hk ho⟩
theorem Cw.kq {ts : List Nat} {W W' : World} (h : Cw ts W W') (hts : (156 ∉ ts ∧ 78 ∉ ts ∧ 43 ∉ ts ∧ 140 ∉ ts) := by decide) : Kq W W' :=
  ⟨h.size, fun k cur t fr ht hk => h.cells k cur t fr (by rcases ht with rfl | rfl | rfl | rfl; exact hts.1; exact hts.2.1; exact hts.2.2.1; exact hts.2.2.2) hk, fun k es c hk => h.other k _ hk rfl⟩
theorem Cw.row {ts : List Nat} {W W' : World} (h : Cw ts W W') {B n s : Nat} {e : TypeId} {v : Value} {xs : List Value} (hr : W.ownsRow B e s v n xs) (he : e ∉ ts) : W'.ownsRow B e s v n xs :=
  ro_same hr fun g hg => by
    rcases hr.2 with ⟨rfl, _⟩ | ⟨g', cap, c, rfl, _, hgg, _⟩
    · simp [Value.ownBlock] at hg
    · obtain rfl : g' = g := by simpa [Value.ownBlock] using hg
      rw [hgg]; exact h.cells _ _ _ _ he hgg
/-- A row stays while something that is no cells turns. -/
theorem ro_own {W W' : World} {row : Option Nat} (hg : W.grownBy W' row) (hrow : ∀ r, row = some r → ∃ o : Obj, W.heap[r]? = some o ∧ o.isCells = false) {B n s : Nat} {e : TypeId} {v : Value} {xs : List Value} (hr : W.ownsRow B e s v n xs) : W'.ownsRow B e s v n xs :=
  ro_same hr fun g hgg => hg.block g (hr.lt g hgg).2 fun e' => by
    obtain ⟨o, ho, hc⟩ := hrow g e'.symm
    rcases hr.2 with ⟨rfl, _⟩ | ⟨g', cap, c, rfl, _, hg', _⟩
    · simp [Value.ownBlock] at hgg
    · obtain rfl : g' = g := by simpa [Value.ownBlock] using hgg
      rw [hg'] at ho; cases ho; cases hc
theorem block_own {W W' : World} {row : Option Nat} (hg : W.grownBy W' row) (hrow : ∀ r, row = some r → ∃ o : Obj, W.heap[r]? = some o ∧ o.isCells = false) {k : Nat} {cur : Array Value} {t : TypeId} {fr : Nat × Nat} (hk : W.heap[k]? = some (.cells cur t fr)) : W'.heap[k]? = some (.cells cur t fr) :=
  (hg.block k (lt_of_block hk) (fun e' => by obtain ⟨o, ho, hc⟩ := hrow k e'.symm; rw [hk] at ho; cases ho; cases hc)).trans hk

/-! ### Pieces -/
def pcList (x : Rn × Value) : List Value := [.int .u64 ((x.1.first * 4096 : Nat) : Int), .int .i64 x.1.prot, x.2]
def flatX (xs : List (Rn × Value)) : List Value := xs.flatMap pcList
theorem flatX_snoc (l : List (Rn × Value)) (x : Rn × Value) : flatX (l ++ [x]) = flatX l ++ pcList x := by unfold flatX; rw [List.flatMap_append]; simp
theorem flatX_length (l : List (Rn × Value)) : (flatX l).length = l.length * 3 := by
  unfold flatX
  induction l with
  | nil => rfl
  | cons x l ih => rw [List.flatMap_cons, List.length_append, ih]; simp [pcList]; omega
theorem flatX_get (l : List (Rn × Value)) {k : Nat} {x : Rn × Value} (h : l[k]? = some x) : (flatX l)[k * 3]? = some (.int .u64 ((x.1.first * 4096 : Nat) : Int)) ∧ (flatX l)[k * 3 + 1]? = some (.int .i64 x.1.prot) ∧ (flatX l)[k * 3 + 2]? = some x.2 := by
  induction l generalizing k with
  | nil => simp at h
  | cons y l ih =>
    unfold flatX
    rw [List.flatMap_cons]
    cases k with
    | zero =>
      simp at h
      subst h
      exact ⟨rfl, rfl, rfl⟩
    | succ k =>
      have := ih (k := k) (by simpa using h)
      have e : (pcList y).length = 3 := rfl
      rw [List.getElem?_append_right (by rw [e]; omega), List.getElem?_append_right (by rw [e]; omega), List.getElem?_append_right (by rw [e]; omega), e, show (k + 1) * 3 - 3 = k * 3 by omega, show (k + 1) * 3 + 1 - 3 = k * 3 + 1 by omega, show (k + 1) * 3 + 2 - 3 = k * 3 + 2 by omega]
      exact this
structure Pcs (w : World) (B : Nat) (v : Value) (xs : List (Rn × Value)) : Prop where
  row : w.ownsRow B 123 3 v xs.length (flatX xs)
  each : ∀ x ∈ xs, PcMem B x w
theorem Pcs.keep {w w' : World} {B : Nat} {v : Value} {xs : List (Rn × Value)} (h : Pcs w B v xs) (hb : Below w.heap.size w w') : Pcs w' B v xs := ⟨ro_keep h.row hb, fun x hx => ro_keep (h.each x hx) hb⟩
theorem Pcs.le {w : World} {B B' : Nat} {v : Value} {xs : List (Rn × Value)} (h : Pcs w B v xs) (hb : B' ≤ B) : Pcs w B' v xs := ⟨ro_le h.row hb, fun x hx => ro_le (h.each x hx) hb⟩
theorem Pcs.own {W W' : World} {row : Option Nat} (hg : W.grownBy W' row) (hrow : ∀ r, row = some r → ∃ o : Obj, W.heap[r]? = some o ∧ o.isCells = false) {B : Nat} {v : Value} {xs : List (Rn × Value)} (h : Pcs W B v xs) : Pcs W' B v xs :=
  ⟨ro_own hg hrow h.row, fun x hx => ro_own hg hrow (h.each x hx)⟩
def DumpRes (w : World) (M : List Pg) (e : Ending) (w' : World) : Prop := ∃ v xs, e = .returned v ∧ xs.map Prod.fst = runsM M ∧ Pcs w' w.heap.size v xs ∧ Below w.heap.size w w'
/-- What Dump has collected. -/
def DumpI (w : World) (pre : List (Rn × Value)) (W : World) : Prop := ∃ v, W.heap[w.heap.size]? = some (.cells #[v] 63 (0, 0)) ∧ Pcs W w.heap.size v pre ∧ Below w.heap.size w W
theorem DumpI.own (w : World) (B : Nat) (hB : w.heap.size ≤ B) : OwnFrom B (DumpI w) := fun s X Y row hs hg hr => by
  obtain ⟨v, h1, h2, h3⟩ := hs
  refine ⟨v, block_own hg (fun r e => (hr r e).2) h1, h2.own hg (fun r e => (hr r e).2), ⟨hg.os.trans h3.os, hg.tape.trans h3.tape, hg.output.trans h3.output, Nat.le_trans h3.size hg.size, fun k hk => ?_⟩⟩
  rw [hg.block k (Nat.lt_of_lt_of_le hk h3.size) (fun e => by have := (hr k e.symm).1; omega)]
  exact h3.block k hk
/-- A piece more. -/
theorem DumpI.push {w W wt w5 : World} {pre : List (Rn × Value)} {x : Rn × Value} {v v' : Value} (h1 : W.heap[w.heap.size]? = some (.cells #[v] 63 (0, 0))) (h2 : Pcs W w.heap.size v pre) (h3 : Below w.heap.size w W) (hx : PcMem w.heap.size x W)
    (hwt : Below W.heap.size W wt) (hown : w5.ownsRow w.heap.size 123 3 v' (pre.length + 1) (flatX pre ++ pcList x)) (hg : wt.grownBy w5 v.ownBlock) :
    w5.heap[w.heap.size]? = some (.cells #[v] 63 (0, 0)) ∧ DumpI w (pre ++ [x]) (w5.setCell ⟨w.heap.size, 0, none⟩ v') ∧ Cw [123, 63] W (w5.setCell ⟨w.heap.size, 0, none⟩ v') := by
  have hrt := ro_keep h2.row hwt
  have c1 : Cw [123] W w5 := (Cw.of_below hwt).trans (Cw.of_grown hrt (by simp) hg)
  have hb5 := c1.cells _ _ _ _ (by simp) h1
  have c2 : Cw [63] w5 (w5.setCell ⟨w.heap.size, 0, none⟩ v') := Cw.setCell hb5 (by simp) 0 v'
  have h3t : Below w.heap.size w wt := h3.trans ⟨hwt.os, hwt.tape, hwt.output, hwt.size, fun k hk => hwt.block k (by have := h3.size; omega)⟩
  have hb : Below w.heap.size w w5 := ro_below h3t hrt (Nat.le_refl _) hg
  refine ⟨hb5, ⟨v', one_setCell hb5, ⟨?_, fun y hy => ?_⟩, hb.setCell (Nat.le_refl _) _⟩, ?_⟩
  · rw [List.length_append, flatX_snoc]
    exact c2.row hown (by simp)
  · have hy' : PcMem w.heap.size y W := by
      rcases List.mem_append.1 hy with hy | hy
      · exact h2.each y hy
      · rw [List.mem_singleton.1 hy]; exact hx
    exact c2.row (c1.row hy' (by simp)) (by simp)
  · have up : ∀ {ts : List Nat} {A B : World}, Cw ts A B → (∀ t, t ∈ ts → t ∈ [123, 63]) → Cw [123, 63] A B := fun h hs => ⟨h.size, h.other, fun k c t f ht hk => h.cells k c t f (fun h' => ht (hs t h')) hk⟩
    exact (up c1 (by simp)).trans (up c2 (by simp))
end Go.Proofs.Ytepnaalgobhcdaa
namespace Go.Proofs.Ytepnaalgobhcdaa
open Go.RowKit Go.Shelf Spm
attribute [local go_sem] Oper.semAt_some

theorem info123 : (Try.prog.info? 123).map (fun i => (i.zero, i.size, i.bytes)) = some (some (.agg #[.int .u64 0, .int .i64 0, .slice none 0 0]), 3, 40) := by kernel_rfl

set_option maxHeartbeats 4000000 in
set_option maxRecDepth 100000 in
theorem dump_any (w : World) (b : Nat) (M : List Pg) (F : Nat → Prop) (h : SpIn w b M F) : Calls Try.prog 34 #[.pointer (some ⟨b, 0, none⟩)] w (DumpRes w M) := by
  have hfew := h.ok.few
  obtain ⟨_, hrl⟩ := runsM_ok h.ok
  obtain ⟨i123, hi123, hz123, hs123, hy123⟩ := info_parts info123
  refine (callsIn_wide (n := 5)).1 ?_
  refine callsIn_of_wp_marks Try.func34 rfl trivial ?_ rfl
  simp only [Try.ntmps34, List.size_toArray, List.length_cons, List.length_nil, Nat.reduceAdd, Nat.reduceSub, Array.replicate_succ, Array.replicate_zero, List.push_toArray, List.append_toArray, List.nil_append, List.cons_append]
  have HH := Lib.hid h
  clear h
  gi_wp2_with (refine ⟨trivial, ?_⟩; gi_at_call 42; refine (callsIn_wide.2 (all_any _ _)).mono ?_; rintro e w' ⟨rfl, rfl⟩)
  obtain ⟨w1, hw1⟩ : ∃ w1, (w.alloc (.cells #[.slice none 0 0] 63)).alloc (.cells #[.pointer (some ⟨b, 0, none⟩)] 43) = w1 := ⟨_, rfl⟩
  have hsz : w1.heap.size = w.heap.size + 2 := by rw [← hw1]; simp
  have hB : Below w.heap.size w w1 := by rw [← hw1]; exact ((Below.refl _ w).alloc (Nat.le_refl _) _).alloc (by simp) _
  have hI0 : DumpI w [] w1 := ⟨.slice none 0 0, by rw [← hw1]; exact (hp_old _ _ _ (by simp)).trans (hp_new _ _ _ rfl), ⟨World.ownsRow_nil _ _ _ _, fun x hx => absurd hx List.not_mem_nil⟩, hB⟩
  have hbx : w1.heap[w.heap.size + 1]? = some (.cells #[.pointer (some ⟨b, 0, none⟩)] 43 (0, 0)) := by rw [← hw1]; exact hp_new _ _ _ (by simp)
  have hsp1 := HH.out.keepB hB
  rw [hw1]
  clear hw1
  generalize hA : Act.mk _ _ = a0
  refine rangeFunc_mem (α := Rn × Value) rfl (by decide) (gf := 77) (lb := #[.pointer (some ⟨w.heap.size + 1, 0, none⟩)]) (by rw [← hA]; rfl) trivial (enters_of Try.func77 (by kernel_rfl) rfl)
    (all1_stops 4 (by decide) w1 (w.heap.size + 1) b M F hsp1 hbx) (fun h k => h.trans k) (fun W l o o' hl ho h1 h2 => Kq.putObj o' ho h1 h2) (Below.refl _ _) (fun _ => rfl)
    (DumpI w) (fun _ _ _ => False)
    (DumpI.own w _ (by omega)) (fun _ _ _ _ _ hs _ _ => hs) hI0
    (fun _ x a' W => ∃ Bx, W.heap[Bx]? = some (.cells (pcArr x.1 x.2) 123 (0, 0)) ∧ PcMem w.heap.size x W ∧ a' = { tmps := (a0.tmps.setIfInBounds 7 (.agg (pcArr x.1 x.2))).setIfInBounds 4 (.pointer (some ⟨Bx, 0, none⟩)), defers := [] })
    (fun _ x a' _ X Y row hs hg hr => by
      obtain ⟨Bx, k1, k2, k3⟩ := hs
      exact ⟨Bx, block_own hg (fun r e => (hr r e).2) k1, ro_own hg (fun r e => (hr r e).2) k2, k3⟩)
    ?assign ?body ?done ?stop
  case assign =>
    rintro l pre ⟨r, u⟩ W K hI ⟨hR, _⟩ hK
    obtain ⟨ua, uc, rfl, _, _⟩ := ro_shape (show W.ownsRow w1.heap.size 5 1 u r.bytes.length (bvs r.bytes) from hR)
    obtain ⟨v, i1, i2, i3⟩ := hI
    have hwz := i3.size
    have HI1 := Lib.hid i1
    have HI2 := Lib.hid i2
    have HI3 := Lib.hid i3
    have HR := Lib.hid hR
    have HK := Lib.hid hK
    have hnew := Lib.hid (hp_new W (.cells (pcArr r (.slice ua r.bytes.length uc)) 123) _ rfl)
    unfold pcArr at hnew
    clear i1 i2 i3 hR hK hbx hsp1 hI0 hB
    rw [← hA]
    unfold encPc pcArr
    gi_wp2_with fail
    have hbl : Below W.heap.size W (W.alloc (.cells (pcArr r (.slice ua r.bytes.length uc)) 123)) := (Below.refl _ W).alloc (Nat.le_refl _) _
    refine HK.out _ _ ((KeepsOthers.alloc _ _).from _) (Kq.of_below hbl) ⟨v, (hp_old _ _ _ (lt_of_block HI1.out)).trans HI1.out, HI2.out.keep hbl, HI3.out.alloc hwz _⟩ ⟨W.heap.size, ?_, ro_le (ro_keep HR.out hbl) (by omega), ?_⟩
    · exact hnew.out
    · rw [← hA]; rfl
  case body =>
    rintro l pre ⟨r, u⟩ a' W hl ⟨rr, hrr⟩ ⟨v, i1, i2, i3⟩ ⟨Bx, k1, k2, rfl⟩ hlt
    obtain ⟨ua, uc, rfl, _, _⟩ := ro_shape (show W.ownsRow w.heap.size 5 1 u r.bytes.length (bvs r.bytes) from k2)
    have hwz := i3.size
    have cl := cell_of_one i1
    have fl := free_of_one i1
    have hll := lt_of_block i1
    have hbxl := lt_of_block k1
    have HCX : Hid (CellsAt W Bx 0 (pcArr r (.slice ua r.bytes.length uc))) := fun jj u hu => by simp only [World.cell?, k1, Nat.zero_add]; exact hu
    have hpl : pre.length < 8192 := by omega
    have HPUSH : Hid (∀ v' w5, w5.ownsRow w.heap.size 123 3 v' (pre.length + 1) (flatX pre ++ pcList (r, (.slice ua r.bytes.length uc))) → (W.alloc (.cells (pcArr r (.slice ua r.bytes.length uc)) 123)).grownBy w5 v.ownBlock → w5.heap[w.heap.size]? = some (.cells #[v] 63 (0, 0)) ∧ DumpI w (pre ++ [(r, (.slice ua r.bytes.length uc))]) (w5.setCell ⟨w.heap.size, 0, none⟩ v') ∧ Cw [123, 63] W (w5.setCell ⟨w.heap.size, 0, none⟩ v')) := fun v' w5 h1 h2 => DumpI.push i1 i2 i3 k2 ((Below.refl _ W).alloc (Nat.le_refl _) _) h1 h2
    have HROW : Hid (W.ownsRow w.heap.size 123 3 v pre.length (flatX pre)) := i2.row
    clear i1 i2 i3 k1 k2 hrr hbx hsp1 hI0 hB hlt
    unfold pcArr at HCX HPUSH
    unfold pcList at HPUSH
    rw [← hA]
    unfold pcArr
    simp only [List.setIfInBounds_toArray, List.set_cons_zero, List.set_cons_succ]
    gi_wp2_with (first
      | (refine wpListIn_load_agg rfl 123 (.tmp 4) rfl Bx 0 rfl _ _ HCX.out Try.underlying123 rfl (by kernel_rfl) ?_)
      | (gi_at_builtin; refine wpListIn_append_own _ rfl _ _ 63 rfl w.heap.size 123 i123 (.agg #[.int .u64 0, .int .i64 0, .slice none 0 0]) 3 40 Try.underlying63 hi123 hz123 hs123 hy123 rfl (by decide) _ _ _ rfl (HROW.out.alloc _) ⟨W.heap.size, 0, none⟩ 1 1 [.int .u64 ((r.first * 4096 : Nat) : Int), .int .i64 r.prot, .slice ua r.bytes.length uc] rfl rfl (World.news_of_block (hp_new W _ _ rfl)) (by simp [Value.oneCell']) (by unfold maxLen; omega) (by omega) (by simp; omega) ?_; intro v5 w5 hown5 hgrow5 _; obtain ⟨g5, c5, rfl⟩ := ownsRow_succ hown5; obtain ⟨hq1, hq2, hq3⟩ := HPUSH.out _ _ hown5 hgrow5; have cl5 := cell_of_one hq1; have fl5 := free_of_one hq1; have HQ2 := Lib.hid hq2; have HQ3 := Lib.hid hq3; clear hown5 hgrow5 hq1 hq2 hq3))
    exact ⟨HQ3.out.keeps _, HQ3.out.kq, HQ2.out⟩
  case done =>
    rintro D xs W hD hS ⟨v, i1, i2, i3⟩ hK
    have cl := cell_of_one i1
    have HK := Lib.hid hK
    have HS := Lib.hid hS
    have HP := Lib.hid (i2.own (grownBy_putObj' W D (.deferred none)) (fun r e => by cases e; exact ⟨_, hK, rfl⟩))
    have HB := Lib.hid (i3.trans (belowK_b (w := w) (Nat.le_refl _) W D _ (.deferred none) (by omega) hK rfl rfl))
    clear i1 i2 i3 hK hS hbx hsp1 hI0 hB
    rw [← hA]
    gi_wp2_with fail
    refine ⟨by simp, .inl ⟨_, _, rfl, run_takeDeferred HK.out, ?_⟩⟩
    exact ⟨_, results_tmp rfl _ _ _, v, xs, rfl, HS.out, HP.out, HB.out⟩
  case stop =>
    rintro D c pre W _ _ h _
    exact h.elim
end Go.Proofs.Ytepnaalgobhcdaa
namespace Go.Proofs.Ytepnaalgobhcdaa
open Go.RowKit Spm

def rn0 (p : Pg) : Rn := ⟨p.num, 0, p.prot, []⟩
theorem rn0_up (p : Pg) : rnUp (rn0 p) p = rn1 p := rfl
/-- Between two pages. -/
structure DmpH (w : World) (v : Value) (xs : List (Rn × Value)) (wr : World) : Prop where
  pcs : Pcs wr w.heap.size v xs
  below : Below w.heap.size w wr
  some : ∀ y ∈ xs, y.2.ownBlock.isSome = true
  pw : xs.Pairwise fun x y => x.2.ownBlock ≠ y.2.ownBlock
/-- The last piece is under way. -/
structure DmpT (w : World) (v : Value) (xs : List (Rn × Value)) (x : Rn × Value) (wr : World) : Prop where
  pcs : Pcs wr w.heap.size v (xs ++ [x])
  below : Below w.heap.size w wr
  some : ∀ y ∈ xs, y.2.ownBlock.isSome = true
  pw : xs.Pairwise fun x y => x.2.ownBlock ≠ y.2.ownBlock
  apart : ∀ y ∈ xs, y.2.ownBlock ≠ x.2.ownBlock
section
variable {w wr wt w5 w1 : World} {v v' u u' : Value} {xs : List (Rn × Value)} {x : Rn × Value} {r : Rn} {p : Pg}
theorem DmpH.open (h : DmpH w v (xs ++ [x]) wr) : DmpT w v xs x wr :=
  ⟨h.pcs, h.below, fun y hy => h.some y (List.mem_append.2 (.inl hy)), (List.pairwise_append.1 h.pw).1, fun y hy => (List.pairwise_append.1 h.pw).2.2 y hy x (by simp)⟩
theorem DmpH.alike (h : DmpH w v xs wr) (hh : w1.heap = wr.heap) (h1 : w1.os = wr.os) (h2 : w1.tape = wr.tape) (h3 : w1.output = wr.output) : DmpH w v xs w1 :=
  ⟨⟨ro_same h.pcs.row fun g _ => by rw [hh], fun y hy => ro_same (h.pcs.each y hy) fun g _ => by rw [hh]⟩, ⟨h1.trans h.below.os, h2.trans h.below.tape, h3.trans h.below.output, by rw [hh]; exact h.below.size, fun k hk => by rw [hh]; exact h.below.block k hk⟩, h.some, h.pw⟩
theorem DmpH.push0 (h : DmpH w v xs wr) (hwt : Below wr.heap.size wr wt) (hown : w5.ownsRow w.heap.size 123 3 v' (xs.length + 1) (flatX xs ++ pcList (rn0 p, .slice none 0 0))) (hg : wt.grownBy w5 v.ownBlock) :
    DmpT w v' xs (rn0 p, .slice none 0 0) w5 := by
  have hrt := ro_keep h.pcs.row hwt
  have c1 : Cw [123] wr w5 := (Cw.of_below hwt).trans (Cw.of_grown hrt (by simp) hg)
  have h3t : Below w.heap.size w wt := h.below.trans ⟨hwt.os, hwt.tape, hwt.output, hwt.size, fun k hk => hwt.block k (by have := h.below.size; omega)⟩
  refine ⟨⟨by rw [List.length_append, flatX_snoc]; exact hown, fun y hy => ?_⟩, ro_below h3t hrt (Nat.le_refl _) hg, h.some, h.pw, fun y hy e => ?_⟩
  · rcases List.mem_append.1 hy with hy | hy
    · exact c1.row (h.pcs.each y hy) (by simp)
    · rw [List.mem_singleton.1 hy]
      exact World.ownsRow_nil _ _ _ _
  · have := h.some y hy
    rw [e] at this
    simp [Value.ownBlock] at this
/-- The cells of the last piece's bytes, and of the piece, behind an append. -/
theorem DmpT.grow {g cap k g' c' : Nat} (h : DmpT w (.slice (Option.some ⟨g, 0, none⟩) (k + 1) cap) xs (r, u) wr) (hk : k = xs.length) (hwt : Below wr.heap.size wr wt)
    (hown : w5.ownsRow w.heap.size 5 1 (.slice (Option.some ⟨g', 0, none⟩) (r.bytes.length + 4096) c') (r.bytes.length + 4096) (bvs r.bytes ++ bvs p.bytes)) (hg : wt.grownBy w5 u.ownBlock) (hat : u.ownBlock = Option.some g' ∨ g' = wt.heap.size) (hp : p.bytes.length = 4096) :
    (w5.cell? ⟨g, k * 3 + 2, none⟩ = Option.some u ∧ w5.frozen? ⟨g, k * 3 + 2, none⟩ = false) ∧
    DmpH w (.slice (Option.some ⟨g, 0, none⟩) (k + 1) cap) (xs ++ [(rnUp r p, .slice (Option.some ⟨g', 0, none⟩) (r.bytes.length + 4096) c')]) (w5.setCell ⟨g, k * 3 + 2, none⟩ (.slice (Option.some ⟨g', 0, none⟩) (r.bytes.length + 4096) c')) := by
  have hur : PcMem w.heap.size (r, u) wr := h.pcs.each _ (by simp)
  have hut : wt.ownsRow w.heap.size 5 1 u r.bytes.length (bvs r.bytes) := ro_keep hur hwt
  have c1 : Cw [5] wr w5 := (Cw.of_below hwt).trans (Cw.of_grown hut (by simp) hg)
  have hl : (xs ++ [(r, u)]).length = k + 1 := by simp [hk]
  have hrow : w5.ownsRow w.heap.size 123 3 (.slice (Option.some ⟨g, 0, none⟩) (k + 1) cap) (k + 1) (flatX (xs ++ [(r, u)])) := by
    have := c1.row h.pcs.row (by simp)
    rw [hl] at this; exact this
  have hget := flatX_get (xs ++ [(r, u)]) (k := k) (x := (r, u)) (by rw [hk]; simp)
  have hcell : w5.cell? ⟨g, k * 3 + 2, none⟩ = Option.some u := by
    rw [hrow.cellAt (k * 3 + 2) (by omega)]; exact hget.2.2
  have h3t : Below w.heap.size w wt := h.below.trans ⟨hwt.os, hwt.tape, hwt.output, hwt.size, fun k hk => hwt.block k (by have := h.below.size; omega)⟩
  have hb5 : Below w.heap.size w w5 := ro_below h3t hut (Nat.le_refl _) hg
  refine ⟨⟨hcell, ro_free hrow _⟩, ⟨⟨?_, fun y hy => ?_⟩, hb5.setCell (hrow.lt g rfl).1 _, fun y hy => ?_, ?_⟩⟩
  · have hs := ro_set hrow (j := k * 3 + 2) (by rw [flatX_length, hl]; omega) (.slice (Option.some ⟨g', 0, none⟩) (r.bytes.length + 4096) c')
    have e : (flatX (xs ++ [(r, u)])).set (k * 3 + 2) (.slice (Option.some ⟨g', 0, none⟩) (r.bytes.length + 4096) c') = flatX (xs ++ [(rnUp r p, .slice (Option.some ⟨g', 0, none⟩) (r.bytes.length + 4096) c')]) := by
      rw [flatX_snoc, flatX_snoc, List.set_append_right _ _ (by rw [flatX_length, hk]; omega), flatX_length, hk, Nat.add_sub_cancel_left]
      rfl
    rw [e] at hs
    rw [show (xs ++ [(rnUp r p, Value.slice (Option.some ⟨g', 0, none⟩) (r.bytes.length + 4096) c')]).length = k + 1 by simp [hk]]
    exact hs
  · have hset : ∀ b, b ≠ g → (w5.setCell ⟨g, k * 3 + 2, none⟩ (.slice (Option.some ⟨g', 0, none⟩) (r.bytes.length + 4096) c')).heap[b]? = w5.heap[b]? := fun b hb => heap_setCell_other _ _ _ _ hb
    have hgrow : w5.heap[g]? = w5.heap[g]? := rfl
    have hgb : ∀ {B n s : Nat} {v2 : Value} {ys : List Value}, w5.ownsRow B 5 s v2 n ys → (w5.setCell ⟨g, k * 3 + 2, none⟩ (.slice (Option.some ⟨g', 0, none⟩) (r.bytes.length + 4096) c')).ownsRow B 5 s v2 n ys := fun hv => ro_same hv fun b hb => hset b fun e => by
      rcases hrow.2 with ⟨h2, _⟩ | ⟨g2, cap2, cur, e2, _, hg2, _⟩
      · cases h2
      · cases e2
        exact ro_ne hv (t := 123) (by decide) hg2 (by rw [hb, e])
    rcases List.mem_append.1 hy with hy | hy
    · have hyr : PcMem w.heap.size y wr := h.pcs.each y (List.mem_append.2 (.inl hy))
      have hyt : wt.ownsRow w.heap.size 5 1 y.2 y.1.bytes.length (bvs y.1.bytes) := ro_keep hyr hwt
      refine hgb (ro_same hyt fun b hb => hg.block b (hyt.lt b hb).2 fun e => ?_)
      exact h.apart y hy (by rw [hb, e])
    · rw [List.mem_singleton.1 hy]
      show PcMem _ (rnUp r p, _) _
      unfold PcMem rnUp
      simp only
      rw [show (r.bytes ++ p.bytes).length = r.bytes.length + 4096 by rw [List.length_append, hp], show bvs (r.bytes ++ p.bytes) = bvs r.bytes ++ bvs p.bytes by unfold bvs; rw [List.map_append]]
      exact hgb hown
  · rcases List.mem_append.1 hy with hy | hy
    · exact h.some y hy
    · rw [List.mem_singleton.1 hy]; rfl
  · refine List.pairwise_append.2 ⟨h.pw, by simp, fun y hy z hz => ?_⟩
    rw [List.mem_singleton.1 hz]
    show y.2.ownBlock ≠ Option.some g'
    rcases hat with e | e
    · rw [← e]; exact h.apart y hy
    · intro e2
      have hyr : PcMem w.heap.size y wr := h.pcs.each y (List.mem_append.2 (.inl hy))
      have := (hyr.lt g' e2).2
      have := hwt.size
      omega
end
end Go.Proofs.Ytepnaalgobhcdaa
namespace Go.Proofs.Ytepnaalgobhcdaa
open Go.RowKit Spm

/-- Does the i-th page begin a piece? -/
def cnd (M : List Pg) (i : Nat) (p : Pg) : Bool := if i = 0 then true else match M[i - 1]? with
  | some q => !(p.num == q.num + 1 && p.prot == q.prot)
  | none => true
theorem dmp_cond {M : List Pg} (hM : Ok M) {i : Nat} {p : Pg} (hp : M[i]? = some p) :
    (i = 0 ∧ runsM (M.take i) = []) ∨ ∃ q l r, 0 < i ∧ M[i - 1]? = some q ∧ runsM (M.take i) = l ++ [r] ∧ joins r p = (p.num == q.num + 1 && p.prot == q.prot) := by
  by_cases h0 : i = 0
  · left; exact ⟨h0, by rw [h0]; simp [runsM]⟩
  · right
    have hl := (List.getElem?_eq_some_iff.1 hp).1
    obtain ⟨q, hq⟩ : ∃ q, M[i - 1]? = some q := ⟨M[i - 1], List.getElem?_eq_getElem (by omega)⟩
    have h1 := (runs_to hM i (by omega)).2.1 q (by omega) hq
    have h2 := h1
    obtain ⟨l, r, e, _⟩ := h1
    rw [e] at h2
    exact ⟨q, l, r, by omega, hq, e, (last_joins hM hq (by omega) hp h2).2⟩
theorem cnd_true {M : List Pg} (hM : Ok M) {i : Nat} {p : Pg} (hp : M[i]? = some p) (h : cnd M i p = true) : runsM (M.take (i + 1)) = runsM (M.take i) ++ [rn1 p] := by
  rw [runsM_snoc hp]
  rcases dmp_cond hM hp with ⟨h0, e⟩ | ⟨q, l, r, h0, hq, e, hj⟩
  · rw [e]; rfl
  · unfold cnd at h
    rw [if_neg (by omega), hq] at h
    simp only at h
    rw [← hj] at h
    rw [e, addPg_snoc, if_neg (by simpa using h)]
theorem cnd_false {M : List Pg} (hM : Ok M) {i : Nat} {p : Pg} (hp : M[i]? = some p) (h : cnd M i p = false) : ∃ l r, runsM (M.take i) = l ++ [r] ∧ runsM (M.take (i + 1)) = l ++ [rnUp r p] ∧ r.bytes.length ≤ 33554432 := by
  rw [runsM_snoc hp]
  rcases dmp_cond hM hp with ⟨h0, e⟩ | ⟨q, l, r, h0, hq, e, hj⟩
  · unfold cnd at h; rw [if_pos h0] at h; cases h
  · unfold cnd at h
    rw [if_neg (by omega), hq] at h
    simp only at h
    rw [← hj] at h
    have hl := (List.getElem?_eq_some_iff.1 hp).1
    have hok := (runs_to hM i (by omega)).1 r (by rw [e]; simp)
    have := hok.bound hM
    exact ⟨l, r, e, by rw [e, addPg_snoc, if_pos (by simpa using h)], by rw [hok.length hM]; omega⟩

set_option maxHeartbeats 8000000 in
set_option maxRecDepth 100000 in
theorem rdump_any (w : World) (b : Nat) (M : List Pg) (F : Nat → Prop) (h : RfIn w b M F) : Calls Try.prog 33 #[.pointer (some ⟨b, 0, none⟩)] w (DumpRes w M) := by
  have hOK := h.ok
  have hfew := hOK.few
  obtain ⟨i123, hi123, hz123, hs123, hy123⟩ := info_parts info123
  obtain ⟨i5, hi5, hz5, hs5, hy5⟩ := info_parts infoU8
  have HOK := Lib.hid hOK
  obtain ⟨_, ⟨aA, cA, aB, cB, aP, cP, A, C, hb, hp⟩, _, _⟩ := h
  have HPG := Lib.hid hp
  have hcapA := hp.ats.cap
  have hcapB := hp.bys.cap
  have hcapP := hp.prs.cap
  have hbl := lt_of_block hb
  have KB0 : Hid (w.cell? ⟨b, 0, none⟩ = some (.slice aA M.length cA)) := by show _ = _; simp [World.cell?, hb, rfCells]
  have KB1 : Hid (w.cell? ⟨b, 1, none⟩ = some (.slice aB M.length cB)) := by show _ = _; simp [World.cell?, hb, rfCells]
  have KB2 : Hid (w.cell? ⟨b, 2, none⟩ = some (.slice aP M.length cP)) := by show _ = _; simp [World.cell?, hb, rfCells]
  clear hOK hb hp
  go_enter Try.func33, Try.ntmps33
  go_wp2_with fail
  go_loopw [3, 4] (fun vl ti wr => ∃ (i n : Nat) (ad : Option Addr) (cp : Nat) (xs : List (Rn × Value)), i ≤ M.length ∧ ti = .int .i64 i ∧ vl = .slice ad n cp ∧ Hid (n = xs.length ∧ xs.map Prod.fst = runsM (M.take i)) ∧ Hid (DmpH w (.slice ad n cp) xs wr)) (fun _ ti _ => M.length - (intOf ti).toNat)
  case atStart => exact ⟨0, 0, none, 0, [], Nat.zero_le _, rfl, rfl, ⟨rfl, by simp [runsM]⟩, ⟨World.ownsRow_nil _ _ _ _, fun x hx => absurd hx List.not_mem_nil⟩, Below.refl _ _, fun x hx => absurd hx List.not_mem_nil, List.Pairwise.nil⟩
  case round =>
    obtain ⟨i, n, ad, cp, xs, hi, rfl, rfl, HN, HD⟩ := hrel
    have hbw := HD.out.below
    have hwz := hbw.size
    have cb0 := cell_keep KB0.out hbw
    have cb2 := cell_keep KB2.out hbw
    by_cases hlt : i < M.length
    · obtain ⟨p, hpi⟩ : ∃ p, M[i]? = some p := ⟨M[i], List.getElem?_eq_getElem hlt⟩
      have hpm := List.mem_of_getElem? hpi
      have hpb := HOK.out.pages p hpm
      have hpg := HPG.out
      obtain ⟨ga, hga, _, hca⟩ := hpg.ats.get (by omega)
      obtain ⟨gb, hgb, _, hcb⟩ := hpg.bys.get (by omega)
      obtain ⟨gp, hgp, _, hcp⟩ := hpg.prs.get (by omega)
      subst hga hgb hgp
      have kA : ∀ j q, M[j]? = some q → wr.cell? ⟨ga, j, none⟩ = some (.int .u64 ((q.num * 4096 : Nat) : Int)) := fun j q hq => cell_keep (hca j _ (by unfold atVals; rw [List.getElem?_map, hq]; rfl)) hbw
      have kP : ∀ j q, M[j]? = some q → wr.cell? ⟨gp, j, none⟩ = some (.int .i64 q.prot) := fun j q hq => cell_keep (hcp j _ (by unfold prVals; rw [List.getElem?_map, hq]; rfl)) hbw
      have a1 := kA i p hpi
      have p1 := kP i p hpi
      obtain ⟨pa, hpa⟩ : ∃ pa, pa = A p.num := ⟨_, rfl⟩
      obtain ⟨pc, hpc⟩ : ∃ pc, pc = C p.num := ⟨_, rfl⟩
      have KBI : Hid (w.cell? ⟨gb, i, none⟩ = some (.slice (some ⟨pa, 0, none⟩) 4096 pc)) := by
        show _ = _
        rw [hcb i (bsVal A C p) (by unfold bsVals; rw [List.getElem?_map, hpi]; rfl), hpa, hpc]; rfl
      obtain ⟨PB, hPB⟩ : ∃ PB, PB = bvs p.bytes := ⟨_, rfl⟩
      have HPB := Lib.hid hPB
      have HPL := Lib.hid hpb.2.2.2
      have HLEN : Hid (PB.length = 4096 * 1) := by show _ = _; rw [hPB]; unfold bvs; rw [List.length_map, hpb.2.2.2]
      have HONE : Hid (∀ u ∈ PB, u.oneCell' = true) := by show ∀ u ∈ PB, _; rw [hPB]; exact bvs_one p.bytes
      have HNEWS : Hid (∀ V, Below w.heap.size w V → ∀ jj uu, PB[jj]? = some uu → V.cell? ((⟨pa, 0, none⟩ : Addr).add jj) = some uu) := fun V hV jj uu hu => by
        have hjl : jj < 4096 := by
          have := (List.getElem?_eq_some_iff.1 hu).1
          have h2 := HLEN.out
          omega
        have hc := ((hpg.page p hpm).cell (i := jj) (by rw [hpb.2.2.2]; exact hjl) hjl).1
        rw [← hpa] at hc
        have e1 : (⟨pa, 0, none⟩ : Addr).add jj = ⟨pa, jj, none⟩ := by unfold Addr.add; split <;> simp_all
        rw [e1, cell_keep hc hV]
        rw [hPB] at hu
        unfold bvs at hu
        rw [List.getElem?_map, List.getElem?_eq_getElem (by rw [hpb.2.2.2]; exact hjl)] at hu
        rw [List.getD_eq_getElem?_getD, List.getElem?_eq_getElem (by rw [hpb.2.2.2]; exact hjl)]
        exact hu
      have hcase := dmp_cond HOK.out hpi
      obtain ⟨c, hc⟩ : ∃ c, c = cnd M i p := ⟨_, rfl⟩
      have HC := Lib.hid hc
      have HPI := Lib.hid hpi
      clear hpg hca hcb hcp hpm
      go_upto_region 5 with fail
      go_cut [52] from 5 to 91 (fun s52 wx => s52 = .bool c ∧ ∃ q, wx = wr.drewN q)
      case first =>
        rcases hcase with ⟨h0, _⟩ | ⟨q, l, r, h0, hq, _, _⟩
        · have HCN : Hid (c = true) := by show _ = _; rw [HC.out]; unfold cnd; rw [if_pos h0]
          subst h0
          clear hpi hc kA kP
          go_quiet (fail)
          go_wp2_with fail
          go_meet
          exact ⟨by rw [HCN.out], nq, rfl⟩
        · obtain ⟨i1, hi1⟩ : ∃ i1, i = i1 + 1 := ⟨i - 1, by omega⟩
          subst hi1
          simp only [Nat.add_sub_cancel] at hq
          have a0 := kA i1 q hq
          have p0 := kP i1 q hq
          have z0 : ((i1 : Int) + 1 == 0) = false := by simp; omega
          have z1 : (i1 : Int) + 1 < (M.length : Int) := by omega
          have z2 : (i1 : Int) < (M.length : Int) := by omega
          have hcn : c = !(p.num == q.num + 1 && p.prot == q.prot) := by rw [HC.out]; unfold cnd; rw [if_neg (by omega), Nat.add_sub_cancel, hq]
          by_cases hn : p.num = q.num + 1
          · have a1' : wr.cell? ⟨ga, i1 + 1, none⟩ = some (.int .u64 ((q.num * 4096 : Nat) + 4096 : Int)) := by rw [a1, hn]; congr 2; omega
            have hqb := (HOK.out.pages q (List.mem_of_getElem? hq)).1
            by_cases hpp : p.prot = q.prot
            · have HCN : Hid (c = false) := by show _ = _; rw [hcn]; simp [hn, hpp]
              have p0' : wr.cell? ⟨gp, i1, none⟩ = some (.int .i64 p.prot) := by rw [p0, hpp]
              obtain ⟨x0, hx0⟩ : ∃ x0, x0 = q.num * 4096 := ⟨_, rfl⟩
              rw [← hx0] at a0 a1'
              have hx0b : x0 < 140737488355328 := by omega
              clear hpi hc kA kP a1 hn hcn hpp hq p0 hx0 hqb
              go_quiet (fail)
              go_wp2_with fail
              go_meet
              exact ⟨by rw [HCN.out], nq, rfl⟩
            · have HCN : Hid (c = true) := by show _ = _; rw [hcn]; simp [hpp]
              have bb : ((p.prot : Int) != q.prot) = true := by rw [bne_iff_ne]; exact hpp
              obtain ⟨x0, hx0⟩ : ∃ x0, x0 = q.num * 4096 := ⟨_, rfl⟩
              rw [← hx0] at a0 a1'
              have hx0b : x0 < 140737488355328 := by omega
              generalize p.prot = pp at *
              generalize q.prot = qq at *
              clear hpi hc kA kP a1 hn hcn hpp hq hx0 hqb
              go_quiet (fail)
              go_wp2_with fail
              go_meet
              exact ⟨by rw [HCN.out], nq, rfl⟩
          · have HCN : Hid (c = true) := by show _ = _; rw [hcn]; simp [hn]
            have hqb := (HOK.out.pages q (List.mem_of_getElem? hq)).1
            obtain ⟨x0, hx0⟩ : ∃ x0, x0 = q.num * 4096 := ⟨_, rfl⟩
            obtain ⟨x1, hx1⟩ : ∃ x1, x1 = p.num * 4096 := ⟨_, rfl⟩
            rw [← hx0] at a0
            rw [← hx1] at a1
            have hx0b : x0 < 140737488355328 := by omega
            have bb : ((x1 : Int) != (x0 : Int) + 4096) = true := by rw [bne_iff_ne]; omega
            clear hpi hc kA kP hn hcn hq hx0 hx1 hqb p0
            go_quiet (fail)
            go_wp2_with fail
            go_meet
            exact ⟨by rw [HCN.out], nq, rfl⟩
      case rest =>
        obtain ⟨rfl, qd, rfl⟩ := hcut
        have HD2 : Hid (DmpH w (.slice ad n cp) xs (wr.drewN qd)) := HD.out.alike rfl rfl rfl rfl
        go_upto_if 52 with fail
        go_cut [3] from 53 to 91 (fun s3 wx => ∃ (g k cap : Nat) (xs' : List (Rn × Value)) (r : Rn) (u : Value), s3 = .slice (some ⟨g, 0, none⟩) (k + 1) cap ∧ k ≤ 8192 ∧ r.bytes.length ≤ 33554432 ∧ Hid (k = xs'.length) ∧ Hid (xs'.map Prod.fst ++ [rnUp r p] = runsM (M.take (i + 1))) ∧ Hid (DmpT w (.slice (some ⟨g, 0, none⟩) (k + 1) cap) xs' (r, u) wx))
        case first =>
          cases c with
          | true =>
            have HRUN := Lib.hid (cnd_true HOK.out HPI.out HC.out.symm)
            have HW : Hid (∀ o, Below (wr.drewN qd).heap.size (wr.drewN qd) ((wr.drewN qd).alloc o).drew) := fun o => ((Below.refl _ _).alloc (Nat.le_refl _) o).drew
            have HROW : Hid ((wr.drewN qd).ownsRow w.heap.size 123 3 (.slice ad n cp) n (flatX xs)) := by
              have := HD2.out.pcs.row
              rw [← HN.out.1] at this; exact this
            have hnl : n ≤ 8192 := by
              have h1 := HN.out
              have h2 := congrArg List.length h1.2
              rw [List.length_map, ← h1.1] at h2
              rw [h2]
              have := (runs_to HOK.out i hi).2.2.1
              omega
            have HPUSH : Hid (∀ v' w5, w5.ownsRow w.heap.size 123 3 v' (n + 1) (flatX xs ++ [.int .u64 ((p.num * 4096 : Nat) : Int), .int .i64 p.prot, .slice none 0 0]) → ((wr.drewN qd).alloc (.cells #[.int .u64 ((p.num * 4096 : Nat) : Int), .int .i64 p.prot, .slice none 0 0] 123)).drew.grownBy w5 (Value.slice ad n cp).ownBlock → DmpT w v' xs (rn0 p, .slice none 0 0) w5) := fun v' w5 h1 h2 => HD2.out.push0 (HW.out _) (by rw [← HN.out.1]; exact h1) h2
            obtain ⟨x1, hx1⟩ : ∃ x1, x1 = p.num * 4096 := ⟨_, rfl⟩
            rw [← hx1] at a1 HPUSH
            obtain ⟨r, hr0⟩ : ∃ r, r = rn0 p := ⟨_, rfl⟩
            rw [← hr0] at HPUSH
            have hrb : r.bytes.length ≤ 33554432 := by rw [hr0]; exact Nat.zero_le _
            have HRU1 : Hid (rnUp r p = rn1 p) := by show _ = _; rw [hr0]; rfl
            have HMAP : Hid (xs.map Prod.fst = runsM (M.take i)) := HN.out.2
            have HNL : Hid (n = xs.length) := HN.out.1
            obtain ⟨pq, hpq⟩ : ∃ pq, pq = p.prot := ⟨_, rfl⟩
            rw [← hpq] at p1 HPUSH
            have HK := HNL
            clear hpi hc kA kP hcase hx1 hpa hpc hpb hPB hpq hr0
            go_upto_region 6 with fail
            go_region_law (refine step_append_lies _ rfl (.tmp 53) (.tmp 69) 63 rfl w.heap.size 123 i123 (.agg #[.int .u64 0, .int .i64 0, .slice none 0 0]) 3 40 Try.underlying63 hi123 hz123 hs123 hy123 rfl (by decide) (.slice ad n cp) n (flatX xs) rfl (ro_keep HROW.out (HW.out _)) ⟨(wr.drewN qd).heap.size, 0, none⟩ 1 1 [.int .u64 (x1 : Int), .int .i64 pq, .slice none 0 0] rfl rfl (World.news_of_block (hp_new (wr.drewN qd) _ _ rfl)) (by simp [Value.oneCell']) (by decide) (by unfold maxLen; omega) (by omega) (by simp; omega) _ rfl ?_; intro gN cN w5 hown hgrow _ _; have HT5 := Lib.hid (HPUSH.out _ _ hown hgrow); clear hown hgrow)
            all_goals
              go_wp2_with fail
              go_meet
              exact ⟨gN, n, cN, xs, r, .slice none 0 0, rfl, hnl, hrb, HK.out, by show _ = _; rw [HMAP.out, HRUN.out, HRU1.out], HT5.out⟩
          | false =>
            obtain ⟨l, r, e1, e2, hrb⟩ := cnd_false HOK.out HPI.out HC.out.symm
            have hmap := HN.out.2
            rw [e1] at hmap
            obtain ⟨xs', ys, hxs, hx1, hx2⟩ := List.map_eq_append_iff.1 hmap
            obtain ⟨⟨r', u⟩, hys, hr'⟩ := List.map_eq_singleton_iff.1 hx2
            simp only at hr'
            subst hr'
            subst hys
            subst hxs
            obtain ⟨k, hk⟩ : ∃ k, k = xs'.length := ⟨_, rfl⟩
            have hnk : n = k + 1 := by rw [HN.out.1, hk]; simp
            subst hnk
            have hrow := HD2.out.pcs.row
            rw [← HN.out.1] at hrow
            obtain ⟨g, cap, hgg, _, _, _, _⟩ := ro_form hrow (by omega)
            cases hgg
            have HK := Lib.hid hk
            have HT : Hid (DmpT w (.slice (some ⟨g, 0, none⟩) (k + 1) cp) xs' (r', u) (wr.drewN qd)) := HD2.out.open
            have HMAP : Hid (xs'.map Prod.fst = l) := hx1
            have HRUN : Hid (runsM (M.take (i + 1)) = l ++ [rnUp r' p]) := e2
            have hkl : k ≤ 8192 := by
              have h2 := congrArg List.length hmap
              rw [List.length_map, List.length_append, List.length_append, List.length_singleton, ← hk] at h2
              have := (runs_to HOK.out i hi).2.2.1
              rw [e1, List.length_append, List.length_singleton] at this
              simp only [List.length_singleton] at h2
              omega
            clear hpi hc kA kP hcase hpa hpc hpb hPB e1 e2 hmap hx1 hx2 hk hrow
            go_wp2_with fail
            go_meet
            exact ⟨g, k, cp, xs', r', u, rfl, hkl, hrb, HK.out, by show _ = _; rw [HMAP.out, HRUN.out], HT.out⟩
        case rest =>
          obtain ⟨g, k, cap, xs', r, u, rfl, hkl, hrb, HK, HRUN, HT⟩ := hcut
          clear hpi hc kA kP hcase hpa hpc hpb hPB
          have u1 : wc.cell? ⟨g, k * 3 + 2, none⟩ = some u := by
            have hl : (xs' ++ [(r, u)]).length = k + 1 := by simp [HK.out]
            have := HT.out.pcs.row
            rw [hl] at this
            rw [this.cellAt (k * 3 + 2) (by omega)]
            exact (flatX_get (xs' ++ [(r, u)]) (k := k) (x := (r, u)) (by rw [HK.out]; simp)).2.2
          have u2 : wc.cell? ⟨b, 1, none⟩ = some (.slice (some ⟨gb, 0, none⟩) M.length cB) := cell_keep KB1.out HT.out.below
          have u3 : wc.cell? ⟨gb, i, none⟩ = some (.slice (some ⟨pa, 0, none⟩) 4096 pc) := cell_keep KBI.out HT.out.below
          have HNW := Lib.hid (HNEWS.out wc HT.out.below)
          have HRU : Hid (wc.ownsRow w.heap.size 5 1 u r.bytes.length (bvs r.bytes)) := HT.out.pcs.each (r, u) (by simp)
          have HGR : Hid (∀ g' c' w5, w5.ownsRow w.heap.size 5 1 (.slice (some ⟨g', 0, none⟩) (r.bytes.length + 4096) c') (r.bytes.length + 4096) (bvs r.bytes ++ PB) → wc.drew.grownBy w5 u.ownBlock → (u.ownBlock = some g' ∨ g' = wc.heap.size) → (w5.cell? ⟨g, k * 3 + 2, none⟩ = some u ∧ w5.frozen? ⟨g, k * 3 + 2, none⟩ = false) ∧ DmpH w (.slice (some ⟨g, 0, none⟩) (k + 1) cap) (xs' ++ [(rnUp r p, .slice (some ⟨g', 0, none⟩) (r.bytes.length + 4096) c')]) (w5.setCell ⟨g, k * 3 + 2, none⟩ (.slice (some ⟨g', 0, none⟩) (r.bytes.length + 4096) c'))) := fun g' c' w5 h1 h2 h3 => HT.out.grow (p := p) HK.out (Below.refl _ wc).drew (by rw [← HPB.out]; exact h1) h2 h3 HPL.out
          have hwz2 := HT.out.below.size
          have y1 : (k : Int) < (k : Int) + 1 := by omega
          have y2 : IntKind.i64.wrap (k : Int) = (k : Int) := by rw [IntKind.wrap_i64]; omega
          go_upto_region 7 with fail
          go_region_law (refine step_append_lies _ rfl (.tmp 81) (.tmp 88) 57 rfl w.heap.size 5 i5 (.int .u8 0) 1 1 Try.underlying57 hi5 hz5 hs5 hy5 rfl (by decide) u r.bytes.length (bvs r.bytes) rfl HRU.out.drew ⟨pa, 0, none⟩ 4096 pc PB rfl HLEN.out (fun jj uu hu => HNW.out jj uu hu) HONE.out (by decide) (by unfold maxLen; omega) (by omega) (by simp; omega) _ rfl ?_; intro gN cN w6 hown hgrow hat _; obtain ⟨⟨q1, q2⟩, q3⟩ := HGR.out _ _ _ hown hgrow hat; have HQ := Lib.hid q3; clear hown hgrow hat q3)
          all_goals
            clear q1 q2 y1 y2
            go_wp2_with fail
            go_roundw
            case rel => exact ⟨i + 1, k + 1, _, cap, _, by omega, by go_num, rfl, ⟨by simp [HK.out], by rw [List.map_append]; exact HRUN.out⟩, HQ.out⟩
            case measure => simp [intOf]; omega
    · obtain rfl : i = M.length := by omega
      have h1 := HN.out
      rw [List.take_length] at h1
      have H1 := Lib.hid h1
      clear h1
      go_wp2_with fail
      go_ret
      exact ⟨_, xs, rfl, H1.out.2, HD.out.pcs, HD.out.below⟩
end Go.Proofs.Ytepnaalgobhcdaa
namespace Go.Proofs.Ytepnaalgobhcdaa
open Go.RowKit Spm

/-- A value that reads as bytes. -/
def BytesOf (W : World) (u : Value) (bs : List UInt8) : Prop := ∃ a c, u = .slice a bs.length c ∧ bs.length ≤ c ∧ c ≤ 9223372036854775807 ∧ (0 < bs.length → ∃ sb so, a = some ⟨sb, so, none⟩ ∧ BytesIn W sb so bs)
theorem BytesOf.keep {w w' : World} {u : Value} {bs : List UInt8} (h : BytesOf w u bs) (hb : Below w.heap.size w w') : BytesOf w' u bs := by
  obtain ⟨a, c, h1, h2, h3, h4⟩ := h
  exact ⟨a, c, h1, h2, h3, fun h0 => by
    obtain ⟨sb, so, e, hb2⟩ := h4 h0
    exact ⟨sb, so, e, hb2.keep (hb.block sb (block_lt_of_cell (hb2 0 h0)))⟩⟩
theorem bytesOf_row {w : World} {B n : Nat} {u : Value} {bs : List UInt8} (h : w.ownsRow B 5 1 u n (bvs bs)) (hn : n = bs.length) : BytesOf w u bs := by
  subst hn
  obtain ⟨a, c, rfl, h1, h2⟩ := ro_shape h
  refine ⟨a, c, rfl, h1, h2, fun h0 => ?_⟩
  obtain ⟨g, cap, e, _⟩ := ro_form h h0
  cases e
  refine ⟨g, 0, rfl, fun j hj => ?_⟩
  rw [Nat.zero_add, h.cellAt j (by omega)]
  unfold bvs
  rw [List.getElem?_map, List.getElem?_eq_getElem hj]
  simp [List.getD_eq_getElem?_getD, List.getElem?_eq_getElem hj]
theorem conv_bytes {w : World} {u : Value} {bs : List UInt8} (h : BytesOf w u bs) : (convert 57 9 u).run Try.prog w = .ok (.string ⟨bs.toArray⟩) w := by
  obtain ⟨a, c, rfl, _, _, h4⟩ := h
  cases a with
  | none =>
    have h0 : bs = [] := by
      rcases Nat.eq_zero_or_pos bs.length with h | h
      · exact List.eq_nil_of_length_eq_zero h
      · obtain ⟨_, _, e, _⟩ := h4 h; cases e
    subst h0
    show (convert 57 9 (.slice none 0 c)).run Try.prog w = _
    rw [run_convert_bytes_string w 57 9 5 none 0 c Try.underlying57 Try.underlying5 Try.underlying9]
    simp [Conv.bytesToString]
    rfl
  | some ad =>
    refine run_convert_bytes_back w 57 9 5 ad c bs Try.underlying57 Try.underlying5 Try.underlying9 fun j hj => ?_
    obtain ⟨sb, so, e, hb⟩ := h4 (by omega)
    cases e
    have e1 : (⟨sb, so, none⟩ : Addr).add j = ⟨sb, so + j, none⟩ := by unfold Addr.add; split <;> simp_all
    rw [e1, hb j hj]
    unfold byteVal
    simp [List.getD_eq_getElem?_getD, List.getElem?_eq_getElem hj]
/-- A piece that lies somewhere. -/
def PcAt (W : World) (r : Rn) (b off : Nat) : Prop := ∃ u, CellsAt W b off (pcArr r u) ∧ BytesOf W u r.bytes
def PcsR (W : World) (a : Option Addr) (l : List Rn) : Prop := SliceOf a l.length 3 fun j => PcAt W (l.getD j ⟨0, 0, 0, []⟩)
theorem PcAt.keep {w w' : World} {r : Rn} {b off : Nat} (h : PcAt w r b off) (hb : Below w.heap.size w w') : PcAt w' r b off := by
  obtain ⟨u, h1, h2⟩ := h
  exact ⟨u, h1.keep hb, h2.keep hb⟩
theorem PcsR.keep {w w' : World} {a : Option Addr} {l : List Rn} (h : PcsR w a l) (hb : Below w.heap.size w w') : PcsR w' a l := SliceOf.mono h fun _ _ _ _ h => h.keep hb
theorem Pcs.read {w : World} {B : Nat} {v : Value} {xs : List (Rn × Value)} (h : Pcs w B v xs) : ∃ a c, v = .slice a (xs.map Prod.fst).length c ∧ xs.length ≤ c ∧ c ≤ 9223372036854775807 ∧ PcsR w a (xs.map Prod.fst) := by
  obtain ⟨a, c, rfl, h1, h2⟩ := ro_shape h.row
  refine ⟨a, c, by rw [List.length_map], h1, h2, fun j hj => ?_⟩
  rw [List.length_map] at hj
  obtain ⟨g, cap, e, _⟩ := ro_form h.row (by omega)
  cases e
  have hx : xs[j]? = some xs[j] := List.getElem?_eq_getElem hj
  have hg := flatX_get xs hx
  have hl := flatX_length xs
  refine ⟨g, 0, rfl, xs[j].2, fun i v hv => ?_, ?_⟩
  · have e1 : (xs.map Prod.fst).getD j ⟨0, 0, 0, []⟩ = xs[j].1 := by rw [List.getD_eq_getElem?_getD, List.getElem?_map, hx]; rfl
    rw [e1] at hv
    unfold pcArr at hv
    rw [Nat.zero_add]
    match i, hv with
    | 0, hv => cases hv; rw [h.row.cellAt _ (by omega)]; exact hg.1
    | 1, hv => cases hv; rw [h.row.cellAt _ (by omega)]; exact hg.2.1
    | 2, hv => cases hv; rw [h.row.cellAt _ (by omega)]; exact hg.2.2
  · have e1 : (xs.map Prod.fst).getD j ⟨0, 0, 0, []⟩ = xs[j].1 := by rw [List.getD_eq_getElem?_getD, List.getElem?_map, hx]; rfl
    rw [e1]
    exact bytesOf_row (h.each xs[j] (List.getElem_mem hj)) rfl

def eqRn (a b : Rn) : Bool := a.first == b.first && a.prot == b.prot && a.bytes == b.bytes
def eqTo (l m : List Rn) (k : Nat) : Bool := (List.range k).all fun i => eqRn (l.getD i ⟨0, 0, 0, []⟩) (m.getD i ⟨0, 0, 0, []⟩)
def eqRns (l m : List Rn) : Bool := l.length == m.length && eqTo l m l.length
theorem eqTo_succ {l m : List Rn} {k : Nat} (h : eqTo l m k = true) (hk : eqRn (l.getD k ⟨0, 0, 0, []⟩) (m.getD k ⟨0, 0, 0, []⟩) = true) : eqTo l m (k + 1) = true := by
  unfold eqTo at *
  rw [List.range_succ, List.all_append, h]
  simpa using hk
theorem eqTo_no {l m : List Rn} {k n : Nat} (hk : k < n) (h : eqRn (l.getD k ⟨0, 0, 0, []⟩) (m.getD k ⟨0, 0, 0, []⟩) = false) : eqTo l m n = false := by
  unfold eqTo
  exact List.all_eq_false.2 ⟨k, List.mem_range.2 hk, by rw [h]; simp⟩
theorem eqRns_refl (l : List Rn) : eqRns l l = true := by
  unfold eqRns eqTo eqRn
  simp
def SameRes (w : World) (l m : List Rn) (e : Ending) (w' : World) : Prop := e = .returned (.bool (eqRns l m)) ∧ Below w.heap.size w w'
end Go.Proofs.Ytepnaalgobhcdaa
namespace Go.Proofs.Ytepnaalgobhcdaa
open Go.RowKit Spm

theorem below_drewN (w : World) (q : Nat) : Below w.heap.size w (w.drewN q) := ⟨rfl, rfl, rfl, Nat.le_refl _, fun _ _ => rfl⟩
set_option maxHeartbeats 8000000 in
set_option maxRecDepth 100000 in
theorem rsame_any (w : World) (a b : Option Addr) (ca cb : Nat) (l m : List Rn) (ha : PcsR w a l) (hb : PcsR w b m) (hl : l.length ≤ 9223372036854775807) (_hm : m.length ≤ 9223372036854775807) :
    Calls Try.prog 32 #[.slice a l.length ca, .slice b m.length cb] w (SameRes w l m) := by
  have HA := Lib.hid ha
  have HB := Lib.hid hb
  clear ha hb
  by_cases hlen : l.length = m.length
  · have hlb : ((l.length : Int) != (m.length : Int)) = false := by rw [bne_eq_false_iff_eq]; omega
    have HE : Hid (eqRns l m = eqTo l m l.length) := by show _ = _; unfold eqRns; simp [hlen]
    go_enter Try.func32, Try.ntmps32
    go_wp2_with fail
    go_loopw [5] (fun t wr => ∃ k : Nat, k ≤ l.length ∧ t = .int .i64 k ∧ Hid (eqTo l m k = true) ∧ ∃ q, wr = w.drewN q) (fun t _ => l.length - (intOf t).toNat)
    case atStart => exact ⟨0, Nat.zero_le _, rfl, rfl, 0, rfl⟩
    case round =>
      obtain ⟨k, hk, rfl, HQ, q, rfl⟩ := hrel
      by_cases hlt : k < l.length
      · obtain ⟨b1, o1, rfl, u, hcu, hbu⟩ := HA.out k hlt
        obtain ⟨b2, o2, hb2, v, hcv, hbv⟩ := HB.out k (by omega)
        subst hb2
        obtain ⟨x, hx⟩ : ∃ x, x = l.getD k ⟨0, 0, 0, []⟩ := ⟨_, rfl⟩
        obtain ⟨y, hy⟩ : ∃ y, y = m.getD k ⟨0, 0, 0, []⟩ := ⟨_, rfl⟩
        have hstep := @eqTo_succ l m k
        have hno := @eqTo_no l m k l.length hlt
        rw [← hx] at hcu hbu hstep hno
        rw [← hy] at hcv hbv hstep hno
        have a0 : w.cell? ⟨b1, o1 + k * 3, none⟩ = some (.int .u64 ((x.first * 4096 : Nat) : Int)) := hcu 0 _ rfl
        have a1 : w.cell? ⟨b1, o1 + k * 3 + 1, none⟩ = some (.int .i64 x.prot) := hcu 1 _ rfl
        have a2 : w.cell? ⟨b1, o1 + k * 3 + 2, none⟩ = some u := hcu 2 _ rfl
        have c0 : w.cell? ⟨b2, o2 + k * 3, none⟩ = some (.int .u64 ((y.first * 4096 : Nat) : Int)) := hcv 0 _ rfl
        have c1 : w.cell? ⟨b2, o2 + k * 3 + 1, none⟩ = some (.int .i64 y.prot) := hcv 1 _ rfl
        have c2 : w.cell? ⟨b2, o2 + k * 3 + 2, none⟩ = some v := hcv 2 _ rfl
        have v1 : ∀ q, (convert 57 9 u).run Try.prog (w.drewN q) = .ok (.string ⟨x.bytes.toArray⟩) (w.drewN q) := fun q => conv_bytes (w := w.drewN q) hbu
        have v2 : ∀ q, (convert 57 9 v).run Try.prog (w.drewN q) = .ok (.string ⟨y.bytes.toArray⟩) (w.drewN q) := fun q => conv_bytes (w := w.drewN q) hbv
        have z1 : (k : Int) < (l.length : Int) := by omega
        have z2 : (k : Int) < (m.length : Int) := by omega
        have HSTEP := Lib.hid hstep
        have HNO := Lib.hid hno
        obtain ⟨xa, hxa⟩ : ∃ xa : Nat, xa = x.first * 4096 := ⟨_, rfl⟩
        obtain ⟨ya, hya⟩ : ∃ ya : Nat, ya = y.first * 4096 := ⟨_, rfl⟩
        rw [← hxa] at a0
        rw [← hya] at c0
        by_cases h1 : x.first = y.first
        · have e1 : xa = ya := by rw [hxa, hya, h1]
          rw [e1] at a0
          by_cases h2 : x.prot = y.prot
          · rw [h2] at a1
            by_cases h3 : x.bytes = y.bytes
            · have HT : Hid (eqTo l m (k + 1) = true) := HSTEP.out HQ.out (by unfold eqRn; simp [h1, h2, h3])
              rw [h3] at v1
              generalize (⟨y.bytes.toArray⟩ : ByteArray) = sb at *
              generalize y.prot = yp at *
              clear hcu hcv hbu hbv hx hy hstep hno h1 h2 h3 e1 hlen hxa hya
              go_wp2_with fail
              go_quiet (fail)
              go_wp2_with fail
              all_goals exact ⟨⟨k + 1, by omega, by go_num, HT.out, q + nq, rfl⟩, by simp [intOf]; omega⟩
            · have hne : (⟨x.bytes.toArray⟩ : ByteArray) ≠ ⟨y.bytes.toArray⟩ := fun e => h3 (by
                have := congrArg (fun s : ByteArray => s.data.toList) e
                simpa using this)
              have HF : Hid (eqTo l m l.length = false) := HNO.out (by unfold eqRn; simp [h3])
              have bb : (!((⟨x.bytes.toArray⟩ : ByteArray).toList == (⟨y.bytes.toArray⟩ : ByteArray).toList)) = true := by
                rw [ByteArray.toList_mk, ByteArray.toList_mk]
                simpa using h3
              generalize (⟨x.bytes.toArray⟩ : ByteArray) = sa at *
              generalize (⟨y.bytes.toArray⟩ : ByteArray) = sb at *
              generalize y.prot = yp at *
              clear hcu hcv hbu hbv hx hy hstep hno h1 h2 h3 e1 hlen hne hxa hya
              go_wp2_with fail
              go_quiet (fail)
              go_wp2_with fail
              go_ret
              exact ⟨by rw [HE.out, HF.out]; rfl, ⟨rfl, rfl, rfl, Nat.le_refl _, fun _ _ => rfl⟩⟩
          · have HF : Hid (eqTo l m l.length = false) := HNO.out (by unfold eqRn; simp [h2])
            have bb : ((x.prot : Int) != y.prot) = true := by rw [bne_iff_ne]; exact h2
            generalize x.prot = xp at *
            generalize y.prot = yp at *
            clear hcu hcv hbu hbv hx hy hstep hno h1 h2 e1 hlen hxa hya
            go_wp2_with fail
            go_quiet (fail)
            go_wp2_with fail
            go_ret
            exact ⟨by rw [HE.out, HF.out]; rfl, ⟨rfl, rfl, rfl, Nat.le_refl _, fun _ _ => rfl⟩⟩
        · have HF : Hid (eqTo l m l.length = false) := HNO.out (by unfold eqRn; simp [h1])
          have bb : ((xa : Int) != (ya : Int)) = true := by rw [bne_iff_ne]; omega
          clear hcu hcv hbu hbv hx hy hstep hno h1 hlen hxa hya
          go_wp2_with fail
          go_quiet (fail)
          go_wp2_with fail
          go_ret
          exact ⟨by rw [HE.out, HF.out]; rfl, ⟨rfl, rfl, rfl, Nat.le_refl _, fun _ _ => rfl⟩⟩
      · obtain rfl : k = l.length := by omega
        go_wp2_with fail
        go_ret
        exact ⟨by rw [HE.out, HQ.out]; rfl, below_drewN w _⟩
  · have hlb : ((l.length : Int) != (m.length : Int)) = true := by rw [bne_iff_ne]; omega
    have HE : Hid (eqRns l m = false) := by show _ = _; unfold eqRns; simp [hlen]
    clear hlen
    go_enter Try.func32, Try.ntmps32
    go_wp2_with fail
    go_ret
    exact ⟨by rw [HE.out]; rfl, Below.refl _ _⟩
end Go.Proofs.Ytepnaalgobhcdaa
namespace Go.Proofs.Ytepnaalgobhcdaa
open Go.RowKit Spm

structure ActM where
  kind : Int
  at_ : Nat
  size : Nat
  prot : Int
  b : List UInt8
def actArr (x : ActM) (u : Value) : Array Value := #[.int .i64 x.kind, .int .u64 (x.at_ : Int), .int .u64 (x.size : Int), .int .i64 x.prot, u]
/-- The bytes of a value that lay in w. -/
def ActCells (w : World) (x : ActM) (u : Value) : Prop := x.at_ < 18446744073709551616 ∧ x.size < 18446744073709551616 ∧ BytesOf w u x.b ∧ ∀ n c, u = .slice none n c → c = 0
def ActAt (w : World) (x : ActM) (b off : Nat) : Prop := ∃ u, CellsAt w b off (actArr x u) ∧ ActCells w x u
def Acts (w : World) (a : Option Addr) (c : Nat) (l : List ActM) : Prop := l.length ≤ c ∧ c ≤ 9223372036854775807 ∧ SliceOf a l.length 5 fun j => ActAt w (l.getD j ⟨0, 0, 0, 0, []⟩)
theorem ActAt.keep {w w' : World} {x : ActM} {b off : Nat} (h : ActAt w x b off) (hb : Below w.heap.size w w') : ActAt w' x b off := by
  obtain ⟨u, h1, h2, h3, h4, h5⟩ := h
  exact ⟨u, h1.keep hb, h2, h3, h4.keep hb, h5⟩
theorem Acts.keep {w w' : World} {a : Option Addr} {c : Nat} {l : List ActM} (h : Acts w a c l) (hb : Below w.heap.size w w') : Acts w' a c l := ⟨h.1, h.2.1, h.2.2.mono fun _ _ _ _ h => h.keep hb⟩
def fewB (l : List ActM) (k : Nat) : Prop := ∀ i, i < k → (l.getD i ⟨0, 0, 0, 0, []⟩).b.length ≤ 9000
def SomeBool (w : World) (l : List ActM) (most : Nat) (e : Ending) (w' : World) : Prop := (∃ b : Bool, e = .returned (.bool b) ∧ (b = true → l.length ≤ most ∧ fewB l l.length)) ∧ w = w'

theorem wrap_u64_in (x : Int) : Hid (0 ≤ IntKind.u64.wrap x ∧ IntKind.u64.wrap x < 18446744073709551616) := by
  show _ ∧ _
  rw [show IntKind.u64.wrap x = x % 18446744073709551616 from rfl]
  omega
set_option maxHeartbeats 8000000 in
set_option maxRecDepth 100000 in
theorem few07_any (w : World) (a : Option Addr) (c : Nat) (l : List ActM) (h : Acts w a c l) (most pages : Nat) (hm : most ≤ 1000) (_hp : pages ≤ 1000) :
    Calls Try.prog 27 #[.slice a l.length c, .int .i64 most, .int .u64 pages] w (SomeBool w l most) := by
  have HL := Lib.hid h
  have hlc := h.1
  have hcm := h.2.1
  clear h
  go_enter Try.func27, Try.ntmps27
  go_wp2_with fail
  go_loop [7, 8] (fun t7 t8 => ∃ (x : Int) (k : Nat), k ≤ l.length ∧ t8 = .int .i64 k ∧ t7 = .int .u64 x ∧ Hid (0 ≤ x ∧ x < 18446744073709551616) ∧ Hid (fewB l k)) (fun _ t8 => l.length - (intOf t8).toNat)
  case atStart => exact ⟨0, 0, Nat.zero_le _, rfl, rfl, ⟨by decide, by decide⟩, fun i hi => absurd hi (Nat.not_lt_zero _)⟩
  case round =>
    obtain ⟨x, k, hk, rfl, rfl, HX, HF⟩ := hrel
    obtain ⟨hx1, hx2⟩ := HX.out
    by_cases hlt : k < l.length
    · obtain ⟨b, o, rfl, u, hc, h1, h2, hu, hnil⟩ := HL.out.2.2 k hlt
      clear hnil
      obtain ⟨y, hy⟩ : ∃ y, y = l.getD k ⟨0, 0, 0, 0, []⟩ := ⟨_, rfl⟩
      rw [← hy] at hc h1 h2 hu
      obtain ⟨ub, uc, rfl, hu1, hu2, _⟩ := hu
      have a0 : w.cell? ⟨b, o + k * 5, none⟩ = some (.int .i64 y.kind) := hc 0 _ rfl
      have a2 : w.cell? ⟨b, o + k * 5 + 2, none⟩ = some (.int .u64 (y.size : Int)) := hc 2 _ rfl
      have a4 : w.cell? ⟨b, o + k * 5 + 4, none⟩ = some (.slice ub y.b.length uc) := hc 4 _ rfl
      have HN : Hid (y.b.length ≤ 9000 → Hid (fewB l (k + 1))) := fun hb i hi => by
        rcases Nat.lt_or_ge i k with h | h
        · exact HF.out i h
        · obtain rfl : i = k := by omega
          rw [← hy]; exact hb
      clear hc hy
      by_cases h9 : y.b.length ≤ 9000
      · have HF2 := HN.out h9
        have i9 : ¬ (9000 : Int) < (y.b.length : Int) := by omega
        go_wp2_with fail
        all_goals first
          | exact ⟨⟨x, k + 1, by omega, by go_num, rfl, HX.out, HF2.out⟩, by simp [intOf]; omega⟩
          | exact ⟨⟨_, k + 1, by omega, by go_num, rfl, wrap_u64_in _, HF2.out⟩, by simp [intOf]; omega⟩
          | (go_ret; exact ⟨⟨_, rfl, fun h => absurd h (by simp)⟩, rfl⟩)
          | (go_ret; exact ⟨⟨_, rfl, fun h => absurd h (by simp; omega)⟩, rfl⟩)
      · have i9 : (9000 : Int) < (y.b.length : Int) := by omega
        go_wp2_with fail
        all_goals first
          | (go_ret; exact ⟨⟨_, rfl, fun h => absurd h (by simp)⟩, rfl⟩)
          | (go_ret; exact ⟨⟨_, rfl, fun h => absurd h (by simp; omega)⟩, rfl⟩)
    · obtain rfl : k = l.length := by omega
      go_wp2_with fail
      all_goals first
        | (go_ret; exact ⟨⟨_, rfl, fun h => ⟨by simp at h; omega, HF.out⟩⟩, rfl⟩)
        | (go_ret; exact ⟨⟨_, rfl, fun h => absurd h (by simp)⟩, rfl⟩)
        | (go_ret; exact ⟨⟨_, rfl, fun h => absurd h (by simp; omega)⟩, rfl⟩)
        | (go_ret; exact ⟨⟨_, rfl, fun h => ⟨by omega, HF.out⟩⟩, rfl⟩)
end Go.Proofs.Ytepnaalgobhcdaa
