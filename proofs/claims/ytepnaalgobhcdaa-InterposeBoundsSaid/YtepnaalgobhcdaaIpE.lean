/- interpose.Pairs: the walk. -/
import Derived.Test.YtepnaalgobhcdaaIpD
import Derived.Sort.CutIn
import Derived.Deep.AppendLies
namespace Go.Proofs.Ytepnaalgobhcdaa
open Go.RowKit Go.Shelf Spm
attribute [local go_sem] Oper.semAt_some

theorem size88 : (Try.prog.info? 88).map (·.size) = some 2 := by kernel_rfl
theorem info88 : (Try.prog.info? 88).map (fun i => (i.zero, i.size, i.bytes)) = some (some (.agg #[.int .u64 0, .int .u64 0]), 2, 16) := by kernel_rfl
theorem size36 : (Try.prog.info? 36).map (·.size) = some 24 := by kernel_rfl
theorem results_cell2 {fn : Func} {p q : Tmp} {tp tq : TypeId} (h : fn.results = #[.cell p tp, .cell q tq]) (tmps : Array Value) (P : Program) (w : World) (a b : Addr) (u v : Value) (ht : tmps.getD p undef = .pointer (some a)) (hs : tmps.getD q undef = .pointer (some b))
    (hl : (loadVar tp a).run P w = .ok u w) (hm : (loadVar tq b).run P w = .ok v w) : (results fn tmps).run P w = .ok (.tuple #[u, v]) w := by
  have ha : (asAddr (tmps[p]?.getD undef)).run P w = .ok a w := by
    rw [← Array.getD_eq_getD_getElem?, ht]; rfl
  have hb : (asAddr (tmps[q]?.getD undef)).run P w = .ok b w := by
    rw [← Array.getD_eq_getD_getElem?, hs]; rfl
  simp only [results, h]
  simp [Sem.run_bind, Result.andThen, ha, hb, hl, hm]
theorem loadVar_one {ty : TypeId} (hagg : ∀ w : World, (isAgg ty).run Try.prog w = .ok false w) {w : World} {b : Nat} {v : Value} (hc : w.cell? ⟨b, 0, none⟩ = some v) : (loadVar ty ⟨b, 0, none⟩).run Try.prog w = .ok v w := by
  simp [loadVar, Sem.run_bind, hagg w, go_sem, hc]
theorem agg82 (w : World) : (isAgg 82).run Try.prog w = .ok false w := by kernel_rfl
theorem agg45 (w : World) : (isAgg 45).run Try.prog w = .ok false w := by kernel_rfl

theorem below_between {B : Nat} {w W W' : World} (h : Below B w W) (h' : Below B w W') (hs : W.heap.size ≤ W'.heap.size) : Below B W W' :=
  ⟨h'.os.trans h.os.symm, h'.tape.trans h.tape.symm, h'.output.trans h.output.symm, hs, fun k hk => (h'.block k hk).trans (h.block k hk).symm⟩
theorem u64add (x y : Nat) : IntKind.u64.wrap ((x : Int) + (y : Int)) = (((x + y) % 18446744073709551616 : Nat) : Int) := by
  rw [show IntKind.u64.wrap ((x : Int) + (y : Int)) = (((x : Int) + (y : Int)) % 18446744073709551616) from rfl]; omega
theorem secRun_next {M : List Pg} {addr slide j a : Nat} (h : (secRun M addr slide j).1 = 0) (ha : a = secAddr addr slide (16 * j)) :
    secRun M addr slide (j + 1) = if readErr M a 16 ≠ 0 then (readErr M a 16, (secRun M addr slide j).2) else if (pairAt M a).1 ≠ 0 ∧ (pairAt M a).2 ≠ 0 then (0, (secRun M addr slide j).2 ++ [pairAt M a]) else (0, (secRun M addr slide j).2) := by
  subst ha
  conv => lhs; unfold secRun
  rw [if_neg (by rw [h]; simp)]
theorem PB.early {w W : World} {sp : Addr} {cs : Array Value} {many : Nat} {out : List (Nat × Nat)} (h : PB w sp cs many out W) (er : Int) (h0 : er ≠ 0) : PX w er ((W.setCell ⟨w.heap.size + 2, 0, none⟩ (.slice none 0 0)).setCell ⟨w.heap.size + 3, 0, none⟩ (.int .i64 er)) := by
  obtain ⟨v, h1, _⟩ := h.out
  have h2 := one_setCell (u := .slice none 0 0) h1
  have h3 : (W.setCell ⟨w.heap.size + 2, 0, none⟩ (.slice none 0 0)).heap[w.heap.size + 3]? = some (.cells #[.int .i64 0] 45 (0, 0)) := (heap_setCell_other _ _ _ _ (by simp)).trans h.e
  exact ⟨(h.below.setCell (by simp) _).setCell (by simp) _, (heap_setCell_other _ _ _ _ (by simp)).trans h2, one_setCell h3, h0⟩
theorem PB.xcell {w W : World} {sp : Addr} {cs : Array Value} {many : Nat} {out : List (Nat × Nat)} (h : PB w sp cs many out W) {i : Nat} {v : Value} (hi : cs[i]? = some v) : W.cell? ⟨w.heap.size + 1, i, none⟩ = some v := by
  simp [World.cell?, h.x, hi]
theorem PB.outcell {w W : World} {sp : Addr} {cs : Array Value} {many : Nat} {out : List (Nat × Nat)} (h : PB w sp cs many out W) : ∃ v, W.heap[w.heap.size + 2]? = some (.cells #[v] 82 (0, 0)) ∧ W.cell? ⟨w.heap.size + 2, 0, none⟩ = some v ∧ W.frozen? ⟨w.heap.size + 2, 0, none⟩ = false ∧ W.ownsRow w.heap.size 88 2 v out.length (flat out) := by
  obtain ⟨v, h1, h2⟩ := h.out
  exact ⟨v, h1, cell_of_one h1, free_of_one h1, h2⟩
theorem heap_own {X Y : World} {row : Option Nat} {B : Nat} (hg : X.grownBy Y row) (hr : ∀ r, row = some r → B ≤ r ∧ ∃ o : Obj, X.heap[r]? = some o ∧ o.isCells = false) {k : Nat} {cur : Array Value} {t : TypeId} {fr : Nat × Nat} (hk : X.heap[k]? = some (.cells cur t fr)) : Y.heap[k]? = some (.cells cur t fr) := by
  refine (hg.block k (lt_of_block hk) (fun e => ?_)).trans hk
  obtain ⟨_, o, ho, hc⟩ := hr k e.symm
  rw [hk] at ho; cases ho; cases hc
theorem below_own {w X Y : World} {row : Option Nat} {B : Nat} (hB : w.heap.size ≤ B) (h : Below w.heap.size w X) (hg : X.grownBy Y row) (hr : ∀ r, row = some r → B ≤ r ∧ ∃ o : Obj, X.heap[r]? = some o ∧ o.isCells = false) : Below w.heap.size w Y :=
  ⟨hg.os.trans h.os, hg.tape.trans h.tape, hg.output.trans h.output, Nat.le_trans h.size hg.size, fun k hk => by
    rw [hg.block k (Nat.lt_of_lt_of_le hk h.size) (fun e => by have := (hr k e.symm).1; omega)]
    exact h.block k hk⟩
theorem PX.own (w : World) (B : Nat) (hB : w.heap.size ≤ B) (f : List SecC → Int) : OwnFrom B (fun s W => PX w (f s) W) := fun _s _X _Y _row hs hg hr =>
  ⟨below_own hB hs.1 hg hr, heap_own hg hr hs.2.1, heap_own hg hr hs.2.2.1, hs.2.2.2⟩

theorem below_put {B : Nat} {w W : World} (h : Below B w W) {D : Nat} {o o' : Obj} (_hD : W.heap[D]? = some o) (hB : B ≤ D) : Below B w (W.putObj D o') :=
  ⟨h.os, h.tape, h.output, by simpa using h.size, fun k hk => (World.putObj_heap_other (by omega)).trans (h.block k hk)⟩
theorem owns2_put {W : World} {B : Nat} {e : TypeId} {size : Nat} {v : Value} {n : Nat} {xs : List Value} (h : W.ownsRow B e size v n xs) {D : Nat} {o o' : Obj} (hD : W.heap[D]? = some o) (ho : o.isCells = false) : (W.putObj D o').ownsRow B e size v n xs :=
  owns2_same h fun g hg => World.putObj_heap_other (fun e' => by
    rcases h.2 with ⟨rfl, _⟩ | ⟨g', cap, cur, rfl, _, hgg, _⟩
    · simp [Value.ownBlock] at hg
    · obtain rfl : g' = g := by simpa [Value.ownBlock] using hg
      rw [e', hD] at hgg; cases hgg; cases ho)
theorem pairs_end {n : Nat} {R : Ending → World → Prop} {tmps : Array Value} {W : World} {H D : Nat} {v : Value} {er : Int} (h4 : tmps.getD 4 undef = .pointer (some ⟨H + 2, 0, none⟩)) (h5 : tmps.getD 5 undef = .pointer (some ⟨H + 3, 0, none⟩))
    (c4 : W.heap[H + 2]? = some (.cells #[v] 82 (0, 0))) (c5 : W.heap[H + 3]? = some (.cells #[.int .i64 er] 45 (0, 0))) (hK : W.heap[D]? = some (.deferred (some []))) (hd4 : H + 2 ≠ D) (hd5 : H + 3 ≠ D)
    (hR : R (.returned (.tuple #[v, .int .i64 er])) (W.putObj D (.deferred none))) : bodyPostM Fence.wide n Try.prog Try.f46 R Exit.ret { tmps := tmps, defers := [{ target := .collected D, args := #[] }] } W := by
  refine ⟨by simp, .inl ⟨_, _, rfl, run_takeDeferred hK, ?_⟩⟩
  refine ⟨_, results_cell2 rfl _ _ _ ⟨H + 2, 0, none⟩ ⟨H + 3, 0, none⟩ v (.int .i64 er) h4 h5 (loadVar_one agg82 ?_) (loadVar_one agg45 ?_), hR⟩
  · unfold World.cell?
    simp only [World.putObj_heap_other (o := .deferred none) hd4, c4]; rfl
  · unfold World.cell?
    simp only [World.putObj_heap_other (o := .deferred none) hd5, c5]; rfl

set_option maxHeartbeats 4000000 in
set_option maxRecDepth 100000 in
theorem pairs_any (w : World) (b : Nat) (M : List Pg) (F : Nat → Prop) (h : SpIn w b M F) (cs : Array Value) (x : ImgM) (hsz : cs.size = 27) (h25 : cs[25]? = some (.int .u64 x.slide)) (L : List (List SecC)) (aS : Option Addr) (cS : Nat) (hL : SegsC w aS L) (h5 : cs[5]? = some (.slice aS L.length cS)) (hcap : L.length ≤ cS ∧ cS ≤ maxLen) :
    Calls Try.prog 46 #[.pointer (some ⟨b, 0, none⟩), .agg cs] w (PairsRes w (pst M x.slide (want L.flatten)).err (pst M x.slide (want L.flatten)).out) := by
  obtain ⟨img, himg⟩ : ∃ img : Array Value, img = cs.extract 1 25 := ⟨_, rfl⟩
  have hisz : img.size = 24 := by rw [himg]; simp [hsz]
  have hi4 : img[4]? = some (.slice aS L.length cS) := by rw [himg, Array.getElem?_extract]; simp [hsz]; simpa [hsz] using h5
  have HIC : Hid (∀ (W : World) (g : Nat), W.heap[g]? = some (.cells cs 38 (0, 0)) → CellsAt W g 1 img) := fun W g hg j v hj => by
    rw [himg, Array.getElem?_extract] at hj
    simp only [World.cell?, hg]
    split at hj
    · exact hj
    · cases hj
  have HSEC : Hid (∀ W, Calls Try.prog 80 #[.agg img] W fun e w' => e = .returned (.func (.func 91) #[] #[.pointer (some ⟨W.heap.size, 0, none⟩)]) ∧ w' = W.alloc (.cells img 36)) := fun W => sections_any W img
  have HSP := Lib.hid h
  have HI4 := Lib.hid hi4
  have HISZ := Lib.hid hisz
  have H25 := Lib.hid h25
  have HLL := Lib.hid hL
  have HCAP := Lib.hid hcap
  clear h hi4 hisz h25 hL hcap h5 himg hsz
  refine (callsIn_wide (n := 6)).1 ?_
  refine callsIn_of_wp_marks Try.func46 rfl trivial ?_ rfl
  simp only [Try.ntmps46, List.size_toArray, List.length_cons, List.length_nil, Nat.reduceAdd, Nat.reduceSub, Array.replicate_succ, Array.replicate_zero, List.push_toArray, List.append_toArray, List.nil_append, List.cons_append]
  obtain ⟨W5, hW5⟩ : ∃ W5, W5 = ((((w.alloc (.cells #[.pointer (some ⟨b, 0, none⟩)] 43)).alloc (.cells cs 38)).alloc (.cells #[.slice none 0 0] 82)).alloc (.cells #[.int .i64 0] 45)).alloc (.cells #[.int .u64 0] 32) := ⟨_, rfl⟩
  have hP5 : PB w ⟨b, 0, none⟩ cs 0 [] W5 := by
    rw [hW5]
    refine ⟨((((Below.refl _ w).alloc (by simp) _).alloc (by simp) _ |>.alloc (by simp <;> omega) _).alloc (by simp <;> omega) _).alloc (by simp <;> omega) _, ?_, ?_, ⟨.slice none 0 0, ?_, World.ownsRow_nil _ _ _ _⟩, ?_, ?_⟩
    · rw [hp_old _ _ _ (by simp <;> omega), hp_old _ _ _ (by simp <;> omega), hp_old _ _ _ (by simp <;> omega), hp_old _ _ _ (by simp), hp_new _ _ _ rfl]
    · rw [hp_old _ _ _ (by simp <;> omega), hp_old _ _ _ (by simp <;> omega), hp_old _ _ _ (by simp), hp_new _ _ _ (by simp)]
    · rw [hp_old _ _ _ (by simp <;> omega), hp_old _ _ _ (by simp), hp_new _ _ _ (by simp)]
    · rw [hp_old _ _ _ (by simp), hp_new _ _ _ (by simp)]
    · rw [hp_new _ _ _ (by simp)]; rfl
  have hz5 : W5.heap.size = w.heap.size + 5 := by rw [hW5]; simp
  have HP5 := Lib.hid hP5
  have HX5 : Hid (CellsAt W5 (w.heap.size + 1) 1 img) := HIC.out _ _ hP5.x
  have HW5 := Lib.hid hW5
  have HZ5 := Lib.hid hz5
  rw [hW5] at HX5
  clear hP5 hW5 hz5
  gi_wp2_with (first
    | (refine wpListIn_load_agg rfl 36 (.tmp 14) rfl (w.heap.size + 1) 1 (by simp [Act.eval]) img _ HX5.out Try.underlying36 rfl (by rw [HISZ.out]; exact size36) ?_)
    | (refine ⟨trivial, ?_⟩; gi_at_call 80; refine (callsIn_wide.2 (HSEC.out _)).mono ?_; rintro e w1 ⟨rfl, rfl⟩))
  rw [← HW5.out]
  have hP6 := HP5.out.keepB ((Below.refl _ W5).alloc (Nat.le_refl _) (.cells img 36))
  have hbx : (W5.alloc (.cells img 36)).heap[w.heap.size + 5]? = some (.cells img 36 (0, 0)) := hp_new _ _ _ HZ5.out.symm
  have hz6 : (W5.alloc (.cells img 36)).heap.size = w.heap.size + 6 := by simp [HZ5.out]
  simp only [Nat.reduceAdd, Nat.add_assoc]
  generalize W5.alloc (.cells img 36) = W6 at *
  generalize hA : Act.mk _ _ = a0
  refine wpIn_rangeFunc_ownH (α := SecC) rfl (by decide) (gf := 91) (lb := #[.pointer (some ⟨w.heap.size + 5, 0, none⟩)]) (by rw [← hA]; rfl) trivial (enters_of Try.func91 (by kernel_rfl) rfl)
    (sections_stops Fence.wide 5 trivial rfl (by decide) (w.heap.size + 5) w img aS cS L HLL.out HI4.out HCAP.out W6 hP6.below hbx) belowK_t (belowK_b (by omega)) (Below.refl _ _) (fun _ => rfl)
    (fun pre W => PB w ⟨b, 0, none⟩ cs (pst M x.slide pre).many (pst M x.slide pre).out W ∧ (pst M x.slide pre).err = 0)
    (fun c pre W => (c = .ret ∧ (pst M x.slide pre).err ≠ 0) ∧ PX w (pst M x.slide pre).err W)
    (OwnFrom.and (PB.own w _ cs _ (by omega) _ _) (ownFrom_pure _ _))
    (fun c => OwnFrom.and (ownFrom_pure _ _) (PX.own w _ (by omega) _))
    ⟨hP6, rfl⟩
    (fun c a' W => ∃ Bx, W.heap[Bx]? = some (.cells c.cells 164 (0, 0)) ∧ a' = { tmps := (a0.tmps.setIfInBounds 17 (.agg c.cells)).setIfInBounds 7 (.pointer (some ⟨Bx, 0, none⟩)), defers := [] })
    (fun c a' _ X Y row hs hg hr => by
      obtain ⟨Bx, k2, k3⟩ := hs
      exact ⟨Bx, heap_own hg hr k2, k3⟩)
    ?assign ?body ?done ?stop
  case assign =>
    rintro l pre c W K ⟨hPB, herr⟩ hK
    have hwz := hPB.below.size
    have HPB := Lib.hid hPB
    have HE := Lib.hid herr
    have HK := Lib.hid hK
    have hnew := Lib.hid (hp_new W (.cells c.cells 164) _ rfl)
    unfold SecC.cells at hnew
    clear hPB herr hK hbx hP6
    rw [← hA]
    unfold SecC.cells
    gi_wp2_with fail
    refine HK.out _ _ ((KeepsOthers.alloc _ _).from _) ((Below.refl _ W).alloc hwz _) ⟨HPB.out.keepB ((Below.refl _ W).alloc (Nat.le_refl _) _), HE.out⟩ ⟨W.heap.size, hnew.out, ?_⟩
    rw [← hA]; rfl
  case body =>
    rintro l pre c a' W hl ⟨rr, hrr⟩ ⟨hPB, herr⟩ ⟨Bx, hcB, rfl⟩ hlt
    have hwz := hPB.below.size
    have hmb := pFold_bound M x.slide (pre.map ps)
    have hnx := pst_snoc M x.slide pre c
    unfold pStep at hnx
    have herr2 : (pst M x.slide pre).err = 0 := herr
    rw [if_neg (by rw [herr2]; simp)] at hnx
    change (pst M x.slide pre).out.length ≤ (pst M x.slide pre).many ∧ (pst M x.slide pre).many ≤ 20000 at hmb
    have hco : ∀ W' : World, W'.heap[Bx]? = some (.cells c.cells 164 (0, 0)) → W'.cell? ⟨Bx, 2, none⟩ = some (.int .u64 (c.x.addr : Int)) ∧ W'.cell? ⟨Bx, 3, none⟩ = some (.int .u64 (c.x.size : Int)) := fun W' h => by
      unfold SecC.cells at h; simp [World.cell?, h]
    have HCO := Lib.hid hco
    obtain ⟨ca2, ca3⟩ := hco W hcB
    have hxl := c.ha
    have hsl := c.hs
    obtain ⟨st, hst⟩ : ∃ st, st = pst M x.slide pre := ⟨_, rfl⟩
    rw [← hst] at hnx hPB hmb
    obtain ⟨m, out, er0⟩ := st
    simp only at hnx hPB hmb
    obtain ⟨cs0, cm, fm, ce, fe, fo⟩ := hPB.cells
    obtain ⟨v, ov, co, _, orow⟩ := hPB.outcell
    have cx := hPB.xcell H25.out
    have HPB := Lib.hid hPB
    have HBW := Lib.hid hPB.below
    have HNX := Lib.hid hnx
    have HCB := Lib.hid hcB
    have HOV := Lib.hid ov
    have HOR := Lib.hid orow
    obtain ⟨hml, hm2⟩ := hmb
    generalize c.x.size = sz at *
    generalize c.x.addr = ad at *
    clear hP6 hbx hPB hnx hcB hco herr herr2 hst orow ov hlt
    rw [← hA]
    simp only [List.setIfInBounds_toArray, List.set_cons_zero, List.set_cons_succ]
    by_cases c1 : sz % 16 = 0
    · have b1 : ((sz : Int) % 16 != 0) = false := by rw [bne_eq_false_iff_eq]; omega
      have hcast : ((m : Int) + (sz : Int) / 16) = ((m + sz / 16 : Nat) : Int) := by omega
      have HCAST := Lib.hid hcast
      clear hcast
      by_cases c2 : 20000 < sz / 16
      · have hnn := HNX.out
        rw [if_neg (by omega), if_pos (by omega)] at hnn
        have HN2 := Lib.hid hnn
        have b2 : (20000 : Int) < (sz : Int) / 16 := by omega
        clear hnn c1 c2
        gi_wp2_with fail
        have hcast := HCAST.out
        refine ⟨((KeepsOthers.setCell _ _ _).trans ((KeepsOthers.setCell _ _ _).trans (KeepsOthers.setCell _ _ _))).from _, ⟨rfl, by rw [HN2.out]; simp⟩, ?_⟩
        rw [HN2.out, hcast]
        exact (HPB.out.setMany (m + sz / 16)).early 11 (by decide)
      · by_cases c3 : 20000 < m + sz / 16
        · have hnn := HNX.out
          rw [if_neg (by omega), if_pos c3] at hnn
          have HN2 := Lib.hid hnn
          have b2 : ¬ (20000 : Int) < (sz : Int) / 16 := by omega
          have b3 : (20000 : Int) < (m : Int) + (sz : Int) / 16 := by omega
          clear hnn c1 c2 c3
          gi_wp2_with fail
          have hcast := HCAST.out
          refine ⟨((KeepsOthers.setCell _ _ _).trans ((KeepsOthers.setCell _ _ _).trans (KeepsOthers.setCell _ _ _))).from _, ⟨rfl, by rw [HN2.out]; simp⟩, ?_⟩
          rw [HN2.out, hcast]
          exact (HPB.out.setMany (m + sz / 16)).early 11 (by decide)
        · have hnn := HNX.out
          rw [if_neg (by omega), if_neg c3] at hnn
          have HN2 := Lib.hid hnn
          have b2 : ¬ (20000 : Int) < (sz : Int) / 16 := by omega
          have b3 : ¬ (20000 : Int) < (m : Int) + (sz : Int) / 16 := by omega
          obtain ⟨q, hq⟩ : ∃ q, q = sz / 16 := ⟨_, rfl⟩
          have hq16 : sz = 16 * q := by omega
          have HPM : Hid (PB w ⟨b, 0, none⟩ cs (m + q) out (W.setCell ⟨w.heap.size + 4, 0, none⟩ (.int .u64 ((m : Int) + (sz : Int) / 16)))) := by
            rw [HCAST.out, ← hq]; exact HPB.out.setMany _
          have HCB2 : Hid ((W.setCell ⟨w.heap.size + 4, 0, none⟩ (.int .u64 ((m : Int) + (sz : Int) / 16))).heap[Bx]? = some (.cells c.cells 164 (0, 0))) := (heap_setCell_other _ _ _ _ (fun e => by
            have e' : Bx = w.heap.size + 4 := e
            have h1 := HPB.out.m
            rw [← e', HCB.out] at h1
            have := Option.some.inj h1
            injection this with _ h3 _
            revert h3; decide)).trans HCB.out
          rw [← hq] at HN2
          have HQ := Lib.hid hq
          have HQ16 := Lib.hid hq16
          have hqb : q ≤ 20000 := by omega
          have hmq : m + q ≤ 20000 := by omega
          clear hnn c1 c2 c3 hq hq16 HPB HCB
          gi_wp2_with fail
          gi_loopw [8] (fun t wr => ∃ j : Nat, j ≤ q ∧ t = .int .u64 (16 * (j : Int)) ∧ Hid ((secRun M ad x.slide j).1 = 0) ∧ Hid (PB w ⟨b, 0, none⟩ cs (m + q) (out ++ (secRun M ad x.slide j).2) wr) ∧ Hid (wr.heap[Bx]? = some (.cells c.cells 164 (0, 0))) ∧ Hid (KeepsOthers W wr)) (fun t _ => 16 * q - (intOf t).toNat)
          case atStart => exact ⟨0, Nat.zero_le _, rfl, rfl, by show PB _ _ _ _ _ _; simp only [secRun, List.append_nil]; exact HPM.out, HCB2.out, KeepsOthers.setCell _ _ _⟩
          case round =>
            obtain ⟨j, hj, rfl, HR0, HPJ, HCJ, HKO⟩ := hrel
            obtain ⟨ca2, ca3⟩ := HCO.out wr HCJ.out
            by_cases hjq : j < q
            · have HPC := HPJ.out.cells
              obtain ⟨cs0, cm, fm, ce, fe, fo⟩ := HPC
              obtain ⟨v, ov, co, _, orow⟩ := HPJ.out.outcell
              have cx := HPJ.out.xcell H25.out
              have HOV := Lib.hid ov
              have HOR := Lib.hid orow
              obtain ⟨a1, ha1⟩ : ∃ a1, a1 = (ad + x.slide) % 18446744073709551616 := ⟨_, rfl⟩
              obtain ⟨a, ha⟩ : ∃ a, a = secAddr ad x.slide (16 * j) := ⟨_, rfl⟩
              have hab : a < 18446744073709551616 := by rw [ha]; unfold secAddr; exact Nat.mod_lt _ (by decide)
              have hw1 : IntKind.u64.wrap ((ad : Int) + (x.slide : Int)) = (a1 : Int) := by rw [u64add, ha1]
              have hw2 : IntKind.u64.wrap ((a1 : Int) + 16 * (j : Int)) = (a : Int) := by
                rw [show 16 * (j : Int) = ((16 * j : Nat) : Int) by omega, u64add, ha, ha1]; rfl
              have HNEXT := Lib.hid (secRun_next HR0.out ha)
              have hread := read_any wr b M F (HSP.out.keepB HPJ.out.below) a 16 hab
              have HRD := Lib.hid hread
              have i1 : 16 * (j : Int) < (sz : Int) := by have := HQ16.out; omega
              have hra := HPJ.out.below.size
              have HSPW := Lib.hid hw1
              have HSPW2 := Lib.hid hw2
              clear ha1 ha hread ov orow
              by_cases he : readErr M a 16 = 0
              · have hnx := HNEXT.out
                rw [if_neg (by simp [he])] at hnx
                have HNX2 := Lib.hid hnx
                obtain ⟨bs, hbs⟩ : ∃ bs, bs = readAll M a 16 := ⟨_, rfl⟩
                have hbl : bs.length = 16 := by rw [hbs]; exact readAll_length M a 16
                have HRD2 : Hid (Calls Try.prog 35 #[.pointer (some ⟨b, 0, none⟩), .int .u64 a, .int .u64 16] wr fun e w' => ∃ g cp, e = .returned (.tuple #[.slice (some ⟨g, 0, none⟩) 16 cp, .int .i64 0]) ∧ Below wr.heap.size wr w' ∧ 16 ≤ cp ∧ cp ≤ 9223372036854775807 ∧ BytesIn w' g 0 bs ∧ g < w'.heap.size) := by
                  refine HRD.out.mono ?_
                  rintro e w' ⟨v', rfl, k1, k2, k3⟩
                  rw [he] at k3 ⊢
                  have k4 := k3 rfl
                  rw [← hbs] at k4
                  rcases k4.2 with ⟨_, h0⟩ | ⟨g, cp, cur, rfl, _, hg, h16, hmx, _, _⟩
                  · omega
                  · refine ⟨g, cp, rfl, k1, h16, by unfold maxLen at hmx; omega, fun jj hjj => ?_, lt_of_block hg⟩
                    obtain ⟨g', e', hcell⟩ := row_cell k4 (i := jj) (by omega)
                    cases e'
                    rw [Nat.zero_add]; exact hcell
                have HBL := Lib.hid hbl
                have HPA : Hid (pairAt M a = (wordOf (bs.take 8), wordOf (bs.drop 8))) := by show _ = _; rw [hbs]; rfl
                have HPJW : Hid (∀ wx, Below wr.heap.size wr wx → PB w ⟨b, 0, none⟩ cs (m + q) (out ++ (secRun M ad x.slide j).2) wx) := fun wx hx => HPJ.out.keepB hx
                have hol : (out ++ (secRun M ad x.slide j).2).length ≤ 20000 := by
                  have := secRun_len M ad x.slide j
                  rw [List.length_append]; omega
                clear HRD HNEXT he HSPW HSPW2 co cm fm hnx hbs hbl
                gi_wp2_with (refine ⟨trivial, ?_⟩; gi_at_call 35; refine (CallsIn.inRound l (callsIn_wide.2 HRD2.out)).mono ?_; rintro e w9 ⟨g, cp, rfl, h9, h16, hcpm, hby, hgl⟩; have H9 := Lib.hid h9; have HBY := Lib.hid hby; clear cs0 cx ce fe fo h9 hby)
                have HWA : Hid (∀ W' : World, Below w9.heap.size w9 W' → Calls Try.prog 81 #[.slice (some ⟨g, 0, none⟩) 8 8] W' fun e w' => e = .returned (.int .u64 (wordOf (bs.take 8))) ∧ W' = w') := fun W' hW' => by
                  have h8 : (bs.take 8).length = 8 := by rw [List.length_take, HBL.out]; rfl
                  have := word81_any W' g 0 8 (bs.take 8) (fun jj hjj => by
                    rw [hW'.cell (p := ⟨g, 0 + jj, none⟩) hgl, HBY.out jj (by rw [HBL.out]; omega)]
                    rw [h8] at hjj
                    simp [List.getD_eq_getElem?_getD, hjj]) (by omega)
                  rwa [h8] at this
                have HWB : Hid (∀ W' : World, Below w9.heap.size w9 W' → Calls Try.prog 81 #[.slice (some ⟨g, 8, none⟩) 8 (cp - 8)] W' fun e w' => e = .returned (.int .u64 (wordOf (bs.drop 8))) ∧ W' = w') := fun W' hW' => by
                  have h8 : (bs.drop 8).length = 8 := by rw [List.length_drop, HBL.out]
                  have := word81_any W' g 8 (cp - 8) (bs.drop 8) (fun jj hjj => by
                    rw [h8] at hjj
                    rw [hW'.cell (p := ⟨g, 8 + jj, none⟩) hgl]
                    have h2 := HBY.out (8 + jj) (by rw [HBL.out]; omega)
                    rw [Nat.zero_add] at h2
                    rw [h2]
                    simp [List.getD_eq_getElem?_getD, List.getElem?_drop]) (by omega)
                  rwa [h8] at this
                have hmix : Try.prog.follows .mixedOrders = true := by kernel_rfl
                have HB9 := HPJW.out _ H9.out
                obtain ⟨cs0, cm, fm, ce, fe, fo⟩ := HB9.cells
                obtain ⟨v, ov, co, _, orow⟩ := HB9.outcell
                have HPB9 := Lib.hid HB9
                have HOV9 := Lib.hid ov
                have HOR9 := Lib.hid orow
                obtain ⟨n1, hn1⟩ : ∃ n1, n1 = wordOf (bs.take 8) := ⟨_, rfl⟩
                obtain ⟨n2, hn2⟩ : ∃ n2, n2 = wordOf (bs.drop 8) := ⟨_, rfl⟩
                rw [← hn1] at HWA HPA
                rw [← hn2] at HWB HPA
                clear ov orow HB9 hn1 hn2
                gi_cut [11, 77] from 58 (fun s11 s77 wx => s77 = undef ∧ ∃ g11 : Nat, s11 = .pointer (some ⟨g11, 0, none⟩) ∧ wx.heap[g11]? = some (.cells #[.int .u64 (n1 : Int), .int .u64 (n2 : Int)] 88 (0, 0)) ∧ Below w9.heap.size w9 wx)
                case first =>
                  refine wpIn_region_any hmix ?_
                  change wpAnyIn _ _ _ _ _ _ _ _ _ w9.drew
                  refine wpAnyIn_round rfl l (noDefer_spec (by kernel_rfl)) _ _ _ _ ?_
                  refine wpAnyIn_take (i := 0) (v := .slice (some ⟨g, 0, none⟩) 16 cp) rfl rfl (by kernel_rfl) (by kernel_rfl) (by kernel_rfl) (fun _ _ _ h => h) ⟨.inl ⟨by rfl, fun _ => rfl⟩, fun _ => rfl⟩ ?_
                  refine wpAnyIn_take (i := 3) (v := .slice (some ⟨g, 0, none⟩) 16 cp) rfl rfl (by kernel_rfl) (by kernel_rfl) (by kernel_rfl) (fun _ _ _ h => h) ⟨.inl ⟨by rfl, fun _ => rfl⟩, fun _ => rfl⟩ ?_
                  simp only [Act.put, List.setIfInBounds_toArray]
                  refine wpAnyIn_take (i := 1) (v := .slice (some ⟨g, 0, none⟩) 8 8) rfl rfl (by kernel_rfl) (by kernel_rfl) (by kernel_rfl) (fun _ _ _ h => h) ⟨.inl ⟨by rfl, fun W => ?sl1⟩, fun _ => rfl⟩ ?_
                  case sl1 => go_simp; intro hcp; omega
                  refine wpAnyIn_take (i := 4) (v := .slice (some ⟨g, 8, none⟩) 8 (cp - 8)) rfl rfl (by kernel_rfl) (by kernel_rfl) (by kernel_rfl) (fun _ _ _ h => h) ⟨.inl ⟨by rfl, fun W => ?sl2⟩, fun _ => rfl⟩ ?_
                  case sl2 => go_simp; omega
                  simp only [Act.put]
                  refine wpAnyIn_ready (rs := [2, 7]) (by kernel_rfl) (by simp) ?_
                  refine AllReadyIn.cons rfl (fun K hK => ?_) ?_
                  · go_simp
                    refine ⟨trivial, ?_⟩
                    gi_at_call 81
                    refine (callsIn_wide.2 (HWA.out _ (by first | exact (Below.refl _ _).drew | exact ((Below.refl _ _).alloc (Nat.le_refl _) _).drew))).mono ?_
                    rintro e _ ⟨rfl, rfl⟩
                    refine hK _ _ ?_
                    clear hK K
                    try simp only [Act.put, List.setIfInBounds_toArray, List.set_cons_zero, List.set_cons_succ]
                    refine wpAnyIn_ready (rs := [5, 7]) (by kernel_rfl) (by simp) ?_
                    refine AllReadyIn.cons rfl (fun K hK => ?_) ?_
                    · go_simp
                      refine ⟨trivial, ?_⟩
                      gi_at_call 81
                      refine (callsIn_wide.2 (HWB.out _ (by first | exact (Below.refl _ _).drew | exact ((Below.refl _ _).alloc (Nat.le_refl _) _).drew))).mono ?_
                      rintro e _ ⟨rfl, rfl⟩
                      refine hK _ _ ?_
                      clear hK K
                      try simp only [Act.put, List.setIfInBounds_toArray, List.set_cons_zero, List.set_cons_succ]
                      refine wpAnyIn_take (i := 6) (v := .agg #[.int .u64 (n1 : Int), .int .u64 (n2 : Int)]) rfl rfl (by kernel_rfl) (by kernel_rfl) (by kernel_rfl) (fun _ _ _ h => h) ⟨.inl ⟨by rfl, fun W => ?b6⟩, fun _ => rfl⟩ ?_
                      case b6 => go_simp
                      try simp only [Act.put, List.setIfInBounds_toArray]
                      refine wpAnyIn_ready (rs := [7]) (by kernel_rfl) (by simp) ?_
                      refine AllReadyIn.cons rfl (fun K hK => ?_) ?_
                      · go_simp
                        refine hK _ _ ?_
                        clear hK K
                        try simp only [Act.put, List.setIfInBounds_toArray, List.set_cons_zero, List.set_cons_succ]
                        refine wpAnyIn_ready (rs := [8]) (by kernel_rfl) (by simp) ?_
                        refine AllReadyIn.cons rfl (fun K hK => ?_) ?_
                        · go_simp
                          refine hK _ _ ?_
                          clear hK K
                          try simp only [Act.put, List.setIfInBounds_toArray, List.set_cons_zero, List.set_cons_succ]
                          refine wpAnyIn_done (by kernel_rfl) ?_ _
                          (gi_wp2_with fail; gi_meet; exact ⟨rfl, w9.heap.size, rfl, hp_new w9 _ _ rfl, ((Below.refl _ w9).alloc (Nat.le_refl _) _).drew⟩)
                        exact AllReadyIn.nil
                      exact AllReadyIn.nil
                    refine AllReadyIn.cons rfl (fun K hK => ?_) ?_
                    · go_simp
                      refine hK _ _ ?_
                      clear hK K
                      try simp only [Act.put, List.setIfInBounds_toArray, List.set_cons_zero, List.set_cons_succ]
                      refine wpAnyIn_ready (rs := [5]) (by kernel_rfl) (by simp) ?_
                      refine AllReadyIn.cons rfl (fun K hK => ?_) ?_
                      · go_simp
                        refine ⟨trivial, ?_⟩
                        gi_at_call 81
                        refine (callsIn_wide.2 (HWB.out _ (by first | exact (Below.refl _ _).drew | exact ((Below.refl _ _).alloc (Nat.le_refl _) _).drew))).mono ?_
                        rintro e _ ⟨rfl, rfl⟩
                        refine hK _ _ ?_
                        clear hK K
                        try simp only [Act.put, List.setIfInBounds_toArray, List.set_cons_zero, List.set_cons_succ]
                        refine wpAnyIn_take (i := 6) (v := .agg #[.int .u64 (n1 : Int), .int .u64 (n2 : Int)]) rfl rfl (by kernel_rfl) (by kernel_rfl) (by kernel_rfl) (fun _ _ _ h => h) ⟨.inl ⟨by rfl, fun W => ?b6⟩, fun _ => rfl⟩ ?_
                        case b6 => go_simp
                        try simp only [Act.put, List.setIfInBounds_toArray]
                        refine wpAnyIn_ready (rs := [8]) (by kernel_rfl) (by simp) ?_
                        refine AllReadyIn.cons rfl (fun K hK => ?_) ?_
                        · go_simp
                          refine hK _ _ ?_
                          clear hK K
                          try simp only [Act.put, List.setIfInBounds_toArray, List.set_cons_zero, List.set_cons_succ]
                          refine wpAnyIn_done (by kernel_rfl) ?_ _
                          (gi_wp2_with fail; gi_meet; exact ⟨rfl, w9.heap.size, rfl, hp_new w9 _ _ rfl, ((Below.refl _ w9).alloc (Nat.le_refl _) _).drew⟩)
                        exact AllReadyIn.nil
                      exact AllReadyIn.nil
                    exact AllReadyIn.nil
                  refine AllReadyIn.cons rfl (fun K hK => ?_) ?_
                  · go_simp
                    refine hK _ _ ?_
                    clear hK K
                    try simp only [Act.put, List.setIfInBounds_toArray, List.set_cons_zero, List.set_cons_succ]
                    refine wpAnyIn_ready (rs := [2]) (by kernel_rfl) (by simp) ?_
                    refine AllReadyIn.cons rfl (fun K hK => ?_) ?_
                    · go_simp
                      refine ⟨trivial, ?_⟩
                      gi_at_call 81
                      refine (callsIn_wide.2 (HWA.out _ (by first | exact (Below.refl _ _).drew | exact ((Below.refl _ _).alloc (Nat.le_refl _) _).drew))).mono ?_
                      rintro e _ ⟨rfl, rfl⟩
                      refine hK _ _ ?_
                      clear hK K
                      try simp only [Act.put, List.setIfInBounds_toArray, List.set_cons_zero, List.set_cons_succ]
                      refine wpAnyIn_ready (rs := [5]) (by kernel_rfl) (by simp) ?_
                      refine AllReadyIn.cons rfl (fun K hK => ?_) ?_
                      · go_simp
                        refine ⟨trivial, ?_⟩
                        gi_at_call 81
                        refine (callsIn_wide.2 (HWB.out _ (by first | exact (Below.refl _ _).drew | exact ((Below.refl _ _).alloc (Nat.le_refl _) _).drew))).mono ?_
                        rintro e _ ⟨rfl, rfl⟩
                        refine hK _ _ ?_
                        clear hK K
                        try simp only [Act.put, List.setIfInBounds_toArray, List.set_cons_zero, List.set_cons_succ]
                        refine wpAnyIn_take (i := 6) (v := .agg #[.int .u64 (n1 : Int), .int .u64 (n2 : Int)]) rfl rfl (by kernel_rfl) (by kernel_rfl) (by kernel_rfl) (fun _ _ _ h => h) ⟨.inl ⟨by rfl, fun W => ?b6⟩, fun _ => rfl⟩ ?_
                        case b6 => go_simp
                        try simp only [Act.put, List.setIfInBounds_toArray]
                        refine wpAnyIn_ready (rs := [8]) (by kernel_rfl) (by simp) ?_
                        refine AllReadyIn.cons rfl (fun K hK => ?_) ?_
                        · go_simp
                          refine hK _ _ ?_
                          clear hK K
                          try simp only [Act.put, List.setIfInBounds_toArray, List.set_cons_zero, List.set_cons_succ]
                          refine wpAnyIn_done (by kernel_rfl) ?_ _
                          (gi_wp2_with fail; gi_meet; exact ⟨rfl, w9.heap.size, rfl, hp_new w9 _ _ rfl, ((Below.refl _ w9).alloc (Nat.le_refl _) _).drew⟩)
                        exact AllReadyIn.nil
                      exact AllReadyIn.nil
                    exact AllReadyIn.nil
                  exact AllReadyIn.nil
                case rest =>
                  obtain ⟨rfl, g11, rfl, hcut1, hcut2⟩ := hcut
                  have HWX := Lib.hid hcut2
                  have HG11 := Lib.hid hcut1
                  have hg0 : wc.cell? ⟨g11, 0, none⟩ = some (.int .u64 (n1 : Int)) := by simp [World.cell?, hcut1]
                  have hg1 : wc.cell? ⟨g11, 1, none⟩ = some (.int .u64 (n2 : Int)) := by simp [World.cell?, hcut1]
                  have HBX := HPB9.out.keepB hcut2
                  have HCB9 : Hid (wc.heap[Bx]? = some (.cells c.cells 164 (0, 0))) := (hcut2.block Bx (Nat.lt_of_lt_of_le (lt_of_block HCJ.out) H9.out.size)).trans ((H9.out.block Bx (lt_of_block HCJ.out)).trans HCJ.out)
                  have HKW : Hid (KeepsOthers W wc) := (HKO.out.trans (KeepsOthers.of_below H9.out)).trans (KeepsOthers.of_below hcut2)
                  clear cs0 cm fm ce fe fo co
                  obtain ⟨v2, ov2, co2, fo2, orow2⟩ := HBX.outcell
                  obtain ⟨ca2', ca3'⟩ := HCO.out wc HCB9.out
                  have HPBX := Lib.hid HBX
                  have HOV2 := Lib.hid ov2
                  have HOR2 := Lib.hid orow2
                  have hbx9 := HBX.below.size
                  obtain ⟨oo, hoo⟩ : ∃ oo, oo = out ++ (secRun M ad x.slide j).2 := ⟨_, rfl⟩
                  rw [← hoo] at HPBX HOR2 hol
                  have HOO := Lib.hid hoo
                  clear hoo
                  clear hcut1 hcut2 HBX ov2 orow2 ca2 ca3
                  by_cases k1 : n1 = 0
                  · have HST : Hid (secRun M ad x.slide (j + 1) = (0, (secRun M ad x.slide j).2)) := by
                      show _ = _
                      rw [HNX2.out, HPA.out, if_neg (by simp [k1])]
                    have d1 : ((n1 : Int) != 0) = false := by simp [k1]
                    clear k1
                    gi_wp2_with fail
                    go_roundw
                    case rel => exact ⟨j + 1, by omega, by go_num, by show _ = _; rw [HST.out], by show PB _ _ _ _ _ _; rw [HST.out, ← HOO.out]; exact HPBX.out, HCB9.out, HKW.out⟩
                    case measure => simp [intOf]; omega
                  · by_cases k2 : n2 = 0
                    · have HST : Hid (secRun M ad x.slide (j + 1) = (0, (secRun M ad x.slide j).2)) := by
                        show _ = _
                        rw [HNX2.out, HPA.out, if_neg (by simp [k2])]
                      have d1 : ((n1 : Int) != 0) = true := by simp; exact k1
                      have d2 : ((n2 : Int) != 0) = false := by simp [k2]
                      clear k1 k2
                      gi_wp2_with fail
                      go_roundw
                      case rel => exact ⟨j + 1, by omega, by go_num, by show _ = _; rw [HST.out], by show PB _ _ _ _ _ _; rw [HST.out, ← HOO.out]; exact HPBX.out, HCB9.out, HKW.out⟩
                      case measure => simp [intOf]; omega
                    · have HST : Hid (secRun M ad x.slide (j + 1) = (0, (secRun M ad x.slide j).2 ++ [(n1, n2)])) := by
                        show _ = _
                        rw [HNX2.out, HPA.out, if_pos ⟨k1, k2⟩]
                      have d1 : ((n1 : Int) != 0) = true := by simp; exact k1
                      have d2 : ((n2 : Int) != 0) = true := by simp; exact k2
                      have HWC : Hid (∀ o, Below wc.heap.size wc (wc.alloc o)) := fun o => (Below.refl _ wc).alloc (Nat.le_refl _) o
                      clear k1 k2
                      have HCG : Hid (CellsAt wc g11 0 #[.int .u64 (n1 : Int), .int .u64 (n2 : Int)]) := fun jj vv hjj => by
                        simp only [World.cell?, HG11.out, Nat.zero_add]; exact hjj
                      obtain ⟨i88, hi88, hz88, hs88, hy88⟩ := info_parts info88
                      gi_wp2_with (first
                        | (refine wpListIn_load_agg rfl 88 (.tmp 11) rfl g11 0 rfl _ _ HCG.out Try.underlying88 rfl size88 ?_)
                        | (gi_at_builtin; refine wpListIn_append_own _ rfl _ _ 82 rfl w.heap.size 88 i88 (.agg #[.int .u64 0, .int .u64 0]) 2 16 Try.underlying82 hi88 hz88 hs88 hy88 rfl (by decide) v2 _ _ rfl (HOR2.out.alloc _) ⟨wc.heap.size, 0, none⟩ 1 1 [.int .u64 (n1 : Int), .int .u64 (n2 : Int)] rfl rfl (World.news_of_block (heap_alloc_new wc _)) (by simp [Value.oneCell']) (by unfold maxLen; omega) (by omega) (by simp; omega) ?_; intro v3 w3 hown3 hgrow3 _; obtain ⟨gN, cN, rfl⟩ := ownsRow_succ hown3; obtain ⟨p1, p2, p3, p4, p5⟩ := HPBX.out.push HOV2.out HOR2.out (HWC.out _) (p := (n1, n2)) hown3 hgrow3; have q1 := cell_of_one p1; have q2 := free_of_one p1; have P2 := Lib.hid p2; have P3 := Lib.hid p3; have P5 := Lib.hid (p5 Bx _ _ _ (by decide) (by decide) HCB9.out); clear p1 p2 p3 p4 p5 hown3 hgrow3))
                      go_roundw
                      case rel => exact ⟨j + 1, by omega, by go_num, by show _ = _; rw [HST.out], by show PB _ _ _ _ _ _; rw [HST.out, ← List.append_assoc, ← HOO.out]; exact P2.out, P5.out, HKW.out.trans P3.out⟩
                      case measure => simp [intOf]; omega
              · have hnx := HNEXT.out
                rw [if_pos he] at hnx
                have HST : Hid ((secRun M ad x.slide q).1 = readErr M a 16) := by
                  show _ = _
                  rw [secRun_stuck (j := j + 1) (by rw [hnx]; exact he) (by omega), hnx]
                have HE := Lib.hid he
                clear hnx
                have HRD2 : Hid (Calls Try.prog 35 #[.pointer (some ⟨b, 0, none⟩), .int .u64 a, .int .u64 16] wr fun e w' => e = .returned (.tuple #[.slice none 0 0, .int .i64 (readErr M a 16)]) ∧ Below wr.heap.size wr w') := by
                  refine HRD.out.mono ?_
                  rintro e w' ⟨v', rfl, k1, k2, k3⟩
                  rw [k2 he]; exact ⟨rfl, k1⟩
                obtain ⟨er, her⟩ : ∃ er, er = readErr M a 16 := ⟨_, rfl⟩
                rw [← her] at HRD2 HST HE he
                have i2 : ((er : Int) != 0) = true := by rw [bne_iff_ne]; exact he
                have HPJW : Hid (∀ wx, Below wr.heap.size wr wx → PB w ⟨b, 0, none⟩ cs (m + q) (out ++ (secRun M ad x.slide j).2) wx) := fun wx hx => HPJ.out.keepB hx
                clear HRD HNEXT he her HSPW HSPW2 co cm fm
                gi_wp2_with (refine ⟨trivial, ?_⟩; gi_at_call 35; refine (CallsIn.inRound l (callsIn_wide.2 HRD2.out)).mono ?_; rintro e w9 ⟨rfl, h9⟩; have H9 := Lib.hid h9; clear cs0 ce fe fo; obtain ⟨_, _, _, ce, fe, fo⟩ := (HPJW.out _ h9).cells; obtain ⟨_, _, co, _, _⟩ := (HPJW.out _ h9).outcell; clear h9)
                have hn2 := HN2.out
                rw [HST.out, if_pos HE.out] at hn2
                refine ⟨(((HKO.out.trans (KeepsOthers.of_below H9.out)).trans (KeepsOthers.setCell _ _ _)).trans (KeepsOthers.setCell _ _ _)).from _, ⟨rfl, by rw [hn2]; exact HE.out⟩, ?_⟩
                rw [hn2]
                exact (HPJW.out _ H9.out).early er HE.out
            · obtain rfl : j = q := by omega
              have hn2 := HN2.out
              rw [HR0.out, if_neg (by simp)] at hn2
              have HN3 := Lib.hid hn2
              have i1 : ¬ 16 * (j : Int) < (sz : Int) := by have := HQ16.out; omega
              clear hn2
              gi_wp2_with fail
              exact ⟨HKO.out.from _, below_between HBW.out HPJ.out.below HKO.out.size, by rw [HN3.out]; exact HPJ.out, by rw [HN3.out]⟩
    · have hcast : ((m : Int) + (sz : Int) / 16) = ((m + sz / 16 : Nat) : Int) := by omega
      have HCAST := Lib.hid hcast
      have b1 : ((sz : Int) % 16 != 0) = true := by rw [bne_iff_ne]; omega
      have hnn := HNX.out
      rw [if_pos c1] at hnn
      have HN2 := Lib.hid hnn
      clear hnn c1 hcast
      gi_wp2_with fail
      have hcast := HCAST.out
      refine ⟨((KeepsOthers.setCell _ _ _).trans ((KeepsOthers.setCell _ _ _).trans (KeepsOthers.setCell _ _ _))).from _, ⟨rfl, by rw [HN2.out]; simp⟩, ?_⟩
      rw [HN2.out, hcast]
      exact (HPB.out.setMany (m + sz / 16)).early 9 (by decide)
  case done =>
    rintro D ys W hD rfl ⟨hPB, herr⟩ hK
    obtain ⟨cs0, cm, fm, ce, fe, fo⟩ := hPB.cells
    obtain ⟨v, ov, co, _, orow⟩ := hPB.outcell
    obtain ⟨va, vc, rfl⟩ := ownsRow_shape orow
    have hdl := lt_of_block hK
    have h1 := one_setCell (u := .slice va (pst M x.slide (want L.flatten)).out.length vc) ov
    have h2 : (W.setCell ⟨w.heap.size + 2, 0, none⟩ (.slice va (pst M x.slide (want L.flatten)).out.length vc)).heap[w.heap.size + 3]? = some (.cells #[.int .i64 0] 45 (0, 0)) := (heap_setCell_other _ _ _ _ (by simp)).trans hPB.e
    have h3 := one_setCell (u := .int .i64 0) h2
    have h4 := (heap_setCell_other _ ⟨w.heap.size + 3, 0, none⟩ (w.heap.size + 2) (.int .i64 0) (by simp)).trans h1
    have h5 : ((W.setCell ⟨w.heap.size + 2, 0, none⟩ (.slice va (pst M x.slide (want L.flatten)).out.length vc)).setCell ⟨w.heap.size + 3, 0, none⟩ (.int .i64 0)).heap[D]? = some (.deferred (some [])) := by
      rw [heap_setCell_other _ _ _ _ (by simp; omega), heap_setCell_other _ _ _ _ (by simp; omega)]; exact hK
    have hbb : Below w.heap.size w ((W.setCell ⟨w.heap.size + 2, 0, none⟩ (.slice va (pst M x.slide (want L.flatten)).out.length vc)).setCell ⟨w.heap.size + 3, 0, none⟩ (.int .i64 0)) := (hPB.below.setCell (by simp) _).setCell (by simp) _
    have hoo : ((W.setCell ⟨w.heap.size + 2, 0, none⟩ (.slice va (pst M x.slide (want L.flatten)).out.length vc)).setCell ⟨w.heap.size + 3, 0, none⟩ (.int .i64 0)).ownsRow w.heap.size 88 2 (.slice va (pst M x.slide (want L.flatten)).out.length vc) (pst M x.slide (want L.flatten)).out.length (flat (pst M x.slide (want L.flatten)).out) :=
      owns2_same orow fun g hg => by
        rw [heap_setCell_other _ _ _ _ (fun e => row2_other orow (t := 45) (by decide) hPB.e (by rw [hg, e])), heap_setCell_other _ _ _ _ (fun e => row2_other orow (t := 82) (by decide) ov (by rw [hg, e]))]
    have H3 := Lib.hid h3
    have H4 := Lib.hid h4
    have H5 := Lib.hid h5
    have HBB := Lib.hid hbb
    have HOO := Lib.hid hoo
    have HERR := Lib.hid herr
    clear h1 h2 h3 h4 h5 hbb hoo hPB orow ov hK hbx hP6 herr
    rw [← hA]
    generalize (pst M x.slide (want L.flatten)).out = oo at *
    gi_wp2_with fail
    exact pairs_end (by rfl) (by rfl) H4.out H3.out H5.out (by omega) (by omega) ⟨_, by rw [HERR.out], below_put HBB.out H5.out (by omega), fun h => absurd HERR.out h, fun _ => owns2_put HOO.out H5.out rfl⟩
  case stop =>
    rintro D c pre W hD hpre ⟨⟨rfl, hne⟩, hPX⟩ hK
    obtain ⟨m, hm⟩ := hpre
    have he : pst M x.slide (want L.flatten) = pst M x.slide pre := by
      rw [← hm]; unfold pst; rw [List.map_append]; exact pFold_stuck hne
    rw [he]
    obtain ⟨k1, k2, k3, _⟩ := hPX
    have H3 := Lib.hid k3
    have H4 := Lib.hid k2
    have H5 := Lib.hid hK
    have HBB := Lib.hid k1
    have HNE := Lib.hid hne
    clear hm he k1 k2 k3 hK hbx hP6 hne
    rw [← hA]
    generalize pst M x.slide pre = st at *
    gi_wp2_with fail
    exact pairs_end (by rfl) (by rfl) H4.out H3.out H5.out (by omega) (by omega) ⟨_, rfl, below_put HBB.out H5.out (by omega), fun _ => rfl, fun h => absurd h HNE.out⟩
end Go.Proofs.Ytepnaalgobhcdaa
