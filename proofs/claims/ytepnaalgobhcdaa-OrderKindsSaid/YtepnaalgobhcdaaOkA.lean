/- clevislaw23.one; the memory of OrderBounds. -/
import Derived.Test.YtepnaalgobhcdaaOfL
import Derived.Test.YtepnaalgobhcdaaBnD
namespace Go.Proofs.Ytepnaalgobhcdaa
open Go.RowKit Go.Shelf Spm Clv

/-! ### An image of one section -/
def oneC (kind : Int) (a n : Nat) (ha : a < 18446744073709551616) (hn : n < 18446744073709551616) : SecC := ⟨{ data := #[] }, { data := #[] }, 0, ⟨a, n, kind⟩, ha, hn⟩
def oneO (kind : Int) (a n s : Nat) (ha : a < 18446744073709551616) (hn : n < 18446744073709551616) : OIm := ⟨s, [⟨4096, 0, 5, [oneC kind a n ha hn]⟩]⟩
def oneI (kind : Int) (a n s : Nat) : ImgM := ⟨s, [], [], [⟨4096, 0, 0, 4096, 5, [⟨a, n, kind⟩]⟩]⟩
/-- Both tellings of an image's cells. -/
def BothI (w : World) (cs : Array Value) (o : OIm) (x : ImgM) : Prop := OImP w cs o ∧ ImgCells w x cs
theorem BothI.keep {w w' : World} {cs : Array Value} {o : OIm} {x : ImgM} (h : BothI w cs o x) (hb : Below w.heap.size w w') : BothI w' cs o x := ⟨h.1.keep hb, h.2.keep hb⟩
theorem zero_both (w : World) : BothI w (oneCells (.slice none 0 0) 0) ⟨0, []⟩ ⟨0, [], [], []⟩ :=
  ⟨⟨rfl, one_one _ rfl _, rfl, by decide, none, 0, fun j hj => absurd hj (Nat.not_lt_zero j), rfl, Nat.le_refl _, by decide⟩,
   ⟨rfl, by decide, ⟨none, 0, rfl, Nat.le_refl _, Nat.zero_le _, fun j hj => absurd hj (Nat.not_lt_zero j)⟩, ⟨none, 0, rfl, Nat.le_refl _, Nat.zero_le _, fun j hj => absurd hj (Nat.not_lt_zero j)⟩, rfl, ⟨none, 0, rfl, Nat.le_refl _, Nat.zero_le _, fun j hj => absurd hj (Nat.not_lt_zero j)⟩⟩⟩
theorem one_both {w : World} {b1 b2 a n s : Nat} {kind : Int} (ha : a < 18446744073709551616) (hn : n < 18446744073709551616) (hs : s < 18446744073709551616) (hk : (Lit.int .i64 kind).wf = true)
    (h1 : w.heap[b1]? = some (.cells #[.string { data := #[] }, .string { data := #[] }, .int .u64 (a : Int), .int .u64 (n : Int), .int .u64 0, .int .i64 kind] 164 (0, 0)))
    (h2 : w.heap[b2]? = some (.cells #[.string { data := #[] }, .int .u64 4096, .int .u64 4096, .int .u64 0, .int .u64 0, .int .i64 5, .slice (some ⟨b1, 0, none⟩) 1 1] 128 (0, 0))) :
    BothI w (oneCells (.slice (some ⟨b2, 0, none⟩) 1 1) (s : Int)) (oneO kind a n s ha hn) (oneI kind a n s) := by
  constructor
  · refine ⟨rfl, one_one _ rfl _, rfl, hs, some ⟨b2, 0, none⟩, 1, fun j hj => ?_, rfl, Nat.le_refl _, by decide⟩
    obtain rfl : j = 0 := by have : j < 1 := hj; omega
    refine ⟨b2, 0, rfl, _, _, _, some ⟨b1, 0, none⟩, 1, cells_whole h2, Nat.le_refl _, by unfold maxLen; omega, fun j hj => ?_, fun c hc => ?_, (by decide : (4096 : Nat) < 18446744073709551616)⟩
    · obtain rfl : j = 0 := by have : j < 1 := hj; omega
      exact ⟨b1, 0, rfl, cells_whole h1⟩
    · have hc' : c = oneC kind a n ha hn := by simpa [oneO] using hc
      rw [hc']; exact hk
  · refine ⟨rfl, hs, ⟨some ⟨b2, 0, none⟩, 1, rfl, Nat.le_refl _, by unfold maxLen; simp, fun j hj => ?_⟩, ⟨none, 0, rfl, Nat.le_refl _, Nat.zero_le _, fun j hj => absurd hj (Nat.not_lt_zero j)⟩, rfl, ⟨none, 0, rfl, Nat.le_refl _, Nat.zero_le _, fun j hj => absurd hj (Nat.not_lt_zero j)⟩⟩
    obtain rfl : j = 0 := by have : j < 1 := hj; omega
    refine ⟨b2, 0, rfl, _, some ⟨b1, 0, none⟩, 1, (by decide : (4096 : Nat) < 18446744073709551616), (by decide : (4096 : Nat) < 18446744073709551616), (by decide : (0 : Nat) < 18446744073709551616), (by decide : (0 : Nat) < 18446744073709551616), Nat.le_refl _, by unfold maxLen; omega, cells_whole h2, fun j hj => ?_⟩
    obtain rfl : j = 0 := by have : j < 1 := hj; omega
    exact ⟨b1, 0, rfl, _, _, 0, ha, hn, cells_whole h1⟩
set_option maxRecDepth 100000 in
theorem one23_any (w : World) (kind : Int) (a n s : Nat) (ha : a < 18446744073709551616) (hn : n < 18446744073709551616) (hs : s < 18446744073709551616) (hk : (Lit.int .i64 kind).wf = true) :
    Calls Try.prog 54 #[.int .i64 kind, .int .u64 a, .int .u64 n, .int .u64 s] w fun e w' => ∃ cs, e = .returned (.agg cs) ∧ Below w.heap.size w w' ∧ BothI w' cs (oneO kind a n s ha hn) (oneI kind a n s) := by
  go_enter Try.func54, Try.ntmps54
  go_wp2_with (first
    | (refine wpList_store_whole rfl 38 (.tmp 8) (.tmp 18) rfl w.heap.size (oneCells (.slice (some ⟨w.heap.size + 1 + 1, 0, none⟩) 1 1) (s : Int)) rfl rfl 38 (oneCells (.slice none 0 0) 0) ((hp_old _ _ _ (by simp <;> omega)).trans ((hp_old _ _ _ (by simp)).trans (hp_new w _ _ rfl))) size38 rfl (one_one _ rfl _) ?_; intro w1 hw1 hg1 hz1))
  refine bodyPost_ret (v := .agg (oneCells (.slice (some ⟨w.heap.size + 1 + 1, 0, none⟩) 1 1) (s : Int))) (results_cell_row rfl _ _ (w.heap.size) 38 _ (0, 0) _ rfl hw1 Try.underlying38 rfl size38) rfl ?_
  refine ⟨_, rfl, ?_, one_both (b1 := w.heap.size + 1) ha hn hs hk ?_ ?_⟩
  · exact ((((Below.refl _ w).alloc (Nat.le_refl _) _).alloc (by simp) _).alloc (by simp <;> omega) _).grown hg1 (by simp <;> omega) (fun k e => by cases e; omega)
  · rw [hg1.block _ (by simp <;> omega) (by simp), hp_old _ _ _ (by simp <;> omega), hp_new _ _ _ (by simp)]
  · rw [hg1.block _ (by simp <;> omega) (by simp <;> omega), hp_new _ _ _ (by simp)]
/-- Images that were laid in a row. -/
theorem both_built {w : World} {css : List (Array Value)} {ls : List OIm} {l : List ImgM} (h1 : css.length = ls.length) (h2 : css.length = l.length) (hm : l.length ≤ 1000)
    (h : ∀ j cs, css[j]? = some cs → BothI w cs (imO ls j) (l.getD j ⟨0, [], [], []⟩)) {cells : Array Value} (hc : ∀ i c, css[i]? = some c → ∀ j v, c[j]? = some v → cells[i * 27 + j]? = some v) :
    OIms (w.alloc (.cells cells 38)) (some ⟨w.heap.size, 0, none⟩) ls ∧ Imgs (w.alloc (.cells cells 38)) (some ⟨w.heap.size, 0, none⟩) l.length l := by
  have hcell : ∀ j cs, css[j]? = some cs → CellsAt (w.alloc (.cells cells 38)) w.heap.size (0 + j * 27) cs := fun j cs hj i v hi => by
    have := hc j _ hj i v hi
    simp only [World.cell?, heap_alloc_new, Nat.zero_add]
    exact this
  constructor
  · intro j hj
    have hg : css[j]? = some css[j] := List.getElem?_eq_getElem (by omega)
    exact ⟨w.heap.size, 0, rfl, css[j], hcell j _ hg, ((h j _ hg).keep ((Below.refl _ w).alloc (Nat.le_refl _) _)).1⟩
  · refine ⟨Nat.le_refl _, by unfold maxLen; omega, fun j hj => ?_⟩
    have hg : css[j]? = some css[j] := List.getElem?_eq_getElem (by omega)
    exact ⟨w.heap.size, 0, rfl, css[j], hcell j _ hg, ((h j _ hg).keep ((Below.refl _ w).alloc (Nat.le_refl _) _)).2⟩

/-! ### What such an image's initializers are -/
theorem oOf_one (M : List Pg) (kind : Int) (a n s : Nat) (ha : a < 18446744073709551616) (hn : n < 18446744073709551616) (hk : (kind == 9 || kind == 22) = true) :
    oOf M (oneO kind a n s ha hn) = oStep M s ((4096 + s) % 18446744073709551616) ⟨[], 0⟩ (oneC kind a n ha hn) := by
  have hi : isInit (oneC kind a n ha hn) = true := hk
  have hl : lowS (oneO kind a n s ha hn) = (4096 + s) % 18446744073709551616 := rfl
  unfold oOf
  rw [hl]
  show (([oneC kind a n ha hn] ++ []).filter isInit).foldl _ _ = _
  rw [List.append_nil, List.filter_cons, hi]
  rfl
theorem oOf_none (M : List Pg) : oOf M ⟨0, []⟩ = ⟨[], 0⟩ := rfl
theorem one_run {M : List Pg} {kind : Int} {a n s : Nat} {ha : a < 18446744073709551616} {hn : n < 18446744073709551616} (hk : (kind == 9 || kind == 22) = true) {S ab q : Nat} (hS : oSize (oneC kind a n ha hn) = S)
    (hA : oAbove ((4096 + s) % 18446744073709551616) (oneC kind a n ha hn) = ab) (h1 : n % S = 0) (h2 : n / S = q) (h3 : q ≤ 20000) {r : List Nat} {er : Int} (hr : oRun M a s S ab q = (er, r)) :
    oOf M (oneO kind a n s ha hn) = if er ≠ 0 then ⟨[], er⟩ else ⟨r, 0⟩ := by
  rw [oOf_one M kind a n s ha hn hk]
  unfold oStep
  rw [hS, hA]
  have e1 : (oneC kind a n ha hn).x.size = n := rfl
  have e2 : (oneC kind a n ha hn).x.addr = a := rfl
  rw [e1, e2, h2, hr]
  simp only [h1, List.length_nil, Nat.zero_add, List.nil_append]
  rw [if_neg (by simp), if_neg (by simp), if_neg (by omega)]

theorem one_many {M : List Pg} {kind : Int} {a n s : Nat} {ha : a < 18446744073709551616} {hn : n < 18446744073709551616} (hk : (kind == 9 || kind == 22) = true) {S : Nat} (hS : oSize (oneC kind a n ha hn) = S)
    (h1 : n % S = 0) (h3 : 20000 < n / S) : oOf M (oneO kind a n s ha hn) = ⟨[], 11⟩ := by
  rw [oOf_one M kind a n s ha hn hk]
  unfold oStep
  rw [hS]
  have e1 : (oneC kind a n ha hn).x.size = n := rfl
  rw [e1]
  simp only [h1, List.length_nil, Nat.zero_add]
  rw [if_neg (by simp), if_neg (by simp), if_pos h3]

/-! ### The memory of OrderBounds -/
def kB1 : List Pg := mapM [] 4096 4096 5
def kB : List Pg := mapM kB1 8192 163840 3
theorem kb1 : mapErr [] 4096 4096 5 = 0 := by decide +kernel
theorem kB1_eq : kB1 = mapIn [] 1 1 5 := by unfold kB1 mapM; rw [if_pos kb1]; rfl
theorem kb2 : mapErr kB1 8192 163840 3 = 0 := by rw [kB1_eq]; decide +kernel
theorem kB_eq : kB = mapIn (mapIn [] 1 1 5) 2 40 3 := by unfold kB mapM; rw [if_pos kb2, kB1_eq]; rfl
theorem kB_pg (n : Nat) (h1 : 2 ≤ n) (h2 : n < 42) : pg kB n = some ⟨n, 3, noughts⟩ := by
  rw [kB_eq, pg_mapIn, if_pos (by omega)]
theorem kB_pg1 : pg kB 1 = some ⟨1, 5, noughts⟩ := by
  rw [kB_eq, pg_mapIn, if_neg (by omega), pg_mapIn, if_pos (by omega)]
theorem kB_zero (a : Nat) (h1 : 8192 ≤ a) (h2 : a < 172032) : byteAt kB a = 0 := by
  unfold byteAt
  rw [kB_pg _ (by omega) (by omega)]
  exact rep_getD 4096 _
theorem kB_read (a n : Nat) (h0 : 0 < n) (h1 : 8192 ≤ a) (h2 : a + n ≤ 172032) : readErr kB a n = 0 := by
  unfold readErr lookErr
  rw [if_neg (by omega), if_neg (by omega)]
  have e1 : inB a n = true := by simp [inB]; omega
  rw [if_neg (by simp [e1])]
  have e2 : missing kB (fst a) (lst a n) = false := by
    unfold missing
    rw [List.any_eq_false]
    intro i hi
    have := List.mem_range.1 hi
    unfold fst lst at *
    rw [kB_pg _ (by omega) (by omega)]; simp
  have e3 : lacks kB (fst a) (lst a n) 1 = false := by
    unfold lacks
    rw [List.any_eq_false]
    intro i hi
    have := List.mem_range.1 hi
    unfold fst lst at *
    rw [kB_pg _ (by omega) (by omega)]
    show ¬ (!hasP 3 1) = true
    decide
  rw [e2, e3]; rfl
theorem wordOf_zero : ∀ n, wordOf (List.replicate n 0) = 0
  | 0 => rfl
  | n + 1 => by rw [List.replicate_succ, wordOf, wordOf_zero n]; rfl
theorem kB_word (a n : Nat) (h1 : 8192 ≤ a) (h2 : a + n ≤ 172032) : wordOf (readAll kB a n) = 0 := by
  have e : readAll kB a n = List.replicate n 0 := by
    apply List.ext_getElem
    · simp [readAll]
    · intro j h3 h4
      simp only [readAll, List.getElem_map, List.getElem_range, List.getElem_replicate]
      have : j < n := by simpa using h4
      exact kB_zero _ (by omega) (by omega)
  rw [e, wordOf_zero]
theorem kB_exec1 : execAt kB 4096 = true := by
  unfold execAt
  rw [show 4096 / 4096 = 1 by decide, kB_pg1]; rfl
theorem kB_exec0 : execAt kB 0 = false := by
  unfold execAt
  rw [show 0 / 4096 = 0 by decide, kB_eq, pg_mapIn, if_neg (by omega), pg_mapIn, if_neg (by omega)]; rfl
theorem kB_run : ∀ j, j ≤ 20000 → oRun kB 8192 0 4 4096 j = (0, List.replicate j 4096)
  | 0, _ => rfl
  | j + 1, h => by
    have ih := kB_run j (by omega)
    have ea : secAddr 8192 0 (4 * j) = 8192 + 4 * j := by unfold secAddr; omega
    unfold oRun
    rw [ih, ea, kB_read _ _ (by omega) (by omega) (by omega), kB_word _ _ (by omega) (by omega)]
    have e2 : (0 + 4096) % 18446744073709551616 = 4096 := by decide
    rw [e2, kB_exec1]
    simp only [ne_eq, not_true_eq_false, if_false, if_true]
    rw [List.replicate_succ', Prod.mk.injEq]
    exact ⟨rfl, rfl⟩
theorem kc1 : iAll kB [⟨0, []⟩, oneO 9 8192 12 0 (by decide) (by decide)] = fun _ => ⟨[], 1, 9⟩ := by
  have h : (oOf kB (oneO 9 8192 12 0 (by decide) (by decide))).err = 9 := by rw [oOf_one _ _ _ _ _ _ _ (by decide)]; rfl
  funext r
  unfold iAll
  have : iErrAt kB [⟨0, []⟩, oneO 9 8192 12 0 (by decide) (by decide)] 2 = some (1, 9) := by
    simp only [iErrAt, imO, List.getD_cons_zero, List.getD_cons_succ, oOf_none, h]
    rfl
  rw [show ([⟨0, []⟩, oneO 9 8192 12 0 (by decide) (by decide)] : List OIm).length = 2 from rfl, this]
theorem kc2a : (oOf kB (oneO 22 8192 80000 0 (by decide) (by decide))).err = 0 := by
  obtain ⟨q, hq⟩ : ∃ q, q = 20000 := ⟨_, rfl⟩
  have hS : oSize (oneC 22 8192 80000 (by decide) (by decide)) = 4 := rfl
  have hA : oAbove ((4096 + 0) % 18446744073709551616) (oneC 22 8192 80000 (by decide) (by decide)) = 4096 := rfl
  have h1 : 80000 % 4 = 0 := by omega
  have h2 : 80000 / 4 = q := by omega
  have hk : ((22 : Int) == 9 || (22 : Int) == 22) = true := by decide
  have := one_run hk hS hA h1 h2 (by omega) (kB_run q (by omega))
  rw [this, if_neg (by simp)]
theorem kc2b : (oOf kB (oneO 22 8192 80004 0 (by decide) (by decide))).err = 11 := by
  have hS : oSize (oneC 22 8192 80004 (by decide) (by decide)) = 4 := rfl
  have hk : ((22 : Int) == 9 || (22 : Int) == 22) = true := by decide
  rw [one_many hk hS (by omega) (by omega)]
theorem two_second {M : List Pg} {o1 o2 : OIm} {er : Int} (h0 : (oOf M o1).err = 0) (h : (oOf M o2).err = er) (he : er ≠ 0) : iAll M [o1, o2] = fun _ => ⟨[], 1, er⟩ := by
  funext r
  unfold iAll
  have : iErrAt M [o1, o2] 2 = some (1, er) := by
    simp only [iErrAt, imO, List.getD_cons_zero, List.getD_cons_succ, h0, h]
    simp [he]
  rw [show ([o1, o2] : List OIm).length = 2 from rfl, this]
theorem kc2 : iAll kB [oneO 22 8192 80000 0 (by decide) (by decide), oneO 22 8192 80004 0 (by decide) (by decide)] = fun _ => ⟨[], 1, 11⟩ := two_second kc2a kc2b (by decide)
theorem kc3 : iAll kB [⟨0, []⟩, ⟨0, []⟩, oneO 9 8192 8 0 (by decide) (by decide)] = fun _ => ⟨[], 2, 19⟩ := by
  have hr : oRun kB 8192 0 8 0 1 = (19, []) := by
    have ea : secAddr 8192 0 (8 * 0) = 8192 := by decide
    unfold oRun
    rw [ea, kB_read _ _ (by omega) (by omega) (by omega), kB_word _ _ (by omega) (by omega)]
    rw [show (0 + 0) % 18446744073709551616 = 0 by decide, kB_exec0]
    simp [oRun]
  have h : (oOf kB (oneO 9 8192 8 0 (by decide) (by decide))).err = 19 := by
    rw [one_run (by decide) rfl rfl (q := 1) (by decide) (by decide) (by decide) hr]; rfl
  funext r
  unfold iAll
  have : iErrAt kB [⟨0, []⟩, ⟨0, []⟩, oneO 9 8192 8 0 (by decide) (by decide)] 3 = some (2, 19) := by
    simp only [iErrAt, imO, List.getD_cons_zero, List.getD_cons_succ, oOf_none, h]
    rfl
  rw [show ([⟨0, []⟩, ⟨0, []⟩, oneO 9 8192 8 0 (by decide) (by decide)] : List OIm).length = 3 from rfl, this]
theorem kc4e : lookErr kB 204800 8 1 = 4 := by rw [kB_eq]; decide +kernel
theorem kc4 : iAll kB [oneO 9 204800 8 0 (by decide) (by decide)] = fun _ => ⟨[], 0, 4⟩ := by
  have hr : oRun kB 204800 0 8 0 1 = (4, []) := by
    have ea : secAddr 204800 0 (8 * 0) = 204800 := by decide
    have er : readErr kB 204800 8 = 4 := by unfold readErr; rw [if_neg (by decide)]; exact kc4e
    unfold oRun
    rw [ea, er]
    simp [oRun]
  have h : (oOf kB (oneO 9 204800 8 0 (by decide) (by decide))).err = 4 := by
    rw [one_run (by decide) rfl rfl (q := 1) (by decide) (by decide) (by decide) hr]; rfl
  funext r
  unfold iAll
  have : iErrAt kB [oneO 9 204800 8 0 (by decide) (by decide)] 1 = some (0, 4) := by
    simp only [iErrAt, imO, List.getD_cons_zero, h]
    rfl
  rw [show ([oneO 9 204800 8 0 (by decide) (by decide)] : List OIm).length = 1 from rfl, this]
theorem imO_none (i : Nat) : imO [⟨0, []⟩, ⟨0, []⟩] i = ⟨0, []⟩ := by
  match i with
  | 0 => rfl
  | 1 => rfl
  | i + 2 => rfl
theorem kc5 (M : List Pg) : iAll M [⟨0, []⟩, ⟨0, []⟩] = fun _ => ⟨[], 0, 0⟩ := by
  funext r
  unfold iAll
  have : iErrAt M [⟨0, []⟩, ⟨0, []⟩] 2 = none := rfl
  rw [show ([⟨0, []⟩, ⟨0, []⟩] : List OIm).length = 2 from rfl, this]
  show AllI.mk (iRow M [⟨0, []⟩, ⟨0, []⟩] r) 0 0 = _
  congr 1
  unfold iRow
  rw [List.flatMap_eq_nil_iff]
  intro i _
  rw [imO_none, oOf_none]; rfl
end Go.Proofs.Ytepnaalgobhcdaa
