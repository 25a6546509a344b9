/- The reference's cursor: a number of the bytes that it stands before. The reference's Pairs: what lies where while the sections are gone over; plain mathematics of prefixes. The reference's Pairs: the walk. clevislaw21.few; the reference's Find and Swapped; Swapped for any image. InterposePairs: the walk. From how arguments read to images and ranges in memory. -/
import Derived.Test.YtepnaalgobhcdaaBnA
import Derived.StillTailTactics
import Derived.Deep.QuietTactic
import Derived.BigQuiet
import Derived.Test.YtepnaalgobhcdaaBnC
import Derived.Test.YtepnaalgobhcdaaBnD
import Derived.Deep.AppendLies
namespace Go.Proofs.Ytepnaalgobhcdaa
open Go.RowKit Spm

/-- A cursor over the bytes v at a place. -/
def CurB (w : World) (g : Nat) (v : Value) (at_ : Int) : Prop := w.heap[g]? = some (.cells #[v, .int .i64 at_, .bool false, .bool false] 185 (0, 0))
theorem CurB.cells {w : World} {g : Nat} {v : Value} {at_ : Int} (h : CurB w g v at_) : w.cell? ⟨g, 0, none⟩ = some v ∧ w.cell? ⟨g, 1, none⟩ = some (.int .i64 at_) ∧ w.cell? ⟨g, 2, none⟩ = some (.bool false) ∧ w.cell? ⟨g, 3, none⟩ = some (.bool false) ∧ w.frozen? ⟨g, 1, none⟩ = false ∧ w.frozen? ⟨g, 3, none⟩ = false := by
  unfold CurB at h
  simp [World.cell?, World.frozen?, h]
theorem chg_setCell (w : World) (g i : Nat) (v : Value) : Chg (fun k => k = g) w (w.setCell ⟨g, i, none⟩ v) :=
  ⟨rfl, rfl, rfl, by simp [World.setCell], fun k _ hn => heap_setCell_other _ _ _ _ (by simpa using hn)⟩
theorem CurB.set3 {w : World} {g : Nat} {v : Value} {at_ : Int} (h : CurB w g v at_) : CurB (w.setCell ⟨g, 3, none⟩ (.bool false)) g v at_ := by
  unfold CurB at h ⊢
  rw [heap_setCell_same _ _ _ _ _ _ h]; rfl
theorem CurB.set1 {w : World} {g : Nat} {v : Value} {at_ : Int} (h : CurB w g v at_) (i : Int) : CurB (w.setCell ⟨g, 1, none⟩ (.int .i64 i)) g v i := by
  unfold CurB at h ⊢
  rw [heap_setCell_same _ _ _ _ _ _ h]; rfl
def CurRes (w : World) (g : Nat) (v : Value) (at_ : Int) (r : Value) (e : Ending) (w' : World) : Prop := e = .returned r ∧ CurB w' g v at_ ∧ Chg (fun k => k = g) w w'

set_option maxRecDepth 100000 in
theorem need_any (w : World) (g : Nat) (v : Value) (at_ : Int) (h : CurB w g v at_) : Calls Try.prog 100 #[.pointer (some ⟨g, 0, none⟩), .bool true] w (CurRes w g v at_ (.bool false)) := by
  have H := Lib.hid h
  obtain ⟨_, _, _, c3, _, f3⟩ := h.cells
  clear h
  go_enter Try.func100, Try.ntmps100
  go_wp2_with fail
  go_ret
  exact ⟨rfl, H.out.set3, chg_setCell _ _ _ _⟩
theorem Chg.two {F : Nat → Prop} {a b c : World} (h : Chg F a b) (k : Chg F b c) : Chg F a c :=
  ⟨k.os.trans h.os, k.tape.trans h.tape, k.output.trans h.output, Nat.le_trans h.size k.size, fun i hi hn => (k.block i (Nat.lt_of_lt_of_le hi h.size) hn).trans (h.block i hi hn)⟩

set_option maxHeartbeats 1000000 in
set_option maxRecDepth 100000 in
theorem curbytes_any (w : World) (g : Nat) (b off len c n : Nat) (h : CurB w g (.slice (some ⟨b, off, none⟩) len c) 0) (hn : n ≤ len) (h0 : 0 < n) (hl : len ≤ c) (hc : c ≤ 9223372036854775807) : Calls Try.prog 101 #[.pointer (some ⟨g, 0, none⟩), .int .i64 n] w (CurRes w g (.slice (some ⟨b, off, none⟩) len c) n (.slice (some ⟨b, off, none⟩) n c)) := by
  have H := Lib.hid h
  obtain ⟨c0, c1, _, c3, _, f3⟩ := h.cells
  have HN : Hid (∀ W, CurB W g (.slice (some ⟨b, off, none⟩) len c) 0 → Calls Try.prog 100 #[.pointer (some ⟨g, 0, none⟩), .bool true] W (CurRes W g (.slice (some ⟨b, off, none⟩) len c) 0 (.bool false))) := fun W hW => need_any W g _ _ hW
  clear h
  have i1 : decide ((0 : Int) ≤ (n : Int)) = true := by simp
  have i2 : decide ((n : Int) ≤ (len : Int)) = true := by simpa using hn
  have hw : IntKind.i64.wrap (len : Int) = (len : Int) := by rw [IntKind.wrap_i64]; omega
  go_enter Try.func101, Try.ntmps101
  go_wp2_with fail
  go_still_tail 17, (by kernel_rfl)
  clear hw
  change wpList _ _ _ _ _ w.drew
  have hd : Chg (fun k => k = g) w w.drew := ⟨rfl, rfl, rfl, Nat.le_refl _, fun _ _ _ => rfl⟩
  have H1 : Hid (CurB w.drew g (.slice (some ⟨b, off, none⟩) len c) 0) := H.out
  generalize w.drew = wd at *
  go_wp2_with fail
  refine (HN.out _ H1.out).mono ?_
  rintro e w1 ⟨rfl, k1, k2⟩
  have HC := Lib.hid (hd.two k2)
  have H2 := Lib.hid k1
  obtain ⟨c0', c1', _, c3', f1', f3'⟩ := k1.cells
  clear k1 k2 c0 c1 c3 f3 hd H1 H HN i2 i1
  have e1 : (0 : Int) + (n : Int) = (n : Int) := by omega
  have hnn : (n : Int) ≤ (c : Int) := by omega
  go_wp2_with fail
  go_quiet (fail)
  go_wp2_with fail
  go_ret
  have hq : Chg (fun k => k = g) w1 (w1.drewN nq) := ⟨rfl, rfl, rfl, Nat.le_refl _, fun _ _ _ => rfl⟩
  have hb : CurB (w1.drewN nq) g (.slice (some ⟨b, off, none⟩) len c) 0 := H2.out
  exact ⟨rfl, hb.set1 _, (HC.out.two hq).two (chg_setCell _ _ _ _)⟩
/-- The last i of some bytes. -/
theorem wordOf_drop {bs : List UInt8} {k : Nat} (h : k < bs.length) : wordOf (bs.drop k) = (bs.getD k 0).toNat + 256 * wordOf (bs.drop (k + 1)) := by
  rw [List.drop_eq_getElem_cons h, wordOf, List.getD_eq_getElem?_getD, List.getElem?_eq_getElem h]; rfl

set_option maxHeartbeats 1000000 in
set_option maxRecDepth 100000 in
theorem number92_any (w : World) (g b off len c n : Nat) (bs : List UInt8) (h : CurB w g (.slice (some ⟨b, off, none⟩) len c) 0) (hb : BytesIn w b off bs) (hbg : b ≠ g) (hbn : bs.length = n) (h48 : n = 4 ∨ n = 8) (hn : n ≤ len) (hl : len ≤ c) (hc : c ≤ 9223372036854775807) :
    Calls Try.prog 92 #[.pointer (some ⟨g, 0, none⟩), .int .i64 n] w (CurRes w g (.slice (some ⟨b, off, none⟩) len c) n (.int .u64 (wordOf bs))) := by
  have H := Lib.hid h
  have HBS := Lib.hid hb
  have HBN := Lib.hid hbn
  have HN : Hid (∀ W, CurB W g (.slice (some ⟨b, off, none⟩) len c) 0 → Calls Try.prog 100 #[.pointer (some ⟨g, 0, none⟩), .bool true] W (CurRes W g (.slice (some ⟨b, off, none⟩) len c) 0 (.bool false))) := fun W hW => need_any W g _ _ hW
  have HY : Hid (∀ W, CurB W g (.slice (some ⟨b, off, none⟩) len c) 0 → Calls Try.prog 101 #[.pointer (some ⟨g, 0, none⟩), .int .i64 n] W (CurRes W g (.slice (some ⟨b, off, none⟩) len c) n (.slice (some ⟨b, off, none⟩) n c))) := fun W hW => curbytes_any W g b off len c n hW hn (by omega) hl hc
  have h8 : n ≤ 8 := by omega
  have h4 : 4 ≤ n := by omega
  have a1 : ((n : Int) == 1) = false := by rw [beq_eq_false_iff_ne]; omega
  have a2 : ((n : Int) == 2) = false := by rw [beq_eq_false_iff_ne]; omega
  clear h hb hbn
  have hlt8 : wordOf bs < 18446744073709551616 := by
    have := wordOf_lt bs
    rw [HBN.out] at this
    have h2 : 256 ^ n ≤ 256 ^ 8 := Nat.pow_le_pow_right (by decide) h8
    omega
  go_enter Try.func92, Try.ntmps92
  rcases h48 with e | e
  all_goals
    first
    | (have a4 : ((n : Int) == 4) = true := by rw [beq_iff_eq]; omega)
    | (have a4 : ((n : Int) == 4) = false := by rw [beq_eq_false_iff_ne]; omega
       have a8 : ((n : Int) == 8) = true := by rw [beq_iff_eq]; omega)
    clear e
    go_wp2_with fail
    refine (HN.out _ H.out).mono ?_
    rintro e w1 ⟨rfl, k1, k2⟩
    have H1 := Lib.hid k1
    have C1 := Lib.hid k2
    clear k1 k2
    go_wp2_with fail
    refine (HY.out _ H1.out).mono ?_
    rintro e w2 ⟨rfl, k1, k2⟩
    have H2 := Lib.hid k1
    have C2 := Lib.hid (C1.out.two k2)
    obtain ⟨_, _, c2, _⟩ := k1.cells
    have HBS2 : Hid (BytesIn w2 b off bs) := by
      show BytesIn w2 b off bs
      exact HBS.out.keep (C2.out.block b (block_lt_of_cell (HBS.out 0 (by rw [HBN.out]; omega))) hbg)
    clear k1 k2 HN HY H1 C1 HBS H
    go_wp2_with fail
    go_loop [6, 7] (fun v t => ∃ i : Nat, i ≤ n ∧ t = .int .i64 i ∧ v = .int .u64 (wordOf (bs.drop (n - i)))) (fun _ t => n - (intOf t).toNat)
    case atStart => exact ⟨0, by omega, rfl, by rw [Nat.sub_zero, ← HBN.out, List.drop_length]; rfl⟩
    case round =>
      obtain ⟨i, hi, rfl, rfl⟩ := hrel
      by_cases hlt : i < n
      · obtain ⟨k, hk⟩ : ∃ k, k = n - 1 - i := ⟨_, rfl⟩
        have hcell := HBS2.out k (by rw [HBN.out]; omega)
        have hnew := wordOf_drop (bs := bs) (k := k) (by rw [HBN.out]; omega)
        have hal := wordOf_lt (bs.drop (n - i))
        rw [List.length_drop, HBN.out, show n - (n - i) = i by omega] at hal
        have hal7 : 256 ^ i ≤ 256 ^ 7 := Nat.pow_le_pow_right (by decide) (by omega)
        rw [show k + 1 = n - i by omega] at hnew
        have hxl : (bs.getD k 0).toNat < 256 := (bs.getD k 0).toNat_lt
        unfold byteVal at hcell
        generalize (bs.getD k 0).toNat = x at *
        generalize wordOf (bs.drop (n - i)) = acc at *
        have hacc : acc < 72057594037927936 := by omega
        have HNEW := Lib.hid hnew
        have e1 : (n : Int) - 1 - (i : Int) = (k : Int) := by omega
        have hkn : k < n := by omega
        clear hnew hal hal7 hk
        go_wp2_with fail
        go_round
        case rel => exact ⟨i + 1, by omega, by go_num, by rw [show n - (i + 1) = k by omega, HNEW.out]; go_num⟩
        case measure => simp [intOf]; omega
      · obtain rfl : i = n := by omega
        go_wp2_with fail
        go_ret
        exact ⟨by simp, H2.out, C2.out⟩
set_option maxRecDepth 100000 in
theorem number82_any (w : World) (b off c : Nat) (bs : List UInt8) (hb : BytesIn w b off bs) (hbn : bs.length = 8) (hc : 8 ≤ c ∧ c ≤ 9223372036854775807) :
    Calls Try.prog 82 #[.slice (some ⟨b, off, none⟩) 8 c] w fun e w' => e = .returned (.int .u64 (wordOf bs)) ∧ Below w.heap.size w w' := by
  have hbl : b < w.heap.size := block_lt_of_cell (hb 0 (by omega))
  have HN : Hid (Calls Try.prog 92 #[.pointer (some ⟨w.heap.size, 0, none⟩), .int .i64 8] (w.alloc (.cells #[.slice (some ⟨b, off, none⟩) 8 c, .int .i64 0, .bool false, .bool false] 185)) (CurRes (w.alloc (.cells #[.slice (some ⟨b, off, none⟩) 8 c, .int .i64 0, .bool false, .bool false] 185)) w.heap.size (.slice (some ⟨b, off, none⟩) 8 c) ((8 : Nat) : Int) (.int .u64 (wordOf bs)))) :=
    number92_any _ w.heap.size b off 8 c 8 bs (hp_new _ _ _ rfl) (hb.keep (hp_old _ _ _ hbl)) (by omega) hbn (.inr rfl) (Nat.le_refl _) hc.1 hc.2
  clear hb hbn hc
  go_enter Try.func82, Try.ntmps82
  go_wp2_with fail
  refine HN.out.mono ?_
  rintro e w1 ⟨rfl, _, k2⟩
  have HB : Hid (Below w.heap.size w w1) := ((Below.refl _ w).alloc (Nat.le_refl _) _).trans (k2.below (fun k hk => by rw [hk]; exact Nat.le_refl _) (by simp))
  clear k2 HN
  go_wp2_with fail
  go_ret
  exact ⟨rfl, HB.out⟩
end Go.Proofs.Ytepnaalgobhcdaa
namespace Go.Proofs.Ytepnaalgobhcdaa
open Go.RowKit Spm

/-- All sections ahead of the k-th of segment i. -/
def preS (L : List (List SecC)) (i k : Nat) : List SecC := (L.take i).flatten ++ (L.getD i []).take k
theorem preS_end {L : List (List SecC)} {i : Nat} (h : i < L.length) : preS L i (L.getD i []).length = preS L (i + 1) 0 := by
  unfold preS
  rw [List.take_length, List.take_zero, List.append_nil, List.take_add_one, List.flatten_append, List.getD_eq_getElem?_getD, List.getElem?_eq_getElem h]
  simp
theorem preS_next {L : List (List SecC)} {i k : Nat} (h : k < (L.getD i []).length) : preS L i (k + 1) = preS L i k ++ [(L.getD i []).getD k .none] := by
  unfold preS
  rw [List.take_add_one, List.append_assoc, List.getD_eq_getElem?_getD (l := L.getD i []), List.getElem?_eq_getElem h]
  rfl
theorem preS_last (L : List (List SecC)) : preS L L.length 0 = L.flatten := by
  unfold preS; rw [List.take_length]; simp
theorem preS_zero (L : List (List SecC)) : preS L 0 0 = [] := by unfold preS; simp
theorem preS_split {L : List (List SecC)} {i k : Nat} (h : i < L.length) : ∃ rest, L.flatten = preS L i k ++ rest := by
  refine ⟨(L.getD i []).drop k ++ (L.drop (i + 1)).flatten, ?_⟩
  unfold preS
  rw [List.append_assoc, ← List.append_assoc (List.take k _), List.take_append_drop]
  conv => lhs; rw [← List.take_append_drop i L, List.flatten_append, List.drop_eq_getElem_cons h]
  rw [List.getD_eq_getElem?_getD, List.getElem?_eq_getElem h]
  rfl
/-- The state behind the sections ahead of (i, k). -/
def rst (M : List Pg) (s : Nat) (L : List (List SecC)) (i k : Nat) : PSt := pst M s (want (preS L i k))
theorem rst_end {M : List Pg} {s : Nat} {L : List (List SecC)} {i : Nat} (h : i < L.length) : rst M s L i (L.getD i []).length = rst M s L (i + 1) 0 := by unfold rst; rw [preS_end h]
theorem rst_skip {M : List Pg} {s : Nat} {L : List (List SecC)} {i k : Nat} (h : k < (L.getD i []).length) (hp : isPairs ((L.getD i []).getD k .none) = false) : rst M s L i (k + 1) = rst M s L i k := by
  unfold rst; rw [preS_next h, want_append]
  have : want [(L.getD i []).getD k .none] = [] := by unfold want; simp only [List.filter_cons, hp]; rfl
  rw [this, List.append_nil]
theorem rst_take {M : List Pg} {s : Nat} {L : List (List SecC)} {i k : Nat} (h : k < (L.getD i []).length) (hp : isPairs ((L.getD i []).getD k .none) = true) :
    rst M s L i (k + 1) = pStep M s (rst M s L i k) ((L.getD i []).getD k .none).x.addr ((L.getD i []).getD k .none).x.size := by
  unfold rst; rw [preS_next h, want_append]
  have : want [(L.getD i []).getD k .none] = [(L.getD i []).getD k .none] := by unfold want; simp only [List.filter_cons, hp]; rfl
  rw [this, pst_snoc]
theorem rst_stop {M : List Pg} {s : Nat} {L : List (List SecC)} {i k : Nat} (h : i < L.length) (he : (rst M s L i k).err ≠ 0) : pst M s (want L.flatten) = rst M s L i k := by
  obtain ⟨rest, hr⟩ := preS_split (k := k) h
  unfold rst at he ⊢
  rw [hr, want_append]
  unfold pst at he ⊢
  rw [List.map_append]
  exact pFold_stuck he
theorem rst_bound (M : List Pg) (s : Nat) (L : List (List SecC)) (i k : Nat) : (rst M s L i k).out.length ≤ (rst M s L i k).many ∧ (rst M s L i k).many ≤ 20000 := pFold_bound M s _

structure RpSt (w : World) (cs : Array Value) (out : List (Nat × Nat)) (v : Value) (W : World) : Prop where
  below : Below w.heap.size w W
  x : W.heap[w.heap.size]? = some (.cells cs 38 (0, 0))
  row : W.ownsRow w.heap.size 88 2 v out.length (flat out)
section
variable {w W W' : World} {cs : Array Value} {out : List (Nat × Nat)} {v : Value}
theorem RpSt.keep (h : RpSt w cs out v W) (hb : Below W.heap.size W W') : RpSt w cs out v W' :=
  ⟨h.below.trans (below_le hb h.below.size), (hb.block _ (lt_of_block h.x)).trans h.x, owns2_same h.row fun g hg => hb.block g (h.row.lt g hg).2⟩
theorem RpSt.cell (h : RpSt w cs out v W) {i : Nat} {u : Value} (hi : cs[i]? = some u) : W.cell? ⟨w.heap.size, i, none⟩ = some u := by
  simp [World.cell?, h.x, hi]
/-- Behind an append of a pair. -/
theorem RpSt.push (h : RpSt w cs out v W) {wt : World} (hwt : Below W.heap.size W wt) {v' : Value} {w1 : World} {p : Nat × Nat}
    (hown : w1.ownsRow w.heap.size 88 2 v' (out.length + 1) (flat out ++ [.int .u64 (p.1 : Int), .int .u64 (p.2 : Int)])) (hg : wt.grownBy w1 v.ownBlock) : RpSt w cs (out ++ [p]) v' w1 := by
  refine ⟨?_, ?_, ?_⟩
  · have h1 := h.below.trans (below_le hwt h.below.size)
    exact ⟨hg.os.trans h1.os, hg.tape.trans h1.tape, hg.output.trans h1.output, Nat.le_trans h1.size hg.size, fun i hi => by
      rw [hg.block i (Nat.lt_of_lt_of_le hi h1.size) (fun e => by have := (h.row.lt i e.symm).1; omega)]
      exact h1.block i hi⟩
  · rw [hg.block _ (Nat.lt_of_lt_of_le (lt_of_block h.x) hwt.size) (row2_other h.row (t := 38) (by decide) h.x), hwt.block _ (lt_of_block h.x)]
    exact h.x
  · rw [List.length_append, List.length_singleton, flat_snoc]; exact hown
end
/-- The sections' cells at a world behind w. -/
theorem SegsC.seg {w W : World} {a : Option Addr} {L : List (List SecC)} (h : SegsC w a L) (hb : Below w.heap.size w W) {i : Nat} (hi : i < L.length) : ∃ bS oS a' c', a = some ⟨bS, oS, none⟩ ∧ W.cell? ⟨bS, oS + i * 7 + 6, none⟩ = some (.slice a' (L.getD i []).length c') ∧ (L.getD i []).length ≤ c' ∧ c' ≤ 9223372036854775807 ∧ SecsC W a' (L.getD i []) ∧ bS < w.heap.size := by
  obtain ⟨b, o, e, v0, v1, v2, v3, v4, v5, a', c', k1, k2, k3, k4⟩ := h i hi
  exact ⟨b, o, a', c', e, (k1.keep hb) 6 _ rfl, k2, by unfold maxLen at k3; omega, k4.keep hb, k1.lt (by simp)⟩
theorem SecsC.sec {W : World} {a : Option Addr} {l : List SecC} (h : SecsC W a l) {k : Nat} (hk : k < l.length) : ∃ b o, a = some ⟨b, o, none⟩ ∧ W.cell? ⟨b, o + k * 6 + 2, none⟩ = some (.int .u64 ((l.getD k .none).x.addr : Int)) ∧ W.cell? ⟨b, o + k * 6 + 3, none⟩ = some (.int .u64 ((l.getD k .none).x.size : Int)) ∧ W.cell? ⟨b, o + k * 6 + 5, none⟩ = some (.int .i64 (l.getD k .none).x.kind) := by
  obtain ⟨b, o, e, k1⟩ := h k hk
  exact ⟨b, o, e, k1 2 _ rfl, k1 3 _ rfl, k1 5 _ rfl⟩
end Go.Proofs.Ytepnaalgobhcdaa
namespace Go.Proofs.Ytepnaalgobhcdaa
open Go.RowKit Go.Shelf Spm
attribute [local go_sem] Oper.semAt_some

theorem PairsRes.stop {w : World} {er : Int} {out : List (Nat × Nat)} (h : er ≠ 0) {w' : World} (hb : Below w.heap.size w w') : PairsRes w er out (.returned (.tuple #[.slice none 0 0, .int .i64 er])) w' :=
  ⟨_, rfl, hb, fun _ => rfl, fun e => absurd e h⟩

theorem pair_end {wc w1 : World} {g : Nat} (x y : Value) (hb : Below wc.heap.size wc w1) (hg : wc.heap.size ≤ g) (h : w1.heap[g]? = some (.cells #[.int .u64 0, .int .u64 0] 88 (0, 0))) :
    ((w1.setCell ⟨g, 0, none⟩ x).setCell ⟨g, 1, none⟩ y).heap[g]? = some (.cells #[x, y] 88 (0, 0)) ∧ Below wc.heap.size wc ((w1.setCell ⟨g, 0, none⟩ x).setCell ⟨g, 1, none⟩ y) := by
  refine ⟨?_, (hb.setCell hg _).setCell hg _⟩
  rw [heap_setCell_same _ _ _ _ _ _ (heap_setCell_same _ _ _ _ _ _ h)]; rfl
set_option maxHeartbeats 4000000 in
set_option maxRecDepth 100000 in
theorem rpairs_any (w : World) (b : Nat) (M : List Pg) (F : Nat → Prop) (h : RfIn w b M F) (cs : Array Value) (p : Im) (hp : ImP w cs p) :
    Calls Try.prog 47 #[.pointer (some ⟨b, 0, none⟩), .agg cs] w (PairsRes w (pOf M p).err (pOf M p).out) := by
  obtain ⟨_, _, h25, L, aS, cS, hL, h5, hcap, hps⟩ := hp
  obtain ⟨sl, ps0⟩ := p
  simp only at h25 hps
  have hpo : pOf M (sl, ps0) = pst M sl (want L.flatten) := by unfold pOf pst; rw [hps]
  rw [hpo]
  have H := Lib.hid h
  have HL := Lib.hid hL
  have H5 := Lib.hid h5
  have H25 := Lib.hid h25
  have hcm := hcap.2
  unfold maxLen at hcm
  have hcl := hcap.1
  clear h hL h5 h25 hcap hps hpo
  go_enter Try.func47, Try.ntmps47
  go_wp2_with fail
  go_loopw [6, 7, 8] (fun t6 t7 t8 wr => ∃ (i : Nat) (ad : Option Addr) (cp : Nat), i ≤ L.length ∧ t8 = .int .i64 i ∧ t7 = .int .u64 ((rst M sl L i 0).many : Int) ∧ t6 = .slice ad (rst M sl L i 0).out.length cp ∧ Hid ((rst M sl L i 0).err = 0) ∧ Hid (RpSt w cs (rst M sl L i 0).out (.slice ad (rst M sl L i 0).out.length cp) wr)) (fun _ _ t _ => L.length - (intOf t).toNat)
  case atStart => exact ⟨0, none, 0, Nat.zero_le _, rfl, rfl, rfl, rfl, (Below.refl _ w).alloc (Nat.le_refl _) _, hp_new _ _ _ rfl, World.ownsRow_nil _ _ _ _⟩
  case round =>
    obtain ⟨i, ad, cp, hi, rfl, rfl, rfl, HE, HR⟩ := hrel
    have c5 := HR.out.cell H5.out
    by_cases hlt : i < L.length
    · obtain ⟨bS, oS, a', c', rfl, hc6, hl1, hl2, hsecs, hbS⟩ := HL.out.seg HR.out.below hlt
      have HSECS := Lib.hid hsecs
      have HEND := Lib.hid (rst_end (M := M) (s := sl) hlt)
      have HSTOP : Hid (∀ k, (rst M sl L i k).err ≠ 0 → pst M sl (want L.flatten) = rst M sl L i k) := fun k hk => rst_stop hlt hk
      have HTAKE : Hid (∀ k, k < (L.getD i []).length → isPairs ((L.getD i []).getD k .none) = true → rst M sl L i (k + 1) = pStep M sl (rst M sl L i k) ((L.getD i []).getD k .none).x.addr ((L.getD i []).getD k .none).x.size) := fun k h1 h2 => rst_take h1 h2
      have HSKIP : Hid (∀ k, k < (L.getD i []).length → isPairs ((L.getD i []).getD k .none) = false → rst M sl L i (k + 1) = rst M sl L i k) := fun k h1 h2 => rst_skip h1 h2
      have HBD : Hid (∀ k, (rst M sl L i k).out.length ≤ (rst M sl L i k).many ∧ (rst M sl L i k).many ≤ 20000) := fun k => rst_bound M sl L i k
      have HSW : Hid (∀ W, Below w.heap.size w W → SecsC W a' (L.getD i [])) := fun W hW => by
        obtain ⟨b', o', a2, c2, e, k1, _, _, k4, _⟩ := HL.out.seg hW hlt
        cases e
        have e2 := hc6
        have e3 : W.cell? ⟨bS, oS + i * 7 + 6, none⟩ = wr.cell? ⟨bS, oS + i * 7 + 6, none⟩ := by
          rw [hW.cell (p := ⟨bS, oS + i * 7 + 6, none⟩) hbS, HR.out.below.cell (p := ⟨bS, oS + i * 7 + 6, none⟩) hbS]
        rw [k1, e2] at e3
        cases e3; exact k4
      obtain ⟨S, hS⟩ : ∃ S, S = L.getD i [] := ⟨_, rfl⟩
      rw [← hS] at hc6 hl1 HSECS HEND HTAKE HSKIP HSW
      clear hsecs hS
      go_wp2_with fail
      obtain ⟨wo, rfl⟩ : ∃ wo : World, wo = wr := ⟨_, rfl⟩
      go_loopw [6, 7, 10] (fun t6 t7 t10 wr => ∃ (k : Nat) (ad : Option Addr) (cp : Nat), k ≤ S.length ∧ t10 = .int .i64 k ∧ t7 = .int .u64 ((rst M sl L i k).many : Int) ∧ t6 = .slice ad (rst M sl L i k).out.length cp ∧ Hid ((rst M sl L i k).err = 0) ∧ Hid (RpSt w cs (rst M sl L i k).out (.slice ad (rst M sl L i k).out.length cp) wr)) (fun _ _ t _ => S.length - (intOf t).toNat)
      case atStart => exact ⟨0, ad, cp, Nat.zero_le _, rfl, rfl, rfl, HE.out, HR.out⟩
      case round =>
        clear HR HE c5 hc6
        obtain ⟨k, ad1, cp1, hk, rfl, rfl, rfl, HE1, HR1⟩ := hrel
        by_cases hkt : k < S.length
        · obtain ⟨bb, ob, rfl, ca, cz, ck⟩ := (HSW.out _ HR1.out.below).sec hkt
          have hT := HTAKE.out k hkt
          have hK := HSKIP.out k hkt
          have hbd := HBD.out k
          have hstop := HSTOP.out (k + 1)
          have HSEC : Hid (∀ W, Below w.heap.size w W → W.cell? ⟨bb, ob + k * 6 + 2, none⟩ = some (.int .u64 ((S.getD k .none).x.addr : Int)) ∧ W.cell? ⟨bb, ob + k * 6 + 3, none⟩ = some (.int .u64 ((S.getD k .none).x.size : Int))) := fun W hW => by
            obtain ⟨b2, o2, e, h1, h2, _⟩ := (HSW.out W hW).sec hkt
            cases e; exact ⟨h1, h2⟩
          obtain ⟨c, hc⟩ : ∃ c, c = S.getD k .none := ⟨_, rfl⟩
          rw [← hc] at hT hK ca cz ck HSEC
          obtain ⟨st, hst⟩ : ∃ st, st = rst M sl L i k := ⟨_, rfl⟩
          rw [← hst] at hT hK HE1 HR1 hbd
          obtain ⟨st', hst'⟩ : ∃ st', st' = rst M sl L i (k + 1) := ⟨_, rfl⟩
          rw [← hst'] at hT hK hstop
          have hxl := c.ha
          have hsl := c.hs
          have HST := Lib.hid hst
          have HST' := Lib.hid hst'
          obtain ⟨m, out, er0⟩ := st
          simp only at hbd HR1
          have her0 : er0 = 0 := HE1.out
          subst her0
          rw [← HST.out]
          simp only
          clear hc hst hst' HTAKE HSKIP HBD HSW HEND HE1
          by_cases h13 : c.x.kind = 13
          · have hpT := hT (by unfold isPairs; simpa using h13)
            have b13 : ((c.x.kind : Int) != 13) = false := by rw [bne_eq_false_iff_eq]; exact h13
            clear hT hK h13
            generalize c.x.size = sz at *
            generalize c.x.addr = adr at *
            have HFIN : Hid (∀ er : Int, (pStep M sl ⟨m, out, 0⟩ adr sz).err = er → er ≠ 0 → ∀ w', Below w.heap.size w w' → PairsRes w (pst M sl (want L.flatten)).err (pst M sl (want L.flatten)).out (.returned (.tuple #[.slice none 0 0, .int .i64 er])) w') := fun er h1 h2 w' hb => by
              have e1 : st'.err = er := by rw [hpT, h1]
              rw [hstop (by rw [e1]; exact h2), e1]
              exact PairsRes.stop h2 hb
            have hps : pStep M sl ⟨m, out, 0⟩ adr sz = if sz % 16 ≠ 0 then ⟨m, out, 9⟩ else if 20000 < m + sz / 16 then ⟨m, out, 11⟩ else if (secRun M adr sl (sz / 16)).1 ≠ 0 then ⟨m, out, (secRun M adr sl (sz / 16)).1⟩ else ⟨m + sz / 16, out ++ (secRun M adr sl (sz / 16)).2, 0⟩ := by
              unfold pStep; simp only [ne_eq, not_true_eq_false, if_false]
            have HPT := Lib.hid hpT
            obtain ⟨hb1, hb2⟩ := hbd
            clear hstop hpT
            by_cases c1 : sz % 16 = 0
            · have b1 : ((sz : Int) % 16 != 0) = false := by rw [bne_eq_false_iff_eq]; omega
              rw [if_neg (by omega)] at hps
              by_cases c2 : 20000 < m + sz / 16
              · rw [if_pos c2] at hps
                have HF := Lib.hid (HFIN.out 11 (by rw [hps]) (by decide))
                have b2 : (20000 : Int) - (m : Int) < (sz : Int) / 16 := by omega
                clear hps HFIN c1 c2
                go_wp2_with fail
                go_ret2
                exact HF.out _ HR1.out.below
              · rw [if_neg c2] at hps
                have b2 : ¬ (20000 : Int) - (m : Int) < (sz : Int) / 16 := by omega
                have HPS := Lib.hid hps
                obtain ⟨q, hq⟩ : ∃ q, q = sz / 16 := ⟨_, rfl⟩
                rw [← hq] at HPS
                have hq16 : sz = 16 * q := by omega
                have hcast : ((m : Int) + (sz : Int) / 16) = ((m + q : Nat) : Int) := by omega
                have HCAST := Lib.hid hcast
                have HQ16 := Lib.hid hq16
                have hmq : m + q ≤ 20000 := by omega
                have hqb : q ≤ 20000 := by omega
                have HST2 := Lib.hid (show RpSt w cs (out ++ (secRun M adr sl 0).2) (.slice ad1 (out ++ (secRun M adr sl 0).2).length cp1) wr by simp only [secRun, List.append_nil]; exact HR1.out)
                clear hps hq hq16 hcast c1 c2 HR1
                go_wp2_with fail
                obtain ⟨wo2, rfl⟩ : ∃ wo2 : World, wo2 = wr := ⟨_, rfl⟩
                go_loopw [6, 11] (fun t6 t11 wr => ∃ (j : Nat) (ad : Option Addr) (cp : Nat), j ≤ q ∧ t11 = .int .u64 (16 * (j : Int)) ∧ t6 = .slice ad (out ++ (secRun M adr sl j).2).length cp ∧ Hid ((secRun M adr sl j).1 = 0) ∧ Hid (RpSt w cs (out ++ (secRun M adr sl j).2) (.slice ad (out ++ (secRun M adr sl j).2).length cp) wr)) (fun _ t _ => 16 * q - (intOf t).toNat)
                case atStart => exact ⟨0, ad1, cp1, Nat.zero_le _, rfl, by simp [secRun], rfl, HST2.out⟩
                case round =>
                  clear HST2 ca cz
                  obtain ⟨j, ad2, cp2, hj, rfl, rfl, HR0, HR2⟩ := hrel
                  obtain ⟨ca, cz⟩ := HSEC.out _ HR2.out.below
                  obtain ⟨r2, hr2⟩ : ∃ r2, r2 = out ++ (secRun M adr sl j).2 := ⟨_, rfl⟩
                  rw [← hr2] at HR2 ⊢
                  have HRR := Lib.hid hr2
                  clear hr2
                  by_cases hjq : j < q
                  · have i1 : 16 * (j : Int) < (sz : Int) := by have := HQ16.out; omega
                    have c25 := HR2.out.cell H25.out
                    obtain ⟨a1, ha1⟩ : ∃ a1, a1 = (adr + sl) % 18446744073709551616 := ⟨_, rfl⟩
                    obtain ⟨a, ha⟩ : ∃ a, a = secAddr adr sl (16 * j) := ⟨_, rfl⟩
                    have hab : a < 18446744073709551616 := by rw [ha]; unfold secAddr; exact Nat.mod_lt _ (by decide)
                    have hw1 : IntKind.u64.wrap ((adr : Int) + (sl : Int)) = (a1 : Int) := by rw [u64add, ha1]
                    have hw2 : IntKind.u64.wrap ((a1 : Int) + 16 * (j : Int)) = (a : Int) := by
                      rw [show 16 * (j : Int) = ((16 * j : Nat) : Int) by omega, u64add, ha, ha1]; rfl
                    have HNEXT := Lib.hid (secRun_next HR0.out ha)
                    have HRD : Hid (∀ W, Below w.heap.size w W → Calls Try.prog 68 #[.pointer (some ⟨b, 0, none⟩), .int .u64 a, .int .u64 16] W (ReadRes W M a 16)) := fun W hW => rread_any W b M F (H.out.keepB hW) a 16 hab
                    have HB2 := Lib.hid HR2.out.below
                    clear ha1 ha
                    by_cases he : readErr M a 16 = 0
                    · have HRD2 : Hid (∀ W, Below w.heap.size w W → Calls Try.prog 68 #[.pointer (some ⟨b, 0, none⟩), .int .u64 a, .int .u64 16] W fun e w' => ∃ g cp, e = .returned (.tuple #[.slice (some ⟨g, 0, none⟩) 16 cp, .int .i64 0]) ∧ Hid (Below W.heap.size W w' ∧ 16 ≤ cp ∧ cp ≤ 9223372036854775807 ∧ BytesIn w' g 0 (readAll M a 16))) := fun W hW => by
                        refine (HRD.out W hW).mono ?_
                        rintro e w' ⟨v', rfl, k1, k2, k3⟩
                        rw [he] at k3 ⊢
                        have k4 := k3 rfl
                        rcases k4.2 with ⟨_, h0⟩ | ⟨g, cp, cur, rfl, _, hg, h16, hmx, _, _⟩
                        · omega
                        · refine ⟨g, cp, rfl, k1, h16, by unfold maxLen at hmx; omega, fun jj hjj => ?_⟩
                          rw [readAll_length] at hjj
                          obtain ⟨g', e', hcell⟩ := row_cell k4 (i := jj) (by omega)
                          cases e'
                          rw [Nat.zero_add]; exact hcell
                      clear HRD
                      go_wp2_with fail
                      go_cut [12, 13] (fun s12 s13 wx => Hid (∃ g cp, s12 = .slice (some ⟨g, 0, none⟩) 16 cp ∧ s13 = .int .i64 0 ∧ Below wr.heap.size wr wx ∧ 16 ≤ cp ∧ cp ≤ 9223372036854775807 ∧ BytesIn wx g 0 (readAll M a 16)))
                      case first =>
                        go_region_with (go_at_call 68; refine (HRD2.out _ (by exact HB2.out.drew)).mono ?_; rintro e w9 ⟨g, cp, rfl, k9⟩)
                        all_goals
                          go_simp
                          go_wp2_with fail
                          go_meet
                          exact ⟨g, cp, rfl, rfl, (show Below wr.heap.size wr wr.drew from (Below.refl _ wr).drew).trans k9.out.1, k9.out.2⟩
                      case rest =>
                        obtain ⟨g, cp, rfl, rfl, hb9, h16, hcpm, hby⟩ := hcut.out
                        clear hcut ca cz c25 hw1 hw2 HRD2
                        have hnx := HNEXT.out
                        rw [if_neg (by simp [he])] at hnx
                        have HNX := Lib.hid hnx
                        obtain ⟨bs, hbs⟩ : ∃ bs, bs = readAll M a 16 := ⟨_, rfl⟩
                        have hbl : bs.length = 16 := by rw [hbs]; exact readAll_length M a 16
                        rw [← hbs] at hby
                        have HPA : Hid (pairAt M a = (wordOf (bs.take 8), wordOf (bs.drop 8))) := by show _ = _; rw [hbs]; rfl
                        have hgl : g < wc.heap.size := block_lt_of_cell (hby 0 (by omega))
                        obtain ⟨nv, hnv⟩ : ∃ nv : Nat → Nat, nv = fun o => wordOf ((bs.drop o).take 8) := ⟨_, rfl⟩
                        have hnv0 : wordOf (bs.take 8) = nv 0 := by rw [hnv]; rfl
                        have hnv8 : wordOf (bs.drop 8) = nv 8 := by rw [hnv]; simp only; rw [List.take_of_length_le (by rw [List.length_drop]; omega)]
                        rw [hnv0, hnv8] at HPA
                        have HN : Hid (∀ (o c : Nat) (W : World), Below wc.heap.size wc W → (o = 0 ∨ o = 8) → 8 ≤ c → c ≤ 9223372036854775807 → Calls Try.prog 82 #[.slice (some ⟨g, o, none⟩) 8 c] W fun e w' => e = .returned (.int .u64 (nv o : Int)) ∧ Hid (Below wc.heap.size wc w') ∧ Hid (Below W.heap.size W w') ∧ (∀ b o, b < W.heap.size → w'.cell? ⟨b, o, none⟩ = W.cell? ⟨b, o, none⟩) ∧ ∀ b o, b < W.heap.size → w'.frozen? ⟨b, o, none⟩ = W.frozen? ⟨b, o, none⟩) := fun o c W hW ho h8 hcm => by
                          have hlen : ((bs.drop o).take 8).length = 8 := by rw [List.length_take, List.length_drop]; omega
                          have := number82_any W g o c ((bs.drop o).take 8) (fun jj hjj => by
                            rw [hlen] at hjj
                            rw [hW.cell (p := ⟨g, o + jj, none⟩) hgl]
                            have h2 := hby (o + jj) (by omega)
                            rw [Nat.zero_add] at h2
                            rw [h2, List.getD_eq_getElem?_getD, List.getD_eq_getElem?_getD, List.getElem?_take, if_pos hjj, List.getElem?_drop]) hlen ⟨h8, hcm⟩
                          refine this.mono ?_
                          rintro e w' ⟨rfl, hb⟩
                          exact ⟨by rw [hnv], hW.trans (below_le hb hW.size), hb, fun b o hl => hb.cell (p := ⟨b, o, none⟩) hl, fun b o hl => hb.frozen (p := ⟨b, o, none⟩) hl⟩
                        have B0 : Hid (Below wc.heap.size wc wc.drew) := (Below.refl _ wc).drew
                        have HR3 := Lib.hid (HR2.out.keep hb9)
                        have hz9 := hb9.size
                        clear hnx hbs hbl hby hnv hnv0 hnv8 hb9 HNEXT HR2 he HB2
                        go_wp2_with fail
                        go_cut [14] (fun s14 wx => Hid (∃ g14 : Nat, s14 = .pointer (some ⟨g14, 0, none⟩) ∧ wx.heap[g14]? = some (.cells #[.int .u64 (nv 0 : Int), .int .u64 (nv 8 : Int)] 88 (0, 0)) ∧ Below wc.heap.size wc wx))
                        case first =>
                          go_region_with ((go_at_call 82; refine (HN.out _ _ _ ?_ (by first | exact .inl rfl | exact .inr rfl) (by omega) (by omega)).mono ?_; (first | exact B0.out | exact B0.out.alloc (Nat.le_refl _) _ | exact HB1.out | exact HB1.out.alloc HB1.out.size _); rintro e w1 ⟨rfl, HB1, HC1, hc1, hf1⟩; try (have hz1 : wc.heap.size < w1.heap.size := by (have hq := HC1.out.size; simp at hq; omega))))
                          all_goals
                            rename_i w0 HB0 HC0 hc0 hf0
                            go_simp
                            go_wp2_with fail
                            go_meet
                            first
                            | exact ⟨_, rfl, hp_new _ _ _ rfl, HB1.out.alloc HB1.out.size _⟩
                            | exact ⟨_, rfl, pair_end _ _ HB1.out HB0.out.size ((HC1.out.block _ (by simp)).trans (hp_new _ _ _ rfl))⟩
                            | exact ⟨_, rfl, pair_end _ _ HB1.out (Nat.le_refl _) ((HC1.out.block _ hz1).trans ((HC0.out.block _ (by simp)).trans (hp_new _ _ _ rfl)))⟩
                        case rest =>
                          obtain ⟨g14, rfl, hg14, hb14⟩ := hcut.out
                          have HR4 := Lib.hid (HR3.out.keep hb14)
                          have HG14 := Lib.hid (cells_whole hg14)
                          clear hcut hb14 hg14 HR3 HN B0
                          obtain ⟨x0, hx0⟩ : ∃ x0, x0 = nv 0 := ⟨_, rfl⟩
                          obtain ⟨y0, hy0⟩ : ∃ y0, y0 = nv 8 := ⟨_, rfl⟩
                          rw [← hx0, ← hy0] at HPA HG14
                          clear hx0 hy0
                          have g0 := HG14.out 0 _ rfl
                          have g1 := HG14.out 1 _ rfl
                          have hnx := HNX.out
                          rw [HPA.out] at hnx
                          simp only at hnx
                          by_cases hx : x0 = 0
                          · have b0 : ((x0 : Int) != 0) = false := by rw [bne_eq_false_iff_eq]; omega
                            rw [if_neg (fun h => h.1 hx)] at hnx
                            have HNX2 := Lib.hid hnx
                            clear hx hnx g1
                            go_wp2_with fail
                            go_roundw
                            case rel => exact ⟨j + 1, ad2, cp2, by omega, by go_num, by rw [HNX2.out, HRR.out], by show (secRun M adr sl (j + 1)).1 = 0; rw [HNX2.out], by show RpSt _ _ _ _ _; rw [HNX2.out]; simp only; rw [← HRR.out]; exact HR4.out⟩
                            case measure => simp [intOf]; omega
                          have b0 : ((x0 : Int) != 0) = true := by rw [bne_iff_ne]; omega
                          by_cases hy : y0 = 0
                          · have b1 : ((y0 : Int) != 0) = false := by rw [bne_eq_false_iff_eq]; omega
                            rw [if_neg (fun h => h.2 hy)] at hnx
                            have HNX2 := Lib.hid hnx
                            clear hx hy hnx
                            go_wp2_with fail
                            go_roundw
                            case rel => exact ⟨j + 1, ad2, cp2, by omega, by go_num, by rw [HNX2.out, HRR.out], by show (secRun M adr sl (j + 1)).1 = 0; rw [HNX2.out], by show RpSt _ _ _ _ _; rw [HNX2.out]; simp only; rw [← HRR.out]; exact HR4.out⟩
                            case measure => simp [intOf]; omega
                          have b1 : ((y0 : Int) != 0) = true := by rw [bne_iff_ne]; omega
                          rw [if_pos ⟨hx, hy⟩] at hnx
                          have HNX2 : Hid (secRun M adr sl (j + 1) = (0, (secRun M adr sl j).2 ++ [(x0, y0)])) := hnx
                          have hz4 := HR4.out.below.size
                          have hlen : r2.length ≤ 20000 := by
                            have := secRun_len M adr sl j
                            rw [HRR.out, List.length_append]; omega
                          have HL1 : Hid (r2.length + 1 ≤ maxLen) := by show r2.length + 1 ≤ maxLen; unfold maxLen; omega
                          have HL2 : Hid ((r2.length + 1) * 16 ≤ 140737488355328) := by show (r2.length + 1) * 16 ≤ _; omega
                          obtain ⟨i88, hi88, hz88, hs88, hy88⟩ := info_parts info88
                          clear hx hy hnx
                          go_wp2_with (first
                            | (refine wpList_load_agg 88 (.tmp 14) rfl rfl g14 0 rfl #[.int .u64 (x0 : Int), .int .u64 (y0 : Int)] _ HG14.out Try.underlying88 rfl size88 ?_)
                            | (at_builtin; refine wpList_append_own _ rfl _ _ 82 rfl w.heap.size 88 i88 (.agg #[.int .u64 0, .int .u64 0]) 2 16 Try.underlying82 hi88 hz88 hs88 hy88 rfl (by decide) _ _ _ rfl (HR4.out.row.alloc _) ⟨wc.heap.size, 0, none⟩ 1 1 [.int .u64 (x0 : Int), .int .u64 (y0 : Int)] rfl rfl (World.news_of_block (hp_new wc _ _ rfl)) (by simp [Value.oneCell']) HL1.out HL2.out (by simp; omega) ?_; intro v5 w5 hown5 hgrow5 _; obtain ⟨a5, c5, rfl⟩ := ownsRow_shape hown5; have HR5 := Lib.hid (HR4.out.push ((Below.refl _ wc).alloc (Nat.le_refl _) _) (p := (x0, y0)) hown5 hgrow5); clear hown5 hgrow5))
                          go_roundw
                          case rel => exact ⟨j + 1, a5, c5, by omega, by go_num, by rw [HNX2.out, HRR.out]; simp only [List.length_append, List.length_singleton, Nat.add_assoc], by show (secRun M adr sl (j + 1)).1 = 0; rw [HNX2.out], by show RpSt _ _ _ _ _; rw [HNX2.out]; simp only; rw [← List.append_assoc, ← HRR.out, List.length_append]; exact HR5.out⟩
                          case measure => simp [intOf]; omega
                    · have hnx := HNEXT.out
                      rw [if_pos he] at hnx
                      have hse : (secRun M adr sl q).1 = readErr M a 16 := by rw [secRun_stuck (j := j + 1) (by rw [hnx]; exact he) (by omega), hnx]
                      obtain ⟨er, her⟩ : ∃ er, er = readErr M a 16 := ⟨_, rfl⟩
                      rw [← her] at he hse
                      have HF : Hid (∀ w', Below w.heap.size w w' → PairsRes w (pst M sl (want L.flatten)).err (pst M sl (want L.flatten)).out (.returned (.tuple #[.slice none 0 0, .int .i64 er])) w') := fun w' hb => HFIN.out er (by rw [HPS.out, if_pos (by rw [hse]; exact he), hse]) he w' hb
                      have HRD2 : Hid (∀ W, Below w.heap.size w W → Calls Try.prog 68 #[.pointer (some ⟨b, 0, none⟩), .int .u64 a, .int .u64 16] W fun e w' => e = .returned (.tuple #[.slice none 0 0, .int .i64 er]) ∧ Hid (Below W.heap.size W w')) := fun W hW => by
                        refine (HRD.out W hW).mono ?_
                        rintro e w' ⟨v', rfl, k1, k2, _⟩
                        rw [k2 (by rw [← her]; exact he), her]
                        exact ⟨rfl, k1⟩
                      have i2 : ((er : Int) != 0) = true := by rw [bne_iff_ne]; exact he
                      have HW0 : Hid (Below w.heap.size w wr) := HR2.out.below
                      clear HRD hnx hse her he HNEXT HFIN
                      go_wp2_with fail
                      go_cut [12, 13] (fun s12 s13 wx => Hid (s12 = .slice none 0 0 ∧ s13 = .int .i64 er ∧ Below wr.heap.size wr wx))
                      case first =>
                        go_region_with (go_at_call 68; refine (HRD2.out _ (by exact HB2.out.drew)).mono ?_; rintro e w9 ⟨rfl, k9⟩)
                        all_goals
                          go_simp
                          go_wp2_with fail
                          go_meet
                          exact ⟨rfl, rfl, (show Below wr.heap.size wr wr.drew from (Below.refl _ wr).drew).trans k9.out⟩
                      case rest =>
                        obtain ⟨rfl, rfl, hb9⟩ := hcut.out
                        have HB9 := Lib.hid (HW0.out.trans (below_le hb9 HW0.out.size))
                        clear hcut ca cz c25 hw1 hw2 HRD2 hb9
                        go_wp2_with fail
                        go_ret2
                        exact HF.out _ HB9.out
                  · obtain rfl : j = q := by omega
                    have i1 : ¬ 16 * (j : Int) < (sz : Int) := by have := HQ16.out; omega
                    have e : st' = ⟨m + j, r2, 0⟩ := by
                      rw [HPT.out, HPS.out, if_neg (by rw [HR0.out]; simp), HRR.out]
                    have E := Lib.hid e
                    clear e
                    go_wp2_with fail
                    go_roundw
                    case rel => exact ⟨k + 1, ad2, cp2, by omega, by go_num, by rw [← HST'.out, E.out, HCAST.out], by rw [← HST'.out, E.out], by show (rst M sl L i (k + 1)).err = 0; rw [← HST'.out, E.out], by show RpSt _ _ _ _ _; rw [← HST'.out, E.out]; exact HR2.out⟩
                    case measure => simp [intOf]; omega
            · have b1 : ((sz : Int) % 16 != 0) = true := by rw [bne_iff_ne]; omega
              rw [if_pos (by omega)] at hps
              have HF := Lib.hid (HFIN.out 9 (by rw [hps]) (by decide))
              clear hps HFIN c1
              go_wp2_with fail
              go_ret2
              exact HF.out _ HR1.out.below
          · have hk2 := hK (by unfold isPairs; simpa using h13)
            have b13 : ((c.x.kind : Int) != 13) = true := by rw [bne_iff_ne]; exact h13
            have HK2 := Lib.hid hk2
            clear hk2 hK hT hstop h13 cz ca
            go_wp2_with fail
            go_roundw
            case rel => exact ⟨k + 1, ad1, cp1, by omega, by go_num, by rw [← HST'.out, HK2.out], by rw [← HST'.out, HK2.out], by show (rst M sl L i (k + 1)).err = 0; rw [← HST'.out, HK2.out], by show RpSt _ _ _ _ _; rw [← HST'.out, HK2.out]; exact HR1.out⟩
            case measure => simp [intOf]; omega
        · obtain rfl : k = S.length := by omega
          go_wp2_with fail
          go_roundw
          case rel => exact ⟨i + 1, ad1, cp1, by omega, by go_num, by rw [HEND.out], by rw [HEND.out], by show (rst M sl L (i + 1) 0).err = 0; rw [← HEND.out]; exact HE1.out, by show RpSt _ _ _ _ _; rw [← HEND.out]; exact HR1.out⟩
          case measure => simp [intOf]; omega
    · obtain rfl : i = L.length := by omega
      have hz : pst M sl (want L.flatten) = rst M sl L L.length 0 := by unfold rst; rw [preS_last]
      have HZ := Lib.hid hz
      clear hz
      go_wp2_with fail
      go_ret2
      rw [HZ.out, HE.out]
      exact ⟨_, rfl, HR.out.below, fun h0 => absurd rfl h0, fun _ => HR.out.row⟩
end Go.Proofs.Ytepnaalgobhcdaa
namespace Go.Proofs.Ytepnaalgobhcdaa
open Go.RowKit Go.Shelf Spm
attribute [local go_sem] Oper.semAt_some

def FewRes21 (w : World) (n : Nat) (e : Ending) (w' : World) : Prop := ∃ bv : Bool, e = .returned (.bool bv) ∧ (bv = true → n ≤ 8) ∧ w = w'
theorem SegsC.seg0 {w : World} {a : Option Addr} {L : List (List SecC)} (h : SegsC w a L) {i : Nat} (hi : i < L.length) : ∃ bS oS a' c', a = some ⟨bS, oS, none⟩ ∧ w.cell? ⟨bS, oS + i * 7 + 6, none⟩ = some (.slice a' (L.getD i []).length c') ∧ (L.getD i []).length ≤ c' ∧ c' ≤ 9223372036854775807 := by
  obtain ⟨b, o, e, v0, v1, v2, v3, v4, v5, a', c', k1, k2, k3, k4⟩ := h i hi
  exact ⟨b, o, a', c', e, k1 6 _ rfl, k2, by unfold maxLen at k3; omega⟩

set_option maxHeartbeats 400000 in
set_option maxRecDepth 100000 in
theorem few21_any (w : World) (la : Option Addr) (lc : Nat) (l : List Im) (hI : ImsP w la l) (hlc : l.length ≤ lc) (hlm : lc ≤ 9223372036854775807) :
    Calls Try.prog 43 #[.slice la l.length lc] w (FewRes21 w l.length) := by
  have HI := Lib.hid hI
  clear hI
  go_enter Try.func43, Try.ntmps43
  go_wp2_with fail
  go_loop [3] (fun t => ∃ k : Nat, k ≤ l.length ∧ t = .int .i64 k) (fun t => l.length - (intOf t).toNat)
  case atStart => exact ⟨0, Nat.zero_le _, rfl⟩
  case round =>
    obtain ⟨k, hk, rfl⟩ := hrel
    by_cases hlt : k < l.length
    · obtain ⟨b, o, hla, cs, hcs, hx⟩ := HI.out k hlt
      rw [hla]
      obtain ⟨_, _, _, L, aS, cS, hsegs, hs5, ⟨hsl, hsm⟩, _⟩ := hx
      unfold maxLen at hsm
      have c5 := hcs 5 _ hs5
      have HS := Lib.hid hsegs
      clear hcs hs5 hla hsegs
      by_cases h2 : 4 < L.length
      · go_wp2_with fail
        go_ret
        exact ⟨false, rfl, by simp, rfl⟩
      · go_wp2_with fail
        go_loop [4] (fun t => ∃ j : Nat, j ≤ L.length ∧ t = .int .i64 j) (fun t => L.length - (intOf t).toNat)
        case atStart => exact ⟨0, Nat.zero_le _, rfl⟩
        case round =>
          obtain ⟨j, hj, rfl⟩ := hrel
          by_cases hlt2 : j < L.length
          · obtain ⟨b3, o3, a3, c3, hsa, d6, hq1, hq2⟩ := HS.out.seg0 hlt2
            rw [hsa] at c5
            generalize L.getD j [] = ss at *
            clear hsa
            by_cases h3 : 5 < ss.length
            · go_wp2_with fail
              go_ret
              exact ⟨false, rfl, by simp, rfl⟩
            · go_wp2_with fail
              go_round
              case rel => exact ⟨j + 1, by omega, by go_num⟩
              case measure => simp [intOf]; omega
          · go_wp2_with fail
            go_round
            case rel => exact ⟨k + 1, by omega, by go_num⟩
            case measure => simp [intOf]; omega
    · go_wp2_with fail
      go_ret
      exact ⟨_, rfl, by simp; omega, rfl⟩

/-! ### The table as rows -/
def flat3 (T : Tab) : List Value := T.flatMap fun p => [.int .u64 (p.1 : Int), .int .u64 (p.2.1 : Int), .int .i64 (p.2.2 : Int)]
theorem flat3_len (T : Tab) : (flat3 T).length = T.length * 3 := by
  induction T with
  | nil => rfl
  | cons x l ih => unfold flat3 at ih ⊢; simp only [List.flatMap_cons, List.length_append, ih, List.length_cons, List.length_nil]; omega
theorem flat3_snoc (T : Tab) (p : Nat × Nat × Nat) : flat3 (T ++ [p]) = flat3 T ++ [.int .u64 (p.1 : Int), .int .u64 (p.2.1 : Int), .int .i64 (p.2.2 : Int)] := by simp [flat3]
theorem flat3_at {l : Tab} {k : Nat} (hk : k < l.length) : (flat3 l)[k * 3]? = some (.int .u64 ((l.getD k (0, 0, 0)).1 : Int)) ∧ (flat3 l)[k * 3 + 1]? = some (.int .u64 ((l.getD k (0, 0, 0)).2.1 : Int)) ∧ (flat3 l)[k * 3 + 2]? = some (.int .i64 ((l.getD k (0, 0, 0)).2.2 : Int)) := by
  induction l generalizing k with
  | nil => simp at hk
  | cons x l ih =>
    have e : flat3 (x :: l) = .int .u64 (x.1 : Int) :: .int .u64 (x.2.1 : Int) :: .int .i64 (x.2.2 : Int) :: flat3 l := by simp [flat3]
    cases k with
    | zero => rw [e]; simp
    | succ k =>
      have := ih (k := k) (by simpa using hk)
      rw [e, show (k + 1) * 3 = k * 3 + 3 by omega]
      simpa using this
/-- A slice of rows that lies in memory. -/
def RowsIn (w : World) (B : Nat) (v : Value) (T : Tab) : Prop := w.ownsRow B 100 3 v T.length (flat3 T)
theorem RowsIn.nil (w : World) (B : Nat) : RowsIn w B (.slice none 0 0) [] := World.ownsRow_nil _ _ _ _
theorem RowsIn.at_ {W : World} {B : Nat} {v : Value} {l : Tab} (h : RowsIn W B v l) {k : Nat} (hk : k < l.length) : ∃ g cap, v = .slice (some ⟨g, 0, none⟩) l.length cap ∧ l.length ≤ cap ∧ cap ≤ 9223372036854775807 ∧ W.cell? ⟨g, k * 3, none⟩ = some (.int .u64 ((l.getD k (0, 0, 0)).1 : Int)) ∧ W.cell? ⟨g, k * 3 + 1, none⟩ = some (.int .u64 ((l.getD k (0, 0, 0)).2.1 : Int)) ∧ W.cell? ⟨g, k * 3 + 2, none⟩ = some (.int .i64 ((l.getD k (0, 0, 0)).2.2 : Int)) := by
  have h2 := h.2
  have hl := flat3_len l
  rcases h2 with ⟨rfl, h0⟩ | ⟨g, cap, cur, rfl, hb, hg, hc1, hc2, hs, ht⟩
  · omega
  · obtain ⟨f1, f2, f3⟩ := flat3_at hk
    refine ⟨g, cap, rfl, hc1, by unfold maxLen at hc2; omega, ?_, ?_, ?_⟩
    · rw [h.cellAt (k * 3) (by omega)]; exact f1
    · rw [h.cellAt (k * 3 + 1) (by omega)]; exact f2
    · rw [h.cellAt (k * 3 + 2) (by omega)]; exact f3
theorem RowsIn.keep {W W' : World} {B : Nat} {v : Value} {T : Tab} (h : RowsIn W B v T) (hb : Below W.heap.size W W') : RowsIn W' B v T := owns2_same h fun g hg => hb.block g (h.lt g hg).2
theorem RowsIn.shape {W : World} {B : Nat} {v : Value} {T : Tab} (h : RowsIn W B v T) : ∃ a c, v = .slice a T.length c := ownsRow_shape h
theorem tget_hit {T : Tab} {k i : Nat} (hb : ∀ j, j < i → (T.getD j (0, 0, 0)).1 ≠ k) (hi : i < T.length) (hk : (T.getD i (0, 0, 0)).1 = k) : tget T k = some (T.getD i (0, 0, 0)).2 := by
  induction T generalizing i with
  | nil => simp at hi
  | cons x T ih =>
    unfold tget
    cases i with
    | zero =>
      simp at hk
      simp [hk]
    | succ i =>
      have h0 := hb 0 (by omega)
      simp at h0
      have : (x.1 == k) = false := by simpa using h0
      rw [List.find?_cons, this]
      have h2 := ih (i := i) (fun j hj => by have := hb (j + 1) (by omega); simpa using this) (by simpa using hi) (by simpa using hk)
      simp only [List.getD_cons_succ]
      exact h2
theorem tget_miss {T : Tab} {k : Nat} (hb : ∀ j, j < T.length → (T.getD j (0, 0, 0)).1 ≠ k) : tget T k = none := by
  unfold tget
  rw [Option.map_eq_none_iff, List.find?_eq_none]
  intro x hx
  obtain ⟨j, hj, rfl⟩ := List.mem_iff_getElem.1 hx
  have := hb j hj
  rw [List.getD_eq_getElem?_getD, List.getElem?_eq_getElem hj] at this
  simpa using this
def FindRes (w : World) (T : Tab) (k : Nat) (e : Ending) (w' : World) : Prop :=
  w = w' ∧ ((tget T k = none ∧ e = .returned (.int .i64 (-1))) ∨ ∃ i : Nat, i < T.length ∧ tget T k = some (T.getD i (0, 0, 0)).2 ∧ e = .returned (.int .i64 i))

set_option maxHeartbeats 400000 in
set_option maxRecDepth 100000 in
theorem rfind_any (w : World) (B : Nat) (v : Value) (T : Tab) (h : RowsIn w B v T) (_hT : T.length < 9223372036854775807) (k : Nat) : Calls Try.prog 83 #[v, .int .u64 k] w (FindRes w T k) := by
  have H := Lib.hid h
  obtain ⟨a, c, rfl⟩ := h.shape
  clear h
  go_enter Try.func83, Try.ntmps83
  go_wp2_with fail
  go_loop [5] (fun t => ∃ i : Nat, i ≤ T.length ∧ t = .int .i64 i ∧ Hid (∀ j, j < i → (T.getD j (0, 0, 0)).1 ≠ k)) (fun t => T.length - (intOf t).toNat)
  case atStart => exact ⟨0, Nat.zero_le _, rfl, fun j hj => absurd hj (Nat.not_lt_zero j)⟩
  case round =>
    obtain ⟨i, hi, rfl, HB⟩ := hrel
    by_cases hlt : i < T.length
    · obtain ⟨g, cap, hv, hc1, hc2, c0, _, _⟩ := H.out.at_ hlt
      cases hv
      obtain ⟨x, hx⟩ : ∃ x, x = (T.getD i (0, 0, 0)).1 := ⟨_, rfl⟩
      rw [← hx] at c0
      have HX := Lib.hid hx
      clear hx
      by_cases e : x = k
      · have b1 : ((x : Int) == (k : Int)) = true := by rw [beq_iff_eq]; omega
        have hg : Hid (tget T k = some (T.getD i (0, 0, 0)).2) := tget_hit HB.out hlt (by rw [← HX.out]; exact e)
        clear e
        go_wp2_with fail
        go_ret
        exact ⟨rfl, .inr ⟨i, hlt, hg.out, rfl⟩⟩
      · have b1 : ((x : Int) == (k : Int)) = false := by rw [beq_eq_false_iff_ne]; omega
        have HB2 : Hid (∀ j, j < i + 1 → (T.getD j (0, 0, 0)).1 ≠ k) := fun j hj => by
          by_cases e2 : j = i
          · rw [e2, ← HX.out]; exact e
          · exact HB.out j (by omega)
        clear e
        go_wp2_with fail
        go_round
        case rel => exact ⟨i + 1, by omega, by go_num, HB2.out⟩
        case measure => simp [intOf]; omega
    · obtain rfl : i = T.length := by omega
      have hg : Hid (tget T k = none) := tget_miss HB.out
      go_wp2_with fail
      go_ret
      exact ⟨rfl, .inl ⟨hg.out, rfl⟩⟩
def tSwapZ (T : Tab) (i : Int) (a : Nat) : Nat := match tget T a with
  | some (tt, im) => if (im : Int) = i then a else tt
  | none => a
theorem tSwapZ_miss {T : Tab} {i : Int} {a : Nat} (h : tget T a = none) : tSwapZ T i a = a := by unfold tSwapZ; rw [h]
theorem tSwapZ_same {T : Tab} {i : Int} {a : Nat} {p : Nat × Nat} (h : tget T a = some p) (e : (p.2 : Int) = i) : tSwapZ T i a = a := by unfold tSwapZ; rw [h]; simp [e]
theorem tSwapZ_other {T : Tab} {i : Int} {a : Nat} {p : Nat × Nat} (h : tget T a = some p) (e : (p.2 : Int) ≠ i) : tSwapZ T i a = p.1 := by unfold tSwapZ; rw [h]; simp [e]

set_option maxHeartbeats 400000 in
set_option maxRecDepth 100000 in
theorem rswapped_any (w : World) (B : Nat) (v : Value) (T : Tab) (h : RowsIn w B v T) (hT : T.length < 9223372036854775807) (i : Int) (a : Nat) :
    Calls Try.prog 51 #[v, .int .i64 i, .int .u64 a] w fun e w' => e = .returned (.int .u64 (tSwapZ T i a : Int)) ∧ w = w' := by
  have H := Lib.hid h
  have HF := Lib.hid (rfind_any w B v T h hT a)
  obtain ⟨va, vc, rfl⟩ := h.shape
  clear h
  go_enter Try.func51, Try.ntmps51
  go_wp2_with fail
  refine HF.out.mono ?_
  rintro e w' ⟨rfl, h1⟩
  rcases h1 with ⟨h1, rfl⟩ | ⟨n, h1, h2, rfl⟩
  · have HM := Lib.hid (tSwapZ_miss (i := i) h1)
    clear h1
    go_wp2_with fail
    go_ret
    exact ⟨by rw [HM.out]; rfl, rfl⟩
  · obtain ⟨g, cap, hv, hc1, hc2, c0, c1, c2⟩ := H.out.at_ h1
    cases hv
    have H2 := Lib.hid h2
    have hn0 : ¬ (n : Int) < 0 := by omega
    obtain ⟨p, hp⟩ : ∃ p, p = (T.getD n (0, 0, 0)).2 := ⟨_, rfl⟩
    rw [← hp] at c1 c2 H2
    clear h2 hp c0
    obtain ⟨p1, p2⟩ := p
    simp only at c1 c2
    by_cases e : (p2 : Int) = i
    · have b1 : ((p2 : Int) == i) = true := by rw [beq_iff_eq]; exact e
      have HM := Lib.hid (tSwapZ_same (i := i) H2.out e)
      clear e
      go_wp2_with fail
      go_ret
      exact ⟨by rw [HM.out]; rfl, rfl⟩
    · have b1 : ((p2 : Int) == i) = false := by rw [beq_eq_false_iff_ne]; exact e
      have HM := Lib.hid (tSwapZ_other (i := i) H2.out e)
      clear e
      go_wp2_with fail
      go_ret
      exact ⟨by rw [HM.out]; rfl, rfl⟩
set_option maxRecDepth 100000 in
theorem swappedZ_any (w : World) (v : Value) (T : Tab) (h : SwVal w v T) (i : Int) (a : Nat) (ha : a < 18446744073709551616) :
    Calls Try.prog 50 #[v, .int .i64 i, .int .u64 a] w fun e w' => e = .returned (.int .u64 (tSwapZ T i a : Int)) ∧ Below w.heap.size w w' := by
  have HSV := Lib.hid h
  clear h
  cases hf : tget T a with
  | none =>
    have HFN := Lib.hid hf
    have HM := Lib.hid (tSwapZ_miss (i := i) hf)
    clear hf
    go_enter Try.func50, Try.ntmps50
    go_wp2_with (first
      | (refine wpList_sw_miss rfl (.tmp 10) (.tmp 11) rfl HSV.out rfl a ha rfl HFN.out ?_))
    go_ret
    exact ⟨by rw [HM.out]; rfl, (Below.refl _ _).alloc (Nat.le_refl _) _⟩
  | some q =>
    obtain ⟨r1, r2⟩ := q
    have HFN := Lib.hid hf
    clear hf
    by_cases e : (r2 : Int) = i
    · have b1 : ((r2 : Int) != i) = false := by rw [bne_eq_false_iff_eq]; exact e
      have HM := Lib.hid (tSwapZ_same (i := i) HFN.out e)
      clear e
      go_enter Try.func50, Try.ntmps50
      go_wp2_with (first
        | (refine wpList_sw_hit rfl (.tmp 10) (.tmp 11) rfl HSV.out rfl a ha rfl HFN.out ?_))
      go_ret
      exact ⟨by rw [HM.out]; rfl, (Below.refl _ _).alloc (Nat.le_refl _) _⟩
    · have b1 : ((r2 : Int) != i) = true := by rw [bne_iff_ne]; exact e
      have HM := Lib.hid (tSwapZ_other (i := i) HFN.out e)
      clear e
      go_enter Try.func50, Try.ntmps50
      go_wp2_with (first
        | (refine wpList_sw_hit rfl (.tmp 10) (.tmp 11) rfl HSV.out rfl a ha rfl HFN.out ?_))
      go_ret
      exact ⟨by rw [HM.out]; rfl, (Below.refl _ _).alloc (Nat.le_refl _) _⟩
end Go.Proofs.Ytepnaalgobhcdaa
namespace Go.Proofs.Ytepnaalgobhcdaa
open Go.RowKit Go.Shelf Spm
attribute [local go_sem] Oper.semAt_some

theorem secRun_good2 (M : List Pg) (addr slide : Nat) : ∀ j, ∀ p ∈ (secRun M addr slide j).2, p.2 ≠ 0
  | 0 => fun p h => by simp [secRun] at h
  | j + 1 => fun p h => by
    have ih := secRun_good2 M addr slide j
    unfold secRun at h
    split at h
    · exact ih p h
    · split at h
      · exact ih p h
      · split at h
        · rename_i h2
          rcases List.mem_append.1 h with h | h
          · exact ih p h
          · rw [List.mem_singleton] at h
            rw [h]; exact h2.2
        · exact ih p h
theorem pFold_good2 (M : List Pg) (slide : Nat) (l : List (Nat × Nat)) : ∀ p ∈ (pFold M slide l).out, p.2 ≠ 0 := by
  refine snoc_induction (p := fun l => ∀ p ∈ (pFold M slide l).out, p.2 ≠ 0) (by simp [pFold]) (fun l x ih => ?_) l
  show ∀ p ∈ (pFold M slide (l ++ [x])).out, _
  rw [pFold_snoc]
  unfold pStep
  split
  · exact ih
  · split
    · exact ih
    · split
      · exact ih
      · split
        · exact ih
        · intro p hp
          rcases List.mem_append.1 hp with h | h
          · exact ih p h
          · exact secRun_good2 M _ _ _ p h
/-- What Pairs hands back: no pairs where there is an error. -/
def pRes (s : PSt) : List (Nat × Nat) := if s.err = 0 then s.out else []
theorem pRes_good (M : List Pg) (p : Im) : ∀ x ∈ pRes (pOf M p), x.1 ≠ 0 ∧ x.2 ≠ 0 ∧ x.1 < 18446744073709551616 ∧ x.2 < 18446744073709551616 := by
  intro x hx
  unfold pRes at hx
  split at hx
  · have h1 := pFold_good M p.1 p.2 x hx
    exact ⟨h1.1, pFold_good2 M p.1 p.2 x hx, h1.2.1, h1.2.2⟩
  · cases hx
theorem pRes_len (M : List Pg) (p : Im) : (pRes (pOf M p)).length ≤ 20000 := by
  unfold pRes
  split
  · have := pFold_bound M p.1 p.2
    unfold pOf; omega
  · simp
theorem PairsRes.rows {w : World} {s : PSt} {e : Ending} {w' : World} (h : PairsRes w s.err s.out e w') : ∃ v, e = .returned (.tuple #[v, .int .i64 s.err]) ∧ Below w.heap.size w w' ∧ w'.ownsRow w.heap.size 88 2 v (pRes s).length (flat (pRes s)) := by
  obtain ⟨v, rfl, h1, h2, h3⟩ := h
  refine ⟨v, rfl, h1, ?_⟩
  unfold pRes
  by_cases he : s.err = 0
  · rw [if_pos he]; exact h3 he
  · rw [if_neg he, h2 he]; exact World.ownsRow_nil _ _ _ _
theorem lits88 (a b : Int) (ha : (Lit.int .u64 a).wf = true) (hb : (Lit.int .u64 b).wf = true) : Try.prog.keyLits 3 88 [.int .u64 a, .int .u64 b] = some [.int .u64 a, .int .u64 b] := by
  have c1 : Try.prog.cellsOf 88 = 2 := by kernel_rfl
  have c2 : Try.prog.cellsOf 32 = 1 := by kernel_rfl
  simp [Program.keyLits, Try.underlying88, Try.underlying32, ha, hb, c1, c2]
theorem neq88_same (a b : Nat) (ha : a < 18446744073709551616) (hb : b < 18446744073709551616) (w : World) : (binOp .neq 88 (.agg #[.int .u64 (a : Int), .int .u64 (b : Int)]) (.agg #[.int .u64 (a : Int), .int .u64 (b : Int)])).run Try.prog w = .ok (.bool false) w := by
  obtain ⟨r, h1, h2⟩ := run_equalIn_deep (P := Try.prog) 9990 10 88 (by kernel_rfl) w 3 3 (.agg #[.int .u64 (a : Int), .int .u64 (b : Int)]) (.agg #[.int .u64 (a : Int), .int .u64 (b : Int)]) _ _ (by kernel_rfl) (by kernel_rfl) (lits88 a b (wf_u ha) (wf_u hb)) (lits88 a b (wf_u ha) (wf_u hb))
  have hr : r = true := h2.2 rfl
  subst hr
  have : (Op.equal 88 (.agg #[.int .u64 (a : Int), .int .u64 (b : Int)]) (.agg #[.int .u64 (a : Int), .int .u64 (b : Int)])).run Try.prog w = .ok true w := h1
  simp only [binOp, Sem.run_bind, this, Result.andThen_ok]
  rfl
theorem load88 {W : World} {g o : Nat} {x y : Int} (h : CellsAt W g o #[.int .u64 x, .int .u64 y]) : (loadVar 88 ⟨g, o, none⟩).run Try.prog W = .ok (.agg #[.int .u64 x, .int .u64 y]) W :=
  run_loadVar_cells g o 88 #[.int .u64 x, .int .u64 y] _ h Try.underlying88 rfl size88

set_option maxHeartbeats 4000000 in
set_option maxRecDepth 100000 in
theorem ipairs_any (w : World) (aR : Option Addr) (cR : Nat) (lR : List RngM) (hR : Rngs w aR cR lR) (cs : Array Value) (p : Im) (hp : ImP w cs p) :
    Calls Try.prog 8 #[.slice aR lR.length cR, .agg cs] w (GivesB w (.bool true)) := by
  obtain ⟨i0, hi0, hz0, hs0⟩ := parts38
  have HK : Hid (∀ W, Calls Try.prog 44 #[] W (GivesB W (.bool true))) := known21_any
  have HRN : Hid (∀ W, Below w.heap.size w W → Rngs W aR cR lR) := fun W hW => hR.keep hW
  have HP : Hid (∀ W, Below w.heap.size w W → ImP W cs p) := fun W hW => hp.keep hW
  have hsz : cs.size = 27 := hp.1
  have HSZ := Lib.hid hsz
  have HSL : Hid (∀ c ∈ [cs], c.size = 27) := by show ∀ c ∈ [cs], c.size = 27; simp [hsz]
  have HC0 : Hid (CellsAt (w.alloc (.cells cs 38)) w.heap.size 0 cs) := cells_whole (hp_new _ _ _ rfl)
  clear hR hp hsz
  go_enter Try.func8, Try.ntmps8
  go_wp2_with (first
    | (refine wpList_load_agg 38 (.tmp 3) rfl rfl w.heap.size 0 rfl cs _ HC0.out Try.underlying38 rfl (by rw [HSZ.out]; kernel_rfl) ?_)
    | (refine wpList_buildSlice_aggs rfl 22 38 1 _ rfl i0 (.agg (oneCells (.slice none 0 0) 0)) Try.underlying22 hi0 hz0 27 hs0 [cs] rfl rfl HSL.out (by simp) ?_; intro cells hcells; have HCS := Lib.hid hcells; clear hcells))
  have hims := ims_built (w := w.alloc (.cells cs 38)) (css := [cs]) (l := [p]) rfl (fun j c hj => by
    match j, hj with
    | 0, hj => cases hj; exact HP.out _ ((Below.refl _ w).alloc (Nat.le_refl _) _)) HCS.out
  rw [show (w.alloc (.cells cs 38)).heap.size = w.heap.size + 1 by simp] at hims
  have hx : ((w.alloc (.cells cs 38)).alloc (.cells cells 38)).heap[w.heap.size]? = some (.cells cs 38 (0, 0)) := by
    rw [hp_old _ _ _ (by simp), hp_new _ _ _ rfl]
  have hb2 : Below w.heap.size w ((w.alloc (.cells cs 38)).alloc (.cells cells 38)) := ((Below.refl _ w).alloc (Nat.le_refl _) _).alloc (by simp) _
  refine (few21_any _ _ 1 [p] hims (Nat.le_refl _) (by decide)).mono ?_
  clear hims HCS HC0
  generalize ((w.alloc (.cells cs 38)).alloc (.cells cells 38)) = w2 at *
  rintro e w2' ⟨bv, rfl, _, rfl⟩
  have HX := Lib.hid hx
  have HB2 := Lib.hid hb2
  clear hx hb2
  cases bv with
  | false =>
    go_wp2_with fail
    refine (HK.out _).mono ?_
    rintro e w3 ⟨rfl, hb⟩
    have B3 := Lib.hid (HB2.out.trans (below_le hb HB2.out.size))
    clear hb
    go_wp2_with fail
    go_ret
    exact ⟨rfl, B3.out⟩
  | true =>
    go_wp2_with fail
    refine (memory21_any _ _ _ _ (HRN.out _ HB2.out)).mono ?_
    rintro e w3 (⟨_, rfl, hb3⟩ | ⟨_, s, r, rfl, htwo⟩)
    · have B3 := Lib.hid (HB2.out.trans (below_le hb3 HB2.out.size))
      clear hb3
      go_wp2_with fail
      refine (HK.out _).mono ?_
      rintro e w4 ⟨rfl, hb⟩
      have B4 := Lib.hid (B3.out.trans (below_le hb B3.out.size))
      clear hb
      go_wp2_with fail
      go_ret
      exact ⟨rfl, B4.out⟩
    · have B3 := Lib.hid (HB2.out.trans (below_le htwo.below HB2.out.size))
      have HX3 : Hid (CellsAt w3 w.heap.size 0 cs) := cells_whole ((htwo.below.block _ (lt_of_block HX.out)).trans HX.out)
      have HT := Lib.hid htwo
      obtain ⟨F, G, hsp, hrf, _⟩ := htwo.own
      have HSP := Lib.hid (pairs_im w3 s _ F hsp cs p (HP.out _ B3.out))
      have HRF : Hid (∀ W, Below w3.heap.size w3 W → RfIn W r (memM lR) G) := fun W hW => hrf.keepB hW
      have HGOOD := Lib.hid (pRes_good (memM lR) p)
      have hrl := pRes_len (memM lR) p
      generalize memM lR = M at *
      clear htwo hsp hrf HX HT
      go_wp2_with (refine wpList_load_agg 38 (.tmp 3) rfl rfl w.heap.size 0 rfl cs _ HX3.out Try.underlying38 rfl (by rw [HSZ.out]; kernel_rfl) ?_)
      refine HSP.out.mono ?_
      rintro e w4 h4
      obtain ⟨v1, rfl, hb4, ho4⟩ := h4.rows
      have HX4 : Hid (CellsAt w4 w.heap.size 0 cs) := HX3.out.keep hb4
      have HB4 := Lib.hid (B3.out.trans (below_le hb4 B3.out.size))
      have HO4 := Lib.hid ho4
      have HRP := Lib.hid (rpairs_any w4 r M G (HRF.out _ hb4) cs p (HP.out _ HB4.out))
      obtain ⟨a1, c1, rfl⟩ := ownsRow_shape ho4
      clear h4 hb4 ho4 HSP HX3 HRF B3
      go_wp2_with (refine wpList_load_agg 38 (.tmp 3) rfl rfl w.heap.size 0 rfl cs _ HX4.out Try.underlying38 rfl (by rw [HSZ.out]; kernel_rfl) ?_)
      refine HRP.out.mono ?_
      rintro e w5 h5
      obtain ⟨v2, rfl, hb5, ho5⟩ := h5.rows
      have HB5 := Lib.hid (HB4.out.trans (below_le hb5 HB4.out.size))
      have HO5 := Lib.hid ho5
      have HO45 := Lib.hid (row_keep HO4.out hb5)
      obtain ⟨a2, c2, rfl⟩ := ownsRow_shape ho5
      obtain ⟨pl, hpl⟩ : ∃ pl, pl = pRes (pOf M p) := ⟨_, rfl⟩
      rw [← hpl] at HO5 HO45 HGOOD hrl ⊢
      generalize (pOf M p).err = er at *
      clear h5 hb5 ho5 HO4 HX4 HRP HB4 hpl
      have b1 : ((er : Int) != er) = false := by simp
      go_wp2_with fail
      go_loopw [12] (fun t wr => ∃ k : Nat, k ≤ pl.length ∧ t = .int .i64 k ∧ Hid (Below w5.heap.size w5 wr)) (fun t _ => pl.length - (intOf t).toNat)
      case atStart => exact ⟨0, Nat.zero_le _, rfl, Below.refl _ _⟩
      case round =>
        obtain ⟨k, hk, rfl, HB⟩ := hrel
        by_cases hlt : k < pl.length
        · obtain ⟨g1, cp1, hg1, hc11, hc12, hcp1⟩ := row_pair (row_keep HO45.out HB.out) hlt
          obtain ⟨g2, cp2, hg2, hc21, hc22, hcp2⟩ := row_pair (row_keep HO5.out HB.out) hlt
          cases hg1
          cases hg2
          obtain ⟨q0, q1, q2, q3⟩ := HGOOD.out (pl.getD k (0, 0)) (by rw [List.getD_eq_getElem?_getD, List.getElem?_eq_getElem hlt]; exact List.getElem_mem hlt)
          unfold maxLen at hc12 hc22
          obtain ⟨pp, hpp⟩ : ∃ pp, pp = pl.getD k (0, 0) := ⟨_, rfl⟩
          rw [← hpp] at q0 q1 q2 q3 hcp1 hcp2
          clear hpp
          obtain ⟨x, y⟩ := pp
          simp only at q0 q1 q2 q3 hcp1 hcp2
          have c10 : wr.cell? ⟨g1, k * 2, none⟩ = some (.int .u64 (x : Int)) := hcp1 0 _ rfl
          have c11 : wr.cell? ⟨g1, k * 2 + 1, none⟩ = some (.int .u64 (y : Int)) := hcp1 1 _ rfl
          have c20 : wr.cell? ⟨g2, k * 2, none⟩ = some (.int .u64 (x : Int)) := hcp2 0 _ rfl
          have c21 : wr.cell? ⟨g2, k * 2 + 1, none⟩ = some (.int .u64 (y : Int)) := hcp2 1 _ rfl
          have n1 := neq88_same x y q2 q3
          have b1 : ((x : Int) == 0) = false := by rw [beq_eq_false_iff_ne]; omega
          have b2 : ((y : Int) == 0) = false := by rw [beq_eq_false_iff_ne]; omega
          clear hcp1 hcp2 q0 q1 q2 q3
          go_wp2_with fail
          go_quiet (fail)
          go_wp2_with fail
          go_roundw
          case rel => exact ⟨k + 1, by omega, by go_num, below_drewN HB.out nq⟩
          case measure => simp [intOf]; omega
        · obtain rfl : k = pl.length := by omega
          go_wp2_with fail
          refine (HK.out _).mono ?_
          rintro e w6 ⟨rfl, hb⟩
          have B6 := Lib.hid ((HB5.out.trans (below_le HB.out HB5.out.size)).trans (below_le hb (Nat.le_trans HB5.out.size HB.out.size)))
          clear hb
          go_wp2_with fail
          go_ret
          exact ⟨rfl, B6.out⟩
end Go.Proofs.Ytepnaalgobhcdaa
namespace Go.Proofs.Ytepnaalgobhcdaa
open Go.RowKit Go.WideShapes Go.ChangeShapes Spm

section
variable {H : Type} {enc : TypeId × Value → H} {w : World} {cs : List Value}
/-- All that reads at this type are values of one cell. -/
def OneT (t : TypeId) : Prop := ∀ {H : Type} {enc : TypeId × Value → H} {w : World} {cs : List Value}, Rd enc w t cs → ∀ v ∈ cs, v.oneCell' = true
theorem one_int {t : TypeId} {k : IntKind} (ht : Try.prog.underlying t = some (.int k)) : OneT t := fun h v hv => by
  obtain ⟨n, rfl, _⟩ := rd_int ht h
  rw [List.mem_singleton] at hv; rw [hv]; rfl
theorem one_string {t : TypeId} (ht : Try.prog.underlying t = some .string) : OneT t := fun h v hv => by
  obtain ⟨n, rfl⟩ := rd_string ht h
  rw [List.mem_singleton] at hv; rw [hv]; rfl
theorem one_bool {t : TypeId} (ht : Try.prog.underlying t = some .bool) : OneT t := fun {_ _ _ cs} h v hv => by
  obtain ⟨fuel, x, h⟩ := h
  cases fuel with
  | zero => simp [DataW.trod] at h
  | succ n =>
    unfold DataW.trod at h
    rw [ht] at h
    split at h <;> simp_all [Value.oneCell']
theorem one_slice {t e : TypeId} {m : Nat} (ht : Try.prog.underlying t = some (.slice e)) (hm : Try.prog.cellsOf e = m) (hpos : 0 < m) : OneT t := fun h v hv => by
  obtain ⟨a, n, c, rfl, _⟩ := rd_slice ht hm hpos h
  rw [List.mem_singleton] at hv; rw [hv]; rfl
theorem one_at {t i ft off j n : Nat} (hf : fieldOf Try.prog t i = some (ft, off)) (hn : Try.prog.cellsOf ft = n) (hp : OneT ft) (h : Rd enc w t cs) (h1 : off ≤ j) (h2 : j < off + n) {v : Value} (hv : cs[j]? = some v) : v.oneCell' = true := by
  obtain ⟨_, h3⟩ := rd_field hf h
  rw [hn] at h3
  refine hp h3 v (List.mem_of_getElem? (i := j - off) ?_)
  rw [List.getElem?_take, if_pos (by omega), List.getElem?_drop, show off + (j - off) = j by omega]; exact hv
end
theorem fc (t i ft off n : Nat) (h : fieldOf Try.prog t i = some (ft, off) ∧ Try.prog.cellsOf ft = n) : fieldOf Try.prog t i = some (ft, off) ∧ Try.prog.cellsOf ft = n := h
theorem one34 : OneT 34 := fun {_ _ _ cs} h v hv => by
  have hl : cs.length = 2 := (rd_field (show fieldOf Try.prog 34 0 = some (32, 0) by kernel_rfl) h).1.trans (by kernel_rfl)
  obtain ⟨j, hj, rfl⟩ := List.mem_iff_getElem.1 hv
  have hg : cs[j]? = some cs[j] := List.getElem?_eq_getElem hj
  by_cases h0 : j < 1
  · exact one_at (show fieldOf Try.prog 34 0 = some (32, 0) by kernel_rfl) (show Try.prog.cellsOf 32 = 1 by kernel_rfl) (one_int Try.underlying32) h (by omega) h0 hg
  by_cases h1 : j < 2
  · exact one_at (show fieldOf Try.prog 34 1 = some (32, 1) by kernel_rfl) (show Try.prog.cellsOf 32 = 1 by kernel_rfl) (one_int Try.underlying32) h (by omega) h1 hg
  omega
theorem one36 : OneT 36 := fun {_ _ _ cs} h v hv => by
  have hl : cs.length = 24 := (rd_field (show fieldOf Try.prog 36 0 = some (28, 0) by kernel_rfl) h).1.trans (by kernel_rfl)
  obtain ⟨j, hj, rfl⟩ := List.mem_iff_getElem.1 hv
  have hg : cs[j]? = some cs[j] := List.getElem?_eq_getElem hj
  by_cases h0 : j < 1
  · exact one_at (show fieldOf Try.prog 36 0 = some (28, 0) by kernel_rfl) (show Try.prog.cellsOf 28 = 1 by kernel_rfl) (one_int Try.underlying28) h (by omega) h0 hg
  by_cases h1 : j < 2
  · exact one_at (show fieldOf Try.prog 36 1 = some (3, 1) by kernel_rfl) (show Try.prog.cellsOf 3 = 1 by kernel_rfl) (one_int Try.underlying3) h (by omega) h1 hg
  by_cases h2 : j < 3
  · exact one_at (show fieldOf Try.prog 36 2 = some (29, 2) by kernel_rfl) (show Try.prog.cellsOf 29 = 1 by kernel_rfl) (one_int Try.underlying29) h (by omega) h2 hg
  by_cases h3 : j < 4
  · exact one_at (show fieldOf Try.prog 36 3 = some (9, 3) by kernel_rfl) (show Try.prog.cellsOf 9 = 1 by kernel_rfl) (one_string Try.underlying9) h (by omega) h3 hg
  by_cases h4 : j < 5
  · exact one_at (show fieldOf Try.prog 36 4 = some (30, 4) by kernel_rfl) (show Try.prog.cellsOf 30 = 1 by kernel_rfl) (one_slice Try.underlying30 c128 (by decide)) h (by omega) h4 hg
  by_cases h5 : j < 6
  · exact one_at (show fieldOf Try.prog 36 5 = some (31, 5) by kernel_rfl) (show Try.prog.cellsOf 31 = 1 by kernel_rfl) (one_slice Try.underlying31 c136 (by decide)) h (by omega) h5 hg
  by_cases h6 : j < 8
  · exact one_at (show fieldOf Try.prog 36 6 = some (34, 6) by kernel_rfl) (show Try.prog.cellsOf 34 = 2 by kernel_rfl) (one34) h (by omega) h6 hg
  by_cases h7 : j < 10
  · exact one_at (show fieldOf Try.prog 36 7 = some (34, 8) by kernel_rfl) (show Try.prog.cellsOf 34 = 2 by kernel_rfl) (one34) h (by omega) h7 hg
  by_cases h8 : j < 12
  · exact one_at (show fieldOf Try.prog 36 8 = some (34, 10) by kernel_rfl) (show Try.prog.cellsOf 34 = 2 by kernel_rfl) (one34) h (by omega) h8 hg
  by_cases h9 : j < 14
  · exact one_at (show fieldOf Try.prog 36 9 = some (34, 12) by kernel_rfl) (show Try.prog.cellsOf 34 = 2 by kernel_rfl) (one34) h (by omega) h9 hg
  by_cases h10 : j < 16
  · exact one_at (show fieldOf Try.prog 36 10 = some (34, 14) by kernel_rfl) (show Try.prog.cellsOf 34 = 2 by kernel_rfl) (one34) h (by omega) h10 hg
  by_cases h11 : j < 18
  · exact one_at (show fieldOf Try.prog 36 11 = some (34, 16) by kernel_rfl) (show Try.prog.cellsOf 34 = 2 by kernel_rfl) (one34) h (by omega) h11 hg
  by_cases h12 : j < 20
  · exact one_at (show fieldOf Try.prog 36 12 = some (34, 18) by kernel_rfl) (show Try.prog.cellsOf 34 = 2 by kernel_rfl) (one34) h (by omega) h12 hg
  by_cases h13 : j < 22
  · exact one_at (show fieldOf Try.prog 36 13 = some (34, 20) by kernel_rfl) (show Try.prog.cellsOf 34 = 2 by kernel_rfl) (one34) h (by omega) h13 hg
  by_cases h14 : j < 23
  · exact one_at (show fieldOf Try.prog 36 14 = some (32, 22) by kernel_rfl) (show Try.prog.cellsOf 32 = 1 by kernel_rfl) (one_int Try.underlying32) h (by omega) h14 hg
  by_cases h15 : j < 24
  · exact one_at (show fieldOf Try.prog 36 15 = some (4, 23) by kernel_rfl) (show Try.prog.cellsOf 4 = 1 by kernel_rfl) (one_bool Try.underlying4) h (by omega) h15 hg
  omega
theorem one38 : OneT 38 := fun {_ _ _ cs} h v hv => by
  have hl : cs.length = 27 := (rd_field (show fieldOf Try.prog 38 0 = some (9, 0) by kernel_rfl) h).1.trans (by kernel_rfl)
  obtain ⟨j, hj, rfl⟩ := List.mem_iff_getElem.1 hv
  have hg : cs[j]? = some cs[j] := List.getElem?_eq_getElem hj
  by_cases h0 : j < 1
  · exact one_at (show fieldOf Try.prog 38 0 = some (9, 0) by kernel_rfl) (show Try.prog.cellsOf 9 = 1 by kernel_rfl) (one_string Try.underlying9) h (by omega) h0 hg
  by_cases h1 : j < 25
  · exact one_at (show fieldOf Try.prog 38 1 = some (36, 1) by kernel_rfl) (show Try.prog.cellsOf 36 = 24 by kernel_rfl) (one36) h (by omega) h1 hg
  by_cases h2 : j < 26
  · exact one_at (show fieldOf Try.prog 38 2 = some (32, 25) by kernel_rfl) (show Try.prog.cellsOf 32 = 1 by kernel_rfl) (one_int Try.underlying32) h (by omega) h2 hg
  by_cases h3 : j < 27
  · exact one_at (show fieldOf Try.prog 38 3 = some (25, 26) by kernel_rfl) (show Try.prog.cellsOf 25 = 1 by kernel_rfl) (one_slice Try.underlying25 c3 (by decide)) h (by omega) h3 hg
  omega
section
variable {H : Type} {enc : TypeId × Value → H} {w : World} {cs : List Value}
theorem rd_imP (hl : cs.length = 27) (h : Rd enc w 38 cs) : ∃ p : Im, ImP w cs.toArray p := by
  have hone := one38 h
  obtain ⟨_, hi⟩ := rd_field f38_1 h
  rw [c36] at hi
  obtain ⟨sa, sn, sc, e5, hs1, hs2, hs3⟩ := at_slice f36_4 c30 Try.underlying30 c128 (by decide) hi
  obtain ⟨n, e25, hw⟩ := at_int f38_2 c32 Try.underlying32 h
  obtain ⟨m, rfl, hb⟩ := wf_u64 hw
  obtain ⟨segs, hsl, hss⟩ := slice_list (Q := fun x => SegAt w x) ⟨0, 0, 0, 0, 0, []⟩ hs3 (fun b o ⟨ds, h1, h2, h3⟩ => rd_seg h1 h2 h3)
  have g5 := sub_get (l := cs) rfl e5
  obtain ⟨L, hL1, hL2⟩ := segs_choose hss
  have hlen : L.length = segs.length := by have := congrArg List.length hL1; simpa using this
  refine ⟨(m, (want L.flatten).map ps), by simpa using hl, ?_, by simpa using e25, L, sa, sc, hL2, ?_, ⟨by omega, hs2⟩, rfl⟩
  · rw [Array.all_eq_true_iff_forall_mem]
    intro x hx
    exact hone x (by simpa using hx)
  · rw [hlen, hsl]; simpa using g5
theorem rd_imsP (h : Rd enc w 22 cs) : ∃ (a : Option Addr) (c : Nat) (l : List Im), cs = [.slice a l.length c] ∧ ImsP w a l ∧ l.length ≤ c ∧ c ≤ maxLen := by
  obtain ⟨a, n, c, rfl, h1, h2, h3⟩ := rd_slice Try.underlying22 c38 (by decide) h
  obtain ⟨l, hl, hs⟩ := slice_list (Q := fun x => ImPAt w x) (0, []) h3 (fun b o ⟨ds, h1, h2, h3⟩ => by
    obtain ⟨p, hp⟩ := rd_imP h1 h3
    exact ⟨p, _, h2, hp⟩)
  subst hl
  exact ⟨a, c, l, rfl, hs, h1, h2⟩
theorem rd_bytes {a : Option Addr} {n : Nat} (h : SliceOf a n 1 fun _ b o => ∃ ds : List Value, ds.length = 1 ∧ CellsAt w b o ds.toArray ∧ Rd enc w 5 ds) : ∃ l : List UInt8, l.length = n ∧ (0 < l.length → ∃ sb so, a = some ⟨sb, so, none⟩ ∧ BytesIn w sb so l) := by
  obtain ⟨l, hl, hs⟩ := slice_list (Q := fun (x : UInt8) b o => w.cell? ⟨b, o, none⟩ = some (byteVal x)) 0 h (fun b o ⟨ds, h1, h2, h3⟩ => by
    obtain ⟨n, rfl, hw⟩ := rd_int Try.underlying5 h3
    have := bounds_u8 hw
    refine ⟨UInt8.ofNat n.toNat, ?_⟩
    have := h2 0 (.int .u8 n) rfl
    rw [Nat.add_zero] at this
    rw [this]
    unfold byteVal
    rw [UInt8.toNat_ofNat']
    congr 2
    omega)
  subst hl
  refine ⟨l, rfl, fun h0 => ?_⟩
  obtain ⟨b, o, e, _⟩ := hs 0 h0
  refine ⟨b, o, e, fun i hi => ?_⟩
  obtain ⟨b', o', e', h'⟩ := hs i hi
  rw [e] at e'
  cases e'
  rw [Nat.mul_one] at h'
  exact h'
theorem f159_0 : fieldOf Try.prog 159 0 = some (32, 0) := by kernel_rfl
theorem f159_1 : fieldOf Try.prog 159 1 = some (3, 1) := by kernel_rfl
theorem f159_2 : fieldOf Try.prog 159 2 = some (3, 2) := by kernel_rfl
theorem f159_3 : fieldOf Try.prog 159 3 = some (57, 3) := by kernel_rfl
theorem c57 : Try.prog.cellsOf 57 = 1 := by kernel_rfl
theorem c5 : Try.prog.cellsOf 5 = 1 := by kernel_rfl
theorem c159 : Try.prog.cellsOf 159 = 4 := by kernel_rfl
theorem rd_rng {b o : Nat} (hl : cs.length = 4) (hc : CellsAt w b o cs.toArray) (h : Rd enc w 159 cs) : ∃ x : RngM, RngAt w x b o := by
  obtain ⟨n0, e0, w0⟩ := at_int f159_0 c32 Try.underlying32 h
  obtain ⟨n1, e1, w1⟩ := at_int f159_1 c3 Try.underlying3 h
  obtain ⟨n2, e2, _⟩ := at_int f159_2 c3 Try.underlying3 h
  obtain ⟨a, n, c, e3, h1, h2, h3⟩ := at_slice f159_3 c57 Try.underlying57 c5 (by decide) h
  obtain ⟨m, rfl, hb⟩ := wf_u64 w0
  obtain ⟨bs, rfl, hbs⟩ := rd_bytes h3
  have : cs = [.int .u64 m, .int .i64 n1, .int .i64 n2, .slice a bs.length c] := by
    match cs, hl with
    | [_, _, _, _], _ => simp_all
  subst this
  exact ⟨⟨m, n1, n2, bs⟩, a, c, hb, wf_i64 w1, h1, h2, hc, hbs⟩
theorem rd_rngs (h : Rd enc w 79 cs) : ∃ (a : Option Addr) (c : Nat) (l : List RngM), cs = [.slice a l.length c] ∧ Rngs w a c l := by
  obtain ⟨a, n, c, rfl, h1, h2, h3⟩ := rd_slice Try.underlying79 c159 (by decide) h
  obtain ⟨l, hl, hs⟩ := slice_list (Q := fun x => RngAt w x) ⟨0, 0, 0, []⟩ h3 (fun b o ⟨ds, h1, h2, h3⟩ => rd_rng h1 h2 h3)
  subst hl
  exact ⟨a, c, l, rfl, h1, h2, hs⟩
end
theorem nat_of_u64 {a : Int} (h : (Lit.int .u64 a).wf = true) : ∃ n : Nat, a = (n : Int) := by
  have : 0 ≤ a := by simp [Lit.wf, IntKind.min, IntKind.signed] at h; omega
  exact ⟨a.toNat, by omega⟩
theorem lt_of_u64 {n : Nat} (h : (Lit.int .u64 (n : Int)).wf = true) : n < 18446744073709551616 := by
  have := bounds_u64 h; omega
theorem rd_imsC {H : Type} {enc : TypeId × Value → H} {w : World} {cs : List Value} (h : Rd enc w 22 cs) : ∃ (a : Option Addr) (c : Nat) (l : List Im), cs = [.slice a l.length c] ∧ (ImsP w a l ∧ l.length ≤ c ∧ c ≤ maxLen) := rd_imsP h
end Go.Proofs.Ytepnaalgobhcdaa
