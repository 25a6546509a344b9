/- clevislaw21.known: the walk. -/
import Derived.Test.YtepnaalgobhcdaaIpL
import Derived.Deep.AppendLies
import Derived.DeepKeys
import Derived.Test.YtepnaalgobhcdaaBld
namespace Go.Proofs.Ytepnaalgobhcdaa
open Go.RowKit Go.Shelf Spm

/-- A slice of images, written out. -/
theorem ims_built {w : World} {css : List (Array Value)} {l : List Im} (hl : css.length = l.length) (h : ∀ j cs, css[j]? = some cs → ImP w cs (l.getD j (0, []))) {cells : Array Value} (hc : ∀ i c, css[i]? = some c → ∀ j v, c[j]? = some v → cells[i * 27 + j]? = some v) :
    ImsP (w.alloc (.cells cells 38)) (some ⟨w.heap.size, 0, none⟩) l := fun j hj => by
  have hj2 : j < css.length := by omega
  have hg : css[j]? = some css[j] := List.getElem?_eq_getElem hj2
  refine ⟨w.heap.size, 0, rfl, css[j], fun i v hi => ?_, (h j _ hg).keep ((Below.refl _ w).alloc (Nat.le_refl _) _)⟩
  have := hc j _ hg i v hi
  simp only [World.cell?, heap_alloc_new, Nat.zero_add]
  exact this
theorem lits97 (a b : Int) (ha : (Lit.int .u64 a).wf = true) (hb : (Lit.int .i64 b).wf = true) : Try.prog.keyLits 3 97 [.int .u64 a, .int .i64 b] = some [.int .u64 a, .int .i64 b] := by
  have c1 : Try.prog.cellsOf 97 = 2 := by kernel_rfl
  have c2 : Try.prog.cellsOf 32 = 1 := by kernel_rfl
  have c3 : Try.prog.cellsOf 3 = 1 := by kernel_rfl
  simp [Program.keyLits, Try.underlying97, Try.underlying32, Try.underlying3, ha, hb, c1, c2, c3]
theorem eq97 (a b c d : Int) (w : World) (ha : (Lit.int .u64 a).wf = true) (hb : (Lit.int .i64 b).wf = true) (hc : (Lit.int .u64 c).wf = true) (hd : (Lit.int .i64 d).wf = true) :
    ∃ r : Bool, (binOp .eql 97 (.agg #[.int .u64 a, .int .i64 b]) (.agg #[.int .u64 c, .int .i64 d])).run Try.prog w = .ok (.bool r) w ∧ (r = true ↔ (a = c ∧ b = d)) := by
  obtain ⟨r, h1, h2⟩ := run_equalIn_deep (P := Try.prog) 9990 10 97 (by kernel_rfl) w 3 3 (.agg #[.int .u64 a, .int .i64 b]) (.agg #[.int .u64 c, .int .i64 d]) _ _ (by kernel_rfl) (by kernel_rfl) (lits97 a b ha hb) (lits97 c d hc hd)
  refine ⟨r, ?_, by rw [h2]; simp⟩
  have : (Op.equal 97 (.agg #[.int .u64 a, .int .i64 b]) (.agg #[.int .u64 c, .int .i64 d])).run Try.prog w = .ok r w := h1
  simp only [binOp, Sem.run_bind, this, Result.andThen_ok]
  rfl
theorem wf_u {n : Nat} (h : n < 18446744073709551616) : (Lit.int .u64 (n : Int)).wf = true := WalkArith.wf_u64 (by omega)
theorem wf_i {n : Nat} (h : n < 9223372036854775808) : (Lit.int .i64 (n : Int)).wf = true := WalkArith.wf_i64 (by omega)
theorem eq97_same (a b : Nat) (ha : a < 18446744073709551616) (hb : b < 9223372036854775808) (w : World) : (binOp .eql 97 (.agg #[.int .u64 (a : Int), .int .i64 (b : Int)]) (.agg #[.int .u64 (a : Int), .int .i64 (b : Int)])).run Try.prog w = .ok (.bool true) w := by
  obtain ⟨r, h1, h2⟩ := eq97 a b a b w (wf_u ha) (wf_i hb) (wf_u ha) (wf_i hb)
  rw [h1, h2.2 ⟨rfl, rfl⟩]
section
variable {ops : Array Oper} {rest : List Oper} {o : Oper} {a : Act} {w : World} {Q : Exit → Act → World → Prop}
theorem wpList_sw_get (hw : Region.wanted o (yielded ops a.tmps) = true) (m x : Operand) (hop : o.op = Op.lookup 90 m x false) {v : Value} {T : Tab} (h : SwVal w v T) (hm : a.eval m = v) (k : Int) (hx : a.eval x = .int .u64 k) (n : Nat) (hk : k = (n : Int)) (hn : n < 18446744073709551616) {r1 r2 : Nat} (hf : tget T n = some (r1, r2)) (i1 i2 : Int) (e1 : (r1 : Int) = i1) (e2 : (r2 : Int) = i2)
    (hK : wpList Try.prog ops Q rest (a.put o.dst (.agg #[.int .u64 i1, .int .i64 i2])) w) : wpList Try.prog ops Q (o :: rest) a w := by
  subst e1 e2 hk
  refine wpList_sw hw m x hop h hm n hn hx ?_
  rw [hf]; exact hK
theorem wpList_sw_lenI (hw : Region.wanted o (yielded ops a.tmps) = true) (m : Operand) (hop : o.op = Op.call { callee := Callee.builtin Builtin.len, args := #[m], argTypes := #[90] }) {v : Value} {T : Tab} (h : SwVal w v T) (hm : a.eval m = v) (i : Int) (hi : (T.length : Int) = i)
    (hK : wpList Try.prog ops Q rest (a.put o.dst (.int .i64 i)) w) : wpList Try.prog ops Q (o :: rest) a w := by
  subst hi
  exact wpList_sw_len hw m hop h hm hK
end
theorem row_bytes {W : World} {B n : Nat} {v : Value} {bs : List UInt8} (h : W.ownsRow B 5 1 v n (bs.map byteVal)) (hn : 0 < n) : ∃ g cap, v = .slice (some ⟨g, 0, none⟩) n cap ∧ n ≤ cap ∧ cap ≤ maxLen ∧ BytesIn W g 0 bs := by
  have hl := h.1
  rcases h.2 with ⟨rfl, h0⟩ | ⟨g, cap, cur, rfl, hb, hg, hc1, hc2, hs, ht⟩
  · omega
  · refine ⟨g, cap, rfl, hc1, hc2, fun j hj => ?_⟩
    rw [List.length_map] at hl
    rw [Nat.zero_add, h.cellAt j (by omega), List.getElem?_map, List.getElem?_eq_getElem hj, List.getD_eq_getElem?_getD, List.getElem?_eq_getElem hj]; rfl
theorem parts38 : ∃ i, Try.prog.info? 38 = some i ∧ i.zero = some (.agg (oneCells (.slice none 0 0) 0)) ∧ i.size = 27 := by
  have h : (Try.prog.info? 38).map (fun i => (i.zero, i.size)) = some (some (.agg (oneCells (.slice none 0 0) 0)), 27) := by kernel_rfl
  obtain ⟨i, hi, he⟩ := Option.map_eq_some_iff.1 h
  exact ⟨i, hi, congrArg Prod.fst he, congrArg Prod.snd he⟩
theorem k21_row : (pairCells 7 5).toList ++ (pairCells 8 5).toList ++ (pairCells 9 6).toList = k21bytes.map byteVal := by kernel_rfl

set_option maxHeartbeats 4000000 in
set_option maxRecDepth 100000 in
theorem known21_any (w : World) : Calls Try.prog 44 #[] w (GivesB w (.bool true)) := by
  have HPA : Hid (∀ (W : World) (x y : Int), Calls Try.prog 79 #[.int .u8 x, .int .u8 y] W fun e w' => e = .returned (.slice (some ⟨W.heap.size, 0, none⟩) 16 16) ∧ w' = W.alloc (.cells (pairCells x y) 5)) := pair_any
  obtain ⟨i5, hi5, hz5, hs5, hy5⟩ := info_parts infoU8
  go_enter Try.func44, Try.ntmps44
  go_wp2_with fail
  go_at_call 79
  refine (HPA.out _ 7 5).mono ?_
  rintro e w1 ⟨rfl, hw1⟩
  have hA : w1.heap[w.heap.size]? = some (.cells (pairCells 7 5) 5 (0, 0)) := by rw [hw1]; exact hp_new _ _ _ rfl
  have hb1 : Below w.heap.size w w1 := by rw [hw1]; exact (Below.refl _ w).alloc (Nat.le_refl _) _
  have hz1 : w1.heap.size = w.heap.size + 1 := by rw [hw1]; simp
  clear hw1
  go_wp2_with fail
  go_at_call 79
  refine (HPA.out _ 8 5).mono ?_
  rintro e w2 ⟨rfl, hw2⟩
  have hA2 : w2.heap[w.heap.size]? = some (.cells (pairCells 7 5) 5 (0, 0)) := by rw [hw2, hp_old _ _ _ (by omega)]; exact hA
  have hB2 : w2.heap[w1.heap.size]? = some (.cells (pairCells 8 5) 5 (0, 0)) := by rw [hw2]; exact hp_new _ _ _ rfl
  have hb2 : Below w.heap.size w w2 := by rw [hw2]; exact hb1.alloc hb1.size _
  have hz2 : w.heap.size ≤ w2.heap.size := hb2.size
  have hown2 : w2.ownsRow w.heap.size 5 1 (.slice (some ⟨w.heap.size, 0, none⟩) 16 16) 16 (pairCells 7 5).toList := ⟨rfl, .inr ⟨w.heap.size, 16, _, rfl, Nat.le_refl _, hA2, Nat.le_refl _, by unfold maxLen; decide, rfl, rfl⟩⟩
  have HOWN2 := Lib.hid hown2
  rw [hz1] at hB2
  have HN2 := Lib.hid (World.news_of_block hB2)
  have HB2 := Lib.hid hb2
  clear hw2 hA hb1 hA2 hB2 hown2 hb2
  go_wp2_with (at_builtin; refine wpList_append_own _ rfl _ _ 57 rfl w.heap.size 5 i5 (.int .u8 0) 1 1 Try.underlying57 hi5 hz5 hs5 hy5 rfl (by decide) _ _ _ rfl HOWN2.out ⟨w.heap.size + 1, 0, none⟩ 16 16 (pairCells 8 5).toList rfl rfl HN2.out (by decide) (by unfold maxLen; decide) (by decide) hz2 ?_; intro v3 w3 hown3 hgrow3 _)
  obtain ⟨a3, c3, rfl⟩ := ownsRow_shape hown3
  have hb3 : Below w.heap.size w w3 := HB2.out.grown hgrow3 hz2 (fun k e => (HOWN2.out.lt k e).1)
  go_at_call 79
  refine (HPA.out _ 9 6).mono ?_
  rintro e w4 ⟨rfl, hw4⟩
  have hC4 : w4.heap[w3.heap.size]? = some (.cells (pairCells 9 6) 5 (0, 0)) := by rw [hw4]; exact hp_new _ _ _ rfl
  have hb4 : Below w.heap.size w w4 := by rw [hw4]; exact hb3.alloc hb3.size _
  have hz4 : w.heap.size ≤ w4.heap.size := hb4.size
  have HOWN4 : Hid (w4.ownsRow w.heap.size 5 1 (.slice a3 (16 + 16) c3) (16 + 16) ((pairCells 7 5).toList ++ (pairCells 8 5).toList)) := by rw [hw4]; exact hown3.alloc _
  have HN4 := Lib.hid (World.news_of_block hC4)
  have HB4 := Lib.hid hb4
  clear hw4 hC4 hb4 hown3 hgrow3 hb3 hz2 HN2 HOWN2 HB2
  go_wp2_with (at_builtin; refine wpList_append_own _ rfl _ _ 57 rfl w.heap.size 5 i5 (.int .u8 0) 1 1 Try.underlying57 hi5 hz5 hs5 hy5 rfl (by decide) _ _ _ rfl HOWN4.out ⟨w3.heap.size, 0, none⟩ 16 16 (pairCells 9 6).toList rfl rfl HN4.out (by decide) (by unfold maxLen; decide) (by decide) hz4 ?_; intro v5 w5 hown5 hgrow5 _; obtain ⟨a5, c5, rfl⟩ := ownsRow_shape hown5)
  have hb5 : Below w.heap.size w w5 := HB4.out.grown hgrow5 hz4 (fun k e => (HOWN4.out.lt k e).1)
  rw [k21_row] at hown5
  have hown6 := hown5.alloc (.cells #[.int .u64 65536, .int .i64 1, .int .i64 3, .slice a5 48 c5] 159)
  obtain ⟨g5, cp, hg5, hcp1, hcp2, hby⟩ := row_bytes (bs := k21bytes) hown6 (by decide)
  cases hg5
  have hrng : Rngs (w5.alloc (.cells #[.int .u64 65536, .int .i64 1, .int .i64 3, .slice (some ⟨g5, 0, none⟩) 48 c5] 159)) (some ⟨w5.heap.size, 0, none⟩) 1 k21 := by
    refine ⟨Nat.le_refl _, by unfold maxLen; omega, fun j hj => ?_⟩
    obtain rfl : j = 0 := by simpa [k21] using hj
    exact ⟨w5.heap.size, 0, rfl, some ⟨g5, 0, none⟩, c5, by decide, by decide, hcp1, hcp2, cells_whole (hp_new _ _ _ rfl), fun _ => ⟨g5, 0, rfl, hby⟩⟩
  have hmem := memory21_any _ _ _ _ hrng
  have hb6 := hb5.alloc hb5.size (.cells #[.int .u64 65536, .int .i64 1, .int .i64 3, .slice (some ⟨g5, 0, none⟩) 48 c5] 159)
  refine hmem.mono ?_
  clear hown5 hown6 hgrow5 hrng hmem hby hb5 HB4 HN4 HOWN4 HPA
  generalize (w5.alloc (.cells #[.int .u64 65536, .int .i64 1, .int .i64 3, .slice (some ⟨g5, 0, none⟩) 48 c5] 159)) = w6 at *
  rintro e w7 (⟨h1, _⟩ | ⟨_, s, r, rfl, htwo⟩)
  · rw [k21_ok] at h1; cases h1
  obtain ⟨F, G, hsp, _⟩ := htwo.own
  have hb7 := hb6.trans (below_le htwo.below hb6.size)
  have HSP := Lib.hid hsp
  have HB7 := Lib.hid hb7
  clear htwo hsp hb7 hb6
  obtain ⟨i0, hi0, hz0, hs0⟩ : ∃ i, Try.prog.info? 38 = some i ∧ i.zero = some (.agg (oneCells (.slice none 0 0) 0)) ∧ i.size = 27 := parts38
  go_wp2_with fail
  refine (one_any _ 0 16 65536 (by decide) (by decide)).mono ?_
  rintro e w8 ⟨o1, rfl, hb8, hi1⟩
  have hb8' := HB7.out.trans (below_le hb8 HB7.out.size)
  have HSP8 := Lib.hid (HSP.out.keepB hb8)
  have HI1 := Lib.hid hi1
  have HB8 := Lib.hid hb8'
  clear HSP HB7 hb8 hi1 hb8'
  go_wp2_with fail
  refine (one_any _ 65552 32 0 (by decide) (by decide)).mono ?_
  rintro e w9 ⟨o2, rfl, hb9, hi2⟩
  have hb9' := HB8.out.trans (below_le hb9 HB8.out.size)
  have HSP9 := Lib.hid (HSP8.out.keepB hb9)
  have HI1' := Lib.hid (HI1.out.keep hb9)
  have HI2 := Lib.hid hi2
  have HB9 := Lib.hid hb9'
  have HSZ : Hid (∀ c ∈ [oneCells (.slice none 0 0) 0, o1, o2], c.size = 27) := fun c hc => by
    simp only [List.mem_cons, List.not_mem_nil, or_false] at hc
    rcases hc with rfl | rfl | rfl
    · rfl
    · exact HI1'.out.1
    · exact hi2.1
  clear HSP8 HB8 HI1 hb9 hi2 hb9'
  go_wp2_with (guard_target =~ wpList _ _ _ ({ dst := some 26, op := _, type := _, pos := _, after := _, guard := _ } :: _) _ _; go_must (refine wpList_buildSlice_aggs rfl 22 38 3 _ rfl i0 (.agg (oneCells (.slice none 0 0) 0)) Try.underlying22 hi0 hz0 27 hs0 [oneCells (.slice none 0 0) 0, o1, o2] rfl rfl HSZ.out (by simp) ?_); intro cells hcells; have HCS := Lib.hid hcells; clear hcells)
  have hims := ims_built (w := w9) (css := [oneCells (.slice none 0 0) 0, o1, o2]) (l := k21Im) rfl (fun j cs hj => by
    match j, hj with
    | 0, hj => cases hj; exact zero_im _
    | 1, hj => cases hj; exact HI1'.out
    | 2, hj => cases hj; exact HI2.out) HCS.out
  have hb10 := (Below.refl w9.heap.size w9).alloc (Nat.le_refl _) (.cells cells 38)
  have htm := tmap_any _ s _ F (HSP9.out.keepB hb10) _ 3 k21Im hims (by decide) (Nat.le_refl _)
  refine htm.mono ?_
  rintro e w11 ⟨v, rfl, hb11, hsv⟩
  have hb11' := HB9.out.trans (below_le (hb10.trans (below_le hb11 hb10.size)) HB9.out.size)
  obtain ⟨q1, q2, q3⟩ := k21_tab
  rw [q1] at hsv
  rw [q2, q3]
  have HSV := Lib.hid hsv
  have HB11 := Lib.hid hb11'
  clear hims hb10 htm hb11 hsv hb11' HCS HSZ HSP9 HB9 HI1' HI2 q1 q2 q3
  have hea : ∀ W, (binOp .eql 97 (.agg #[.int .u64 1792, .int .i64 1]) (.agg #[.int .u64 1792, .int .i64 1])).run Try.prog W = .ok (.bool true) W := eq97_same 1792 1 (by decide) (by decide)
  have heb : ∀ W, (binOp .eql 97 (.agg #[.int .u64 2304, .int .i64 2]) (.agg #[.int .u64 2304, .int .i64 2])).run Try.prog W = .ok (.bool true) W := eq97_same 2304 2 (by decide) (by decide)
  have HS0 : Hid (∀ W, Below w11.heap.size w11 W → Calls Try.prog 50 #[v, .int .i64 0, .int .u64 1280] W fun e w' => e = .returned (.int .u64 1792) ∧ Below W.heap.size W w') := fun W hW => swapped_any W v _ (HSV.out.keepB hW) 0 (by decide) 0 1280 rfl (by decide)
  have HS1 : Hid (∀ W, Below w11.heap.size w11 W → Calls Try.prog 50 #[v, .int .i64 1, .int .u64 1280] W fun e w' => e = .returned (.int .u64 1280) ∧ Below W.heap.size W w') := fun W hW => swapped_any W v _ (HSV.out.keepB hW) 1 (by decide) 1 1280 rfl (by decide)
  go_wp2_with (first
    | (refine wpList_sw_lenI rfl (.tmp 34) rfl HSV.out rfl 2 rfl ?_)
    | (refine wpList_sw_get rfl (.tmp 39) (.const (.int .u64 1280)) rfl HSV.out rfl 1280 rfl 1280 rfl (by decide) (r1 := 1792) (r2 := 1) rfl 1792 1 rfl rfl ?_)
    | (refine wpList_sw_get rfl (.tmp 45) (.const (.int .u64 1536)) rfl HSV.out rfl 1536 rfl 1536 rfl (by decide) (r1 := 2304) (r2 := 2) rfl 2304 2 rfl rfl ?_))
  refine (HS0.out _ (Below.refl _ _)).mono ?_
  rintro e w12 ⟨rfl, hb12⟩
  have B12 := Lib.hid hb12
  clear hb12 HS0
  go_wp2_with fail
  refine (HS1.out _ B12.out).mono ?_
  rintro e w13 ⟨rfl, hb13⟩
  have B13 := Lib.hid hb13
  clear hb13 HS1
  go_wp2_with fail
  go_ret
  exact ⟨rfl, HB11.out.trans (below_le (B12.out.step B13.out) HB11.out.size)⟩
end Go.Proofs.Ytepnaalgobhcdaa
