/- OrderBounds: the walk. -/
import Derived.Test.YtepnaalgobhcdaaOkA
import Derived.Test.YtepnaalgobhcdaaBnF
import Derived.Test.YtepnaalgobhcdaaBnB
namespace Go.Proofs.Ytepnaalgobhcdaa
open Go.RowKit Go.Shelf Spm Clv

def zIm : Array Value := oneCells (.slice none 0 0) 0
theorem z_inits {W w1 : World} {z : Nat} {M : List Pg} (h : ZSt W z M w1) {a : Option Addr} {ls : List OIm} (hI : OIms w1 a ls) {l : List ImgM} (hG : Imgs w1 a l.length l) (hll : l.length = ls.length) (hl : ls.length ≤ 50) {at_ : Nat} {er : Int} (ht : iAll M ls = fun _ => ⟨[], at_, er⟩) {n : Nat} (hn : n = ls.length) :
    Calls Try.prog 55 #[.pointer (some ⟨z, 0, none⟩), .slice a n n] w1 fun e w' => ∃ ad cp, e = .returned (.tuple #[.slice ad 0 cp, .int .i64 (at_ : Int), .int .i64 er]) ∧ ZSt W z M w' := by
  subst hn
  obtain ⟨F, h1, h2, h3⟩ := h
  have C := inits_any w1 z M F h1 a l.length ls hI l hG hll hl
  rw [hll] at C
  refine C.mono ?_
  rintro e w' hres
  obtain ⟨v, rfl, hb, hv⟩ := hres.all
  rw [ht] at hv ⊢
  obtain ⟨ad, cp, rfl⟩ := ownsRow_shape hv
  exact ⟨ad, cp, rfl, F, h1.keepB hb, h2, h3.step hb⟩
theorem z_one23 {W w1 : World} {z : Nat} {M : List Pg} (h : ZSt W z M w1) (kind : Int) (a n s : Nat) (ha : a < 18446744073709551616) (hn : n < 18446744073709551616) (hs : s < 18446744073709551616) (hk : (Lit.int .i64 kind).wf = true) :
    Calls Try.prog 54 #[.int .i64 kind, .int .u64 a, .int .u64 n, .int .u64 s] w1 fun e w' => ∃ cs, e = .returned (.agg cs) ∧ Below w1.heap.size w1 w' ∧ ZSt W z M w' ∧ BothI w' cs (oneO kind a n s ha hn) (oneI kind a n s) := by
  refine (one23_any w1 kind a n s ha hn hs hk).mono ?_
  rintro e w' ⟨cs, rfl, hb, hi⟩
  exact ⟨cs, rfl, hb, h.keep hb, hi⟩
theorem inits_nil (w : World) : Calls Try.prog 55 #[.pointer none, .slice none 0 0] w fun e w' => e = .returned (.tuple #[.slice none 0 0, .int .i64 0, .int .i64 1]) ∧ Below w.heap.size w w' := by
  go_enter Try.func55, Try.ntmps55
  go_wp2_with fail
  go_ret3
  exact ⟨rfl, Below.refl _ w⟩
theorem of_nil (w : World) (cs : Array Value) : Calls Try.prog 53 #[.pointer none, .agg cs] w fun e w' => e = .returned (.tuple #[.slice none 0 0, .int .i64 1]) ∧ Below w.heap.size w w' := by
  go_enter Try.func53, Try.ntmps53
  go_wp2_with fail
  go_ret2
  exact ⟨rfl, (Below.refl _ w).alloc (Nat.le_refl _) _⟩

set_option maxHeartbeats 4000000 in
set_option maxRecDepth 100000 in
theorem obounds_any (w : World) : Calls Try.prog 13 #[] w (GivesB w (.bool true)) := by
  obtain ⟨i0, hi0, hz0, hs0⟩ := parts38
  go_enter Try.func13, Try.ntmps13
  go_wp2_with fail
  refine (new_any w).mono ?_
  rintro e w1 ⟨rfl, k1, k2, _⟩
  have Z1 : Hid (ZSt w (w.heap.size + 1) [] w1) := ⟨_, k1, fun k hk => hk.1, k2⟩
  clear k1 k2
  go_wp2_with fail
  refine (z_map Z1.out 4096 4096 (by decide) 5 kb1 rfl).mono ?_
  rintro e w2 ⟨rfl, k1⟩
  have Z2 : Hid (ZSt w (w.heap.size + 1) kB1 w2) := k1
  clear k1 Z1
  go_wp2_with fail
  refine (z_map Z2.out 8192 163840 (by decide) 3 kb2 rfl).mono ?_
  rintro e w3 ⟨rfl, k1⟩
  have Z3 : Hid (ZSt w (w.heap.size + 1) kB w3) := k1
  clear k1 Z2
  go_wp2_with fail
  refine (inits_nil _).mono ?_
  rintro e w4 ⟨rfl, k1⟩
  have Z4 := Lib.hid (Z3.out.keep k1)
  clear k1 Z3
  go_wp2_with fail
  refine (z_one23 Z4.out 9 8192 12 0 (by decide) (by decide) (by decide) (by decide)).mono ?_
  rintro e w5 ⟨o5, rfl, kb5, k1, k2⟩
  have Z5 := Lib.hid k1
  have I5 := Lib.hid k2
  clear k1 k2 Z4
  clear kb5
  have HC5 : Hid (∀ c ∈ [zIm, o5], c.size = 27) := by
    have h5 := I5.out.1.1
    show ∀ c ∈ [zIm, o5], c.size = 27
    simp [h5, zIm, oneCells]
  go_wp2_with (refine wpList_buildSlice_aggs rfl 22 38 2 _ rfl i0 (.agg zIm) Try.underlying22 hi0 hz0 27 hs0 [zIm, o5] rfl rfl HC5.out (by simp) ?_; intro cells hcells; have HCS := Lib.hid hcells; clear hcells)
  have hims := both_built (w := w5) (css := [zIm, o5]) (ls := [⟨0, []⟩, oneO 9 8192 12 0 (by decide) (by decide)]) (l := [⟨0, [], [], []⟩, oneI 9 8192 12 0]) rfl rfl (by decide) (fun j cs hj => by
    match j, hj with
    | 0, hj => cases hj; exact zero_both _
    | 1, hj => cases hj; exact I5.out) HCS.out
  refine (z_inits (Z5.out.alloc _) hims.1 hims.2 rfl (by decide) kc1 rfl).mono ?_
  rintro e w6 ⟨ad6, cp6, rfl, k1⟩
  have Z6 := Lib.hid k1
  clear k1 hims HCS Z5 HC5 cells
  go_wp2_with fail
  refine (z_one23 Z6.out 22 8192 80000 0 (by decide) (by decide) (by decide) (by decide)).mono ?_
  rintro e w7 ⟨o7, rfl, kb7, k1, k2⟩
  have Z7 := Lib.hid k1
  have I7 := Lib.hid k2
  clear k1 k2 Z6
  clear kb7
  go_wp2_with fail
  refine (z_one23 Z7.out 22 8192 80004 0 (by decide) (by decide) (by decide) (by decide)).mono ?_
  rintro e w8 ⟨o8, rfl, kb8, k1, k2⟩
  have Z8 := Lib.hid k1
  have I8 := Lib.hid k2
  clear k1 k2 Z7
  have I7' := Lib.hid (I7.out.keep kb8)
  clear kb8 I7
  have I7 := Lib.hid I7'.out
  clear I7'
  have HC8 : Hid (∀ c ∈ [o7, o8], c.size = 27) := by
    have h7 := I7.out.1.1
    have h8 := I8.out.1.1
    show ∀ c ∈ [o7, o8], c.size = 27
    simp [h7, h8]
  go_wp2_with (refine wpList_buildSlice_aggs rfl 22 38 2 _ rfl i0 (.agg zIm) Try.underlying22 hi0 hz0 27 hs0 [o7, o8] rfl rfl HC8.out (by simp) ?_; intro cells hcells; have HCS := Lib.hid hcells; clear hcells)
  have hims := both_built (w := w8) (css := [o7, o8]) (ls := [oneO 22 8192 80000 0 (by decide) (by decide), oneO 22 8192 80004 0 (by decide) (by decide)]) (l := [oneI 22 8192 80000 0, oneI 22 8192 80004 0]) rfl rfl (by decide) (fun j cs hj => by
    match j, hj with
    | 0, hj => cases hj; exact I7.out
    | 1, hj => cases hj; exact I8.out) HCS.out
  refine (z_inits (Z8.out.alloc _) hims.1 hims.2 rfl (by decide) kc2 rfl).mono ?_
  rintro e w9 ⟨ad9, cp9, rfl, k1⟩
  have Z9 := Lib.hid k1
  clear k1 hims HCS Z8 HC8 cells
  go_wp2_with fail
  refine (z_one23 Z9.out 9 8192 8 0 (by decide) (by decide) (by decide) (by decide)).mono ?_
  rintro e w10 ⟨o10, rfl, kb10, k1, k2⟩
  have Z10 := Lib.hid k1
  have I10 := Lib.hid k2
  clear k1 k2 Z9
  clear kb10
  have HC10 : Hid (∀ c ∈ [zIm, zIm, o10], c.size = 27) := by
    have h10 := I10.out.1.1
    show ∀ c ∈ [zIm, zIm, o10], c.size = 27
    simp [h10, zIm, oneCells]
  go_wp2_with (refine wpList_buildSlice_aggs rfl 22 38 3 _ rfl i0 (.agg zIm) Try.underlying22 hi0 hz0 27 hs0 [zIm, zIm, o10] rfl rfl HC10.out (by simp) ?_; intro cells hcells; have HCS := Lib.hid hcells; clear hcells)
  have hims := both_built (w := w10) (css := [zIm, zIm, o10]) (ls := [⟨0, []⟩, ⟨0, []⟩, oneO 9 8192 8 0 (by decide) (by decide)]) (l := [⟨0, [], [], []⟩, ⟨0, [], [], []⟩, oneI 9 8192 8 0]) rfl rfl (by decide) (fun j cs hj => by
    match j, hj with
    | 0, hj => cases hj; exact zero_both _
    | 1, hj => cases hj; exact zero_both _
    | 2, hj => cases hj; exact I10.out) HCS.out
  refine (z_inits (Z10.out.alloc _) hims.1 hims.2 rfl (by decide) kc3 rfl).mono ?_
  rintro e w11 ⟨ad11, cp11, rfl, k1⟩
  have Z11 := Lib.hid k1
  clear k1 hims HCS Z10 HC10 cells
  go_wp2_with fail
  refine (z_one23 Z11.out 9 204800 8 0 (by decide) (by decide) (by decide) (by decide)).mono ?_
  rintro e w12 ⟨o12, rfl, kb12, k1, k2⟩
  have Z12 := Lib.hid k1
  have I12 := Lib.hid k2
  clear k1 k2 Z11
  clear kb12
  have HC12 : Hid (∀ c ∈ [o12], c.size = 27) := by
    have h12 := I12.out.1.1
    show ∀ c ∈ [o12], c.size = 27
    simp [h12]
  go_wp2_with (refine wpList_buildSlice_aggs rfl 22 38 1 _ rfl i0 (.agg zIm) Try.underlying22 hi0 hz0 27 hs0 [o12] rfl rfl HC12.out (by simp) ?_; intro cells hcells; have HCS := Lib.hid hcells; clear hcells)
  have hims := both_built (w := w12) (css := [o12]) (ls := [oneO 9 204800 8 0 (by decide) (by decide)]) (l := [oneI 9 204800 8 0]) rfl rfl (by decide) (fun j cs hj => by
    match j, hj with
    | 0, hj => cases hj; exact I12.out) HCS.out
  refine (z_inits (Z12.out.alloc _) hims.1 hims.2 rfl (by decide) kc4 rfl).mono ?_
  rintro e w13 ⟨ad13, cp13, rfl, k1⟩
  have Z13 := Lib.hid k1
  clear k1 hims HCS Z12 HC12 cells
  have HC13 : Hid (∀ c ∈ [zIm, zIm], c.size = 27) := by
    show ∀ c ∈ [zIm, zIm], c.size = 27
    simp [zIm, oneCells]
  go_wp2_with (refine wpList_buildSlice_aggs rfl 22 38 2 _ rfl i0 (.agg zIm) Try.underlying22 hi0 hz0 27 hs0 [zIm, zIm] rfl rfl HC13.out (by simp) ?_; intro cells hcells; have HCS := Lib.hid hcells; clear hcells)
  have hims := both_built (w := w13) (css := [zIm, zIm]) (ls := [⟨0, []⟩, ⟨0, []⟩]) (l := [⟨0, [], [], []⟩, ⟨0, [], [], []⟩]) rfl rfl (by decide) (fun j cs hj => by
    match j, hj with
    | 0, hj => cases hj; exact zero_both _
    | 1, hj => cases hj; exact zero_both _) HCS.out
  refine (z_inits (Z13.out.alloc _) hims.1 hims.2 rfl (by decide) (kc5 _) rfl).mono ?_
  rintro e w14 ⟨ad14, cp14, rfl, k1⟩
  have Z14 := Lib.hid k1
  clear k1 hims HCS Z13 HC13 cells
  go_wp2_with fail
  refine (of_nil _ zIm).mono ?_
  rintro e w15 ⟨rfl, k1⟩
  have Z15 := Lib.hid (Z14.out.keep k1)
  clear k1 Z14
  go_wp2_with fail
  refine (known_true _).mono ?_
  rintro e w16 ⟨rfl, k1⟩
  have Z16 := Lib.hid (Z15.out.keep k1)
  clear k1 Z15
  go_wp2_with fail
  go_ret
  exact ⟨rfl, Z16.out.below⟩
end Go.Proofs.Ytepnaalgobhcdaa
