/- InterposeBounds: the walk. -/
import Derived.Test.YtepnaalgobhcdaaBnD
namespace Go.Proofs.Ytepnaalgobhcdaa
open Go.RowKit Go.Shelf Spm

theorem z_tmap {W w1 : World} {z : Nat} {M : List Pg} (h : ZSt W z M w1) {a : Option Addr} {l : List Im} (hI : ImsP w1 a l) (hl : l.length < 50) {T : Tab} {at_ : Nat} {er : Int} (ht : tMap M l = ⟨T, at_, er⟩) {n c : Nat} (hn : n = l.length) (hc : l.length ≤ c) :
    Calls Try.prog 48 #[.pointer (some ⟨z, 0, none⟩), .slice a n c] w1 fun e w' => ∃ v, e = .returned (.tuple #[v, .int .i64 (at_ : Int), .int .i64 er]) ∧ ZSt W z M w' ∧ SwVal w' v T := by
  subst hn
  obtain ⟨F, h1, h2, h3⟩ := h
  refine (tmap_any w1 z M F h1 a c l hI hl hc).mono ?_
  rintro e w' ⟨v, rfl, hb, hv⟩
  rw [ht] at hv ⊢
  exact ⟨v, rfl, ⟨F, h1.keepB hb, h2, h3.step hb⟩, hv⟩
theorem z_one {W w1 : World} {z : Nat} {M : List Pg} (h : ZSt W z M w1) (a n s : Nat) (ha : a < 18446744073709551616) (hn : n < 18446744073709551616) :
    Calls Try.prog 52 #[.int .u64 a, .int .u64 n, .int .u64 s] w1 fun e w' => ∃ cs, e = .returned (.agg cs) ∧ Below w1.heap.size w1 w' ∧ ZSt W z M w' ∧ ImP w' cs (s, [(a, n)]) := by
  refine (one_any w1 a n s ha hn).mono ?_
  rintro e w' ⟨cs, rfl, hb, hi⟩
  exact ⟨cs, rfl, hb, h.keep hb, hi⟩
abbrev zIm : Array Value := oneCells (.slice none 0 0) 0

set_option maxHeartbeats 4000000 in
set_option maxRecDepth 100000 in
theorem bounds_any (w : World) : Calls Try.prog 10 #[] w (GivesB w (.bool true)) := by
  obtain ⟨i0, hi0, hz0, hs0⟩ := parts38
  go_enter Try.func10, Try.ntmps10
  go_wp2_with fail
  refine (new_any w).mono ?_
  rintro e w1 ⟨rfl, k1, k2, _⟩
  have Z1 : Hid (ZSt w (w.heap.size + 1) [] w1) := ⟨_, k1, fun k hk => hk.1, k2⟩
  clear k1 k2
  go_wp2_with fail
  refine (z_map Z1.out 4096 327680 (by decide) 3 b1 rfl).mono ?_
  rintro e w2 ⟨rfl, k1⟩
  have Z2 : Hid (ZSt w (w.heap.size + 1) bM1 w2) := k1
  clear k1 Z1
  go_wp2_with fail
  refine (z_map Z2.out 819200 4096 (by decide) 2 b2 rfl).mono ?_
  rintro e w3 ⟨rfl, k1⟩
  have Z3 : Hid (ZSt w (w.heap.size + 1) bM w3) := k1
  clear k1 Z2
  go_wp2_with fail
  refine (tmap_nil _ _).mono ?_
  rintro e w4 ⟨v4, rfl, k1, _⟩
  have Z4 := Lib.hid (Z3.out.keep k1)
  clear k1 Z3
  go_wp2_with fail
  refine (z_one Z4.out 4096 17 0 (by decide) (by decide)).mono ?_
  rintro e w5 ⟨o5, rfl, _, k1, k2⟩
  have Z5 := Lib.hid k1
  have I5 := Lib.hid k2
  have H5 : Hid (∀ c ∈ [zIm, o5], c.size = 27) := by
    have := k2.1
    show ∀ c ∈ [zIm, o5], c.size = 27
    simp [this, zIm, oneCells]
  clear k1 k2 Z4
  go_wp2_with (refine wpList_buildSlice_aggs rfl 22 38 2 _ rfl i0 (.agg zIm) Try.underlying22 hi0 hz0 27 hs0 [zIm, o5] rfl rfl H5.out (by simp) ?_; intro cells hcells; have HCS := Lib.hid hcells; clear hcells)
  have hims := ims_built (w := w5) (css := [zIm, o5]) (l := [(0, []), (0, [(4096, 17)])]) rfl (fun j cs hj => by
    match j, hj with
    | 0, hj => cases hj; exact zero_im _
    | 1, hj => cases hj; exact I5.out) HCS.out
  refine (z_tmap (Z5.out.alloc _) hims (by decide) tm1 rfl (Nat.le_refl _)).mono ?_
  rintro e w6 ⟨v6, rfl, k1, _⟩
  have Z6 := Lib.hid k1
  clear k1 hims HCS Z5 I5 H5 cells
  go_wp2_with fail
  refine (z_one Z6.out 4096 320000 0 (by decide) (by decide)).mono ?_
  rintro e w7 ⟨o7, rfl, _, k1, k2⟩
  have Z7 := Lib.hid k1
  have I7 := Lib.hid k2
  clear k1 k2 Z6
  go_wp2_with fail
  refine (z_one Z7.out 4096 320016 0 (by decide) (by decide)).mono ?_
  rintro e w8 ⟨o8, rfl, kb, k1, k2⟩
  have Z8 := Lib.hid k1
  have I7' := Lib.hid (I7.out.keep kb)
  have I8 := Lib.hid k2
  have H8 : Hid (∀ c ∈ [o7, o8], c.size = 27) := by
    have h7 := I7.out.1
    have h8 := k2.1
    show ∀ c ∈ [o7, o8], c.size = 27
    simp [h7, h8]
  clear kb k1 k2 Z7 I7
  go_wp2_with (refine wpList_buildSlice_aggs rfl 22 38 2 _ rfl i0 (.agg zIm) Try.underlying22 hi0 hz0 27 hs0 [o7, o8] rfl rfl H8.out (by simp) ?_; intro cells hcells; have HCS := Lib.hid hcells; clear hcells)
  have hims := ims_built (w := w8) (css := [o7, o8]) (l := [(0, [(4096, 320000)]), (0, [(4096, 320016)])]) rfl (fun j cs hj => by
    match j, hj with
    | 0, hj => cases hj; exact I7'.out
    | 1, hj => cases hj; exact I8.out) HCS.out
  refine (z_tmap (Z8.out.alloc _) hims (by decide) tm2 rfl (Nat.le_refl _)).mono ?_
  rintro e w9 ⟨v9, rfl, k1, _⟩
  have Z9 := Lib.hid k1
  clear k1 hims HCS Z8 I7' I8 H8 cells
  go_wp2_with fail
  refine (z_one Z9.out 331768 16 0 (by decide) (by decide)).mono ?_
  rintro e w10 ⟨o10, rfl, kb, k1, k2⟩
  have Z10 := Lib.hid k1
  have I10 := Lib.hid k2
  have H10 : Hid (∀ c ∈ [zIm, zIm, o10], c.size = 27) := by
    have h8 := k2.1
    show ∀ c ∈ [zIm, zIm, o10], c.size = 27
    simp [h8, zIm, oneCells]
  clear kb k1 k2 Z9
  go_wp2_with (refine wpList_buildSlice_aggs rfl 22 38 3 _ rfl i0 (.agg zIm) Try.underlying22 hi0 hz0 27 hs0 [zIm, zIm, o10] rfl rfl H10.out (by simp) ?_; intro cells hcells; have HCS := Lib.hid hcells; clear hcells)
  have hims := ims_built (w := w10) (css := [zIm, zIm, o10]) (l := [(0, []), (0, []), (0, [(331768, 16)])]) rfl (fun j cs hj => by
    match j, hj with
    | 0, hj => cases hj; exact zero_im _
    | 1, hj => cases hj; exact zero_im _
    | 2, hj => cases hj; exact I10.out) HCS.out
  refine (z_tmap (Z10.out.alloc _) hims (by decide) tm3 rfl (Nat.le_refl _)).mono ?_
  rintro e w11 ⟨v11, rfl, k1, _⟩
  have Z11 := Lib.hid k1
  clear k1 hims HCS Z10 I10 H10 cells
  go_wp2_with fail
  refine (z_one Z11.out 819200 16 0 (by decide) (by decide)).mono ?_
  rintro e w12 ⟨o12, rfl, kb, k1, k2⟩
  have Z12 := Lib.hid k1
  have I12 := Lib.hid k2
  have H12 : Hid (∀ c ∈ [o12], c.size = 27) := by
    have h8 := k2.1
    show ∀ c ∈ [o12], c.size = 27
    simp [h8]
  clear kb k1 k2 Z11
  go_wp2_with (refine wpList_buildSlice_aggs rfl 22 38 1 _ rfl i0 (.agg zIm) Try.underlying22 hi0 hz0 27 hs0 [o12] rfl rfl H12.out (by simp) ?_; intro cells hcells; have HCS := Lib.hid hcells; clear hcells)
  have hims := ims_built (w := w12) (css := [o12]) (l := [(0, [(819200, 16)])]) rfl (fun j cs hj => by
    match j, hj with
    | 0, hj => cases hj; exact I12.out) HCS.out
  refine (z_tmap (Z12.out.alloc _) hims (by decide) tm4 rfl (Nat.le_refl _)).mono ?_
  rintro e w13 ⟨v13, rfl, k1, _⟩
  have Z13 := Lib.hid k1
  clear k1 hims HCS Z12 I12 H12 cells
  go_wp2_with fail
  refine (z_tmap Z13.out (a := none) (l := []) (ImsP.nil _ _) (by decide) (tm5 bM) rfl (Nat.le_refl _)).mono ?_
  rintro e w14 ⟨v14, rfl, k1, k2⟩
  have Z14 := Lib.hid k1
  have V14 := Lib.hid k2
  clear k1 k2 Z13
  go_wp2_with fail
  refine (pairs_nil _ zIm).mono ?_
  rintro e w15 ⟨v15, rfl, k1, _, _⟩
  have Z15 := Lib.hid (Z14.out.keep k1)
  have V15 := Lib.hid (V14.out.keepB k1)
  clear k1 Z14 V14
  go_wp2_with (first
    | (refine wpList_sw_lenI rfl (.tmp 128) rfl V15.out rfl 0 rfl ?_))
  refine (swapped_any _ (.map none) [] (.inr ⟨rfl, rfl⟩) 0 (by decide) 0 7 rfl (by decide)).mono ?_
  rintro e w16 ⟨rfl, k1⟩
  have Z16 := Lib.hid (Z15.out.keep k1)
  clear k1 Z15
  have h7 : ((tSwap [] 0 7 : Nat) : Int) = 7 := rfl
  rw [h7]
  go_wp2_with fail
  refine (known21_any _).mono ?_
  rintro e w17 ⟨rfl, k1⟩
  have Z17 := Lib.hid (Z16.out.keep k1)
  clear k1 Z16
  go_wp2_with fail
  go_ret
  exact ⟨rfl, Z17.out.below⟩
end Go.Proofs.Ytepnaalgobhcdaa
