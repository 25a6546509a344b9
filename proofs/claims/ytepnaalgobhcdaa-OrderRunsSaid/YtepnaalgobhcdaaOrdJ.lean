/- The statement's own rows hold: known() answers true. -/
import Derived.Test.YtepnaalgobhcdaaOrdI
import Derived.Test.YtepnaalgobhcdaaBld
namespace Go.Proofs.Ytepnaalgobhcdaa
open Go.RowKit Clv

theorem Try.has38 : (Try.prog.info? 38).map (fun i => (i.zero.isSome, i.size)) = some (true, 27) := by kernel_rfl
theorem parts38o : ∃ i z, Try.prog.info? 38 = some i ∧ i.zero = some z ∧ i.size = 27 := by
  obtain ⟨i, hi, h⟩ := Option.map_eq_some_iff.1 Try.has38
  simp only [Prod.mk.injEq] at h
  obtain ⟨z, hz⟩ := Option.isSome_iff_exists.1 h.1
  exact ⟨i, z, hi, hz, h.2⟩

def ints (D : List Int) : Array Value := (D.map (Value.int .i64)).toArray
theorem ints_at (w : World) (D : List Int) (hD : ∀ j, j < D.length → -9223372036854775808 ≤ D.getD j 0 ∧ D.getD j 0 ≤ 9223372036854775807) : SliceOf (some ⟨w.heap.size, 0, none⟩) D.length 1 fun j => IntAt (w.alloc (.cells (ints D) 3)) (D.getD j 0) := fun j hj => by
  refine ⟨_, 0, rfl, ?_, hD j hj⟩
  rw [World.cell?_alloc_new]
  simp [ints, hj]
theorem on_new (w : World) (u : Nat) (D : List Int) (hu : u ≤ D.length) (hl : D.length ≤ 10) (hD : ∀ j, j < D.length → -9223372036854775808 ≤ D.getD j 0 ∧ D.getD j 0 ≤ 9223372036854775807) :
    Calls Try.prog 60 #[.int .i64 u, .slice (some ⟨w.heap.size, 0, none⟩) D.length D.length] (w.alloc (.cells (ints D) 3)) (OnRes (w.alloc (.cells (ints D) 3)) D.length u D) :=
  on_img _ u _ _ D hu hl (Nat.le_refl _) (by unfold maxLen; omega) (ints_at w D hD)
theorem on_21 (w : World) : Calls Try.prog 60 #[.int .i64 0, .slice (some ⟨w.heap.size, 0, none⟩) 2 2] (w.alloc (.cells #[.int .i64 1, .int .i64 2] 3)) (OnRes (w.alloc (.cells #[.int .i64 1, .int .i64 2] 3)) 2 0 [1, 2]) := on_new w 0 [1, 2] (by decide) (by decide) (by decide)
theorem on_21u (w : World) : Calls Try.prog 60 #[.int .i64 1, .slice (some ⟨w.heap.size, 0, none⟩) 2 2] (w.alloc (.cells #[.int .i64 1, .int .i64 2] 3)) (OnRes (w.alloc (.cells #[.int .i64 1, .int .i64 2] 3)) 2 1 [1, 2]) := on_new w 1 [1, 2] (by decide) (by decide) (by decide)
theorem on_2 (w : World) : Calls Try.prog 60 #[.int .i64 0, .slice (some ⟨w.heap.size, 0, none⟩) 1 1] (w.alloc (.cells #[.int .i64 2] 3)) (OnRes (w.alloc (.cells #[.int .i64 2] 3)) 1 0 [2]) := on_new w 0 [2] (by decide) (by decide) (by decide)
theorem on_1 (w : World) : Calls Try.prog 60 #[.int .i64 0, .slice (some ⟨w.heap.size, 0, none⟩) 1 1] (w.alloc (.cells #[.int .i64 1] 3)) (OnRes (w.alloc (.cells #[.int .i64 1] 3)) 1 0 [1]) := on_new w 0 [1] (by decide) (by decide) (by decide)
theorem on_0 (w : World) : Calls Try.prog 60 #[.int .i64 0, .slice (some ⟨w.heap.size, 0, none⟩) 1 1] (w.alloc (.cells #[.int .i64 0] 3)) (OnRes (w.alloc (.cells #[.int .i64 0] 3)) 1 0 [0]) := on_new w 0 [0] (by decide) (by decide) (by decide)
theorem on_none (w : World) : Calls Try.prog 60 #[.int .i64 0, .slice none 0 0] w (OnRes w 0 0 []) := on_img w 0 none 0 [] (by decide) (by decide) (by decide) (by decide) (fun j hj => absurd hj (Nat.not_lt_zero _))

/-- Images laid one behind the other in a new block. -/
theorem imgs_new {w : World} {l : List (Array Value)} {xs : List ImgM} {cells : Array Value} (hlen : xs.length = l.length) (hm : l.length ≤ 1000) (hc : ∀ i c, l[i]? = some c → ∀ j v, c[j]? = some v → cells[i * 27 + j]? = some v)
    (hx : ∀ i c, l[i]? = some c → ImgCells w (xs.getD i ⟨0, [], [], []⟩) c) : Imgs (w.alloc (.cells cells 38)) (some ⟨w.heap.size, 0, none⟩) l.length xs := by
  refine ⟨by omega, by unfold maxLen; omega, fun i hi => ?_⟩
  rw [hlen] at hi
  obtain ⟨c, hci⟩ : ∃ c, l[i]? = some c := ⟨l[i], List.getElem?_eq_getElem hi⟩
  refine ⟨_, 0, rfl, c, fun j v hj => ?_, (hx i c hci).keep ((Below.refl _ w).alloc (Nat.le_refl _) _)⟩
  rw [Nat.zero_add, World.cell?_alloc_new]
  exact hc i c hci j v hj

def la1 : List ImgM := [⟨0, [1, 2], onUps 2 0, []⟩, ⟨0, [2], onUps 1 0, []⟩, ⟨0, [], onUps 0 0, []⟩]
def lb1 : List ImgM := [⟨0, [1, 2], onUps 2 1, []⟩, ⟨0, [], onUps 0 0, []⟩, ⟨0, [1], onUps 1 0, []⟩]
def lc1 : List ImgM := [⟨0, [1], onUps 1 0, []⟩, ⟨0, [0], onUps 1 0, []⟩]
theorem run_a : runOut (gOf la1) la1.length = [2, 1, 0] := by decide
theorem run_b : runOut (gOf lb1) lb1.length = [1, 0, 2] := by decide
theorem run_c : runOut (gOf lc1) lc1.length = [1, 0] := by decide
theorem nums_new (w : World) (D : List Nat) : NumsAt (w.alloc (.cells (nums D).toArray 3)) (.slice (some ⟨w.heap.size, 0, none⟩) D.length D.length) D :=
  ⟨_, _, rfl, fun j hj => ⟨_, 0, rfl, by show World.cell? _ _ = _; rw [World.cell?_alloc_new]; simp [nums, hj]⟩⟩

set_option maxHeartbeats 800000 in
set_option maxRecDepth 100000 in
theorem known_true (w : World) : Calls Try.prog 17 #[] w fun e w' => e = .returned (.bool true) ∧ Below w.heap.size w w' := by
  obtain ⟨i0, z0, hi0, hz0, hs0⟩ := parts38o
  go_enter Try.func17, Try.ntmps17
  go_wp2_with fail
  refine (on_21 w).mono ?_
  rintro e W1 ⟨c1, rfl, x1, b1⟩
  go_wp2_with fail
  refine (on_2 _).mono ?_
  rintro e W2 ⟨c2, rfl, x2, b2⟩
  go_wp2_with fail
  refine (on_none _).mono ?_
  rintro e W3 ⟨c3, rfl, x3, b3⟩
  have y2 := x2.keep b3
  have y1 := ((x1.keep ((Below.refl _ W1).alloc (Nat.le_refl _) _)).keep b2).keep b3
  have hsz : ∀ c ∈ [c1, c2, c3], c.size = 27 := by simp [x1.size, x2.size, x3.size]
  have HSZ := Lib.hid hsz
  have HX1 := Lib.hid y1
  have HX2 := Lib.hid y2
  have HX3 := Lib.hid x3
  clear hsz y1 y2 x1 x2 x3
  go_wp2_with (refine wpList_buildSlice_aggs rfl 22 38 3 _ rfl i0 z0 Try.underlying22 hi0 hz0 27 hs0 [c1, c2, c3] rfl rfl HSZ.out (by simp) ?_; intro cells hcells; have HCS := Lib.hid hcells; clear hcells)
  have hi1 : Imgs (W3.alloc (.cells cells 38)) (some ⟨W3.heap.size, 0, none⟩) 3 la1 :=
    imgs_new (l := [c1, c2, c3]) rfl (by simp) HCS.out (fun i c hc => by
      match i, hc with
      | 0, hc => cases hc; exact HX1.out
      | 1, hc => cases hc; exact HX2.out
      | 2, hc => cases hc; exact HX3.out)
  have hr1 := run_any _ _ _ _ hi1 (by decide)
  rw [run_a] at hr1
  refine hr1.mono ?_
  clear hr1 hi1 HCS HX1 HX2 HX3 HSZ
  rintro e W4 ⟨v1, rfl, o1, b4⟩
  have N1 := Lib.hid (ownsRow_nums o1)
  have B4 : Hid (Below w.heap.size w W4) :=
    have q1 := ((Below.refl w.heap.size w).alloc (Nat.le_refl _) _).trans (b1.mono (by simp))
    have q2 := (q1.alloc q1.size _).trans (b2.mono (by simp; have := q1.size; omega))
    have q3 := q2.trans (b3.mono q2.size)
    (q3.alloc q3.size _).trans (b4.mono (by simp; have := q3.size; omega))
  clear o1 b1 b2 b3 b4
  go_wp2_with fail
  refine (on_21u _).mono ?_
  rintro e W5 ⟨c4, rfl, x4, b5⟩
  go_wp2_with fail
  refine (on_none _).mono ?_
  rintro e W6 ⟨c5, rfl, x5, b6⟩
  go_wp2_with fail
  refine (on_1 _).mono ?_
  rintro e W7 ⟨c6, rfl, x6, b7⟩
  have y5 := (x5.keep ((Below.refl _ W6).alloc (Nat.le_refl _) _)).keep b7
  have y4 := ((x4.keep b6).keep ((Below.refl _ W6).alloc (Nat.le_refl _) _)).keep b7
  have hsz : ∀ c ∈ [c4, c5, c6], c.size = 27 := by simp [x4.size, x5.size, x6.size]
  have HSZ := Lib.hid hsz
  have HX1 := Lib.hid y4
  have HX2 := Lib.hid y5
  have HX3 := Lib.hid x6
  clear hsz y4 y5 x4 x5 x6
  go_wp2_with (refine wpList_buildSlice_aggs rfl 22 38 3 _ rfl i0 z0 Try.underlying22 hi0 hz0 27 hs0 [c4, c5, c6] rfl rfl HSZ.out (by simp) ?_; intro cells2 hcells; have HCS := Lib.hid hcells; clear hcells)
  have hi2 : Imgs (W7.alloc (.cells cells2 38)) (some ⟨W7.heap.size, 0, none⟩) 3 lb1 :=
    imgs_new (l := [c4, c5, c6]) rfl (by simp) HCS.out (fun i c hc => by
      match i, hc with
      | 0, hc => cases hc; exact HX1.out
      | 1, hc => cases hc; exact HX2.out
      | 2, hc => cases hc; exact HX3.out)
  have hr2 := run_any _ _ _ _ hi2 (by decide)
  rw [run_b] at hr2
  refine hr2.mono ?_
  clear hr2 hi2 HCS HX1 HX2 HX3 HSZ
  rintro e W8 ⟨v2, rfl, o2, b8⟩
  have N2 := Lib.hid (ownsRow_nums o2)
  have B8 : Hid (Below W4.heap.size W4 W8) :=
    have q1 := ((Below.refl W4.heap.size W4).alloc (Nat.le_refl _) _).trans (b5.mono (by simp))
    have q2 := q1.trans (b6.mono q1.size)
    have q3 := (q2.alloc q2.size _).trans (b7.mono (by simp; have := q2.size; omega))
    (q3.alloc q3.size _).trans (b8.mono (by simp; have := q3.size; omega))
  clear o2 b5 b6 b7 b8
  go_wp2_with fail
  refine (on_1 _).mono ?_
  rintro e W9 ⟨c7, rfl, x7, b9⟩
  go_wp2_with fail
  refine (on_0 _).mono ?_
  rintro e W10 ⟨c8, rfl, x8, b10⟩
  have y7 := (x7.keep ((Below.refl _ W9).alloc (Nat.le_refl _) _)).keep b10
  have hsz : ∀ c ∈ [c7, c8], c.size = 27 := by simp [x7.size, x8.size]
  have HSZ := Lib.hid hsz
  have HX1 := Lib.hid y7
  have HX2 := Lib.hid x8
  clear hsz y7 x7 x8
  go_wp2_with (refine wpList_buildSlice_aggs rfl 22 38 2 _ rfl i0 z0 Try.underlying22 hi0 hz0 27 hs0 [c7, c8] rfl rfl HSZ.out (by simp) ?_; intro cells3 hcells; have HCS := Lib.hid hcells; clear hcells)
  have hi3 : Imgs (W10.alloc (.cells cells3 38)) (some ⟨W10.heap.size, 0, none⟩) 2 lc1 :=
    imgs_new (l := [c7, c8]) rfl (by simp) HCS.out (fun i c hc => by
      match i, hc with
      | 0, hc => cases hc; exact HX1.out
      | 1, hc => cases hc; exact HX2.out)
  have hr3 := run_any _ _ _ _ hi3 (by decide)
  rw [run_c] at hr3
  refine hr3.mono ?_
  clear hr3 hi3 HCS HX1 HX2 HSZ
  rintro e W11 ⟨v3, rfl, o3, b11⟩
  have N3 := Lib.hid (ownsRow_nums o3)
  have B11 : Hid (Below W8.heap.size W8 W11) :=
    have q1 := ((Below.refl W8.heap.size W8).alloc (Nat.le_refl _) _).trans (b9.mono (by simp))
    have q3 := (q1.alloc q1.size _).trans (b10.mono (by simp; have := q1.size; omega))
    (q3.alloc q3.size _).trans (b11.mono (by simp; have := q3.size; omega))
  clear o3 b9 b10 b11
  have M1 := Lib.hid ((N1.out.keep B8.out).keep B11.out)
  have M2 := Lib.hid (N2.out.keep B11.out)
  have B := Lib.hid ((B4.out.trans (B8.out.mono B4.out.size)).trans (B11.out.mono (B4.out.trans (B8.out.mono B4.out.size)).size))
  clear N1 N2 B4 B8 B11
  go_wp2_with fail
  have al := fun (o : Obj) => (Below.refl W11.heap.size W11).alloc (Nat.le_refl _) o
  refine (same_any _ v1 _ [2, 1, 0] (by decide) (M1.out.keep (al _)) (nums_new W11 [2, 1, 0])).mono ?_
  rintro e W12 ⟨rfl, b12⟩
  have q12 := (al _).trans (b12.mono (by simp))
  have M3 := Lib.hid (M2.out.keep q12)
  have M4 := Lib.hid (N3.out.keep q12)
  have B2 := Lib.hid (B.out.trans (q12.mono B.out.size))
  clear al b12 q12 B M1 M2 N3
  go_wp2_with fail
  have al := fun (o : Obj) => (Below.refl W12.heap.size W12).alloc (Nat.le_refl _) o
  refine (same_any _ v2 _ [1, 0, 2] (by decide) (M3.out.keep (al _)) (nums_new W12 [1, 0, 2])).mono ?_
  rintro e W13 ⟨rfl, b12⟩
  have q12 := (al _).trans (b12.mono (by simp))
  have M5 := Lib.hid (M4.out.keep q12)
  have B3 := Lib.hid (B2.out.trans (q12.mono B2.out.size))
  clear al b12 q12 B2 M3 M4
  go_wp2_with fail
  have al := fun (o : Obj) => (Below.refl W13.heap.size W13).alloc (Nat.le_refl _) o
  refine (same_any _ v3 _ [1, 0] (by decide) (M5.out.keep (al _)) (nums_new W13 [1, 0])).mono ?_
  rintro e W14 ⟨rfl, b12⟩
  have q12 := (al _).trans (b12.mono (by simp))
  have B5 := Lib.hid (B3.out.trans (q12.mono B3.out.size))
  clear al b12 q12 B3 M5
  go_wp2_with fail
  go_ret
  exact ⟨rfl, B5.out⟩
end Go.Proofs.Ytepnaalgobhcdaa
