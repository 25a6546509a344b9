/- From how an argument reads to how its images lie in memory. -/
import Derived.Test.YtepnaalgobhcdaaBase
import Derived.Deep.Slices
import Derived.OpenShut
namespace Go.Proofs.Ytepnaalgobhcdaa
open Go.RowKit Go.WideShapes Go.ChangeShapes

/-- These cells can be read at this type. -/
def Rd {H : Type} (enc : TypeId × Value → H) (w : World) (t : TypeId) (cs : List Value) : Prop := ∃ fuel x, DataW.trod enc Try.prog w 0 (fun _ => true) true fuel t cs = some x

section
variable {H : Type} {enc : TypeId × Value → H} {w : World} {cs : List Value}
def fieldOf (P : Program) (t i : Nat) : Option (Nat × Nat) := match P.underlying t with
  | some (.struct fs) => (fs[i]?).map fun f => (f.type, f.offset)
  | _ => none
theorem rd_int {t : TypeId} {k : IntKind} (ht : Try.prog.underlying t = some (.int k)) (h : Rd enc w t cs) : ∃ n, cs = [.int k n] ∧ (Lit.int k n).wf = true := by
  obtain ⟨fuel, x, h⟩ := h
  obtain ⟨n, rfl, _, hw⟩ := DataW.trod_int ht h
  exact ⟨n, rfl, hw⟩
theorem rd_string {t : TypeId} (ht : Try.prog.underlying t = some .string) (h : Rd enc w t cs) : ∃ s, cs = [.string s] := by
  obtain ⟨fuel, x, h⟩ := h
  cases fuel with
  | zero => simp [DataW.trod] at h
  | succ n =>
    unfold DataW.trod at h
    rw [ht] at h
    split at h <;> simp_all
theorem rd_field {t i ft off : Nat} (hf : fieldOf Try.prog t i = some (ft, off)) (h : Rd enc w t cs) : cs.length = Try.prog.cellsOf t ∧ Rd enc w ft ((cs.drop off).take (Try.prog.cellsOf ft)) := by
  obtain ⟨fuel, x, h⟩ := h
  unfold fieldOf at hf
  split at hf
  · rename_i fs ht
    obtain ⟨f, hf1, hf2⟩ := Option.map_eq_some_iff.1 hf
    simp only [Prod.mk.injEq] at hf2
    obtain ⟨rfl, rfl⟩ := hf2
    obtain ⟨xs, n, rfl, _, hl, hxs, hall⟩ := DataW.trod_struct ht h
    refine ⟨hl, n, ?_⟩
    have hi : i < xs.length := by rw [hxs]; exact (Array.getElem?_eq_some_iff.1 hf1).1
    exact ⟨xs[i], by rw [hall i f hf1, List.getElem?_eq_getElem hi]⟩
  · cases hf
theorem rd_slice {t e : TypeId} {m : Nat} (ht : Try.prog.underlying t = some (.slice e)) (hm : Try.prog.cellsOf e = m) (hpos : 0 < m) (h : Rd enc w t cs) :
    ∃ a n c, cs = [.slice a n c] ∧ n ≤ c ∧ c ≤ maxLen ∧ SliceOf a n m fun _ b o => ∃ ds : List Value, ds.length = m ∧ CellsAt w b o ds.toArray ∧ Rd enc w e ds := by
  obtain ⟨fuel, x, h⟩ := h
  rcases Deep.open_slice ht h with ⟨rfl, _⟩ | ⟨a, len, cap, m', n, D, Pl, rfl, _, hl, hc, hm', _, hx⟩
  · exact ⟨none, 0, 0, rfl, Nat.le_refl _, Nat.zero_le _, fun j hj => absurd hj (Nat.not_lt_zero _)⟩
  · refine ⟨some a, len, cap, rfl, hl, hc, fun j hj => ?_⟩
    simp only [if_true] at hm'
    obtain ⟨ds, h1, h2⟩ := hx j (by omega)
    obtain ⟨_, h3, h4⟩ := World.cells?_some h1
    rw [hm] at h3 h4 h1
    obtain ⟨b, o, spot⟩ := a
    have hspot : spot = none := by
      obtain ⟨ds0, g1, _⟩ := hx 0 (by omega)
      obtain ⟨_, g3, g4⟩ := World.cells?_some g1
      rw [hm] at g3 g4
      have h0 := g4 0 hpos
      rw [List.getElem?_eq_getElem (by omega)] at h0
      have e : ((⟨b, o, spot⟩ : Addr).add (0 * m)).add 0 = (⟨b, o, spot⟩ : Addr) := by unfold Addr.add; simp
      rw [e] at h0
      exact World.cell?_spot h0
    subst hspot
    refine ⟨b, o, rfl, ds, h3, fun i v hv => ?_, n, _, h2⟩
    have hi : i < m := by
      rcases Nat.lt_or_ge i m with h | h
      · exact h
      · simp [List.getElem?_eq_none (show ds.length ≤ i by omega)] at hv
    have := h4 i hi
    have e : ((⟨b, o, none⟩ : Addr).add (j * m)).add i = ⟨b, o + j * m + i, none⟩ := by
      unfold Addr.add
      by_cases h1 : j * m = 0 <;> by_cases h2 : i = 0 <;> simp [h1, h2]
    rw [e] at this
    rw [this]
    simpa using hv
theorem rd_of {t : TypeId} {v : Value} {d : DataW H} {p : List MemPlace} (h : DataW.Trod enc Try.prog w 0 (fun _ => true) true t v d p) : Rd enc w t v.cells.toList := by
  obtain ⟨n, hn⟩ := h
  exact ⟨n, _, hn⟩
theorem sub_get {l vs : List Value} {k m j : Nat} {v : Value} (h : (l.drop k).take m = vs) (hj : vs[j]? = some v) : l[k + j]? = some v := by
  rw [← h, List.getElem?_take] at hj
  by_cases h1 : j < m
  · rw [if_pos h1, List.getElem?_drop] at hj; exact hj
  · rw [if_neg h1] at hj; cases hj
theorem choose_list {α : Type} {n : Nat} {p : Nat → α → Prop} (h : ∀ i, i < n → ∃ x, p i x) : ∃ l : List α, l.length = n ∧ ∀ i x, l[i]? = some x → p i x := by
  induction n with
  | zero => exact ⟨[], rfl, fun i x h => by simp at h⟩
  | succ n ih =>
    obtain ⟨l, hl, hp⟩ := ih (fun i hi => h i (by omega))
    obtain ⟨x, hx⟩ := h n (by omega)
    refine ⟨l ++ [x], by simp [hl], fun i y hy => ?_⟩
    by_cases e : i < n
    · rw [List.getElem?_append_left (by omega)] at hy; exact hp i y hy
    · rw [List.getElem?_append_right (by omega)] at hy
      have : i - l.length < 1 := by
        rcases Nat.lt_or_ge (i - l.length) 1 with h | h
        · exact h
        · rw [List.getElem?_eq_none (by simpa using h)] at hy; cases hy
      obtain rfl : i = n := by omega
      rw [hl, Nat.sub_self] at hy
      simp at hy
      subst hy
      exact hx
/-- A slice whose every element lies as some plain datum says. -/
theorem slice_list {α : Type} {a : Option Addr} {n sz : Nat} {R : Nat → Nat → Prop} {Q : α → Nat → Nat → Prop} (d : α) (h : SliceOf a n sz fun _ b o => R b o) (hq : ∀ b o, R b o → ∃ x, Q x b o) :
    ∃ xs : List α, xs.length = n ∧ SliceOf a xs.length sz fun j => Q (xs.getD j d) := by
  obtain ⟨xs, hl, hp⟩ := choose_list (n := n) (p := fun j x => ∃ b o, a = some ⟨b, o, none⟩ ∧ Q x b (o + j * sz)) (fun j hj => by
    obtain ⟨b, o, e, r⟩ := h j hj
    obtain ⟨x, hx⟩ := hq b _ r
    exact ⟨x, b, o, e, hx⟩)
  refine ⟨xs, hl, fun j hj => ?_⟩
  obtain ⟨b, o, e, q⟩ := hp j xs[j] (List.getElem?_eq_getElem hj)
  exact ⟨b, o, e, by show Q (xs.getD j d) b _; rw [List.getD_eq_getElem?_getD, List.getElem?_eq_getElem hj]; exact q⟩
theorem wf_u64 {n : Int} (h : (Lit.int .u64 n).wf = true) : ∃ m : Nat, n = m ∧ m < 18446744073709551616 := by
  have := bounds_u64 h
  exact ⟨n.toNat, by omega, by omega⟩
theorem wf_i64 {n : Int} (h : (Lit.int .i64 n).wf = true) : -9223372036854775808 ≤ n ∧ n ≤ 9223372036854775807 := bounds_i64 h

end

theorem f164_0 : fieldOf Try.prog 164 0 = some (9, 0) := by kernel_rfl
theorem f164_1 : fieldOf Try.prog 164 1 = some (9, 1) := by kernel_rfl
theorem f164_2 : fieldOf Try.prog 164 2 = some (32, 2) := by kernel_rfl
theorem f164_3 : fieldOf Try.prog 164 3 = some (32, 3) := by kernel_rfl
theorem f164_4 : fieldOf Try.prog 164 4 = some (32, 4) := by kernel_rfl
theorem f164_5 : fieldOf Try.prog 164 5 = some (3, 5) := by kernel_rfl
theorem f128_0 : fieldOf Try.prog 128 0 = some (9, 0) := by kernel_rfl
theorem f128_1 : fieldOf Try.prog 128 1 = some (32, 1) := by kernel_rfl
theorem f128_2 : fieldOf Try.prog 128 2 = some (32, 2) := by kernel_rfl
theorem f128_3 : fieldOf Try.prog 128 3 = some (32, 3) := by kernel_rfl
theorem f128_4 : fieldOf Try.prog 128 4 = some (32, 4) := by kernel_rfl
theorem f128_5 : fieldOf Try.prog 128 5 = some (3, 5) := by kernel_rfl
theorem f128_6 : fieldOf Try.prog 128 6 = some (126, 6) := by kernel_rfl
theorem f136_1 : fieldOf Try.prog 136 1 = some (134, 1) := by kernel_rfl
theorem f38_1 : fieldOf Try.prog 38 1 = some (36, 1) := by kernel_rfl
theorem f38_2 : fieldOf Try.prog 38 2 = some (32, 25) := by kernel_rfl
theorem f38_3 : fieldOf Try.prog 38 3 = some (25, 26) := by kernel_rfl
theorem f36_4 : fieldOf Try.prog 36 4 = some (30, 4) := by kernel_rfl
theorem f36_5 : fieldOf Try.prog 36 5 = some (31, 5) := by kernel_rfl
theorem c164 : Try.prog.cellsOf 164 = 6 := by kernel_rfl
theorem c128 : Try.prog.cellsOf 128 = 7 := by kernel_rfl
theorem c136 : Try.prog.cellsOf 136 = 2 := by kernel_rfl
theorem c134 : Try.prog.cellsOf 134 = 1 := by kernel_rfl
theorem c126 : Try.prog.cellsOf 126 = 1 := by kernel_rfl
theorem c38 : Try.prog.cellsOf 38 = 27 := by kernel_rfl
theorem c36 : Try.prog.cellsOf 36 = 24 := by kernel_rfl
theorem c3 : Try.prog.cellsOf 3 = 1 := by kernel_rfl
theorem c9 : Try.prog.cellsOf 9 = 1 := by kernel_rfl
theorem c32 : Try.prog.cellsOf 32 = 1 := by kernel_rfl
theorem c30 : Try.prog.cellsOf 30 = 1 := by kernel_rfl
theorem c31 : Try.prog.cellsOf 31 = 1 := by kernel_rfl
theorem c25 : Try.prog.cellsOf 25 = 1 := by kernel_rfl

section
variable {H : Type} {enc : TypeId × Value → H} {w : World} {cs : List Value}
/-- A field of one cell that is an integer, at a place of the whole. -/
theorem at_int {t i ft off : Nat} {k : IntKind} (hf : fieldOf Try.prog t i = some (ft, off)) (hc : Try.prog.cellsOf ft = 1) (hu : Try.prog.underlying ft = some (.int k)) (h : Rd enc w t cs) : ∃ n, cs[off]? = some (.int k n) ∧ (Lit.int k n).wf = true := by
  obtain ⟨_, h2⟩ := rd_field hf h
  rw [hc] at h2
  obtain ⟨n, e, hw⟩ := rd_int hu h2
  exact ⟨n, by have := sub_get (j := 0) e rfl; simpa using this, hw⟩
theorem at_string {t i ft off : Nat} (hf : fieldOf Try.prog t i = some (ft, off)) (hc : Try.prog.cellsOf ft = 1) (hu : Try.prog.underlying ft = some .string) (h : Rd enc w t cs) : ∃ s, cs[off]? = some (.string s) := by
  obtain ⟨_, h2⟩ := rd_field hf h
  rw [hc] at h2
  obtain ⟨s, e⟩ := rd_string hu h2
  exact ⟨s, by have := sub_get (j := 0) e rfl; simpa using this⟩
theorem at_slice {t i ft off e m : Nat} (hf : fieldOf Try.prog t i = some (ft, off)) (hc : Try.prog.cellsOf ft = 1) (hu : Try.prog.underlying ft = some (.slice e)) (hm : Try.prog.cellsOf e = m) (hpos : 0 < m) (h : Rd enc w t cs) :
    ∃ a n c, cs[off]? = some (.slice a n c) ∧ n ≤ c ∧ c ≤ maxLen ∧ SliceOf a n m fun _ b o => ∃ ds : List Value, ds.length = m ∧ CellsAt w b o ds.toArray ∧ Rd enc w e ds := by
  obtain ⟨_, h2⟩ := rd_field hf h
  rw [hc] at h2
  obtain ⟨a, n, c, e, r⟩ := rd_slice hu hm hpos h2
  exact ⟨a, n, c, by have := sub_get (j := 0) e rfl; simpa using this, r⟩
theorem six {l : List Value} {a b c d e f : Value} (hl : l.length = 6) (h0 : l[0]? = some a) (h1 : l[1]? = some b) (h2 : l[2]? = some c) (h3 : l[3]? = some d) (h4 : l[4]? = some e) (h5 : l[5]? = some f) : l = [a, b, c, d, e, f] := by
  match l, hl with
  | [_, _, _, _, _, _], _ => simp_all
theorem seven {l : List Value} {a b c d e f g : Value} (hl : l.length = 7) (h0 : l[0]? = some a) (h1 : l[1]? = some b) (h2 : l[2]? = some c) (h3 : l[3]? = some d) (h4 : l[4]? = some e) (h5 : l[5]? = some f) (h6 : l[6]? = some g) : l = [a, b, c, d, e, f, g] := by
  match l, hl with
  | [_, _, _, _, _, _, _], _ => simp_all
theorem rd_sec {b o : Nat} (hl : cs.length = 6) (hc : CellsAt w b o cs.toArray) (h : Rd enc w 164 cs) : ∃ x : SecM, SecAt w x b o := by
  obtain ⟨s0, e0⟩ := at_string f164_0 c9 Try.underlying9 h
  obtain ⟨s1, e1⟩ := at_string f164_1 c9 Try.underlying9 h
  obtain ⟨n2, e2, w2⟩ := at_int f164_2 c32 Try.underlying32 h
  obtain ⟨n3, e3, w3⟩ := at_int f164_3 c32 Try.underlying32 h
  obtain ⟨n4, e4, _⟩ := at_int f164_4 c32 Try.underlying32 h
  obtain ⟨n5, e5, _⟩ := at_int f164_5 c3 Try.underlying3 h
  obtain ⟨m2, rfl, b2⟩ := wf_u64 w2
  obtain ⟨m3, rfl, b3⟩ := wf_u64 w3
  have := six hl e0 e1 e2 e3 e4 e5
  subst this
  exact ⟨⟨m2, m3, n5⟩, s0, s1, n4, b2, b3, hc⟩
theorem rd_seg {b o : Nat} (hl : cs.length = 7) (hc : CellsAt w b o cs.toArray) (h : Rd enc w 128 cs) : ∃ x : SegM, SegAt w x b o := by
  obtain ⟨s0, e0⟩ := at_string f128_0 c9 Try.underlying9 h
  obtain ⟨n1, e1, w1⟩ := at_int f128_1 c32 Try.underlying32 h
  obtain ⟨n2, e2, w2⟩ := at_int f128_2 c32 Try.underlying32 h
  obtain ⟨n3, e3, w3⟩ := at_int f128_3 c32 Try.underlying32 h
  obtain ⟨n4, e4, w4⟩ := at_int f128_4 c32 Try.underlying32 h
  obtain ⟨n5, e5, _⟩ := at_int f128_5 c3 Try.underlying3 h
  obtain ⟨a, n, c, e6, hn, hcm, hs⟩ := at_slice f128_6 c126 Try.underlying126 c164 (by decide) h
  obtain ⟨m1, rfl, b1⟩ := wf_u64 w1
  obtain ⟨m2, rfl, b2⟩ := wf_u64 w2
  obtain ⟨m3, rfl, b3⟩ := wf_u64 w3
  obtain ⟨m4, rfl, b4⟩ := wf_u64 w4
  obtain ⟨xs, hxl, hxs⟩ := slice_list (Q := fun x => SecAt w x) ⟨0, 0, 0⟩ hs (fun b o ⟨ds, h1, h2, h3⟩ => rd_sec h1 h2 h3)
  subst hxl
  have := seven hl e0 e1 e2 e3 e4 e5 e6
  subst this
  exact ⟨⟨m1, m4, m3, m2, n5, xs⟩, s0, a, c, b1, b2, b3, b4, hn, hcm, hc, hxs⟩
theorem rd_dep {b o : Nat} (hc : CellsAt w b o cs.toArray) (h : Rd enc w 136 cs) : ∃ x : Int, DepAt w x b o := by
  obtain ⟨n, e, _⟩ := at_int f136_1 c134 Try.underlying134 h
  exact ⟨n, hc 1 _ (by simpa using e)⟩
theorem rd_num {b o : Nat} (hc : CellsAt w b o cs.toArray) (h : Rd enc w 3 cs) : ∃ x : Int, IntAt w x b o := by
  obtain ⟨n, rfl, hw⟩ := rd_int Try.underlying3 h
  exact ⟨n, by have := hc 0 (.int .i64 n) rfl; simpa using this, wf_i64 hw⟩
theorem rd_img {b o : Nat} (hl : cs.length = 27) (hc : CellsAt w b o cs.toArray) (h : Rd enc w 38 cs) : ∃ x : ImgM, ImgAt w x b o := by
  obtain ⟨_, hi⟩ := rd_field f38_1 h
  rw [c36] at hi
  obtain ⟨sa, sn, sc, e5, hs1, hs2, hs3⟩ := at_slice f36_4 c30 Try.underlying30 c128 (by decide) hi
  obtain ⟨ua, un, uc, e6, hu1, hu2, hu3⟩ := at_slice f36_5 c31 Try.underlying31 c136 (by decide) hi
  obtain ⟨n, e25, hw⟩ := at_int f38_2 c32 Try.underlying32 h
  obtain ⟨da, dn, dc, e26, hd1, hd2, hd3⟩ := at_slice f38_3 c25 Try.underlying25 c3 (by decide) h
  obtain ⟨m, rfl, hb⟩ := wf_u64 hw
  obtain ⟨segs, hsl, hss⟩ := slice_list (Q := fun x => SegAt w x) ⟨0, 0, 0, 0, 0, []⟩ hs3 (fun b o ⟨ds, h1, h2, h3⟩ => rd_seg h1 h2 h3)
  obtain ⟨ups, hul, hus⟩ := slice_list (Q := fun x => DepAt w x) 0 hu3 (fun b o ⟨ds, h1, h2, h3⟩ => rd_dep h2 h3)
  obtain ⟨deps, hdl, hds⟩ := slice_list (Q := fun x => IntAt w x) 0 hd3 (fun b o ⟨ds, h1, h2, h3⟩ => rd_num h2 h3)
  subst hsl hul hdl
  have g5 := sub_get (l := cs) rfl e5
  have g6 := sub_get (l := cs) rfl e6
  exact ⟨⟨m, deps, ups, segs⟩, cs.toArray, hc, ⟨by simpa using hl, hb, ⟨sa, sc, by simpa using g5, hs1, hs2, hss⟩, ⟨ua, uc, by simpa using g6, hu1, hu2, hus⟩, by simpa using e25, ⟨da, dc, by simpa using e26, hd1, hd2, hds⟩⟩⟩
/-- A slice of images that came in. -/
theorem rd_imgs (h : Rd enc w 22 cs) : ∃ a c l, cs = [.slice a (List.length l) c] ∧ Imgs w a c l := by
  obtain ⟨a, n, c, rfl, h1, h2, h3⟩ := rd_slice Try.underlying22 c38 (by decide) h
  obtain ⟨l, hl, hs⟩ := slice_list (Q := fun x => ImgAt w x) ⟨0, [], [], []⟩ h3 (fun b o ⟨ds, h1, h2, h3⟩ => rd_img h1 h2 h3)
  subst hl
  exact ⟨a, c, l, rfl, h1, h2, hs⟩
end
end Go.Proofs.Ytepnaalgobhcdaa
