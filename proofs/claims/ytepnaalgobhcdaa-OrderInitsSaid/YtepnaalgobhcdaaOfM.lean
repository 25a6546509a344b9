/- From how the arguments of OrderInits read to how they lie in memory. -/
import Derived.Test.YtepnaalgobhcdaaOfL
import Derived.Test.YtepnaalgobhcdaaBnE
namespace Go.Proofs.Ytepnaalgobhcdaa
open Go.RowKit Go.WideShapes Go.ChangeShapes Spm

theorem f175_0 : fieldOf Try.prog 175 0 = some (32, 0) := by kernel_rfl
theorem f175_1 : fieldOf Try.prog 175 1 = some (3, 1) := by kernel_rfl
theorem f175_2 : fieldOf Try.prog 175 2 = some (3, 2) := by kernel_rfl
theorem f175_3 : fieldOf Try.prog 175 3 = some (57, 3) := by kernel_rfl
theorem c175 : Try.prog.cellsOf 175 = 4 := by kernel_rfl
section
variable {H : Type} {enc : TypeId × Value → H} {w : World} {cs : List Value}
theorem rd_rng23 {b o : Nat} (hl : cs.length = 4) (hc : CellsAt w b o cs.toArray) (h : Rd enc w 175 cs) : ∃ x : RngM, RngAt w x b o := by
  obtain ⟨n0, e0, w0⟩ := at_int f175_0 c32 Try.underlying32 h
  obtain ⟨n1, e1, w1⟩ := at_int f175_1 c3 Try.underlying3 h
  obtain ⟨n2, e2, _⟩ := at_int f175_2 c3 Try.underlying3 h
  obtain ⟨a, n, c, e3, h1, h2, h3⟩ := at_slice f175_3 c57 Try.underlying57 c5 (by decide) h
  obtain ⟨m, rfl, hb⟩ := wf_u64 w0
  obtain ⟨bs, rfl, hbs⟩ := rd_bytes h3
  have : cs = [.int .u64 m, .int .i64 n1, .int .i64 n2, .slice a bs.length c] := by
    match cs, hl with
    | [_, _, _, _], _ => simp_all
  subst this
  exact ⟨⟨m, n1, n2, bs⟩, a, c, hb, wf_i64 w1, h1, h2, hc, hbs⟩
theorem rd_rngs23 (h : Rd enc w 113 cs) : ∃ (a : Option Addr) (c : Nat) (l : List RngM), cs = [.slice a l.length c] ∧ Rngs w a c l := by
  obtain ⟨a, n, c, rfl, h1, h2, h3⟩ := rd_slice Try.underlying113 c175 (by decide) h
  obtain ⟨l, hl, hs⟩ := slice_list (Q := fun x => RngAt w x) ⟨0, 0, 0, []⟩ h3 (fun b o ⟨ds, h1, h2, h3⟩ => rd_rng23 h1 h2 h3)
  subst hl
  exact ⟨a, c, l, rfl, h1, h2, hs⟩
theorem rd_secC {b o : Nat} (hl : cs.length = 6) (hc : CellsAt w b o cs.toArray) (h : Rd enc w 164 cs) : ∃ x : SecC, CellsAt w b o x.cells ∧ KB x := by
  obtain ⟨s0, e0⟩ := at_string f164_0 c9 Try.underlying9 h
  obtain ⟨s1, e1⟩ := at_string f164_1 c9 Try.underlying9 h
  obtain ⟨n2, e2, w2⟩ := at_int f164_2 c32 Try.underlying32 h
  obtain ⟨n3, e3, w3⟩ := at_int f164_3 c32 Try.underlying32 h
  obtain ⟨n4, e4, _⟩ := at_int f164_4 c32 Try.underlying32 h
  obtain ⟨n5, e5, w5⟩ := at_int f164_5 c3 Try.underlying3 h
  obtain ⟨m2, rfl, b2⟩ := wf_u64 w2
  obtain ⟨m3, rfl, b3⟩ := wf_u64 w3
  have := six hl e0 e1 e2 e3 e4 e5
  subst this
  exact ⟨⟨s0, s1, n4, ⟨m2, m3, n5⟩, b2, b3⟩, hc, w5⟩
theorem rd_oseg {b o : Nat} (hl : cs.length = 7) (hc : CellsAt w b o cs.toArray) (h : Rd enc w 128 cs) : ∃ x : OSeg, OSegAt w x b o := by
  obtain ⟨s0, e0⟩ := at_string f128_0 c9 Try.underlying9 h
  obtain ⟨n1, e1, w1⟩ := at_int f128_1 c32 Try.underlying32 h
  obtain ⟨n2, e2, _⟩ := at_int f128_2 c32 Try.underlying32 h
  obtain ⟨n3, e3, _⟩ := at_int f128_3 c32 Try.underlying32 h
  obtain ⟨n4, e4, w4⟩ := at_int f128_4 c32 Try.underlying32 h
  obtain ⟨n5, e5, _⟩ := at_int f128_5 c3 Try.underlying3 h
  obtain ⟨a, n, c, e6, hn, hcm, hs⟩ := at_slice f128_6 c126 Try.underlying126 c164 (by decide) h
  obtain ⟨m1, rfl, b1⟩ := wf_u64 w1
  obtain ⟨m4, rfl, _⟩ := wf_u64 w4
  obtain ⟨xs, hxl, hxs⟩ := slice_list (Q := fun (x : SecC) b o => CellsAt w b o x.cells ∧ KB x) SecC.none hs (fun b o ⟨ds, h1, h2, h3⟩ => rd_secC h1 h2 h3)
  subst hxl
  have := seven hl e0 e1 e2 e3 e4 e5 e6
  subst this
  refine ⟨⟨m1, m4, n5, xs⟩, s0, n2, n3, a, c, hc, hn, hcm, hxs.mono fun _ _ _ _ h => h.1, fun x hx => ?_, b1⟩
  obtain ⟨j, hj, rfl⟩ := List.mem_iff_getElem.1 hx
  obtain ⟨_, _, _, hq⟩ := hxs j hj
  have := hq.2
  rwa [List.getD_eq_getElem?_getD, List.getElem?_eq_getElem hj] at this
theorem rd_oim (hl : cs.length = 27) (h : Rd enc w 38 cs) : ∃ p : OIm, OImP w cs.toArray p := by
  have hone := one38 h
  obtain ⟨_, hi⟩ := rd_field f38_1 h
  rw [c36] at hi
  obtain ⟨sa, sn, sc, e5, hs1, hs2, hs3⟩ := at_slice f36_4 c30 Try.underlying30 c128 (by decide) hi
  obtain ⟨n, e25, hw⟩ := at_int f38_2 c32 Try.underlying32 h
  obtain ⟨m, rfl, hb⟩ := wf_u64 hw
  obtain ⟨segs, hsl, hss⟩ := slice_list (Q := fun x => OSegAt w x) OSeg.none hs3 (fun b o ⟨ds, h1, h2, h3⟩ => rd_oseg h1 h2 h3)
  have g5 := sub_get (l := cs) rfl e5
  subst hsl
  refine ⟨⟨m, segs⟩, by simpa using hl, ?_, by simpa using e25, hb, sa, sc, hss, by simpa using g5, hs1, by unfold maxLen at hs2; omega⟩
  rw [Array.all_eq_true_iff_forall_mem]
  intro x hx
  exact hone x (by simpa using hx)
theorem rd_oims (h : Rd enc w 22 cs) : ∃ (a : Option Addr) (c : Nat) (ls : List OIm), cs = [.slice a ls.length c] ∧ (OIms w a ls ∧ ∃ l : List ImgM, l.length = ls.length ∧ Imgs w a c l) := by
  obtain ⟨a0, c0, l0, e0, hI⟩ := rd_imgs h
  obtain ⟨a, n, c, e, h1, h2, h3⟩ := rd_slice Try.underlying22 c38 (by decide) h
  obtain ⟨ls, hl, hs⟩ := slice_list (Q := fun x => OImAt w x) ⟨0, []⟩ h3 (fun b o ⟨ds, h1, h2, h3⟩ => by
    obtain ⟨p, hp⟩ := rd_oim h1 h3
    exact ⟨p, _, h2, hp⟩)
  subst hl
  rw [e0] at e
  have e2 : a0 = a ∧ l0.length = ls.length ∧ c0 = c := by simpa using e
  obtain ⟨rfl, e3, rfl⟩ := e2
  exact ⟨a0, c0, ls, by rw [e0, e3], hs, l0, e3, hI⟩
end
end Go.Proofs.Ytepnaalgobhcdaa
