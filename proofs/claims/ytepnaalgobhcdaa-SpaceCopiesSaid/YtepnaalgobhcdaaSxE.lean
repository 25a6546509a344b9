/- From how an argument reads to its acts. -/
import Derived.Test.YtepnaalgobhcdaaBnL
import Derived.Test.YtepnaalgobhcdaaBnE
namespace Go.Proofs.Ytepnaalgobhcdaa
open Go.RowKit Go.WideShapes Go.ChangeShapes Spm

theorem f59_0 : fieldOf Try.prog 59 0 = some (3, 0) := by kernel_rfl
theorem f59_1 : fieldOf Try.prog 59 1 = some (32, 1) := by kernel_rfl
theorem f59_2 : fieldOf Try.prog 59 2 = some (32, 2) := by kernel_rfl
theorem f59_3 : fieldOf Try.prog 59 3 = some (3, 3) := by kernel_rfl
theorem f59_4 : fieldOf Try.prog 59 4 = some (57, 4) := by kernel_rfl
theorem c59 : Try.prog.cellsOf 59 = 5 := by kernel_rfl
section
variable {H : Type} {enc : TypeId × Value → H} {w : World} {cs : List Value}
theorem rd_nil {t e : TypeId} (ht : Try.prog.underlying t = some (.slice e)) {n c : Nat} (h : Rd enc w t [.slice none n c]) : c = 0 := by
  obtain ⟨fuel, x, h⟩ := h
  rcases Deep.open_slice ht h with ⟨e, _⟩ | ⟨a, len, cap, m', n, D, Pl, e, _⟩
  · simpa using (by cases e; rfl : c = 0)
  · cases e
theorem rd_act {b o : Nat} (hl : cs.length = 5) (hc : CellsAt w b o cs.toArray) (h : Rd enc w 59 cs) : ∃ x : ActM, ActAt w x b o := by
  obtain ⟨n0, e0, _⟩ := at_int f59_0 c3 Try.underlying3 h
  obtain ⟨n1, e1, w1⟩ := at_int f59_1 c32 Try.underlying32 h
  obtain ⟨n2, e2, w2⟩ := at_int f59_2 c32 Try.underlying32 h
  obtain ⟨n3, e3, _⟩ := at_int f59_3 c3 Try.underlying3 h
  obtain ⟨a, n, c, e4, h1, h2, h3⟩ := at_slice f59_4 c57 Try.underlying57 c5 (by decide) h
  obtain ⟨m1, rfl, b1⟩ := wf_u64 w1
  obtain ⟨m2, rfl, b2⟩ := wf_u64 w2
  obtain ⟨bs, rfl, hbs⟩ := rd_bytes h3
  have : cs = [.int .i64 n0, .int .u64 m1, .int .u64 m2, .int .i64 n3, .slice a bs.length c] := by
    clear h hc
    match cs, hl with
    | [_, _, _, _, _], _ => simp_all
  subst this
  have h5 := (rd_field f59_4 h).2
  rw [c57] at h5
  refine ⟨⟨n0, m1, m2, n3, bs⟩, .slice a bs.length c, hc, b1, b2, ⟨a, c, rfl, h1, h2, hbs⟩, fun n c' e => ?_⟩
  cases e
  exact rd_nil Try.underlying57 h5
theorem rd_acts (h : Rd enc w 49 cs) : ∃ (a : Option Addr) (c : Nat) (l : List ActM), cs = [.slice a l.length c] ∧ Acts w a c l := by
  obtain ⟨a, n, c, rfl, h1, h2, h3⟩ := rd_slice Try.underlying49 c59 (by decide) h
  obtain ⟨l, hl, hs⟩ := slice_list (Q := fun x => ActAt w x) ⟨0, 0, 0, 0, []⟩ h3 (fun b o ⟨ds, h1, h2, h3⟩ => rd_act h1 h2 h3)
  subst hl
  exact ⟨a, c, l, rfl, h1, h2, hs⟩
end
end Go.Proofs.Ytepnaalgobhcdaa
