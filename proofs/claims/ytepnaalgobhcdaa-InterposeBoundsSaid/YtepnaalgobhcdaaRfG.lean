/- The reference's Look: which bytes are there, and of which protection. -/
import Derived.Test.YtepnaalgobhcdaaRfB
import Derived.Deep.DeepCutAuto
namespace Go.Proofs.Ytepnaalgobhcdaa
open Go.RowKit Spm

theorem pg_ix {M : List Pg} {q : Nat} {p : Pg} (h : pg M q = some p) : M[ixOf M q]? = some p := by
  unfold pg at h
  unfold ixOf
  induction M with
  | nil => cases h
  | cons x M ih =>
    rw [List.find?_cons] at h
    by_cases hx : x.num = q
    · have e : (x.num == q) = true := by simpa using hx
      rw [e] at h
      cases h
      rw [List.findIdx_cons, e]
      rfl
    · have e : (x.num == q) = false := by simpa using hx
      rw [e] at h
      rw [List.findIdx_cons, e]
      simpa using ih h
theorem hasIx_some {M : List Pg} {a : Nat} {p : Pg} (h : pg M (a / 4096) = some p) : ∃ i : Nat, hasIx M a = (i : Int) ∧ M[i]? = some p := by
  have := pg_ix h
  refine ⟨ixOf M (a / 4096), ?_, this⟩
  unfold hasIx
  rw [if_pos (List.getElem?_eq_some_iff.1 this).1]
theorem hasIx_none {M : List Pg} {a : Nat} (h : pg M (a / 4096) = none) : hasIx M a = -1 := by
  unfold hasIx
  rw [if_neg ?_]
  intro hl
  unfold pg at h
  unfold ixOf at hl
  have := List.findIdx_getElem (w := hl)
  have h2 := List.find?_eq_none.1 h _ (List.getElem_mem hl)
  simp at this h2
  exact h2 this

/-- The first page number behind those of the first k bytes. -/
def upTo (a k : Nat) : Nat := if k = 0 then a / 4096 else (a + k - 1) / 4096 + 1
theorem upTo_lst {a n : Nat} (h : 0 < n) : upTo a n = lst a n := by unfold upTo lst; rw [if_neg (by omega)]
theorem upTo_step {a k : Nat} : upTo a (k + 1) = (a + k) / 4096 + 1 := by unfold upTo; rw [if_neg (by omega)]; congr 1
theorem upTo_skip {a k : Nat} (h0 : 0 < k) (h : (a + k) % 4096 ≠ 0) : upTo a (k + 1) = upTo a k := by
  rw [upTo_step]; unfold upTo; rw [if_neg (by omega)]; omega
theorem upTo_visit {a k : Nat} : upTo a k = (a + k) / 4096 ∨ upTo a k = (a + k) / 4096 + 1 := by
  unfold upTo
  by_cases h : k = 0
  · rw [if_pos h, h]; left; rfl
  · rw [if_neg h]; omega
theorem visit_has {M : List Pg} {f u q : Nat} {r : Int} {p : Pg} (hu : u = q ∨ u = q + 1) (hf : f ≤ q) (hm : missing M f u = false) (hp : pg M q = some p) :
    missing M f (q + 1) = false ∧ lackVal M f (q + 1) r = if hasP p.prot r then lackVal M f u r else 19 := by
  have h1 := missing_step (i := q) hf hp
  have h2 := lacks_step (i := q) (r := r) hf hp
  rcases hu with rfl | rfl
  · refine ⟨h1.trans hm, ?_⟩
    unfold lackVal
    rw [h2]
    cases hasP p.prot r <;> simp
  · refine ⟨hm, ?_⟩
    unfold lackVal
    cases hh : hasP p.prot r with
    | true => simp
    | false => rw [h2, hh]; simp
theorem look_big {M : List Pg} (hM : Ok M) {a n : Nat} {r : Int} (h : 33554432 < n) : lookErr M a n r = 4 := by
  unfold lookErr
  rw [if_neg (by omega)]
  split
  · rfl
  · rw [if_pos]
    cases hm : missing M (fst a) (lst a n) with
    | true => rfl
    | false =>
      have := present_le hm
      have := hM.few
      unfold fst lst at *
      omega
theorem bit1 {P : Int} (hP : 1 ≤ P ∧ P ≤ 7) : (P % 2 == 0) = !hasP P 1 ∧ (P / 2 % 2 == 0) = !hasP P 2 := by
  have : P = 1 ∨ P = 2 ∨ P = 3 ∨ P = 4 ∨ P = 5 ∨ P = 6 ∨ P = 7 := by omega
  rcases this with rfl | rfl | rfl | rfl | rfl | rfl | rfl <;> decide
theorem hasP_zero {P : Int} : hasP P 0 = true := by simp [hasP]
end Go.Proofs.Ytepnaalgobhcdaa
