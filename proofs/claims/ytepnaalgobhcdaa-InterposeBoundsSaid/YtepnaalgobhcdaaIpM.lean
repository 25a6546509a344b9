/- Which pairs an image has: plain mathematics. -/
import Derived.Test.YtepnaalgobhcdaaSpO
namespace Go.Proofs.Ytepnaalgobhcdaa
open Spm

theorem snoc_induction {α : Type} {p : List α → Prop} (h0 : p []) (h1 : ∀ l x, p l → p (l ++ [x])) (l : List α) : p l := by
  have : ∀ r : List α, p r.reverse := fun r => by
    induction r with
    | nil => exact h0
    | cons x r ih => rw [List.reverse_cons]; exact h1 _ _ ih
  have h2 := this l.reverse
  rwa [List.reverse_reverse] at h2
def pairAt (M : List Pg) (a : Nat) : Nat × Nat := (wordOf ((readAll M a 16).take 8), wordOf ((readAll M a 16).drop 8))
def secAddr (addr slide k : Nat) : Nat := ((addr + slide) % 18446744073709551616 + k) % 18446744073709551616
/-- What comes of the first j pairs of a section: an error, and those that count. -/
def secRun (M : List Pg) (addr slide : Nat) : Nat → Int × List (Nat × Nat)
  | 0 => (0, [])
  | j + 1 => if (secRun M addr slide j).1 ≠ 0 then secRun M addr slide j else
      if readErr M (secAddr addr slide (16 * j)) 16 ≠ 0 then (readErr M (secAddr addr slide (16 * j)) 16, (secRun M addr slide j).2) else
      if (pairAt M (secAddr addr slide (16 * j))).1 ≠ 0 ∧ (pairAt M (secAddr addr slide (16 * j))).2 ≠ 0 then (0, (secRun M addr slide j).2 ++ [pairAt M (secAddr addr slide (16 * j))]) else (0, (secRun M addr slide j).2)
structure PSt where
  many : Nat
  out : List (Nat × Nat)
  err : Int
def pStep (M : List Pg) (slide : Nat) (s : PSt) (addr size : Nat) : PSt :=
  if s.err ≠ 0 then s else if size % 16 ≠ 0 then { s with err := 9 } else if 20000 < s.many + size / 16 then { s with err := 11 } else
    if (secRun M addr slide (size / 16)).1 ≠ 0 then { s with err := (secRun M addr slide (size / 16)).1 } else ⟨s.many + size / 16, s.out ++ (secRun M addr slide (size / 16)).2, 0⟩
def pFold (M : List Pg) (slide : Nat) (l : List (Nat × Nat)) : PSt := l.foldl (fun s x => pStep M slide s x.1 x.2) ⟨0, [], 0⟩
theorem pFold_snoc (M : List Pg) (slide : Nat) (l : List (Nat × Nat)) (x : Nat × Nat) : pFold M slide (l ++ [x]) = pStep M slide (pFold M slide l) x.1 x.2 := by simp [pFold]
theorem pStep_stuck {M : List Pg} {slide : Nat} {s : PSt} (h : s.err ≠ 0) (a n : Nat) : pStep M slide s a n = s := by unfold pStep; rw [if_pos h]
theorem pFold_stuck {M : List Pg} {slide : Nat} {l m : List (Nat × Nat)} (h : (pFold M slide l).err ≠ 0) : pFold M slide (l ++ m) = pFold M slide l := by
  refine snoc_induction (p := fun m => pFold M slide (l ++ m) = pFold M slide l) (by simp) (fun m x ih => ?_) m
  show pFold M slide (l ++ (m ++ [x])) = _
  rw [← List.append_assoc, pFold_snoc, ih, pStep_stuck h]
theorem secRun_stuck {M : List Pg} {addr slide j k : Nat} (h : (secRun M addr slide j).1 ≠ 0) (hk : j ≤ k) : secRun M addr slide k = secRun M addr slide j := by
  induction k with
  | zero => obtain rfl : j = 0 := by omega
            rfl
  | succ k ih =>
    by_cases e : j = k + 1
    · rw [e]
    · have := ih (by omega)
      rw [secRun, this, if_pos h]
theorem secRun_len (M : List Pg) (addr slide : Nat) : ∀ j, (secRun M addr slide j).2.length ≤ j
  | 0 => by simp [secRun]
  | j + 1 => by
    have := secRun_len M addr slide j
    unfold secRun
    split
    · omega
    · split
      · simp only; omega
      · split
        · simp only [List.length_append, List.length_singleton]; omega
        · simp only; omega
theorem pFold_bound (M : List Pg) (slide : Nat) (l : List (Nat × Nat)) : (pFold M slide l).out.length ≤ (pFold M slide l).many ∧ (pFold M slide l).many ≤ 20000 := by
  refine snoc_induction (p := fun l => (pFold M slide l).out.length ≤ (pFold M slide l).many ∧ (pFold M slide l).many ≤ 20000) (by simp [pFold]) (fun l x ih => ?_) l
  show (pFold M slide (l ++ [x])).out.length ≤ (pFold M slide (l ++ [x])).many ∧ (pFold M slide (l ++ [x])).many ≤ 20000
  rw [pFold_snoc]
  unfold pStep
  split
  · exact ih
  · split
    · exact ih
    · split
      · exact ih
      · split
        · exact ih
        · have := secRun_len M x.1 slide (x.2 / 16)
          simp only [List.length_append]
          omega
end Go.Proofs.Ytepnaalgobhcdaa
